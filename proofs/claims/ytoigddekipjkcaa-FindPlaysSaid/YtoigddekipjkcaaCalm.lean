/- A region that draws its order: reads next to calls that make memory. One walk in the order of the text, over all worlds that have grown. -/
import Derived.WalkKit
import Derived.BigQuiet
import Derived.Below
namespace Go.Proofs.Ytoigddekipjkcaa
set_option linter.all false
open Go Go.RowKit Go.Proofs

/-- A world that has grown out of this one; what lay there lies as it lay. -/
structure BW (W : World) where
  w : World
  b : Below W.heap.size W w
instance (W : World) : Nonempty (BW W) := ⟨⟨W, Below.refl _ _⟩⟩
def BW.top (W : World) : BW W := ⟨W.drew, (Below.refl _ W).drew⟩
theorem wp_region_calm {P : Program} {C : World → Prop} {id : Nat} {Q : Exit → Act → World → Prop} {a : Act} {w : World} {l : List Oper} (hm : P.follows .mixedOrders = true) (hB : Region.lexB .any l.toArray = true) (hC : C w.drew)
    (h : wpQuiet P l.toArray C (fun a' => ∀ w', C w' → Q .normal a' w') l a) : (Code.region id l.toArray true).wp P Q a w :=
  wp_region_quiet (C := C) hm hB hC (by simpa using h)
/-- The class of all worlds that have grown out of W. -/
theorem wp_region_grown {P : Program} {id : Nat} {Q : Exit → Act → World → Prop} {a : Act} {W : World} {l : List Oper} (hm : P.follows .mixedOrders = true) (hB : Region.lexB .any l.toArray = true)
    (h : wpQuiet P l.toArray (fun w' => ∃ s : BW W, w' = s.w) (fun a' => ∀ w', (∃ s : BW W, w' = s.w) → Q .normal a' w') l a) : (Code.region id l.toArray true).wp P Q a W :=
  wp_region_calm hm hB ⟨BW.top W, rfl⟩ h
theorem Calls.grown {P : Program} {f : FuncId} {args : Array Value} {W : World} {v : Value} (s : BW W) (h : Calls P f args s.w fun e w' => e = .returned v ∧ Below s.w.heap.size s.w w') :
    Calls P f args s.w fun e w' => e = .returned v ∧ ∃ s' : BW W, w' = s'.w :=
  h.mono fun _ w' ⟨he, hb⟩ => ⟨he, ⟨w', s.b.trans (hb.mono s.b.size)⟩, rfl⟩
end Go.Proofs.Ytoigddekipjkcaa
