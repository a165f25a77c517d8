/- massiflaw22.Act; a find and the reference's, that hold one list. -/
import Derived.Test.YtoigddekipjkcaaFTells
namespace Go.Proofs.Ytoigddekipjkcaa
set_option linter.all false
open Go Go.RowKit Go.Proofs Go.Maps
open Go.ChangeMaps (setBlock)

structure FAct where
  what : Int
  leaf : HB
  i : U64
def encF (a : FAct) : Array Value := #[.int .i64 a.what] ++ encH a.leaf ++ #[.int .u64 (a.i.1 : Int)]
def zF : FAct := ⟨0, zH, ⟨0, by omega⟩⟩
@[go_sem] theorem size_encF (a : FAct) : (encF a).size = 34 := by simp [encF, size_encH]
@[go_sem] theorem one_encF (a : FAct) : oneCells (encF a) = true := by
  have := one_encH a.leaf
  unfold oneCells at this ⊢
  simp only [encF, Array.toList_append, List.all_append, this]
  rfl
theorem encF_0 (a : FAct) : (encF a)[0]? = some (.int .i64 a.what) := by
  unfold encF; rw [Array.append_assoc, Array.getElem?_append_left (by simp)]; rfl
theorem encF_33 (a : FAct) : (encF a)[33]? = some (.int .u64 (a.i.1 : Int)) := by
  unfold encF
  rw [Array.getElem?_append_right (by simp [size_encH])]
  simp [size_encH]
theorem encF_h (a : FAct) : (encF a).extract 1 33 = encH a.leaf := by
  unfold encF
  apply Array.ext'
  have h : (encH a.leaf).toList.length = 32 := by simp [size_encH]
  simp only [Array.toList_extract, Array.toList_append, List.extract_eq_drop_take]
  simp [List.take_append, h]
structure FBox (w : World) (b : Nat) (a : FAct) : Prop where
  c0 : w.cell? ⟨b, 0, none⟩ = some (.int .i64 a.what)
  c1 : rowAt w ⟨b, 1, none⟩ 32 = some (encH a.leaf)
  c33 : w.cell? ⟨b, 33, none⟩ = some (.int .u64 (a.i.1 : Int))
  lt : b < w.heap.size
theorem FBox.of {w : World} {b : Nat} {a : FAct} (h : w.heap[b]? = some (.cells (encF a) 33 (0, 0))) : FBox w b a :=
  ⟨(cell_of h).trans (encF_0 a), by rw [rowAt_of h (by rw [size_encF]; omega)]; exact congrArg some (encF_h a), (cell_of h).trans (encF_33 a), hb_lt h⟩
theorem FBox.same {w w' : World} {b : Nat} {a : FAct} (h : FBox w b a) (hb : w'.heap[b]? = w.heap[b]?) (hs : w.heap.size ≤ w'.heap.size) : FBox w' b a :=
  ⟨(cell_block (a := ⟨b, 0, none⟩) hb).trans h.c0, (rowAt_block (a := ⟨b, 1, none⟩) hb 32).trans h.c1, (cell_block (a := ⟨b, 33, none⟩) hb).trans h.c33, Nat.lt_of_lt_of_le h.lt hs⟩
theorem aggF : AggT Try.prog 33 34 := ⟨fun w => by kernel_rfl, fun w => by kernel_rfl⟩
@[go_sem ↓] theorem load_F (ev : Operand → Value) (d : Option Tmp) (x : Operand) (ty : TypeId) (pos : String) (after : Array Edge) (g : Option (Nat × Bool)) (w : World) :
    (execOp ev { dst := d, op := .load 33 x, type := ty, pos := pos, after := after, guard := g }).run Try.prog w = loadAgg Try.prog 33 34 (ev x) w := run_load_agg aggF ev d x ty pos after g w
@[go_sem ↓] theorem store_F (ev : Operand → Value) (d : Option Tmp) (x y : Operand) (ty : TypeId) (pos : String) (after : Array Edge) (g : Option (Nat × Bool)) (w : World) :
    (execOp ev { dst := d, op := .store 33 x y, type := ty, pos := pos, after := after, guard := g }).run Try.prog w = storeAgg Try.prog 33 34 (ev x) (ev y) w := run_store_agg aggF ev d x y ty pos after g w
@[go_sem ↓] theorem alloc_F (ev : Operand → Value) (d : Option Tmp) (ty : TypeId) (pos : String) (after : Array Edge) (g : Option (Nat × Bool)) (w : World) :
    (execOp ev { dst := d, op := .alloc 33, type := ty, pos := pos, after := after, guard := g }).run Try.prog w = .ok (.value (.pointer (some ⟨w.heap.size, 0, none⟩))) (w.alloc (.cells (encF zF) 33)) := by
  have hz : (zeroValue 33).run Try.prog w = .ok (.agg (encF zF)) w := by kernel_rfl
  simp [execOp, Instr.alloc, Sem.run_bind, hz]
  rfl
def FActRow (w : World) (v : Value) (al : List FAct) : Prop :=
  ∃ ad cap, v = .slice ad al.length cap ∧ ∀ (i : Nat) (a : FAct), al[i]? = some a → ∃ b o, ad = some ⟨b, o, none⟩ ∧ rowAt w ⟨b, o + i * 34, none⟩ 34 = some (encF a) ∧ -9223372036854775808 ≤ a.what ∧ a.what ≤ 9223372036854775807
theorem FActRow.below {w w' : World} {v : Value} {al : List FAct} (h : FActRow w v al) (hb : Below w.heap.size w w') : FActRow w' v al := by
  obtain ⟨ad, cap, e, hr⟩ := h
  refine ⟨ad, cap, e, fun i a hi => ?_⟩
  obtain ⟨b, o, e2, h1, h2⟩ := hr i a hi
  exact ⟨b, o, e2, (rowAt_block (a := ⟨b, o + i * 34, none⟩) (hb.block b (rowAt_lt h1)) 34).trans h1, h2⟩
theorem FActRow.at {w : World} {ad : Option Addr} {n cap : Nat} {al : List FAct} (h : FActRow w (.slice ad n cap) al) {i : Nat} {a : FAct} (hx : al[i]? = some a) : ∃ b o, ad = some ⟨b, o, none⟩ ∧ rowAt w ⟨b, o + i * 34, none⟩ 34 = some (encF a) ∧ -9223372036854775808 ≤ a.what ∧ a.what ≤ 9223372036854775807 := by
  obtain ⟨ad2, cap2, e, hr⟩ := h
  obtain ⟨b, o, e2, hrow⟩ := hr i a hx
  simp at e
  exact ⟨b, o, by rw [e.1]; exact e2, hrow⟩
/-- Both hold L; what they stand on is new since W, and apart. -/
structure FPair (W w : World) (fb rb : Nat) (L : List HB) (F G : Nat → Prop) (n : Nat) : Prop where
  f : FindAt w fb L F
  r : RFAt w rb L G
  ap : ∀ j, F j → ¬ G j
  fl : ∀ j, F j → W.heap.size ≤ j
  gl : ∀ j, G j → W.heap.size ≤ j
  ln : L.length ≤ n
  bw : Below W.heap.size W w
section
variable {W w w' : World} {fb rb n : Nat} {L : List HB} {F G : Nat → Prop}
theorem FPair.below (h : FPair W w fb rb L F G n) (hb : Below w.heap.size w w') : FPair W w' fb rb L F G n :=
  ⟨h.f.below hb, h.r.below hb, h.ap, h.fl, h.gl, h.ln, h.bw.trans (hb.mono h.bw.size)⟩
theorem FPair.le (h : FPair W w fb rb L F G n) {m : Nat} (hm : n ≤ m) : FPair W w fb rb L F G m := ⟨h.f, h.r, h.ap, h.fl, h.gl, Nat.le_trans h.ln hm, h.bw⟩
/-- Both turned, one after the other. -/
theorem FPair.turn (h : FPair W w fb rb L F G n) {w2 w3 : World} {L' : List HB} {F' G' : Nat → Prop} {m : Nat} (hf : FindAt w2 fb L' F') (ht : Turns w w2 F F') (hr : RFAt w3 rb L' G') (ht2 : Turns w2 w3 G G') (hm : L'.length ≤ m) : FPair W w3 fb rb L' F' G' m := by
  have hgl : ∀ j, G j → j < w.heap.size := h.r.lt
  have hfl : ∀ j, F' j → j < w2.heap.size := hf.lt
  have hap : ∀ j, F' j → ¬ G j := fun j hj hg => (ht.1 j hj).elim (fun h2 => h.ap j h2 hg) (fun h2 => by have := hgl j hg; omega)
  have hs := h.bw.size
  have hs2 := ht.2.size
  refine ⟨hf.fr ht2.2 hap, hr, fun j hj hg => (ht2.1 j hg).elim (fun h2 => hap j hj h2) (fun h2 => by have := hfl j hj; omega), fun j hj => (ht.1 j hj).elim (h.fl j) (fun h2 => by omega), fun j hj => (ht2.1 j hj).elim (h.gl j) (fun h2 => by omega), hm, ?_⟩
  exact (h.bw.trans (ht.2.toBelow h.fl hs)).trans ((ht2.2.toBelow h.gl (by omega)))
theorem FPair.rf (h : FPair W w fb rb L F G n) {w2 : World} {F' : Nat → Prop} (ht : Turns w w2 F F') : RFAt w2 rb L G := h.r.fr ht.2 (fun j hj hf => h.ap j hf hj)
end
end Go.Proofs.Ytoigddekipjkcaa
