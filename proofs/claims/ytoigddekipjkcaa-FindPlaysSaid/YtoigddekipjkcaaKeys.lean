/- Maps keyed by store.key. -/
import Derived.Test.YtoigddekipjkcaaDefs
namespace Go.Proofs.Ytoigddekipjkcaa
set_option linter.all false
open Go Go.RowKit Go.Proofs Go.Maps
def ekK (k : U64) : Value := .agg #[.int .u64 (k.1 : Int)]
def evP (b : Nat) : Value := .pointer (some ⟨b, 0, none⟩)
theorem laidOut : laidOutB Try.prog = true := by kernel_rfl
theorem typesSize : ∃ n, Try.prog.types.size = n + 2 := ⟨Try.prog.types.size - 2, by
  have : 2 ≤ Try.prog.types.size := of_decide_eq_true (by kernel_rfl)
  omega⟩
theorem wf_u64 (k : U64) : (Lit.int .u64 (k.1 : Int)).wf = true := by
  have := k.2
  have h1 : IntKind.u64.min = 0 := by decide
  have h2 : IntKind.u64.max = 18446744073709551615 := by decide
  simp [Lit.wf, h1, h2]
  omega
theorem rowKey : (102 : TypeId) < Try.prog.types.size := of_decide_eq_true (by kernel_rfl)
theorem keyLaw : WideMaps.KeyLaw Try.prog 102 := deep_law_laid laidOut (m := 2) (by omega) rowKey (by kernel_rfl) (by rw [Try.underlying102])
theorem keyTypeKey : Try.prog.keyType 102 = true := by kernel_rfl
theorem cellsKey : Try.prog.cellsOf 102 = 1 := by kernel_rfl
theorem cellsU64 : Try.prog.cellsOf 31 = 1 := by kernel_rfl
section
variable {P : Program}
theorem keyLits_int {d : Nat} {t : TypeId} {q : IntKind} {n : Int} (h : P.underlying t = some (.int q)) (hw : (Lit.int q n).wf = true) : P.keyLits (d + 1) t [.int q n] = some [.int q n] := by
  simp [Program.keyLits, h, hw]
theorem keyLits_one {d : Nat} {t : TypeId} {f : Field} {c : Value} {l : List Lit} (h : P.underlying t = some (.struct #[f])) (hf : f.name ≠ "_") (ho : f.offset = 0) (hc : P.cellsOf t = 1) (hcf : P.cellsOf f.type = 1)
    (hl : P.keyLits d f.type [c] = some l) : P.keyLits (d + 1) t [c] = some l := by
  simp [Program.keyLits, h, hf, ho, hc, hcf, hl]
theorem flat_one {α β : Type} (f : α → β) (l : List α) : (l.map fun x => [f x]).flatten = l.map f := by
  induction l with
  | nil => rfl
  | cons x r ih => simp [ih]
theorem keyLits_array {d : Nat} {t e : TypeId} {n : Nat} {q : IntKind} {ns : List Int} (h : P.underlying t = some (.array n e)) (hl : ns.length = n) (hc : P.cellsOf t = n) (hce : P.cellsOf e = 1) (he : P.underlying e = some (.int q))
    (hw : ∀ x ∈ ns, (Lit.int q x).wf = true) : P.keyLits (d + 2) t (ns.map (Value.int q)) = some (ns.map (Lit.int q)) := by
  have key : ∀ k, k ≤ n → ((List.range k).mapM fun i => P.keyLits (d + 1) e (((ns.map (Value.int q)).drop (i * P.cellsOf e)).take (P.cellsOf e))) = some ((ns.take k).map fun x => [Lit.int q x]) := by
    intro k
    induction k with
    | zero => intro _; simp
    | succ k ih =>
      intro hk
      have hkl : k < ns.length := by omega
      rw [List.range_succ, List.mapM_append, ih (by omega)]
      have e1 : ((ns.map (Value.int q)).drop (k * P.cellsOf e)).take (P.cellsOf e) = [.int q ns[k]] := by
        rw [hce, Nat.mul_one, List.drop_eq_getElem_cons (by simpa using hkl)]
        simp
      simp only [List.mapM_cons, List.mapM_nil, e1, keyLits_int (d := d) he (hw _ (List.getElem_mem hkl))]
      have e2 : (ns.take (k + 1)).map (fun x => [Lit.int q x]) = (ns.take k).map (fun x => [Lit.int q x]) ++ [[Lit.int q ns[k]]] := by
        rw [List.take_succ_eq_append_getElem hkl, List.map_append]; rfl
      rw [e2]
      rfl
  have e0 : P.keyLits (d + 2) t (ns.map (Value.int q)) = if (ns.map (Value.int q)).length = P.cellsOf t then ((List.range n).mapM fun i => P.keyLits (d + 1) e (((ns.map (Value.int q)).drop (i * P.cellsOf e)).take (P.cellsOf e))).map List.flatten else none := by
    simp only [Program.keyLits, h]
  rw [e0, if_pos (by simp [hl, hc]), key n (Nat.le_refl _), ← hl, List.take_length]
  simp only [Option.map_some, flat_one]
theorem keyOf_agg {k : TypeId} {c : Array Value} {l : List Lit} (hw : (match P.underlying k with | some (.array _ _) | some (.struct _) => true | _ => false) = true) (hk : P.keyType k = true) (hc : c.size = P.cellsOf k)
    (hl : P.keyLits (P.types.size + 1) k c.toList = some l) : keyOf P k (.agg c) = some (.string (keyBytes l)) := by
  unfold keyOf
  split at hw
  · rename_i hu
    rw [hu]
    simp [hk, Value.formed, hu, hc, Value.cells, hl]
  · rename_i hu
    rw [hu]
    simp [hk, Value.formed, hu, hc, Value.cells, hl]
  · cases hw
end
theorem keyOfKey (k : U64) : keyOf Try.prog 102 (ekK k) = some (.string (keyBytes [.int .u64 (k.1 : Int)])) := by
  obtain ⟨n, hn⟩ := typesSize
  refine keyOf_agg (by rw [Try.underlying102]) keyTypeKey (by rw [cellsKey]; rfl) ?_
  rw [hn]
  exact keyLits_one Try.underlying102 (by decide) rfl cellsKey cellsU64 (keyLits_int Try.underlying31 (wf_u64 k))
theorem keyE : KeyEnc Try.prog 102 ekK where
  law := Keyed.of_law keyLaw
  key k := ⟨_, keyOfKey k⟩
  inj a b h := by
    apply Subtype.ext
    simp only [ekK, Value.agg.injEq] at h
    have : (a.1 : Int) = b.1 := by simpa using h
    omega
end Go.Proofs.Ytoigddekipjkcaa
