/- The store's small methods, told of the list of its nodes. -/
import Derived.Test.YtoigddekipjkcaaStore
namespace Go.Proofs.Ytoigddekipjkcaa
set_option linter.all false
open Go Go.RowKit Go.Proofs Go.Maps
open Go.ChangeMaps (setBlock)

/-- A node: its hash, if it lives; how many pins it has. -/
abbrev NL := Option HB × Nat
def cntL (L : List NL) : Nat := (L.filter (·.1.isSome)).length
def saOf (log : Nat) (L : List NL) : SA :=
  { log := log, n := L.length, alive := cntL L, get := fun p => (L[p]?).bind (·.1), pins := fun p => ((L[p]?).map (·.2)).getD 0 }
def StoreL (w : World) (sb log : Nat) (L : List NL) (F : Nat → Prop) : Prop := StoreAt w sb (saOf log L) F
def hashL (L : List NL) (p : Nat) : HB := ((L[p]?).bind (·.1)).getD zH
def errL (L : List NL) (p : Nat) : Nat := if p < L.length then (if ((L[p]?).bind (·.1)).isSome then 0 else 50) else 31
def pinsL (L : List NL) (p : Nat) : Nat := ((L[p]?).map (·.2)).getD 0

theorem errL_live {L : List NL} {p : Nat} {h : HB} (hx : (L[p]?).bind (·.1) = some h) : errL L p = 0 ∧ hashL L p = h := by
  have hl : p < L.length := by
    rcases Nat.lt_or_ge p L.length with h' | h'
    · exact h'
    · simp [List.getElem?_eq_none h'] at hx
  exact ⟨by unfold errL; rw [if_pos hl, hx]; rfl, by unfold hashL; rw [hx]; rfl⟩
theorem errL_dead {L : List NL} {p : Nat} (hl : p < L.length) (hx : (L[p]?).bind (·.1) = none) : errL L p = 50 ∧ hashL L p = zH := by
  exact ⟨by unfold errL; rw [if_pos hl, hx]; rfl, by unfold hashL; rw [hx]; rfl⟩
theorem errL_out {L : List NL} {p : Nat} (hl : ¬ p < L.length) : errL L p = 31 ∧ hashL L p = zH := by
  exact ⟨by unfold errL; rw [if_neg hl], by unfold hashL; rw [List.getElem?_eq_none (Nat.le_of_not_lt hl)]; rfl⟩
theorem cntL_le (L : List NL) : cntL L ≤ L.length := List.length_filter_le _ _
theorem cntL_append (L M : List NL) : cntL (L ++ M) = cntL L + cntL M := by simp [cntL]
theorem cntL_set {L : List NL} {p : Nat} {x : NL} (y : NL) (hx : L[p]? = some x) : cntL (L.set p y) + (if x.1.isSome then 1 else 0) = cntL L + (if y.1.isSome then 1 else 0) := by
  have hl := (List.getElem?_eq_some_iff.1 hx).1
  have hv : L[p] = x := (List.getElem?_eq_some_iff.1 hx).2
  have e1 : L = L.take p ++ x :: L.drop (p + 1) := by
    conv => lhs; rw [← List.take_append_drop p L, List.drop_eq_getElem_cons hl, hv]
  rw [List.set_eq_take_append_cons_drop, if_pos hl, cntL_append]
  conv => rhs; rw [e1, cntL_append]
  simp only [cntL, List.filter_cons]
  split <;> split <;> simp <;> omega
theorem cntL_pos {L : List NL} {p : Nat} {h : HB} (hx : (L[p]?).bind (·.1) = some h) : 1 ≤ cntL L := by
  cases hl : L[p]? with
  | none => simp [hl] at hx
  | some x =>
    simp only [hl, Option.bind_some] at hx
    unfold cntL
    exact List.length_pos_of_mem (List.mem_filter.2 ⟨List.mem_of_getElem? hl, by simp [hx]⟩)
theorem sa_ext {A B : SA} (h1 : A.log = B.log) (h2 : A.n = B.n) (h3 : A.alive = B.alive) (h4 : ∀ p, A.get p = B.get p) (h5 : ∀ p, A.pins p = B.pins p) : A = B := by
  cases A; cases B
  simp only at h1 h2 h3 h4 h5
  have e4 := funext h4
  have e5 := funext h5
  subst h1 h2 h3 e4 e5
  rfl
theorem saOf_lay {log : Nat} {L : List NL} {p k : Nat} (h : HB) (hx : L[p]? = some (none, k)) : (saOf log L).lay p h = saOf log (L.set p (some h, k)) := by
  have hl := (List.getElem?_eq_some_iff.1 hx).1
  have hc := cntL_set (some h, k) hx
  refine sa_ext rfl (by simp [saOf, SA.lay]) (by simp at hc; simp [saOf, SA.lay, hc]) (fun q => ?_) (fun q => ?_)
  · simp only [saOf, SA.lay]
    by_cases hq : q = p
    · subst hq; rw [if_pos rfl, List.getElem?_set_self hl]; rfl
    · rw [if_neg hq, List.getElem?_set_ne (fun e => hq e.symm)]
  · simp only [saOf, SA.lay]
    by_cases hq : q = p
    · subst hq; rw [List.getElem?_set_self hl, hx]; rfl
    · rw [List.getElem?_set_ne (fun e => hq e.symm)]
theorem saOf_kill {log : Nat} {L : List NL} {p k : Nat} {h : HB} (hx : L[p]? = some (some h, k)) : (saOf log L).kill p = saOf log (L.set p (none, k)) := by
  have hl := (List.getElem?_eq_some_iff.1 hx).1
  have hc := cntL_set (none, k) hx
  refine sa_ext rfl (by simp [saOf, SA.kill]) (by simp at hc; simp [saOf, SA.kill, ← hc]) (fun q => ?_) (fun q => ?_)
  · simp only [saOf, SA.kill]
    by_cases hq : q = p
    · subst hq; rw [if_pos rfl, List.getElem?_set_self hl]; rfl
    · rw [if_neg hq, List.getElem?_set_ne (fun e => hq e.symm)]
  · simp only [saOf, SA.kill]
    by_cases hq : q = p
    · subst hq; rw [List.getElem?_set_self hl, hx]; rfl
    · rw [List.getElem?_set_ne (fun e => hq e.symm)]

theorem zeroInt (w : World) : (zeroValue 3).run Try.prog w = .ok (.int .i64 0) w := by kernel_rfl
theorem StoreRep.look_pin {w : World} {sb : Nat} {A : SA} {F : Nat → Prop} {cm pm : Nat} {M Ps : List (U64 × Nat)} {NS : U64 → List ND} {NB : U64 → Nat} (S : StoreRep w sb A F cm pm M Ps NS NB) {W : World} (hW : W.heap[pm]? = w.heap[pm]?) (p : Nat) (hp : p < 18446744073709551616) :
    (Instr.lookup 78 (.map (some pm)) (.int .u64 (p : Int)) false).run Try.prog W = .ok (.int .i64 (A.pins p : Int)) W := by
  have := MapIs.lookup keyU Try.underlying78 zeroInt (S.pin.same hW) ⟨p, hp⟩ false
  have hv := S.pinV ⟨p, hp⟩
  rw [ekU] at this
  rw [this]
  simp only [Bool.false_eq_true, if_false]
  cases hg : alGet Ps ⟨p, hp⟩ with
  | none => rw [hg] at hv; simp at hv; simp [← hv]
  | some v => rw [hg] at hv; simp at hv; simp [← hv, evI]

/-! ### what the store is asked -/
section
variable {w : World} {sb log : Nat} {L : List NL} {F : Nat → Prop}
theorem Len_any (h : StoreL w sb log L F) : Calls Try.prog 27 #[.pointer (some ⟨sb, 0, none⟩)] w fun e w' => e = .returned (.int .u64 (L.length : Int)) ∧ w = w' := by
  obtain ⟨cm, pm, M, Ps, NS, NB, S⟩ := h
  have c1 : w.cell? ⟨sb, 1, none⟩ = some (.int .u64 (L.length : Int)) := cell_of S.cells
  have HS := Lib.hid S; clear S
  go_enter Try.func27, Try.ntmps27
  go_wp2
  go_ret
  exact ⟨rfl, rfl⟩
theorem Alive_any (h : StoreL w sb log L F) : Calls Try.prog 25 #[.pointer (some ⟨sb, 0, none⟩)] w fun e w' => e = .returned (.int .u64 (cntL L : Int)) ∧ w = w' := by
  obtain ⟨cm, pm, M, Ps, NS, NB, S⟩ := h
  have c1 : w.cell? ⟨sb, 2, none⟩ = some (.int .u64 (cntL L : Int)) := cell_of S.cells
  have HS := Lib.hid S; clear S
  go_enter Try.func25, Try.ntmps25
  go_wp2
  go_ret
  exact ⟨rfl, rfl⟩
theorem Pins_any (h : StoreL w sb log L F) (p : Nat) (hp : p < 18446744073709551616) : Calls Try.prog 73 #[.pointer (some ⟨sb, 0, none⟩), .int .u64 p] w fun e w' => e = .returned (.int .i64 (pinsL L p : Int)) ∧ w = w' := by
  obtain ⟨cm, pm, M, Ps, NS, NB, S⟩ := h
  have c1 : w.cell? ⟨sb, 4, none⟩ = some (.map (some pm)) := cell_of S.cells
  have hlk := S.look_pin (W := w) rfl p hp
  have HS := Lib.hid S; clear S
  go_enter Try.func73, Try.ntmps73
  go_wp2
  go_ret
  exact ⟨rfl, rfl⟩
theorem Get_any (h : StoreL w sb log L F) (p : Nat) (hp : p < 18446744073709551616) :
    Calls Try.prog 28 #[.pointer (some ⟨sb, 0, none⟩), .int .u64 p] w fun e w' => e = .returned (.tuple #[.agg (encH (hashL L p)), .int .i64 (errL L p : Int)]) ∧ Below w.heap.size w w' := by
  have h' := h
  obtain ⟨cm, pm, M, Ps, NS, NB, S⟩ := h'
  have c1 : w.cell? ⟨sb, 1, none⟩ = some (.int .u64 (L.length : Int)) := cell_of S.cells
  have hs : sb < w.heap.size := hb_lt S.cells
  clear S
  have H := Lib.hid h; clear h
  go_enter Try.func28, Try.ntmps28
  by_cases hlt : p < L.length
  · go_wp2_with fail
    refine calls_name fun W HW => ?_
    have hs2 : W.heap.size = w.heap.size + 1 := by rw [HW.out]; simp
    have hb0 : Below w.heap.size w W := by rw [HW.out]; exact (Below.refl _ _).alloc (Nat.le_refl _) _
    have HK := Lib.hid (H.out.below hb0)
    have HB := Lib.hid (hb_eq HW.out (hb_new w _))
    cases hx : (L[p]?).bind (·.1) with
    | none =>
      have HX := Lib.hid hx; clear hx
      refine (find_dead HK.out p hp HX.out).mono ?_
      rintro e w1 ⟨rfl, hb1⟩
      have HB1 := Lib.hid ((hb1.block w.heap.size (by omega)).trans HB.out)
      have hfr : rowFree w1 ⟨w.heap.size, 0, none⟩ 32 = true := rowFree_of HB1.out (by rw [size_encH]; omega)
      go_wp2_with fail
      refine bodyPost_ret (results_cell_tmp aggH rfl _ _ rfl (rowAt_putRow_same HB1.out (size_encH _) (size_encH _))) rfl ⟨?_, ?_⟩
      · obtain ⟨e1, e2⟩ := errL_dead hlt HX.out; rw [e1, e2]; rfl
      · exact below_putRow (hb0.trans (hb1.mono (by omega))) (Nat.le_refl _) _
    | some x =>
      have HX := Lib.hid hx; clear hx
      refine (find_live HK.out p x hp HX.out).mono ?_
      rintro e w1 ⟨g, o, rfl, hrow, hg, hb1⟩
      have HB1 := Lib.hid ((hb1.block w.heap.size (by omega)).trans HB.out)
      have hfr : rowFree w1 ⟨w.heap.size, 0, none⟩ 32 = true := rowFree_of HB1.out (by rw [size_encH]; omega)
      have hrow1 : rowAt w1 ⟨g, o, none⟩ 32 = some (encH x) := (rowAt_block (a := ⟨g, o, none⟩) (hb1.block g hg) 32).trans hrow
      clear hrow
      go_wp2_with fail
      refine bodyPost_ret (results_cell_tmp aggH rfl _ _ rfl (rowAt_putRow_same HB1.out (size_encH _) (size_encH _))) rfl ⟨?_, ?_⟩
      · obtain ⟨e1, e2⟩ := errL_live HX.out; rw [e1, e2]; rfl
      · exact below_putRow (hb0.trans (hb1.mono (by omega))) (Nat.le_refl _) _
  · go_wp2_with fail
    refine bodyPost_ret (results_cell_tmp aggH rfl _ _ rfl (rowAt_putRow_new _ _ _ _ _ _ rfl (size_encH _) (by simp [size_encH]))) rfl ⟨?_, ?_⟩
    · obtain ⟨e1, e2⟩ := errL_out hlt; rw [e1, e2]; simp
    · exact below_putRow ((Below.refl _ _).alloc (Nat.le_refl _) _) (Nat.le_refl _) _
theorem Live_any (h : StoreL w sb log L F) (p : Nat) (hp : p < 18446744073709551616) :
    Calls Try.prog 29 #[.pointer (some ⟨sb, 0, none⟩), .int .u64 p] w fun e w' => e = .returned (.bool (decide ((errL L p : Int) = 0))) ∧ Below w.heap.size w w' := by
  have H := Lib.hid h; clear h
  go_enter Try.func29, Try.ntmps29
  go_wp2_with fail
  refine (Get_any H.out p hp).mono ?_
  rintro e w1 ⟨rfl, hb1⟩
  go_wp2_with fail
  go_ret
  refine ⟨?_, below_putRow (hb1.alloc hb1.size _) hb1.size _⟩
  congr 2
end
end Go.Proofs.Ytoigddekipjkcaa
