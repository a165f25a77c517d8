/- massiflaw22.same: two lists that are the wanted one, in memory of their own. -/
import Derived.Test.YtoigddekipjkcaaFMet
namespace Go.Proofs.Ytoigddekipjkcaa
set_option linter.all false
open Go Go.RowKit Go.Proofs Go.Maps
open Go.ChangeMaps (setBlock)

/-- 'append(a row of the call's own, y)'. -/
theorem wpList_append_U {ops : Array Oper} {rest : List Oper} {o : Oper} {a : Act} {Q : Exit → Act → World → Prop} (w : World) (hgd : Region.wanted o (yielded ops a.tmps) = true) (s x : Operand)
    (ho : o.op = .call { callee := .builtin .append, args := #[s, x], argTypes := #[36, 36] })
    {base : Nat} {v : Value} {ks : List U64} (hs : a.eval s = v) (hr : URow w base v ks) (b : Nat) (hx : a.eval x = .slice (some ⟨b, 0, none⟩) 1 1) (y : U64) (hb : w.heap[b]? = some (.cells #[.int .u64 (y.1 : Int)] 31 (0, 0))) (hL : ks.length ≤ 1000000) (hbase : base ≤ w.heap.size)
    (h : ∀ v' w', URow w' base v' (ks ++ [y]) → w.grownBy w' v.ownBlock → (v'.ownBlock = v.ownBlock ∨ v'.ownBlock = some w.heap.size) → wpList Try.prog ops Q rest (a.put o.dst v') w') :
    wpList Try.prog ops Q (o :: rest) a w := by
  refine wpList_step fun K' hK' => ?_
  rw [if_pos hgd]
  obtain ⟨v', w', hrun, h1, h2, h3⟩ := run_append_U w o.type hr b y hb hL hbase
  unfold Oper.wp execOp
  simp only [ho, resolve, invoke, builtin, Sem.run_bind, Sem.run_pure, Result.andThen_ok, List.map_toArray, List.map_cons, List.map_nil, hs, hx, hrun]
  exact hK' _ _ (h v' w' h1 h2 h3)
theorem u64Cells_set (ks : List U64) (i : Nat) (x : U64) : u64Cells (ks.set i x) = (u64Cells ks).set i (.int .u64 (x.1 : Int)) := by simp [u64Cells, List.map_set]
theorem URow.set {w : World} {base g cap : Nat} {ks : List U64} (h : URow w base (.slice (some ⟨g, 0, none⟩) ks.length cap) ks) (i : Nat) (x : U64) : URow (w.setCell ⟨g, i, none⟩ (.int .u64 (x.1 : Int))) base (.slice (some ⟨g, 0, none⟩) ks.length cap) (ks.set i x) := by
  obtain ⟨h1, ⟨e, _⟩ | ⟨g', cap', cur, e, h3, h4, h5, h6, h7, h8⟩⟩ := h
  · cases e
  · simp at e
    obtain ⟨rfl, rfl⟩ := e
    refine ⟨by simp [u64Cells], .inr ⟨g, cap, cur.setIfInBounds i (.int .u64 (x.1 : Int)), by simp, h3, hb_setCell_same h4 _, by simpa using h5, h6, by simpa using h7, ?_⟩⟩
    rw [u64Cells_set, ← h8, Array.toList_setIfInBounds, List.length_set, List.take_set]
theorem URow.cell {w : World} {base : Nat} {v : Value} {ks : List U64} (h : URow w base v ks) {i : Nat} {k : U64} (hi : ks[i]? = some k) : ∃ g cap, v = .slice (some ⟨g, 0, none⟩) ks.length cap ∧ w.cell? ⟨g, i, none⟩ = some (.int .u64 (k.1 : Int)) ∧ w.frozen? ⟨g, i, none⟩ = false := by
  obtain ⟨g, cap, cur, e, h1, h2, h3⟩ := row_at h hi
  exact ⟨g, cap, e, (cell_of h2).trans h3, frozen_of h2⟩
def AllAre (n : Nat) (x : U64) (A : List U64) (i : Nat) : Prop := A.length = n ∧ ∀ j, j < i → A[j]? = some x
theorem AllAre.step {n i : Nat} {x : U64} {A : List U64} (h : AllAre n x A i) (hi : i < n) : AllAre n x (A.set i x) (i + 1) := by
  refine ⟨by rw [List.length_set]; exact h.1, fun j hj => ?_⟩
  by_cases e : j = i
  · subst e; rw [List.getElem?_set_self (by rw [h.1]; exact hi)]
  · rw [List.getElem?_set_ne (fun e' => e e'.symm)]; exact h.2 j (by omega)
theorem AllAre.more {n : Nat} {x : U64} {A : List U64} (h : AllAre n x A n) : AllAre (n + 1) x (A ++ [x]) (n + 1) := by
  refine ⟨by simp [h.1], fun j hj => ?_⟩
  by_cases e : j < n
  · rw [List.getElem?_append_left (by rw [h.1]; exact e)]; exact h.2 j e
  · rw [List.getElem?_append_right (by rw [h.1]; omega), h.1, show j - n = 0 by omega]; rfl
theorem row_past {wr w3 : World} {B : Nat} {va vb : Value} {C : List U64} {o : Obj} (hC : URow wr B vb C) (hg : (wr.alloc o).grownBy w3 va.ownBlock) (hne : ∀ j, va.ownBlock = some j → vb.ownBlock ≠ some j) : URow w3 B vb C :=
  hC.same (fun j hj => (hg.block j (by have := (ownsRow_lt hC hj).1; simp; omega) (fun e => hne j e.symm hj)).trans (Below.heap_alloc wr o j (ownsRow_lt hC hj).1))
theorem row_past2 {w3 w4 : World} {B : Nat} {v1 vb : Value} {A : List U64} {o : Obj} (hA : URow w3 B v1 A) (hg : (w3.alloc o).grownBy w4 vb.ownBlock) (hne : ∀ j, vb.ownBlock = some j → v1.ownBlock ≠ some j) : URow w4 B v1 A := row_past hA hg hne
def x201 : U64 := ⟨201, by omega⟩
def x202 : U64 := ⟨202, by omega⟩
set_option maxRecDepth 100000 in
set_option maxHeartbeats 2000000 in
theorem same_any {w : World} {B : Nat} {va vb vc : Value} {ks : List U64} (ha : URow w B va ks) (hb : URow w B vb ks) (hc : NumRow w vc ks) (hab : ∀ j, va.ownBlock = some j → vb.ownBlock ≠ some j) (hB : B ≤ w.heap.size) (hl : ks.length ≤ 100000) :
    Calls Try.prog 12 #[va, vb, vc] w fun e w' => e = .returned (.bool true) ∧ Below B w w' := by
  have HA := Lib.hid ha
  have HB' := Lib.hid hb
  have HC := Lib.hid hc
  obtain ⟨ada, capa, ea⟩ := ownsRow_shape ha
  obtain ⟨adb, capb, eb⟩ := ownsRow_shape hb
  obtain ⟨adc, capc, ec, _⟩ := hc
  subst ea eb ec
  have hga : ∀ j, (Value.slice ada ks.length capa).ownBlock = some j → B ≤ j := fun j hj => (ownsRow_lt ha hj).2
  have hgb : ∀ j, (Value.slice adb ks.length capb).ownBlock = some j → B ≤ j := fun j hj => (ownsRow_lt hb hj).2
  have HGA := Lib.hid hga; clear hga
  have HGB := Lib.hid hgb; clear hgb
  have HAB := Lib.hid hab; clear hab
  clear ha hb
  go_enter Try.func12, Try.ntmps12
  go_wp2_with fail
  refine (SameNumbers_any w _ _ ks HA.out.num HC.out (by omega)).mono ?_
  rintro e w1 ⟨rfl, hb1⟩
  have HA1 : Hid (URow w1 B (.slice ada ks.length capa) ks) := HA.out.same (fun j hj => hb1.block j (ownsRow_lt HA.out hj).1)
  have HB1 : Hid (URow w1 B (.slice adb ks.length capb) ks) := HB'.out.same (fun j hj => hb1.block j (ownsRow_lt HB'.out hj).1)
  have HC1 := Lib.hid (HC.out.below hb1)
  go_wp2_with fail
  refine (SameNumbers_any w1 _ _ ks HB1.out.num HC1.out (by omega)).mono ?_
  rintro e w2 ⟨rfl, hb2⟩
  have HA2 : Hid (URow w2 B (.slice ada ks.length capa) ks) := HA1.out.same (fun j hj => hb2.block j (ownsRow_lt HA1.out hj).1)
  have HB2 : Hid (URow w2 B (.slice adb ks.length capb) ks) := HB1.out.same (fun j hj => hb2.block j (ownsRow_lt HB1.out hj).1)
  have HW2 : Hid (Below B w w2) := (hb1.trans (hb2.mono hb1.size)).mono hB
  clear HA HB' HA1 HB1 HC HC1 hb1 hb2
  go_wp2_with fail
  go_loopg [7] (ks.length) (fun g vi wr => ∃ i A C, vi = .int .i64 (i : Nat) ∧ g + i = ks.length ∧ URow wr B (.slice ada ks.length capa) A ∧ URow wr B (.slice adb ks.length capb) C ∧ AllAre ks.length x201 A i ∧ AllAre ks.length x202 C i ∧ Below B w wr)
  case atStart => exact ⟨0, ks, ks, rfl, by simp, HA2.out, HB2.out, ⟨rfl, fun j hj => by omega⟩, ⟨rfl, fun j hj => by omega⟩, HW2.out⟩
  case round =>
    obtain ⟨i, A, C, rfl, hg, hA, hC, h201, h202, hbw⟩ := hrel
    have HG := Lib.hid hg; clear hg
    have HAr := Lib.hid hA; clear hA
    have HCr := Lib.hid hC; clear hC
    have H201 := Lib.hid h201; clear h201
    have H202 := Lib.hid h202; clear h202
    have HBW := Lib.hid hbw; clear hbw
    by_cases hi : i < ks.length
    · have hi' : (i : Int) < (ks.length : Int) := by omega
      have hia : i < A.length := by rw [H201.out.1]; exact hi
      have hic : i < C.length := by rw [H202.out.1]; exact hi
      obtain ⟨ga, cga, e1, ca, fa⟩ := HAr.out.cell (List.getElem?_eq_getElem hia)
      obtain ⟨gc, cgc, e2, cc, fc⟩ := HCr.out.cell (List.getElem?_eq_getElem hic)
      simp at e1 e2
      obtain ⟨rfl, e1, rfl⟩ := e1
      obtain ⟨rfl, e2, rfl⟩ := e2
      have hne : gc ≠ ga := fun e => HAB.out ga rfl (by rw [← e]; rfl)
      have hne2 : ga ≠ gc := fun e => hne e.symm
      have hgaB : B ≤ ga := HGA.out ga rfl
      have hgcB : B ≤ gc := HGB.out gc rfl
      have HLA : Hid (A.length = ks.length) := H201.out.1
      have HLC : Hid (C.length = ks.length) := H202.out.1
      clear e1 e2
      go_wp2_with fail
      go_roundg (gk - 1)
      case measure => have := HG.out; omega
      case rel =>
        have hA' := HAr.out
        rw [← HLA.out] at hA'
        have hC' := HCr.out
        rw [← HLC.out] at hC'
        have s1 := hA'.set i x201
        have s2 : URow (wr.setCell ⟨ga, i, none⟩ (.int .u64 201)) B (.slice (some ⟨gc, 0, none⟩) C.length capb) C := hC'.same (fun j hj => Below.heap_setCell wr _ _ j (fun e => by simp [Value.ownBlock] at hj; subst hj; exact hne e))
        have s3 := s2.set i x202
        have s4 : URow ((wr.setCell ⟨ga, i, none⟩ (.int .u64 201)).setCell ⟨gc, i, none⟩ (.int .u64 202)) B (.slice (some ⟨ga, 0, none⟩) A.length capa) (A.set i x201) := s1.same (fun j hj => Below.heap_setCell _ _ _ j (fun e => by simp [Value.ownBlock] at hj; subst hj; exact hne2 e))
        rw [HLA.out] at s4
        rw [HLC.out] at s3
        exact ⟨i + 1, A.set i x201, C.set i x202, by simp, by have := HG.out; omega, s4, s3, H201.out.step hi, H202.out.step hi, (HBW.out.setCell hgaB _).setCell hgcB _⟩
    · have hi' : ¬ (i : Int) < (ks.length : Int) := by omega
      have hie : i = ks.length := by have := HG.out; omega
      have HLA : Hid (A.length = ks.length) := H201.out.1
      have HLC : Hid (C.length = ks.length) := H202.out.1
      have HAX : Hid (URow (wr.alloc (.cells #[.int .u64 201] 31)) B (.slice ada ks.length capa) A) := HAr.out.same (fun j hj => Below.heap_alloc wr _ j (ownsRow_lt HAr.out hj).1)
      have HM1 : Hid (AllAre (ks.length + 1) x201 (A ++ [x201]) (ks.length + 1)) := (hie ▸ H201.out).more
      have HM2 : Hid (AllAre (ks.length + 1) x202 (C ++ [x202]) (ks.length + 1)) := (hie ▸ H202.out).more
      have hBr : B ≤ wr.heap.size := Nat.le_trans hB HBW.out.size
      have hAl : A.length ≤ 1000000 := by rw [HLA.out]; omega
      have hCl : C.length ≤ 1000000 := by rw [HLC.out]; omega
      go_wp2_with (at_builtin; first
        | (refine wpList_append_U _ rfl _ _ rfl rfl HAX.out wr.heap.size rfl x201 (hb_new wr _) hAl (by simp; omega) ?_; intro v1 w3 hr3 hg3 hl3; have HC3 := Lib.hid (row_past HCr.out hg3 HAB.out))
        | (refine wpList_append_U _ rfl _ _ rfl rfl (HC3.out.alloc _) w3.heap.size rfl x202 (hb_new w3 _) hCl (by have := hg3.size; simp at this ⊢; omega) ?_; intro v2 w4 hr4 hg4 hl4))
      have hg3' : (wr.alloc (.cells #[.int .u64 201] 31)).grownBy w3 (Value.slice ada ks.length capa).ownBlock := hg3
      have hl3' : v1.ownBlock = (Value.slice ada ks.length capa).ownBlock ∨ v1.ownBlock = some (wr.alloc (.cells #[.int .u64 201] 31)).heap.size := hl3
      have hg4' : (w3.alloc (.cells #[.int .u64 202] 31)).grownBy w4 (Value.slice adb ks.length capb).ownBlock := hg4
      clear hg3 hl3 hg4 hl4
      have HA4 : Hid (URow w4 B v1 (A ++ [x201])) := row_past hr3 hg4' (fun j hj e => by
        rcases hl3' with h | h
        · exact HAB.out j (by rw [← h]; exact e) hj
        · rw [h] at e
          have := (ownsRow_lt HCr.out hj).1
          simp at e; omega)
      have HC4 := Lib.hid hr4
      have hb3 : Below B w w3 := (HBW.out.alloc hBr _).grown hg3' (by simp; omega) (fun k e => HGA.out k e)
      have HB4 : Hid (Below B w w4) := (hb3.alloc (Nat.le_trans hB hb3.size) _).grown hg4' (by have := hb3.size; simp; omega) (fun k e => HGB.out k e)
      clear hr3 hr4 hg3' hg4' hl3' hb3 HC3 HAX
      obtain ⟨ad1, cap1, e1⟩ := ownsRow_shape HA4.out
      obtain ⟨ad2, cap2, e2⟩ := ownsRow_shape HC4.out
      have la : (A ++ [x201]).length = ks.length + 1 := HM1.out.1
      have lc : (C ++ [x202]).length = ks.length + 1 := HM2.out.1
      rw [la] at e1
      rw [lc] at e2
      subst e1 e2
      have HLA4 := Lib.hid la
      have HLC4 := Lib.hid lc
      clear la lc hi hi'
      subst hie
      go_loopg [8] (ks.length + 1) (fun g vi wy => ∃ q, vi = .int .i64 (q : Nat) ∧ g + q = ks.length + 1 ∧ wy = w4)
      case atStart => exact ⟨0, rfl, by simp, rfl⟩
      case round =>
        obtain ⟨q, rfl, hgq, rfl⟩ := hrel
        have HGQ := Lib.hid hgq; clear hgq
        by_cases hq : q < ks.length + 1
        · have hq' : (q : Int) < (ks.length : Int) + 1 := by omega
          obtain ⟨ga, cga, e1, ca, _⟩ := HA4.out.cell (HM1.out.2 q hq)
          obtain ⟨gc, cgc, e2, cc, _⟩ := HC4.out.cell (HM2.out.2 q hq)
          simp at e1 e2
          obtain ⟨rfl, e1, rfl⟩ := e1
          obtain ⟨rfl, e2, rfl⟩ := e2
          have ca' : wr.cell? ⟨ga, q, none⟩ = some (.int .u64 201) := ca
          have cc' : wr.cell? ⟨gc, q, none⟩ = some (.int .u64 202) := cc
          clear ca cc e1 e2
          go_wp2_with fail
          go_roundg (gk - 1)
          case measure => have := HGQ.out; omega
          case rel => exact ⟨q + 1, by simp, by have := HGQ.out; omega, rfl⟩
        · have hq' : ¬ (q : Int) < (ks.length : Int) + 1 := by omega
          go_wp2_with fail
          go_ret
          exact ⟨rfl, HB4.out⟩
end Go.Proofs.Ytoigddekipjkcaa
