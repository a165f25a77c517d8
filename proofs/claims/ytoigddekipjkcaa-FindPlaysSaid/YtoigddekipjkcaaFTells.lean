/- massiflaw22.tells. -/
import Derived.Deep.RegionHeld3
import Derived.Test.YtoigddekipjkcaaFSame
namespace Go.Proofs.Ytoigddekipjkcaa
set_option linter.all false
open Go Go.RowKit Go.Proofs Go.Maps
open Go.ChangeMaps (setBlock)

theorem wpList_append_H {ops : Array Oper} {rest : List Oper} {o : Oper} {a : Act} {Q : Exit → Act → World → Prop} (w : World) (hgd : Region.wanted o (yielded ops a.tmps) = true) (s x : Operand)
    (ho : o.op = .call { callee := .builtin .append, args := #[s, x], argTypes := #[26, 26] })
    {base : Nat} {v : Value} {hs : List HB} (hs' : a.eval s = v) (hr : HOwn w base v hs) (b : Nat) (hx : a.eval x = .slice (some ⟨b, 0, none⟩) 1 1) (y : HB) (hb : w.heap[b]? = some (.cells (encH y) 30 (0, 0))) (hL : hs.length ≤ 1000000) (hbase : base ≤ w.heap.size)
    (h : ∀ v' w', HOwn w' base v' (hs ++ [y]) → w.grownBy w' v.ownBlock → (v'.ownBlock = v.ownBlock ∨ v'.ownBlock = some w.heap.size) → wpList Try.prog ops Q rest (a.put o.dst v') w') :
    wpList Try.prog ops Q (o :: rest) a w := by
  refine wpList_step fun K' hK' => ?_
  rw [if_pos hgd]
  obtain ⟨v', w', hrun, h1, h2, h3⟩ := run_append_H w o.type hr b y hb hL hbase
  unfold Oper.wp execOp
  simp only [ho, resolve, invoke, builtin, Sem.run_bind, Sem.run_pure, Result.andThen_ok, List.map_toArray, List.map_cons, List.map_nil, hs', hx, hrun]
  exact hK' _ _ (h v' w' h1 h2 h3)
theorem rowH_set (l : List HB) (i : Nat) (x : HB) (h : i < l.length) : rowH (l.set i x) = (rowH l).take (i * 32) ++ (encH x).toList ++ (rowH l).drop (i * 32 + 32) := by
  rw [List.set_eq_take_append_cons_drop, if_pos h, rowH_append, rowH_take]
  have e : (rowH l).drop (i * 32 + 32) = rowH (l.drop (i + 1)) := by rw [← rowH_drop]; congr 1; omega
  rw [e]
  simp [rowH]
theorem splice_rowH {cur : Array Value} {l : List HB} {N i : Nat} (x : HB) (hr : cur.toList.take (N * 32) = rowH l) (hl : l.length = N) (hi : i < N) (hN : N * 32 ≤ cur.size) :
    (splice cur (i * 32) (encH x).toList).size = cur.size ∧ (splice cur (i * 32) (encH x).toList).toList.take (N * 32) = rowH (l.set i x) := by
  have h1 : cur.toList.length = cur.size := by simp
  have h32 : i * 32 + 32 ≤ N * 32 := by omega
  have lx := length_encH x
  constructor
  · simp only [splice, List.size_toArray, List.length_append, List.length_take, List.length_drop, lx]; omega
  · have e0 : (splice cur (i * 32) (encH x).toList).toList = cur.toList.take (i * 32) ++ (encH x).toList ++ cur.toList.drop (i * 32 + 32) := by simp [splice, size_encH]
    rw [e0, rowH_set l i x (by omega), ← hr]
    rw [List.take_append, List.take_of_length_le (by simp [size_encH]; omega)]
    congr 1
    · congr 1
      rw [List.take_take, Nat.min_eq_left (by omega)]
    · rw [List.drop_take]
      congr 1
      simp [size_encH]; omega
theorem HOwn.set {w : World} {base g cap : Nat} {A : List HB} (h : HOwn w base (.slice (some ⟨g, 0, none⟩) A.length cap) A) (i : Nat) (hi : i < A.length) (x : HB) : HOwn (putRow w ⟨g, i * 32, none⟩ (encH x).toList) base (.slice (some ⟨g, 0, none⟩) A.length cap) (A.set i x) := by
  obtain ⟨h1, ⟨e, _⟩ | ⟨g', cap', cur, e, h3, h4, h5, h6, h7, h8⟩⟩ := h
  · cases e
  · simp at e
    obtain ⟨rfl, rfl⟩ := e
    have hsz : A.length * 32 ≤ cur.size := by rw [h7]; exact Nat.mul_le_mul_right _ h5
    obtain ⟨s1, s2⟩ := splice_rowH x h8 rfl hi hsz
    refine ⟨length_rowH _, .inr ⟨g, cap, _, by rw [List.length_set], h3, hb_putRow_same h4 _, by rw [List.length_set]; exact h5, h6, by rw [s1]; exact h7, by rw [List.length_set]; exact s2⟩⟩
theorem HOwn.cell {w : World} {base : Nat} {v : Value} {A : List HB} (h : HOwn w base v A) {i : Nat} {x : HB} (hi : A[i]? = some x) : ∃ g cap, v = .slice (some ⟨g, 0, none⟩) A.length cap ∧ rowAt w ⟨g, i * 32, none⟩ 32 = some (encH x) ∧ rowFree w ⟨g, i * 32, none⟩ 32 = true := by
  have hil := (List.getElem?_eq_some_iff.1 hi).1
  obtain ⟨ad, cap2, e2, hr⟩ := h.row
  obtain ⟨b, o, e3, hrow⟩ := hr i x hi
  obtain ⟨h1, ⟨e, h0⟩ | ⟨g, cap, cur, e, h3, h4, h5, h6, h7, h8⟩⟩ := h
  · omega
  · rw [e2] at e
    simp at e
    rw [e3] at e
    simp at e
    obtain ⟨⟨rfl, rfl⟩, rfl⟩ := e
    subst e3
    rw [Nat.zero_add] at hrow
    have hsz : A.length * 32 ≤ cur.size := by rw [h7]; exact Nat.mul_le_mul_right _ h5
    exact ⟨b, cap2, e2, hrow, rowFree_of h4 (by omega)⟩
def AllOf {α : Type} (n : Nat) (x : α) (A : List α) (i : Nat) : Prop := A.length = n ∧ ∀ j, j < i → A[j]? = some x
theorem AllOf.step {α : Type} {n i : Nat} {x : α} {A : List α} (h : AllOf n x A i) (hi : i < n) : AllOf n x (A.set i x) (i + 1) := by
  refine ⟨by rw [List.length_set]; exact h.1, fun j hj => ?_⟩
  by_cases e : j = i
  · subst e; rw [List.getElem?_set_self (by rw [h.1]; exact hi)]
  · rw [List.getElem?_set_ne (fun e' => e e'.symm)]; exact h.2 j (by omega)
theorem AllOf.more {α : Type} {n : Nat} {x : α} {A : List α} (h : AllOf n x A n) : AllOf (n + 1) x (A ++ [x]) (n + 1) := by
  refine ⟨by simp [h.1], fun j hj => ?_⟩
  by_cases e : j < n
  · rw [List.getElem?_append_left (by rw [h.1]; exact e)]; exact h.2 j e
  · rw [List.getElem?_append_right (by rw [h.1]; omega), h.1, show j - n = 0 by omega]; rfl
theorem rowH_past {wr w3 : World} {B : Nat} {va vb : Value} {C : List HB} {o : Obj} (hC : HOwn wr B vb C) (hg : (wr.alloc o).grownBy w3 va.ownBlock) (hne : ∀ j, va.ownBlock = some j → vb.ownBlock ≠ some j) : HOwn w3 B vb C :=
  hC.same (fun j hj => (hg.block j (by have := (ownsRow_lt hC hj).1; simp; omega) (fun e => hne j e.symm hj)).trans (Below.heap_alloc wr o j (ownsRow_lt hC hj).1))
theorem twice_len (L : List HB) : (twice L).length ≤ L.length := by
  have h1 := List.length_filter_le (isTwice L) (firsts L)
  have h2 := firsts_length L
  unfold twice; omega
set_option maxRecDepth 100000 in
set_option maxHeartbeats 2000000 in
theorem tells_any {w : World} {fb rb : Nat} {L : List HB} {F G : Nat → Prop} (hf : FindAt w fb L F) (hr : RFAt w rb L G) (hL : L.length ≤ 100000) :
    Calls Try.prog 17 #[.pointer (some ⟨fb, 0, none⟩), .pointer (some ⟨rb, 0, none⟩)] w fun e w' => e = .returned (.bool true) ∧ Below w.heap.size w w' := by
  have HF := Lib.hid hf; clear hf
  have HRf := Lib.hid hr; clear hr
  have hL6 : L.length ≤ 1000000 := by omega
  obtain ⟨T, hT⟩ : ∃ T, twice L = T := ⟨_, rfl⟩
  have hTl : T.length ≤ 100000 := by have := twice_len L; rw [hT] at this; omega
  have HT := Lib.hid hT; clear hT
  go_enter Try.func17, Try.ntmps17
  go_wp2_with fail
  refine (RFTwice_any HRf.out hL6).mono ?_
  rw [HT.out]
  rintro e w1 ⟨vc, rfl, hc1, hb1⟩
  have HF1 := Lib.hid (HF.out.below hb1)
  have HR1 := Lib.hid (HRf.out.below hb1)
  have HC1 := Lib.hid hc1; clear hc1
  have HB1 := Lib.hid hb1; clear hb1
  go_wp2_with fail
  refine (FTwice_any HF1.out hL6).mono ?_
  rw [HT.out]
  rintro e w2 ⟨va, rfl, ha2, hb2⟩
  have HF2 := Lib.hid (HF1.out.below hb2)
  have HR2 := Lib.hid (HR1.out.below hb2)
  have HC2 : Hid (HOwn w2 w.heap.size vc T) := HC1.out.same (fun j hj => hb2.block j (ownsRow_lt HC1.out hj).1)
  have HA2 := Lib.hid ha2; clear ha2
  have HB2 : Hid (Below w.heap.size w w2) := HB1.out.trans (hb2.mono HB1.out.size)
  have hs2 := hb2.size
  have HX2 := Lib.hid hb2
  clear hb2
  go_wp2_with fail
  refine (FTwice_any HF2.out hL6).mono ?_
  rw [HT.out]
  rintro e w3 ⟨vb, rfl, hb3r, hb3⟩
  have HF3 := Lib.hid (HF2.out.below hb3)
  have HR3 := Lib.hid (HR2.out.below hb3)
  have HC3 : Hid (HOwn w3 w.heap.size vc T) := HC2.out.same (fun j hj => hb3.block j (ownsRow_lt HC2.out hj).1)
  have HA3 : Hid (HOwn w3 w1.heap.size va T) := HA2.out.same (fun j hj => hb3.block j (ownsRow_lt HA2.out hj).1)
  have HD3 := Lib.hid hb3r; clear hb3r
  have HAL : Hid (∀ j, va.ownBlock = some j → w1.heap.size ≤ j ∧ j < w2.heap.size) := fun j hj => ⟨(ownsRow_lt HA2.out hj).2, (ownsRow_lt HA2.out hj).1⟩
  have HDL : Hid (∀ j, vb.ownBlock = some j → w2.heap.size ≤ j) := fun j hj => (ownsRow_lt HD3.out hj).2
  have HB3 : Hid (Below w.heap.size w w3) := HB2.out.trans (hb3.mono HB2.out.size)
  have hs3 := hb3.size
  have HX3 : Hid (Below w1.heap.size w1 w3) := HX2.out.trans (hb3.mono HX2.out.size)
  clear hb3
  have hsw := HB1.out.size
  obtain ⟨ada, capa, ea⟩ := ownsRow_shape HA3.out
  obtain ⟨adb, capb, eb⟩ := ownsRow_shape HD3.out
  obtain ⟨adc, capc, ec⟩ := ownsRow_shape HC3.out
  subst ea eb ec
  go_wp2_with fail
  refine (SameHashes_any w3 _ _ T HA3.out.row HC3.out.row (by omega)).mono ?_
  rintro e w4 ⟨rfl, hb4⟩
  have HF4 := Lib.hid (HF3.out.below hb4)
  have HR4 := Lib.hid (HR3.out.below hb4)
  have HC4 : Hid (HOwn w4 w.heap.size (.slice adc T.length capc) T) := HC3.out.same (fun j hj => hb4.block j (ownsRow_lt HC3.out hj).1)
  have HA4 : Hid (HOwn w4 w1.heap.size (.slice ada T.length capa) T) := HA3.out.same (fun j hj => hb4.block j (ownsRow_lt HA3.out hj).1)
  have HD4 : Hid (HOwn w4 w2.heap.size (.slice adb T.length capb) T) := HD3.out.same (fun j hj => hb4.block j (ownsRow_lt HD3.out hj).1)
  have HB4 : Hid (Below w.heap.size w w4) := HB3.out.trans (hb4.mono HB3.out.size)
  have hs4 := hb4.size
  have HX4 : Hid (Below w1.heap.size w1 w4) := HX3.out.trans (hb4.mono HX3.out.size)
  clear hb4
  go_wp2_with fail
  refine (SameHashes_any w4 _ _ T HD4.out.row HC4.out.row (by omega)).mono ?_
  rintro e w5 ⟨rfl, hb5⟩
  have HF5 := Lib.hid (HF4.out.below hb5)
  have HR5 := Lib.hid (HR4.out.below hb5)
  have HC5 : Hid (HOwn w5 w.heap.size (.slice adc T.length capc) T) := HC4.out.same (fun j hj => hb5.block j (ownsRow_lt HC4.out hj).1)
  have HA5 : Hid (HOwn w5 w1.heap.size (.slice ada T.length capa) T) := HA4.out.same (fun j hj => hb5.block j (ownsRow_lt HA4.out hj).1)
  have HD5 : Hid (HOwn w5 w2.heap.size (.slice adb T.length capb) T) := HD4.out.same (fun j hj => hb5.block j (ownsRow_lt HD4.out hj).1)
  have HB5 : Hid (Below w.heap.size w w5) := HB4.out.trans (hb5.mono HB4.out.size)
  have hs5 := hb5.size
  have HX5 : Hid (Below w1.heap.size w1 w5) := HX4.out.trans (hb5.mono HX4.out.size)
  have HCL : Hid (∀ j, (Value.slice adc T.length capc).ownBlock = some j → j < w1.heap.size) := fun j hj => (ownsRow_lt HC1.out hj).1
  clear hb5 HX2 HX3 HX4 HF2 HF3 HF4 HR2 HR3 HR4 HA2 HA3 HA4 HD3 HD4 HC2 HC3 HC4 HB2 HB3 HB4
  go_wp2_with fail
  go_loopg [8] (T.length) (fun g vi wr => ∃ i A C, vi = .int .i64 (i : Nat) ∧ g + i = T.length ∧ HOwn wr w1.heap.size (.slice ada T.length capa) A ∧ HOwn wr w2.heap.size (.slice adb T.length capb) C ∧ AllOf T.length (h1 201) A i ∧ AllOf T.length (h1 202) C i ∧ Below w1.heap.size w5 wr)
  case atStart => exact ⟨0, T, T, rfl, by simp, HA5.out, HD5.out, ⟨rfl, fun j hj => by omega⟩, ⟨rfl, fun j hj => by omega⟩, Below.refl _ _⟩
  case round =>
    obtain ⟨i, A, C, rfl, hg, hA, hC, h201, h202, hbw⟩ := hrel
    have HG := Lib.hid hg; clear hg
    have HAr := Lib.hid hA; clear hA
    have HCr := Lib.hid hC; clear hC
    have H201 := Lib.hid h201; clear h201
    have H202 := Lib.hid h202; clear h202
    have HBW := Lib.hid hbw; clear hbw
    have HLA : Hid (A.length = T.length) := H201.out.1
    have HLC : Hid (C.length = T.length) := H202.out.1
    by_cases hi : i < T.length
    · have hi' : (i : Int) < (T.length : Int) := by omega
      have hia : i < A.length := by rw [HLA.out]; exact hi
      have hic : i < C.length := by rw [HLC.out]; exact hi
      obtain ⟨ga, cga, e1, ca, fa⟩ := HAr.out.cell (List.getElem?_eq_getElem hia)
      obtain ⟨gc, cgc, e2, cc, fc⟩ := HCr.out.cell (List.getElem?_eq_getElem hic)
      simp at e1 e2
      obtain ⟨rfl, e1, rfl⟩ := e1
      obtain ⟨rfl, e2, rfl⟩ := e2
      have hgal := HAL.out ga rfl
      have hgcl := HDL.out gc rfl
      have hne : gc ≠ ga := by omega
      have hne2 : ga ≠ gc := by omega
      clear e1 e2
      go_wp2_with fail
      go_roundg (gk - 1)
      case measure => have := HG.out; omega
      case rel =>
        have hA' := HAr.out
        rw [← HLA.out] at hA'
        have hC' := HCr.out
        rw [← HLC.out] at hC'
        have s1 := hA'.set i hia (h1 201)
        have s2 : HOwn (putRow wr ⟨ga, i * 32, none⟩ (encH (h1 201)).toList) w2.heap.size (.slice (some ⟨gc, 0, none⟩) C.length capb) C := hC'.same (fun j hj => hb_putRow_other _ _ (fun e => by simp [Value.ownBlock] at hj; subst hj; exact hne e))
        have s3 := s2.set i hic (h1 202)
        have s4 : HOwn (putRow (putRow wr ⟨ga, i * 32, none⟩ (encH (h1 201)).toList) ⟨gc, i * 32, none⟩ (encH (h1 202)).toList) w1.heap.size (.slice (some ⟨ga, 0, none⟩) A.length capa) (A.set i (h1 201)) := s1.same (fun j hj => hb_putRow_other _ _ (fun e => by simp [Value.ownBlock] at hj; subst hj; exact hne2 e))
        rw [HLA.out] at s4
        rw [HLC.out] at s3
        exact ⟨i + 1, A.set i (h1 201), C.set i (h1 202), by simp, by have := HG.out; omega, s4, s3, H201.out.step hi, H202.out.step hi, below_putRow (below_putRow HBW.out hgal.1 _) (by show w1.heap.size ≤ gc; omega) _⟩
    · have hi' : ¬ (i : Int) < (T.length : Int) := by omega
      have hie : i = T.length := by have := HG.out; omega
      have HAX : Hid (HOwn (wr.alloc (.cells (encH (h1 201)) 30)) w1.heap.size (.slice ada T.length capa) A) := HAr.out.same (fun j hj => Below.heap_alloc wr _ j (ownsRow_lt HAr.out hj).1)
      have HM1 : Hid (AllOf (T.length + 1) (h1 201) (A ++ [h1 201]) (T.length + 1)) := (hie ▸ H201.out).more
      have HM2 : Hid (AllOf (T.length + 1) (h1 202) (C ++ [h1 202]) (T.length + 1)) := (hie ▸ H202.out).more
      have hBr : w5.heap.size ≤ wr.heap.size := HBW.out.size
      have hAl : A.length ≤ 1000000 := by rw [HLA.out]; omega
      have hCl : C.length ≤ 1000000 := by rw [HLC.out]; omega
      have HAB : Hid (∀ j, (Value.slice ada T.length capa).ownBlock = some j → (Value.slice adb T.length capb).ownBlock ≠ some j) := fun j h1 h2 => by have := HAL.out j h1; have := HDL.out j h2; omega
      go_wp2_with (at_builtin; first
        | (refine wpList_append_H _ rfl _ _ rfl rfl HAX.out wr.heap.size rfl (h1 201) (hb_new wr _) hAl (by simp; omega) ?_; intro v1 w6 hr6 hg6 hl6; have HC6 := Lib.hid (rowH_past HCr.out hg6 HAB.out))
        | (refine wpList_append_H _ rfl _ _ rfl rfl (HC6.out.alloc _) w6.heap.size rfl (h1 202) (hb_new w6 _) hCl (by have := hg6.size; simp at this ⊢; omega) ?_; intro v2 w7 hr7 hg7 hl7))
      have hg6' : (wr.alloc (.cells (encH (h1 201)) 30)).grownBy w6 (Value.slice ada T.length capa).ownBlock := hg6
      have hl6' : v1.ownBlock = (Value.slice ada T.length capa).ownBlock ∨ v1.ownBlock = some (wr.alloc (.cells (encH (h1 201)) 30)).heap.size := hl6
      have hg7' : (w6.alloc (.cells (encH (h1 202)) 30)).grownBy w7 (Value.slice adb T.length capb).ownBlock := hg7
      clear hg6 hl6 hg7 hl7
      have HA7 : Hid (HOwn w7 w1.heap.size v1 (A ++ [h1 201])) := rowH_past hr6 hg7' (fun j hj e => by
        rcases hl6' with h | h
        · exact HAB.out j (by rw [← h]; exact e) hj
        · rw [h] at e
          have := (ownsRow_lt HCr.out hj).1
          simp at e; omega)
      have HC7 := Lib.hid hr7
      have hb6 : Below w1.heap.size w5 w6 := (HBW.out.alloc (by omega) _).grown hg6' (by simp; omega) (fun k e => (HAL.out k e).1)
      have HB7 : Hid (Below w1.heap.size w5 w7) := (hb6.alloc (by have := hb6.size; omega) _).grown hg7' (by have := hb6.size; simp; omega) (fun k e => by have := HDL.out k e; omega)
      clear hr6 hr7 hg6' hg7' hl6' hb6 HC6 HAX
      obtain ⟨ad1, cap1, e1⟩ := ownsRow_shape HA7.out
      obtain ⟨ad2, cap2, e2⟩ := ownsRow_shape HC7.out
      have la : (A ++ [h1 201]).length = T.length + 1 := HM1.out.1
      have lc : (C ++ [h1 202]).length = T.length + 1 := HM2.out.1
      rw [la] at e1
      rw [lc] at e2
      subst e1 e2
      have HLA7 := Lib.hid la
      have HLC7 := Lib.hid lc
      clear la lc hi hi'
      subst hie
      have heq1 : ∀ W, (binOp .neq 30 (.agg (encH (h1 201))) (.agg (encH (h1 201)))).run Try.prog W = .ok (.bool false) W := fun W => by rw [neq_H]; simp
      have heq2 : ∀ W, (binOp .neq 30 (.agg (encH (h1 202))) (.agg (encH (h1 202)))).run Try.prog W = .ok (.bool false) W := fun W => by rw [neq_H]; simp
      have hgd := guard_H
      go_loopg [9] (T.length + 1) (fun g vi wy => ∃ q, vi = .int .i64 (q : Nat) ∧ g + q = T.length + 1 ∧ wy = w7)
      case atStart => exact ⟨0, rfl, by simp, rfl⟩
      case round =>
        obtain ⟨q, rfl, hgq, rfl⟩ := hrel
        have HGQ := Lib.hid hgq; clear hgq
        by_cases hq : q < T.length + 1
        · have hq' : (q : Int) < (T.length : Int) + 1 := by omega
          obtain ⟨ga, cga, e1, ca, _⟩ := HA7.out.cell (HM1.out.2 q hq)
          obtain ⟨gc, cgc, e2, cc, _⟩ := HC7.out.cell (HM2.out.2 q hq)
          simp at e1 e2
          obtain ⟨rfl, e1, rfl⟩ := e1
          obtain ⟨rfl, e2, rfl⟩ := e2
          clear e1 e2
          go_wp2_with fail
          go_roundg (gk - 1)
          case measure => have := HGQ.out; omega
          case rel => exact ⟨q + 1, by simp, by have := HGQ.out; omega, rfl⟩
        · have hq' : ¬ (q : Int) < (T.length : Int) + 1 := by omega
          have hb57 : Below w1.heap.size w1 wr := HX5.out.trans HB7.out
          have HBF : Hid (Below w.heap.size w wr) := HB1.out.trans (hb57.mono HB1.out.size)
          have HFr := Lib.hid (HF1.out.below hb57)
          have HRr := Lib.hid (HR1.out.below hb57)
          have HCw : Hid (HOwn wr w.heap.size (.slice adc T.length capc) T) := HC1.out.same (fun j hj => hb57.block j (ownsRow_lt HC1.out hj).1)
          clear hb57 HA7 HC7 HB7 HAr HCr HBW HA5 HD5 HF5 HR5 HC5 HB5 HX5
          obtain ⟨adr, capr, hcr, hrl, _⟩ := HRr.out.slice
          have hwl : IntKind.u64.wrap (L.length : Int) = (L.length : Int) := by simp only [IntKind.wrap_u64]; omega
          have hcd : wr.drew.cell? ⟨rb, 0, none⟩ = some (.slice adr L.length capr) := hcr
          have HFd : Hid (FindAt wr.drew fb L F) := HFr.out.kept (Nat.le_refl _) (fun _ _ => rfl)
          have HRd : Hid (RFAt wr.drew rb L G) := HRr.out.kept (Nat.le_refl _) (fun _ _ => rfl)
          have HCd : Hid (HOwn wr.drew w.heap.size (.slice adc T.length capc) T) := HCw.out
          go_wp2_with fail
          go_region_held3 (fun w' => w'.cell? ⟨rb, 0, none⟩ = some (.slice adr L.length capr)) (first | exact hk3 | exact hk2 | exact hk1 | exact hcr | go_keep)
            (first
              | (go_at_call 22; refine (FSize_any HFd.out hL6).mono ?_; rintro e x0 ⟨rfl, rfl⟩)
              | (go_at_call 21; refine (FUnlike_any HFd.out).mono ?_; rintro e x0 ⟨rfl, rfl⟩)
              | (go_at_call 44; refine (RFUnlike_any HRd.out hL6).mono ?_; rintro e x1 ⟨rfl, hx1⟩; have hk1 : x1.cell? ⟨rb, 0, none⟩ = some (.slice adr L.length capr) := (hx1.cell (p := ⟨rb, 0, none⟩) hrl).trans hcd)
              | (go_at_call 42; refine (FTwice_any (HFd.out.below hx1) hL6).mono ?_; rw [HT.out]; rintro e x2 ⟨v2, rfl, ht2, hx2⟩; have hk2 : x2.cell? ⟨rb, 0, none⟩ = some (.slice adr L.length capr) := (hx2.cell (p := ⟨rb, 0, none⟩) (cell_lt hk1)).trans hk1)
              | (go_at_call 43; refine (SameHashes_any x2 _ _ T ht2.row ((HCd.out.row.below hx1).below hx2) (by omega)).mono ?_; rintro e x3 ⟨rfl, hx3⟩; have hk3 : x3.cell? ⟨rb, 0, none⟩ = some (.slice adr L.length capr) := (hx3.cell (p := ⟨rb, 0, none⟩) (cell_lt hk2)).trans hk2))
          have HXF : Hid (Below w.heap.size w x3) := by
            have k0 := HBF.out.drew
            have k1 := k0.trans (hx1.mono k0.size)
            have k2 := k1.trans (hx2.mono k1.size)
            exact k2.trans (hx3.mono k2.size)
          clear hx1 hx2 hx3 ht2
          go_wp2_with fail
          go_ret
          exact ⟨rfl, HXF.out⟩
end Go.Proofs.Ytoigddekipjkcaa
