/- The store's methods that turn it. -/
import Derived.Test.YtoigddekipjkcaaMeth
namespace Go.Proofs.Ytoigddekipjkcaa
set_option linter.all false
open Go Go.RowKit Go.Proofs Go.Maps
open Go.ChangeMaps (setBlock)

/-- Where the store's own block and the map of its pins alone have turned. -/
theorem StoreAt.turn {w w' : World} {sb : Nat} {A : SA} {F : Nat → Prop} {cm pm : Nat} {M Ps : List (U64 × Nat)} {NS : U64 → List ND} {NB : U64 → Nat} (S : StoreRep w sb A F cm pm M Ps NS NB) (n' : Nat) (pins' : Nat → Nat) (Ps' : List (U64 × Nat))
    (hc : StoreCells w' sb A.log n' A.alive cm pm) (hp : MapIs ekU evI w' pm Ps') (hv : ∀ k : U64, (alGet Ps' k).getD 0 = pins' k.1) (hpos : ∀ (k : U64) (v : Nat), alGet Ps' k = some v → 0 < v)
    (hs : w.heap.size ≤ w'.heap.size) (hb : ∀ j, F j → j ≠ sb → j ≠ pm → w'.heap[j]? = w.heap[j]?) : StoreAt w' sb { A with n := n', pins := pins' } F := by
  refine ⟨cm, pm, M, Ps', NS, NB, S.hlog, hc, S.map.same (hb cm S.foot.2.1 S.own.1.symm S.cmpm), hp, hv, hpos, S.cmpm, ?_, S.inj, S.injN, S.val, S.foot, fun j hj => Nat.lt_of_lt_of_le (S.lt j hj) hs⟩
  intro k cb hk
  obtain ⟨c1, c2⟩ := S.chunk k cb hk
  obtain ⟨a1, a2, a3, a4, a5, a6, _⟩ := S.apart hk
  obtain ⟨f1, f2⟩ := S.foot.2.2.2 k cb hk
  exact ⟨c1.same (hb cb f1 a1 a3) (fun j hj => by cases hj; exact hb _ f2 a4 a6), c2⟩

section
variable {w : World} {sb log : Nat} {L : List NL} {F : Nat → Prop}
theorem Push_any (h : StoreL w sb log L F) (x : HB) (hn : L.length ≤ 4611686018427387904) :
    Calls Try.prog 33 #[.pointer (some ⟨sb, 0, none⟩), .agg (encH x)] w fun e w' => e = .returned (.int .u64 (L.length : Int)) ∧ ∃ F', StoreL w' sb log (L ++ [(some x, 0)]) F' ∧ Turns w w' F F' := by
  obtain ⟨cm, pm, M, Ps, NS, NB, S⟩ := h
  have hs : sb < w.heap.size := hb_lt S.cells
  have c1 : w.cell? ⟨sb, 1, none⟩ = some (.int .u64 (L.length : Int)) := cell_of S.cells
  have f1 : w.frozen? ⟨sb, 1, none⟩ = false := frozen_of S.cells
  have HS := Lib.hid S; clear S
  go_enter Try.func33, Try.ntmps33
  go_wp2_with fail
  refine calls_name fun W HW => ?_
  have hsW : W.heap.size = w.heap.size + 1 := by rw [HW.out]; simp
  have hbW : ∀ j, j < w.heap.size → j ≠ sb → W.heap[j]? = w.heap[j]? := fun j hj hne => by
    rw [HW.out, Below.heap_alloc _ _ j (by simpa using hj), Below.heap_setCell _ _ _ j hne]
  have hst : Hid (StoreAt W sb { saOf log L with n := L.length + 1 } F) := by
    have S := HS.out
    refine StoreAt.turn S (L.length + 1) (saOf log L).pins Ps ?_ (S.pin.same (hbW pm S.pin.lt (fun e => S.own.2 e.symm))) S.pinV S.pinP (by omega) (fun j hj h1 _ => hbW j (S.lt j hj) h1)
    have := hb_eq HW.out (hb_alloc (hb_setCell_same (i := 1) S.cells (.int .u64 ((L.length : Int) + 1))) _)
    unfold StoreCells
    simpa using this
  have FW : Hid (Fr F w W) := by
    unfold Hid; rw [HW.out]
    exact ((Fr.refl F w).setCell ⟨sb, 1, none⟩ _ (fun _ => HS.out.foot.1)).alloc _
  refine (lay_store hst.out L.length x (by omega) (by simp [saOf]) (Nat.le_trans (cntL_le L) hn)).mono ?_
  rintro e w2 ⟨rfl, F', hS', hT⟩
  have HS' := Lib.hid hS'; clear hS'
  have HT := Lib.hid hT; clear hT
  go_wp2_with fail
  go_ret
  refine ⟨rfl, F', ?_, ?_⟩
  · have e : ({ saOf log L with n := L.length + 1 } : SA).lay L.length x = saOf log (L ++ [(some x, 0)]) := by
      refine sa_ext rfl (by simp [saOf, SA.lay]) (by simp [saOf, SA.lay, cntL]) (fun q => ?_) (fun q => ?_)
      · simp only [saOf, SA.lay]
        by_cases hq : q = L.length
        · subst hq; simp
        · rw [if_neg hq, List.getElem?_append]
          split
          · rfl
          · rw [List.getElem?_eq_none (by omega), List.getElem?_eq_none (by simp; omega)]
      · simp only [saOf, SA.lay]
        rw [List.getElem?_append]
        split
        · rfl
        · by_cases hq : q = L.length
          · subst hq; simp
          · rw [List.getElem?_eq_none (by omega), List.getElem?_eq_none (by simp; omega)]
    unfold StoreL
    rw [← e]; exact HS'.out
  · exact ⟨fun j hj => (HT.out.1 j hj).imp id (fun h => by omega), FW.out.trans HT.out.2 (fun _ h => h) (fun _ _ h => h)⟩

theorem saOf_setPins {L : List NL} {p k : Nat} {x : Option HB} (hx : L[p]? = some (x, k)) (k' : Nat) :
    saOf log (L.set p (x, k')) = { saOf log L with n := (saOf log L).n, pins := fun q => if q = p then k' else (saOf log L).pins q } := by
  have hl := (List.getElem?_eq_some_iff.1 hx).1
  have hc := cntL_set (x, k') hx
  simp only at hc
  refine sa_ext rfl (by simp [saOf]) (by simp only [saOf]; omega) (fun q => ?_) (fun q => ?_)
  · simp only [saOf]
    by_cases hq : q = p
    · subst hq; rw [List.getElem?_set_self hl, hx]; rfl
    · rw [List.getElem?_set_ne (fun e => hq e.symm)]
  · simp only [saOf]
    by_cases hq : q = p
    · subst hq; rw [List.getElem?_set_self hl, if_pos rfl]; rfl
    · rw [List.getElem?_set_ne (fun e => hq e.symm), if_neg hq]
theorem bind_cases (L : List NL) (p : Nat) : (p < L.length ∧ ∃ k, L[p]? = some (none, k) ∧ errL L p = 50 ∧ pinsL L p = k ∧ hashL L p = zH ∧ (L[p]?).bind (·.1) = none) ∨
    (p < L.length ∧ ∃ h k, L[p]? = some (some h, k) ∧ errL L p = 0 ∧ pinsL L p = k ∧ hashL L p = h ∧ (L[p]?).bind (·.1) = some h) ∨ (¬ p < L.length ∧ L[p]? = none ∧ errL L p = 31 ∧ pinsL L p = 0 ∧ hashL L p = zH) := by
  by_cases hl : p < L.length
  · have e := List.getElem?_eq_getElem hl
    rcases hx : L[p] with ⟨a, k⟩
    rw [hx] at e
    cases a with
    | none => exact .inl ⟨hl, k, e, by unfold errL; rw [if_pos hl, e]; rfl, by unfold pinsL; rw [e]; rfl, by unfold hashL; rw [e]; rfl, by rw [e]; rfl⟩
    | some h => exact .inr (.inl ⟨hl, h, k, e, by unfold errL; rw [if_pos hl, e]; rfl, by unfold pinsL; rw [e]; rfl, by unfold hashL; rw [e]; rfl, by rw [e]; rfl⟩)
  · have e := List.getElem?_eq_none (Nat.le_of_not_lt hl)
    exact .inr (.inr ⟨hl, e, by unfold errL; rw [if_neg hl], by unfold pinsL; rw [e]; rfl, by unfold hashL; rw [e]; rfl⟩)
def backE (L : List NL) (p : Nat) : Nat := if errL L p = 50 then 0 else if errL L p = 0 then 53 else 31
def backL (L : List NL) (p : Nat) (x : HB) : List NL := if errL L p = 50 then L.set p (some x, pinsL L p) else L
theorem Turns.of_below {a b : World} {G : Nat → Prop} (h : Below a.heap.size a b) : Turns a b G G := ⟨fun _ h => .inl h, Fr.of_below h⟩
theorem Back_any (h : StoreL w sb log L F) (p : Nat) (x : HB) (hp : p < 18446744073709551616) (hn : L.length ≤ 4611686018427387904) :
    Calls Try.prog 57 #[.pointer (some ⟨sb, 0, none⟩), .int .u64 p, .agg (encH x)] w fun e w' =>
      e = .returned (.int .i64 (backE L p : Int)) ∧ ∃ F', StoreL w' sb log (backL L p x) F' ∧ Turns w w' F F' := by
  have h' := h
  obtain ⟨cm, pm, M, Ps, NS, NB, S⟩ := h'
  have hs : sb < w.heap.size := hb_lt S.cells
  have c1 : w.cell? ⟨sb, 1, none⟩ = some (.int .u64 (L.length : Int)) := cell_of S.cells
  clear S
  have H := Lib.hid h; clear h
  go_enter Try.func57, Try.ntmps57
  rcases bind_cases L p with ⟨hlt, k, e1, e2, e3, e4, e5⟩ | ⟨hlt, y, k, e1, e2, e3, e4, e5⟩ | ⟨hlt, e1, e2, e3, e4⟩
  · have E1 := Lib.hid e1; clear e1
    have E2 := Lib.hid e2; clear e2
    have E3 := Lib.hid e3; clear e3
    have E5 := Lib.hid e5; clear e5 e4
    go_wp2_with fail
    refine calls_name fun W HW => ?_
    have hs2 : W.heap.size = w.heap.size + 1 := by rw [HW.out]; simp
    have hb0 : Below w.heap.size w W := by rw [HW.out]; exact (Below.refl _ _).alloc (Nat.le_refl _) _
    have HK := Lib.hid (H.out.below hb0)
    have HB := Lib.hid (hb_eq HW.out (hb_new w _))
    refine (find_dead HK.out p hp E5.out).mono ?_
    rintro e w1 ⟨rfl, hb1⟩
    have HB1 := Lib.hid ((hb1.block w.heap.size (by omega)).trans HB.out)
    have HK1 := Lib.hid (HK.out.below hb1)
    have hrow : rowAt w1 ⟨w.heap.size, 0, none⟩ 32 = some (encH x) := rowAt_whole HB1.out (size_encH x).symm
    go_wp2_with fail
    refine (lay_store HK1.out p x hp E5.out (Nat.le_trans (cntL_le L) hn)).mono ?_
    rintro e w2 ⟨rfl, F', hS', hT⟩
    have HS' := Lib.hid hS'; clear hS'
    have HT := Lib.hid hT; clear hT
    go_wp2_with fail
    go_ret
    refine ⟨by simp [backE, E2.out], F', ?_, ?_⟩
    · unfold backL StoreL
      rw [if_pos E2.out, E3.out, ← saOf_lay x E1.out]
      exact HS'.out
    · have h0 : Below w.heap.size w w1 := hb0.trans (hb1.mono (by omega))
      exact ⟨fun j hj => (HT.out.1 j hj).imp id (fun h => by have := h0.size; omega), (Fr.of_below h0).trans HT.out.2 (fun _ h => h) (fun _ _ h => h)⟩
  · have E1 := Lib.hid e1; clear e1
    have E2 := Lib.hid e2; clear e2
    have E5 := Lib.hid e5; clear e5 e4 e3
    go_wp2_with fail
    refine calls_name fun W HW => ?_
    have hs2 : W.heap.size = w.heap.size + 1 := by rw [HW.out]; simp
    have hb0 : Below w.heap.size w W := by rw [HW.out]; exact (Below.refl _ _).alloc (Nat.le_refl _) _
    have HK := Lib.hid (H.out.below hb0)
    refine (find_live HK.out p y hp E5.out).mono ?_
    rintro e w1 ⟨g, o, rfl, hrow, hg, hb1⟩
    have h0 : Below w.heap.size w w1 := hb0.trans (hb1.mono (by omega))
    clear hrow hg
    go_wp2_with fail
    go_ret
    refine ⟨by simp [backE, E2.out], F, ?_, Turns.of_below h0⟩
    unfold backL
    rw [if_neg (by rw [E2.out]; decide)]
    exact H.out.below h0
  · have E2 := Lib.hid e2; clear e2 e1 e3 e4
    go_wp2_with fail
    go_ret
    refine ⟨by simp [backE, E2.out], F, ?_, Turns.of_below ((Below.refl _ _).alloc (Nat.le_refl _) _)⟩
    unfold backL
    rw [if_neg (by rw [E2.out]; decide)]
    exact H.out.below ((Below.refl _ _).alloc (Nat.le_refl _) _)
theorem kill_dead {w : World} {sb : Nat} {A : SA} {F : Nat → Prop} (h : StoreAt w sb A F) (p : Nat) (hp : p < 18446744073709551616) (hx : A.get p = none) :
    Calls Try.prog 46 #[.pointer (some ⟨sb, 0, none⟩), .int .u64 p] w fun e w' => e = .returned (.bool false) ∧ Below w.heap.size w w' := by
  have H := Lib.hid h; clear h
  have HX := Lib.hid hx; clear hx
  go_enter Try.func46, Try.ntmps46
  go_wp2_with fail
  refine (find_dead H.out p hp HX.out).mono ?_
  rintro e w1 ⟨rfl, hb1⟩
  go_wp2_with fail
  go_ret
  exact ⟨rfl, hb1⟩
def dropE (L : List NL) (p : Nat) : Nat := if p < L.length then (if pinsL L p = 0 then 0 else 51) else 31
def dropL (L : List NL) (p : Nat) : List NL := if p < L.length ∧ pinsL L p = 0 then L.set p (none, 0) else L
set_option maxRecDepth 100000 in
theorem Drop_any (h : StoreL w sb log L F) (p : Nat) (hp : p < 18446744073709551616) (hn : L.length ≤ 4611686018427387904) :
    Calls Try.prog 48 #[.pointer (some ⟨sb, 0, none⟩), .int .u64 p] w fun e w' =>
      e = .returned (.int .i64 (dropE L p : Int)) ∧ StoreL w' sb log (dropL L p) F ∧ Fr F w w' := by
  have h' := h
  obtain ⟨cm, pm, M, Ps, NS, NB, S⟩ := h'
  have c1 : w.cell? ⟨sb, 1, none⟩ = some (.int .u64 (L.length : Int)) := cell_of S.cells
  have c4 : w.cell? ⟨sb, 4, none⟩ = some (.map (some pm)) := cell_of S.cells
  have hlk := S.look_pin (W := w) rfl p hp
  clear S
  have H := Lib.hid h; clear h
  by_cases hlt : p < L.length
  · obtain ⟨k, hk⟩ : ∃ k, (saOf log L).pins p = k := ⟨_, rfl⟩
    rw [hk] at hlk
    have HK : Hid (pinsL L p = k) := hk
    clear hk
    by_cases hk0 : k = 0
    · subst hk0
      cases hx : (L[p]?).bind (·.1) with
      | none =>
        have HX := Lib.hid hx; clear hx
        go_enter Try.func48, Try.ntmps48
        go_wp2_with fail
        refine (kill_dead H.out p hp HX.out).mono ?_
        rintro e w1 ⟨rfl, hb1⟩
        go_wp2_with fail
        go_ret
        refine ⟨by simp [dropE, hlt, HK.out], ?_, Fr.of_below hb1⟩
        have e : dropL L p = L := by
          unfold dropL
          rw [if_pos ⟨hlt, HK.out⟩]
          rcases bind_cases L p with ⟨_, k, e1, e2, e3, e4, e5⟩ | ⟨_, y, k, e1, e2, e3, e4, e5⟩ | ⟨hh, _⟩
          · rw [HK.out] at e3; subst e3
            apply List.ext_getElem?
            intro i
            by_cases hi : i = p
            · subst hi; rw [List.getElem?_set_self hlt, e1]
            · rw [List.getElem?_set_ne (fun e => hi e.symm)]
          · rw [HX.out] at e5; cases e5
          · exact absurd hlt hh
        rw [e]; exact H.out.below hb1
      | some x =>
        have HX := Lib.hid hx; clear hx
        go_enter Try.func48, Try.ntmps48
        go_wp2_with fail
        refine (kill_store H.out p x hp HX.out (Nat.le_trans (cntL_le L) hn) (cntL_pos HX.out)).mono ?_
        rintro e w1 ⟨rfl, hS1, hT1⟩
        have HS1 := Lib.hid hS1; clear hS1
        go_wp2_with fail
        go_ret
        refine ⟨by simp [dropE, hlt, HK.out], ?_, hT1⟩
        have e : saOf log (dropL L p) = (saOf log L).kill p := by
          unfold dropL
          rw [if_pos ⟨hlt, HK.out⟩]
          rcases bind_cases L p with ⟨_, k, e1, e2, e3, e4, e5⟩ | ⟨_, y, k, e1, e2, e3, e4, e5⟩ | ⟨hh, _⟩
          · rw [HX.out] at e5; cases e5
          · rw [HK.out] at e3; subst e3; exact (saOf_kill e1).symm
          · exact absurd hlt hh
        unfold StoreL
        rw [e]; exact HS1.out
    · go_enter Try.func48, Try.ntmps48
      go_wp2_with fail
      go_ret
      refine ⟨by simp [dropE, hlt, HK.out, hk0], ?_, Fr.refl _ _⟩
      have e : dropL L p = L := by unfold dropL; rw [if_neg (fun hh => hk0 (HK.out ▸ hh.2))]
      rw [e]; exact H.out
  · go_enter Try.func48, Try.ntmps48
    go_wp2_with fail
    go_ret
    refine ⟨by simp [dropE, hlt], ?_, Fr.refl _ _⟩
    have e : dropL L p = L := by unfold dropL; rw [if_neg (fun hh => hlt hh.1)]
    rw [e]; exact H.out
def pinL (L : List NL) (p : Nat) : List NL := if errL L p = 0 then L.set p (some (hashL L p), pinsL L p + 1) else L
set_option maxRecDepth 100000 in
theorem Pin_any (h : StoreL w sb log L F) (p : Nat) (hp : p < 18446744073709551616) (hk : pinsL L p ≤ 4611686018427387904) :
    Calls Try.prog 24 #[.pointer (some ⟨sb, 0, none⟩), .int .u64 p] w fun e w' =>
      e = .returned (.int .i64 (errL L p : Int)) ∧ StoreL w' sb log (pinL L p) F ∧ Fr F w w' := by
  have H := Lib.hid h; clear h
  by_cases he : errL L p = 0
  · rcases bind_cases L p with ⟨_, k, _, e2, _⟩ | ⟨hlt, y, k, e1, e2, e3, e4, e5⟩ | ⟨_, _, e2, _⟩
    · rw [he] at e2; cases e2
    · rw [e3] at hk
      have E1 := Lib.hid e1; clear e1
      have E2 := Lib.hid e2; clear e2
      have E3 := Lib.hid e3; clear e3
      have E4 := Lib.hid e4; clear e4 e5 he
      go_enter Try.func24, Try.ntmps24
      go_wp2_with fail
      refine (Get_any H.out p hp).mono ?_
      rw [E2.out]
      rintro e w1 ⟨rfl, hb1⟩
      have h1 := H.out.below hb1
      obtain ⟨cm, pm, M, Ps, NS, NB, S⟩ := h1
      have c4 : w1.cell? ⟨sb, 4, none⟩ = some (.map (some pm)) := cell_of S.cells
      have hlk : ∀ (o : Obj) (vs : List Value), (Instr.lookup 78 (.map (some pm)) (.int .u64 (p : Int)) false).run Try.prog (putRow (w1.alloc o) ⟨w1.heap.size, 0, none⟩ vs) = .ok (.int .i64 (k : Int)) _ := fun o vs => by
        have := S.look_pin (W := putRow (w1.alloc o) ⟨w1.heap.size, 0, none⟩ vs) ((hb_putRow_other _ _ (by have := S.pin.lt; simp; omega)).trans (Below.heap_alloc w1 o pm S.pin.lt)) p hp
        have e : (saOf log L).pins p = k := E3.out
        rwa [e] at this
      have hsl : sb < w1.heap.size := hb_lt S.cells
      have HS := Lib.hid S; clear S
      have HM : Hid (∀ (o : Obj) (vs : List Value), MapIs ekU evI (putRow (w1.alloc o) ⟨w1.heap.size, 0, none⟩ vs) pm Ps) := fun o vs =>
        HS.out.pin.same ((hb_putRow_other _ _ (by have := HS.out.pin.lt; simp; omega)).trans (Below.heap_alloc w1 o pm HS.out.pin.lt))
      have hne : sb ≠ w1.heap.size := by omega
      go_wp2_with (at_mapUpdate; refine wpList_put_is (T := 78) (b := pm) (l := Ps) rfl _ _ _ rfl keyU Try.underlying78 (HM.out _ _) ⟨p, hp⟩ (k + 1) rfl rfl ?hv (fun ob hM' => ?_))
      case hv => show Value.int .i64 ((k : Int) + 1) = evI (k + 1); simp [evI]
      have HM' := Lib.hid hM'; clear hM'
      go_wp2_with fail
      go_ret
      have S := HS.out
      have b1 : ∀ (o : Obj) (vs : List Value) j, j < w1.heap.size → j ≠ pm → (setBlock (putRow (w1.alloc o) ⟨w1.heap.size, 0, none⟩ vs) pm ob).heap[j]? = w1.heap[j]? := fun o vs j hj hp' =>
        (hb_block_setBlock pm ob j hp').trans ((hb_putRow_other _ _ (by simp; omega)).trans (Below.heap_alloc w1 o j hj))
      refine ⟨by rw [E2.out]; rfl, ?_, ?_⟩
      · have ht := StoreAt.turn S (w' := setBlock (putRow (w1.alloc _) ⟨w1.heap.size, 0, none⟩ _) pm ob) (saOf log L).n (fun q => if q = p then k + 1 else (saOf log L).pins q) (alPut Ps ⟨p, hp⟩ (k + 1)) ((b1 _ _ sb hsl S.own.2).trans S.cells) HM'.out (fun q => ?_) (fun q v hq => ?_) (by simp [size_setBlock, size_putRow]) (fun j hj h1 h2 => b1 _ _ j (S.lt j hj) h2)
        · have e : saOf log (pinL L p) = { saOf log L with n := (saOf log L).n, pins := fun q => if q = p then k + 1 else (saOf log L).pins q } := by
            have e0 : pinL L p = L.set p (some y, k + 1) := by unfold pinL; rw [if_pos E2.out, E3.out, E4.out]
            rw [e0]
            exact saOf_setPins E1.out _
          unfold StoreL
          rw [e]; exact ht
        · rw [alGet_put]
          by_cases hqp : q = ⟨p, hp⟩
          · subst hqp; simp
          · rw [if_neg hqp, if_neg (fun e => hqp (Subtype.ext e))]; exact S.pinV q
        · rw [alGet_put] at hq
          split at hq
          · cases hq; omega
          · exact S.pinP q v hq
      · exact Fr.setBlock (Fr.putRow ((Fr.of_below hb1).alloc _) _ _ (fun hh => absurd hb1.size (Nat.not_le_of_lt hh))) _ _ (fun hh => S.foot.2.2.1)
    · rw [he] at e2; cases e2
  · have hne : ((errL L p : Int) == 0) = false := by simpa using he
    have hnd : ((errL L p : Int) != 0) = true := by simpa using he
    have hz : ¬ ((errL L p : Int) = 0) := by omega
    have HE := Lib.hid he; clear he
    go_enter Try.func24, Try.ntmps24
    go_wp2_with fail
    refine (Get_any H.out p hp).mono ?_
    rintro e w1 ⟨rfl, hb1⟩
    go_wp2_with fail
    go_ret
    have h0 : Below w.heap.size w (putRow (w1.alloc (Obj.cells (encH zH) 30)) ⟨w1.heap.size, 0, none⟩ (encH (hashL L p)).toList) := below_putRow (hb1.alloc hb1.size _) hb1.size _
    refine ⟨rfl, ?_, Fr.of_below h0⟩
    unfold pinL
    rw [if_neg HE.out]
    exact H.out.below h0
end
end Go.Proofs.Ytoigddekipjkcaa
