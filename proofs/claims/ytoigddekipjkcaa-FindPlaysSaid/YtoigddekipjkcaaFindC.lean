/- find.Find.Cut. -/
import Derived.Deep.DeepCutAuto
import Derived.StillTailTactics
import Derived.BigQuiet
import Derived.Test.YtoigddekipjkcaaFindA
namespace Go.Proofs.Ytoigddekipjkcaa
set_option linter.all false
open Go Go.RowKit Go.Proofs Go.Maps
open Go.ChangeMaps (setBlock)

theorem URow.take {w : World} {base g cap : Nat} {ks : List U64} (h : URow w base (.slice (some ⟨g, 0, none⟩) ks.length cap) ks) (n : Nat) (hn : n ≤ ks.length) : URow w base (.slice (some ⟨g, 0, none⟩) n cap) (ks.take n) := by
  obtain ⟨h1, ⟨e, _⟩ | ⟨g', cap', cur, e, h3, h4, h5, h6, h7, h8⟩⟩ := h
  · cases e
  · simp at e
    obtain ⟨rfl, rfl⟩ := e
    have hl : (ks.take n).length = n := by rw [List.length_take]; omega
    refine ⟨by simp [u64Cells], .inr ⟨g, cap, cur, by rw [hl], h3, h4, by omega, h6, h7, ?_⟩⟩
    rw [hl, Nat.mul_one]
    rw [Nat.mul_one] at h8
    have e2 : u64Cells (ks.take n) = (u64Cells ks).take n := by simp [u64Cells, List.map_take]
    rw [e2, ← h8, List.take_take, Nat.min_eq_left hn]
theorem take_snoc {α : Type} {L : List α} {i : Nat} {h : α} (hi : L[i]? = some h) : L.take (i + 1) = L.take i ++ [h] := by rw [List.take_add_one, hi]; rfl
section
variable {w : World} {fb b i : Nat} {v : Value} {M : List (HB × Value)} {L : List HB} {F : Nat → Prop} {h : HB}
theorem FindRep.mapFb (R : FindRep w fb v b M L (L.take i) F) : b ≠ fb := fun e => by
  obtain ⟨es, ck, hb, _⟩ := R.m.map
  exact ne_map R.own hb e.symm
theorem FindRep.vMap (R : FindRep w fb v b M L (L.take i) F) : v.ownBlock ≠ some b := fun e => by
  obtain ⟨es, ck, hb, _⟩ := R.m.map
  obtain ⟨_, ⟨e1, _⟩ | ⟨g, c1, cur, e1, _, h4, _⟩⟩ := R.leaves
  · rw [e1] at e; cases e
  · rw [e1] at e; simp [Value.ownBlock] at e; subst e; exact ne_map h4 hb rfl
theorem FindRep.cutPut (R : FindRep w fb v b M L (L.take (i + 1)) F) (hi : L[i]? = some h) {g cap m : Nat} (hrow : rowOf M h = .slice (some ⟨g, 0, none⟩) (m + 1) cap) (hm : 0 < m) {w2 : World} {ob : Obj}
    (hM : MapIs ekH id (setBlock w2 b ob) b (alPut M h (.slice (some ⟨g, 0, none⟩) m cap))) (hk : ∀ j, j < w.heap.size → w2.heap[j]? = w.heap[j]?) (hs : w.heap.size ≤ w2.heap.size) :
    FindRep (setBlock w2 b ob) fb v b (alPut M h (.slice (some ⟨g, 0, none⟩) m cap)) L (L.take i) F := by
  have e := take_snoc hi
  have hix : idx (L.take (i + 1)) h = idx (L.take i) h ++ [mk64 (L.take i).length] := by rw [e, idx_snoc_same]
  have hlen : (idx (L.take i) h).length = m := by
    have := ownsRow_shape (R.m.row h)
    obtain ⟨ad, c, e2⟩ := this
    rw [hrow] at e2
    simp at e2
    have := e2.2.1
    rw [hix] at this
    simp at this; omega
  have hk' : ∀ j, j < w.heap.size → j ≠ b → (setBlock w2 b ob).heap[j]? = w.heap[j]? := fun j hj hjb => (hb_block_setBlock b ob j hjb).trans (hk j hj)
  refine ⟨(hk' fb (hb_lt R.own) R.mapFb.symm).trans R.own, R.leaves.same (fun j hj => hk' j (R.lt j (R.vf j hj)) (fun e => R.vMap (by rw [← e]; exact hj))), R.vf, ?_, R.ff, fun j hj => by rw [size_setBlock]; have := R.lt j hj; omega⟩
  refine R.m.upd h _ hM ?_ (fun x hx => by rw [e, idx_snoc_ne _ hx]) (idx_pos.1 (by omega)) (fun j hj h1 _ => hk' j (R.lt j hj) h1) R.m.mapNe (fun _ h => h) (fun j hj => ?_)
  · have hr := R.m.row h
    rw [hrow, hix] at hr
    have h2 : URow w 0 (.slice (some ⟨g, 0, none⟩) (idx (L.take i) h ++ [mk64 (L.take i).length]).length cap) (idx (L.take i) h ++ [mk64 (L.take i).length]) := by
      have e3 : (idx (L.take i) h ++ [mk64 (L.take i).length]).length = m + 1 := by simp; omega
      rw [e3]; exact hr
    have h3 := h2.take m (by simp; omega)
    have e4 : (idx (L.take i) h ++ [mk64 (L.take i).length]).take m = idx (L.take i) h := by rw [List.take_append_of_le_length (by omega), List.take_of_length_le (by omega)]
    rw [e4] at h3
    refine h3.same (fun j hj => hk' j (R.lt j (R.m.foot h j (by rw [hrow]; exact hj))) (fun e => R.m.mapNe h (by rw [hrow, ← e]; exact hj)))
  · exact ⟨R.m.foot h j (by rw [hrow]; exact hj), .inl (by rw [hrow]; exact hj)⟩
theorem FindRep.cutDel (R : FindRep w fb v b M L (L.take (i + 1)) F) (hi : L[i]? = some h) (hlen : (idx (L.take (i + 1)) h).length = 1) {w2 : World} {ob : Obj}
    (hM : MapIs ekH id (setBlock w2 b ob) b (alDel M h)) (hk : ∀ j, j < w.heap.size → w2.heap[j]? = w.heap[j]?) (hs : w.heap.size ≤ w2.heap.size) :
    FindRep (setBlock w2 b ob) fb v b (alDel M h) L (L.take i) F := by
  have e := take_snoc hi
  have hk' : ∀ j, j < w.heap.size → j ≠ b → (setBlock w2 b ob).heap[j]? = w.heap[j]? := fun j hj hjb => (hb_block_setBlock b ob j hjb).trans (hk j hj)
  refine ⟨(hk' fb (hb_lt R.own) R.mapFb.symm).trans R.own, R.leaves.same (fun j hj => hk' j (R.lt j (R.vf j hj)) (fun e => R.vMap (by rw [← e]; exact hj))), R.vf, ?_, R.ff, fun j hj => by rw [size_setBlock]; have := R.lt j hj; omega⟩
  refine R.m.del h hM (fun x hx => by rw [e, idx_snoc_ne _ hx]) (fun hin => ?_) (fun j hj h1 => hk' j (R.lt j hj) h1) R.m.mapNe
  have := idx_pos.2 hin
  rw [e, idx_snoc_same] at hlen
  simp at hlen
  rw [hlen] at this; simp at this
end
theorem HOwn.cap {w : World} {base cap : Nat} {ad : Option Addr} {L : List HB} (h : HOwn w base (.slice ad L.length cap) L) : L.length ≤ cap := by
  obtain ⟨_, ⟨e, h0⟩ | ⟨g, c, cur, e, _, _, h5, _⟩⟩ := h
  · omega
  · simp at e; obtain ⟨_, rfl⟩ := e; exact h5
theorem HOwn.head {w : World} {base cap : Nat} {ad : Option Addr} {L : List HB} (h : HOwn w base (.slice ad L.length cap) L) (n : Nat) (hn : n ≤ L.length) : HOwn w base (.slice ad n cap) (L.take n) := by
  have h' := h
  obtain ⟨_, ⟨e, h0⟩ | ⟨g, c, cur, e, _⟩⟩ := h'
  · have hn0 : n = 0 := by omega
    subst hn0
    simp at e
    obtain ⟨rfl, _, rfl⟩ := e
    exact World.ownsRow_nil _ _ _ _
  · simp at e; obtain ⟨rfl, rfl⟩ := e
    exact h.take n hn
theorem FindRep.cutLeaves {w : World} {fb b cap n : Nat} {ad : Option Addr} {M : List (HB × Value)} {L : List HB} {F : Nat → Prop} (R : FindRep w fb (.slice ad L.length cap) b M L (L.take n) F) (hn : n ≤ L.length) :
    FindAt (w.setCell ⟨fb, 0, none⟩ (.slice ad n cap)) fb (L.take n) F := by
  have hk : ∀ j, j ≠ fb → (w.setCell ⟨fb, 0, none⟩ (.slice ad n cap)).heap[j]? = w.heap[j]? := fun j hj => Below.heap_setCell w ⟨fb, 0, none⟩ _ j hj
  have hv : (Value.slice ad n cap).ownBlock = (Value.slice ad L.length cap).ownBlock := by cases ad <;> rfl
  have hne : (Value.slice ad L.length cap).ownBlock ≠ some fb := own_ne R.own R.leaves (by decide)
  refine ⟨_, b, M, ?_, (R.leaves.head n hn).same (fun j hj => hk j (fun e => hne (by rw [← hv, ← e]; exact hj))), fun j hj => R.vf j (by rw [← hv]; exact hj), ⟨R.m.map.same (hk b R.mapFb), fun x => (R.m.row x).same (fun j hj => hk j (fun e => R.m.rowNe R.own (by decide) x (by rw [← e]; exact hj))), R.m.mem, R.m.foot, R.m.apart, R.m.fb⟩, R.ff, fun j hj => by simpa using R.lt j hj⟩
  have := hb_setCell_same (i := 0) R.own (.slice ad n cap)
  simpa using this
def fcutE (L : List HB) (n : Nat) : Nat := if L.length < n then 30 else 0
def fcutL (L : List HB) (n : Nat) : List HB := if L.length < n then L else L.take n
section
variable {w : World} {fb : Nat} {L : List HB} {F : Nat → Prop}
set_option maxRecDepth 100000 in
theorem FCut_any (h : FindAt w fb L F) (hL : L.length ≤ 1000000) (n : Nat) (hn : n < 18446744073709551616) : Calls Try.prog 18 #[.pointer (some ⟨fb, 0, none⟩), .int .u64 (n : Int)] w fun e w' =>
    e = .returned (.int .i64 (fcutE L n : Int)) ∧ FindAt w' fb (fcutL L n) F ∧ Fr F w w' := by
  have HS := Lib.hid (FSize_any h hL)
  obtain ⟨v, b, M, R⟩ := h
  obtain ⟨ad, cap, rfl⟩ := ownsRow_shape R.leaves
  have c0 : w.cell? ⟨fb, 0, none⟩ = some (.slice ad L.length cap) := cell_of R.own
  by_cases hlt : L.length < n
  · have hlt' : (L.length : Int) < (n : Int) := by omega
    have E1 := Lib.hid (show fcutE L n = 30 by unfold fcutE; rw [if_pos hlt])
    have E2 := Lib.hid (show fcutL L n = L by unfold fcutL; rw [if_pos hlt])
    have HR := Lib.hid R; clear R
    go_enter Try.func18, Try.ntmps18
    go_wp2_with fail
    refine HS.out.mono ?_
    rintro e w1 ⟨rfl, rfl⟩
    go_wp2_with fail
    go_ret
    refine ⟨by rw [E1.out]; rfl, ?_, Fr.refl _ _⟩
    rw [E2.out]; exact ⟨_, _, _, HR.out⟩
  · have hlt' : ¬ (L.length : Int) < (n : Int) := by omega
    have E1 := Lib.hid (show fcutE L n = 0 by unfold fcutE; rw [if_neg hlt])
    have E2 := Lib.hid (show fcutL L n = L.take n by unfold fcutL; rw [if_neg hlt])
    have HR : Hid (FindRep w fb (.slice ad L.length cap) b M L (L.take L.length) F) := by rw [List.take_length]; exact R
    clear R
    go_enter Try.func18, Try.ntmps18
    go_wp2_with fail
    refine HS.out.mono ?_
    rintro e w1 ⟨rfl, rfl⟩
    go_wp2_with fail
    have hcap : L.length ≤ cap := by have := HR.out.leaves; exact HOwn.cap this
    go_loopg [5] (L.length - n) (fun g vi wr => ∃ (j : Nat) (Mr : List (HB × Value)), vi = .int .i64 ((j : Int) - 1) ∧ g + n = j ∧ j ≤ L.length ∧ FindRep wr fb (.slice ad L.length cap) b Mr L (L.take j) F ∧ Fr F w wr)
    case atStart => exact ⟨L.length, M, rfl, by omega, Nat.le_refl _, HR.out, Fr.refl _ _⟩
    case round =>
      obtain ⟨j, Mr, rfl, hg, hj, R, hfr⟩ := hrel
      have HG := Lib.hid hg; clear hg
      have HFR := Lib.hid hfr; clear hfr
      have c0 : wr.cell? ⟨fb, 0, none⟩ = some (.slice ad L.length cap) := cell_of R.own
      have f0 : wr.frozen? ⟨fb, 0, none⟩ = false := frozen_of R.own
      have c1 : wr.cell? ⟨fb, 1, none⟩ = some (.map (some b)) := cell_of R.own
      have hwj : IntKind.u64.wrap (j : Int) = (j : Int) := by simp only [IntKind.wrap_u64]; omega
      by_cases hlast : j = n
      · subst hlast
        have hnl : ¬ ((j : Int) < (j : Int)) := by omega
        have HR := Lib.hid R; clear R
        have hjc : (j : Int) ≤ (cap : Int) := by omega
        go_wp2_with fail
        go_ret
        refine ⟨by rw [E1.out]; rfl, ?_, HFR.out.setCell _ _ (fun _ => HR.out.ff)⟩
        rw [E2.out]
        exact HR.out.cutLeaves hj
      · obtain ⟨i, rfl⟩ : ∃ i, j = i + 1 := ⟨j - 1, by have := HG.out; omega⟩
        have hni : (n : Int) < ((i + 1 : Nat) : Int) := by have := HG.out; omega
        have ei : (((i + 1 : Nat) : Int) - 1) = (i : Int) := by simp
        have hil : (i : Int) < (L.length : Int) := by omega
        obtain ⟨x, hx⟩ : ∃ x, L[i]? = some x := ⟨L[i], List.getElem?_eq_getElem (by omega)⟩
        obtain ⟨ad2, cap2, e2, hrow⟩ := R.leaves.row
        obtain ⟨g, o, e3, hr⟩ := hrow i x hx
        obtain ⟨rfl, rfl⟩ : ad2 = ad ∧ cap2 = cap := by simp at e2; exact ⟨e2.1.symm, e2.2.symm⟩
        subst e3
        have hfb := hb_lt R.own
        have HX := Lib.hid hx; clear hx hrow e2
        have HR := Lib.hid R; clear R
        rw [ei]
        go_wp2_with fail
        refine wp_name fun W2 HW2 => ?_
        have hb2 : Below wr.heap.size wr W2 := by rw [HW2.out]; exact below_putRow ((Below.refl _ wr).alloc (Nat.le_refl _) _) (Nat.le_refl _) _
        have hr2 : rowAt W2 ⟨wr.heap.size, 0, none⟩ 32 = some (encH x) := by rw [HW2.out]; exact rowAt_putRow_same (hb_new wr _) (size_encH _) (size_encH _)
        clear HW2
        have c2 : W2.cell? ⟨fb, 1, none⟩ = some (.map (some b)) := (hb2.cell (p := ⟨fb, 1, none⟩) hfb).trans c1
        have hxin : x ∈ L.take (i + 1) := by rw [take_snoc HX.out]; simp
        obtain ⟨g2, cp2, hrv⟩ : ∃ g2 cp2, rowOf Mr x = .slice (some ⟨g2, 0, none⟩) (idx (L.take (i + 1)) x).length cp2 := by
          rcases rowOf_shape HR.out.m x with ⟨h, _⟩ | ⟨_, h⟩
          · exact absurd hxin h
          · exact h
        obtain ⟨m, hm⟩ : ∃ m, (idx (L.take (i + 1)) x).length = m + 1 := ⟨_, (Nat.succ_pred_eq_of_pos (idx_pos.2 hxin)).symm⟩
        have hml : m + 1 ≤ 1000000 := by have := idx_length (L.take (i + 1)) x; simp at this; omega
        have hmc : m + 1 ≤ cp2 := by
          have := HR.out.m.row x
          rw [hrv] at this
          obtain ⟨_, ⟨e, _⟩ | ⟨g3, c3, cur, e, _, _, h5, _⟩⟩ := this
          · cases e
          · simp at e; omega
        rw [hm] at hrv
        have hbz : ∀ n, (Instr.lookup 70 (.map (some b)) (.agg (encH x)) false).run Try.prog (W2.drewN n) = .ok (.slice (some ⟨g2, 0, none⟩) (m + 1) cp2) _ := fun n => by
          have := HR.out.m.look (W := W2.drewN n) (hb2.block b HR.out.m.map.lt) x
          rw [hrv] at this
          exact this
        have HRV := Lib.hid hrv; clear hrv
        have HM := Lib.hid hm; clear hm
        have HB2 := Lib.hid hb2; clear hb2
        have HFS := Lib.hid (HFR.out.trans (Fr.of_below (S := F) HB2.out) (fun _ h => h) (fun _ _ h => h))
        go_quiet (fail)
        clear hbz
        have hmw : IntKind.i64.wrap ((m : Int) + 1 - 1) = (m : Int) := by simp only [IntKind.wrap_i64]; omega
        by_cases hm0 : m = 0
        · subst hm0
          go_wp2_with fail
          refine wp_name fun W5 HW5 => ?_
          have hB5 : Below wr.heap.size wr W5 := by rw [HW5.out]; exact ⟨HB2.out.os, HB2.out.tape, HB2.out.output, HB2.out.size, HB2.out.block⟩
          have c5 : W5.cell? ⟨fb, 1, none⟩ = some (.map (some b)) := by rw [HW5.out]; exact c2
          have r5 : rowAt W5 ⟨wr.heap.size, 0, none⟩ 32 = some (encH x) := by rw [HW5.out]; exact hr2
          have HM5 : Hid (MapIs ekH id W5.drew b Mr) := HR.out.m.map.same (hB5.block b HR.out.m.map.lt)
          have HF5 : Hid (Fr F w W5.drew) := by unfold Hid; rw [HW5.out]; exact (HFS.out.drewN _).drew
          have HBK : Hid (∀ j, j < wr.heap.size → W5.drew.heap[j]? = wr.heap[j]?) := hB5.block
          have HBS : Hid (wr.heap.size ≤ W5.drew.heap.size) := hB5.size
          clear HW5 hB5
          go_still_tail 5, (by kernel_rfl)
          change wpList _ _ _ _ _ W5.drew
          refine wpList_del_is (T := 70) (b := b) (l := Mr) (w := W5.drew) rfl _ _ rfl keyH Try.underlying70 HM5.out x rfl rfl (fun ob hM' => ?_)
          have HM' := Lib.hid hM'; clear hM'
          go_wp2_with fail
          go_roundg (gk - 1)
          case measure => have := HG.out; omega
          case rel => exact ⟨i, _, by simp, by have := HG.out; omega, by omega, HR.out.cutDel HX.out HM.out HM'.out HBK.out HBS.out, HF5.out.setBlock _ _ (fun _ => HR.out.m.fb)⟩
        · have hm1 : (1 : Int) < (m : Int) + 1 := by omega
          have hm2 : (m : Int) ≤ (cp2 : Int) := by omega
          have hm3 : m ≤ cp2 := by omega
          have hmw2 : IntKind.i64.wrap (m : Int) = (m : Int) := by simp only [IntKind.wrap_i64]; omega
          go_wp2_with fail
          refine wp_name fun W5 HW5 => ?_
          have hB5 : Below wr.heap.size wr W5 := by rw [HW5.out]; exact ⟨HB2.out.os, HB2.out.tape, HB2.out.output, HB2.out.size, HB2.out.block⟩
          have c5 : W5.cell? ⟨fb, 1, none⟩ = some (.map (some b)) := by rw [HW5.out]; exact c2
          have r5 : rowAt W5 ⟨wr.heap.size, 0, none⟩ 32 = some (encH x) := by rw [HW5.out]; exact hr2
          have HM5 : Hid (MapIs ekH id W5.drew b Mr) := HR.out.m.map.same (hB5.block b HR.out.m.map.lt)
          have HF5 : Hid (Fr F w W5.drew) := by unfold Hid; rw [HW5.out]; exact (HFS.out.drewN _).drew
          have HBK : Hid (∀ j, j < wr.heap.size → W5.drew.heap[j]? = wr.heap[j]?) := hB5.block
          have HBS : Hid (wr.heap.size ≤ W5.drew.heap.size) := hB5.size
          clear HW5 hB5
          go_still_tail 10, (by kernel_rfl)
          change wpList _ _ _ _ _ W5.drew
          refine wpList_put_is (T := 70) (b := b) (l := Mr) (w := W5.drew) rfl _ _ _ rfl keyH Try.underlying70 HM5.out x (.slice (some ⟨g2, 0, none⟩) m cp2) rfl rfl rfl (fun ob hM' => ?_)
          have HM' := Lib.hid hM'; clear hM'
          go_wp2_with fail
          go_roundg (gk - 1)
          case measure => have := HG.out; omega
          case rel => exact ⟨i, _, by simp, by have := HG.out; omega, by omega, HR.out.cutPut HX.out HRV.out (by omega) HM'.out HBK.out HBS.out, HF5.out.setBlock _ _ (fun _ => HR.out.m.fb)⟩
end
end Go.Proofs.Ytoigddekipjkcaa
