/- massifref5.Store's methods that turn one node. -/
import Derived.Test.YtoigddekipjkcaaRefM
namespace Go.Proofs.Ytoigddekipjkcaa
set_option linter.all false
open Go Go.RowKit Go.Proofs Go.Maps
section
variable {w : World} {rb log : Nat} {L : List NL} {G : Nat → Prop}
theorem pinL_dead {p : Nat} (h : errL L p ≠ 0) : pinL L p = L := by unfold pinL; rw [if_neg h]
theorem cell_alloc_old {W : World} {b i : Nat} {o : Obj} {v : Value} (h : W.cell? ⟨b, i, none⟩ = some v) : (W.alloc o).cell? ⟨b, i, none⟩ = some v :=
  (cell_block (a := ⟨b, i, none⟩) (Below.heap_alloc W o b (cell_lt h))).trans h
set_option maxRecDepth 100000 in
theorem RPin_any (h : RefAt w rb log L G) (hL : L.length ≤ 1000000) (p : Nat) (hp : p < 18446744073709551616) (hk : pinsL L p ≤ 4611686018427387904) : Calls Try.prog 52 #[.pointer (some ⟨rb, 0, none⟩), .int .u64 p] w fun e w' =>
    e = .returned (.int .i64 (errL L p : Int)) ∧ RefAt w' rb log (pinL L p) G ∧ Fr G w w' := by
  have H := Lib.hid h; clear h
  rcases bind_cases L p with ⟨hlt, k, e1, e2, e3, e4, e5⟩ | ⟨hlt, y, k, e1, e2, e3, e4, e5⟩ | ⟨hlt, e1, e2, e3, e4⟩
  · have E2 := Lib.hid e2; clear e2
    have EP := Lib.hid (pinL_dead (L := L) (p := p) (by rw [E2.out]; decide))
    clear e1 e3 e4 e5 hk
    go_enter Try.func52, Try.ntmps52
    go_wp2_with fail
    refine (RGet_any H.out hL p hp).mono ?_
    rw [E2.out]
    rintro e w1 ⟨rfl, hb1⟩
    go_wp2_with fail
    go_ret
    have h0 : Below w.heap.size w (putRow (w1.alloc (Obj.cells (encH zH) 30)) ⟨w1.heap.size, 0, none⟩ (encH (hashL L p)).toList) := below_putRow (hb1.alloc hb1.size _) hb1.size _
    refine ⟨by rw [E2.out]; rfl, ?_, Fr.of_below h0⟩
    rw [EP.out]; exact H.out.below h0
  · have E2 := Lib.hid e2; clear e2
    have E1 := Lib.hid e1; clear e1
    have EP := Lib.hid (show pinL L p = L.set p (some y, k + 1) by unfold pinL; rw [if_pos E2.out, e4, e3])
    rw [e3] at hk
    clear e3 e4 e5
    go_enter Try.func52, Try.ntmps52
    go_wp2_with fail
    refine (RGet_any H.out hL p hp).mono ?_
    rw [E2.out]
    rintro e w1 ⟨rfl, hb1⟩
    go_upto_region 3 with fail
    refine wp_name fun W2 HW2 => ?_
    have h0 : Below w.heap.size w W2 := by rw [HW2.out]; exact below_putRow (hb1.alloc hb1.size _) hb1.size _
    have H2 := Lib.hid (H.out.below h0)
    obtain ⟨g, cap, cur, N⟩ := H2.out.node E1.out
    have hlt' : (p : Int) < (L.length : Int) := by omega
    have NN := Lib.hid N
    have c1 : W2.cell? ⟨rb, 1, none⟩ = some (.slice (some ⟨g, 0, none⟩) L.length cap) := cell_of N.own
    have hps := N.pins
    have hpf : W2.frozen? ⟨g, p * 34 + 33, none⟩ = false := frozen_of N.row
    simp only at hps
    clear N HW2
    go_still_tail 16, (by kernel_rfl)
    change wpList _ _ _ _ _ W2.drew
    go_wp2_with fail
    go_ret
    have hF : Fr G w (W2.drew.setCell ⟨g, p * 34 + 33, none⟩ (.int .i64 ((k + 1 : Nat) : Int))) := ((Fr.of_below (S := G) h0).drew).setCell _ _ (fun _ => NN.out.foot)
    have e0 : ((k + 1 : Nat) : Int) = (k : Int) + 1 := by simp
    rw [e0] at hF
    refine ⟨by rw [E2.out]; rfl, ?_, hF⟩
    rw [EP.out, ← e0]
    exact (H2.out.setPin NN.out E1.out (k + 1)).kept (Nat.le_refl _) (fun _ _ => rfl)
  · have E2 := Lib.hid e2; clear e2
    have EP := Lib.hid (pinL_dead (L := L) (p := p) (by rw [E2.out]; decide))
    clear e1 e3 e4 hk
    go_enter Try.func52, Try.ntmps52
    go_wp2_with fail
    refine (RGet_any H.out hL p hp).mono ?_
    rw [E2.out]
    rintro e w1 ⟨rfl, hb1⟩
    go_wp2_with fail
    go_ret
    have h0 : Below w.heap.size w (putRow (w1.alloc (Obj.cells (encH zH) 30)) ⟨w1.heap.size, 0, none⟩ (encH (hashL L p)).toList) := below_putRow (hb1.alloc hb1.size _) hb1.size _
    refine ⟨by rw [E2.out]; rfl, ?_, Fr.of_below h0⟩
    rw [EP.out]; exact H.out.below h0
set_option maxRecDepth 100000 in
theorem RUnpin_any (h : RefAt w rb log L G) (hL : L.length ≤ 1000000) (p : Nat) (hp : p < 18446744073709551616) (hk : pinsL L p ≤ 4611686018427387904) : Calls Try.prog 54 #[.pointer (some ⟨rb, 0, none⟩), .int .u64 p] w fun e w' =>
    e = .returned (.int .i64 (unpinE L p : Int)) ∧ RefAt w' rb log (unpinL L p) G ∧ Fr G w w' := by
  have H := Lib.hid h; clear h
  by_cases hlt : p < L.length
  · obtain ⟨⟨x, k⟩, hx⟩ : ∃ x, L[p]? = some x := ⟨L[p], List.getElem?_eq_getElem hlt⟩
    obtain ⟨g, cap, cur, N⟩ := H.out.node hx
    have hpk : pinsL L p = k := by unfold pinsL; rw [hx]; rfl
    rw [hpk] at hk
    have HX := Lib.hid hx; clear hx
    have HPK := Lib.hid hpk; clear hpk
    have hlt' : (p : Int) < (L.length : Int) := by omega
    have NN := Lib.hid N
    have c1 : w.cell? ⟨rb, 1, none⟩ = some (.slice (some ⟨g, 0, none⟩) L.length cap) := cell_of N.own
    have hps := N.pins
    have hpf : w.frozen? ⟨g, p * 34 + 33, none⟩ = false := frozen_of N.row
    simp only at hps
    clear N
    by_cases hk0 : k = 0
    · have hkb : ((k : Int) == 0) = true := by simp [hk0]
      have hE := Lib.hid (show unpinE L p = 52 by unfold unpinE; rw [if_pos hlt, HPK.out, if_pos hk0])
      have hU := Lib.hid (unpinL_zero (hk0 ▸ HPK.out))
      clear hk0
      go_enter Try.func54, Try.ntmps54
      go_wp2_with fail
      refine (there_any H.out hL p).mono ?_
      rw [decide_eq_true hlt]
      rintro e w1 ⟨rfl, rfl⟩
      go_wp2_with fail
      go_ret
      refine ⟨by rw [hE.out]; rfl, ?_, Fr.refl _ _⟩
      rw [hU.out]; exact H.out
    · have hkb : ((k : Int) == 0) = false := by simpa using hk0
      have hE := Lib.hid (show unpinE L p = 0 by unfold unpinE; rw [if_pos hlt, HPK.out, if_neg hk0])
      have hU := Lib.hid (unpinL_some (L := L) HX.out)
      go_enter Try.func54, Try.ntmps54
      go_wp2_with fail
      refine (there_any H.out hL p).mono ?_
      rw [decide_eq_true hlt]
      rintro e w1 ⟨rfl, rfl⟩
      go_upto_region 5 with fail
      go_still_tail 16, (by kernel_rfl)
      change wpList _ _ _ _ _ w.drew
      go_wp2_with fail
      go_ret
      have e0 : ((k - 1 : Nat) : Int) = (k : Int) - 1 := by omega
      have hF : Fr G w (w.drew.setCell ⟨g, p * 34 + 33, none⟩ (.int .i64 ((k - 1 : Nat) : Int))) := ((Fr.refl G w).drew).setCell _ _ (fun _ => NN.out.foot)
      rw [e0] at hF
      refine ⟨by rw [hE.out]; rfl, ?_, hF⟩
      rw [hU.out, ← e0]
      exact (H.out.setPin NN.out HX.out (k - 1)).kept (Nat.le_refl _) (fun _ _ => rfl)
  · have hE := Lib.hid (show unpinE L p = 31 by unfold unpinE; rw [if_neg hlt])
    have hU := Lib.hid (unpinL_out hlt)
    go_enter Try.func54, Try.ntmps54
    go_wp2_with fail
    refine (there_any H.out hL p).mono ?_
    rw [decide_eq_false hlt]
    rintro e w1 ⟨rfl, rfl⟩
    go_wp2_with fail
    go_ret
    refine ⟨by rw [hE.out]; rfl, ?_, Fr.refl _ _⟩
    rw [hU.out]; exact H.out
set_option maxRecDepth 100000 in
theorem RDrop_any (h : RefAt w rb log L G) (hL : L.length ≤ 1000000) (p : Nat) (hp : p < 18446744073709551616) (hk : pinsL L p ≤ 4611686018427387904) : Calls Try.prog 55 #[.pointer (some ⟨rb, 0, none⟩), .int .u64 p] w fun e w' =>
    e = .returned (.int .i64 (dropE L p : Int)) ∧ RefAt w' rb log (dropL L p) G ∧ Fr G w w' := by
  have H := Lib.hid h; clear h
  by_cases hlt : p < L.length
  · obtain ⟨⟨x, k⟩, hx⟩ : ∃ x, L[p]? = some x := ⟨L[p], List.getElem?_eq_getElem hlt⟩
    obtain ⟨g, cap, cur, N⟩ := H.out.node hx
    have hpk : pinsL L p = k := by unfold pinsL; rw [hx]; rfl
    rw [hpk] at hk
    have HX := Lib.hid hx; clear hx
    have HPK := Lib.hid hpk; clear hpk
    have hlt' : (p : Int) < (L.length : Int) := by omega
    have NN := Lib.hid N
    have c1 : w.cell? ⟨rb, 1, none⟩ = some (.slice (some ⟨g, 0, none⟩) L.length cap) := cell_of N.own
    have hps := N.pins
    have hfr := N.free hlt
    simp only at hps
    clear N
    by_cases hk0 : k = 0
    · have hkb : ¬ (0 : Int) < (k : Int) := by omega
      have hE := Lib.hid (show dropE L p = 0 by unfold dropE; rw [if_pos hlt, HPK.out, if_pos hk0])
      have hU := Lib.hid (show dropL L p = L.set p (none, 0) by unfold dropL; rw [if_pos ⟨hlt, HPK.out.trans hk0⟩])
      clear hk0
      go_enter Try.func55, Try.ntmps55
      go_wp2_with fail
      refine (there_any H.out hL p).mono ?_
      rw [decide_eq_true hlt]
      rintro e w1 ⟨rfl, rfl⟩
      go_wp2_with fail
      go_ret
      have e0 : (nodeR (encH zH) false 0).toList = encR (none, 0) := by rw [show (nodeR (encH zH) false 0) = _ from nodeR_enc (none, 0)]
      refine ⟨by rw [hE.out]; rfl, ?_, (Fr.refl G w).putRow _ _ (fun _ => NN.out.foot)⟩
      rw [hU.out, e0]; exact H.out.put NN.out hlt (none, 0)
    · have hkb : (0 : Int) < (k : Int) := by omega
      have hE := Lib.hid (show dropE L p = 51 by unfold dropE; rw [if_pos hlt, HPK.out, if_neg hk0])
      have hU := Lib.hid (show dropL L p = L by unfold dropL; rw [if_neg (fun hh => hk0 (HPK.out.symm.trans hh.2))])
      go_enter Try.func55, Try.ntmps55
      go_wp2_with fail
      refine (there_any H.out hL p).mono ?_
      rw [decide_eq_true hlt]
      rintro e w1 ⟨rfl, rfl⟩
      go_wp2_with fail
      go_ret
      refine ⟨by rw [hE.out]; rfl, ?_, Fr.refl _ _⟩
      rw [hU.out]; exact H.out
  · have hE := Lib.hid (show dropE L p = 31 by unfold dropE; rw [if_neg hlt])
    have hU := Lib.hid (show dropL L p = L by unfold dropL; rw [if_neg (fun hh => hlt hh.1)])
    go_enter Try.func55, Try.ntmps55
    go_wp2_with fail
    refine (there_any H.out hL p).mono ?_
    rw [decide_eq_false hlt]
    rintro e w1 ⟨rfl, rfl⟩
    go_wp2_with fail
    go_ret
    refine ⟨by rw [hE.out]; rfl, ?_, Fr.refl _ _⟩
    rw [hU.out]; exact H.out
set_option maxRecDepth 100000 in
theorem RBack_any (h : RefAt w rb log L G) (hL : L.length ≤ 1000000) (p : Nat) (hp : p < 18446744073709551616) (y : HB) (hz : ∀ k, L[p]? = some (none, k) → k = 0) : Calls Try.prog 58 #[.pointer (some ⟨rb, 0, none⟩), .int .u64 p, .agg (encH y)] w fun e w' =>
    e = .returned (.int .i64 (backE L p : Int)) ∧ RefAt w' rb log (backL L p y) G ∧ Fr G w w' := by
  have H := Lib.hid h; clear h
  have hb0 : Below w.heap.size w (w.alloc (.cells (encH y) 30)) := (Below.refl _ _).alloc (Nat.le_refl _) _
  have HB := Lib.hid (H.out.below hb0)
  rcases bind_cases L p with ⟨hlt, k, e1, e2, e3, e4, e5⟩ | ⟨hlt, x, k, e1, e2, e3, e4, e5⟩ | ⟨hlt, e1, e2, e3, e4⟩
  · obtain rfl := hz k e1
    obtain ⟨g, cap, cur, N⟩ := HB.out.node e1
    have hE := Lib.hid (show backE L p = 0 by unfold backE; rw [if_pos e2])
    have hU := Lib.hid (show backL L p y = L.set p (some y, 0) by unfold backL; rw [if_pos e2, e3])
    have E1 := Lib.hid e1
    clear e1 e2 e3 e4 e5 hz
    have hlt' : (p : Int) < (L.length : Int) := by omega
    have NN := Lib.hid N
    have c1 : (w.alloc (.cells (encH y) 30)).cell? ⟨rb, 1, none⟩ = some (.slice (some ⟨g, 0, none⟩) L.length cap) := cell_of N.own
    have hlv := N.live
    have hfr := N.free hlt
    have hrx : rowAt (w.alloc (.cells (encH y) 30)) ⟨w.heap.size, 0, none⟩ 32 = some (encH y) := rowAt_whole (hb_new w _) (size_encH _).symm
    simp only at hlv
    clear N
    go_enter Try.func58, Try.ntmps58
    go_wp2_with fail
    refine (there_any HB.out hL p).mono ?_
    rw [decide_eq_true hlt]
    rintro e w1 ⟨rfl, rfl⟩
    go_upto_region 5 with fail
    refine wp_name fun W2 HW2 => ?_
    have NN2 := NN.out
    have HB2 := HB.out
    have hb2 := hb0
    rw [← HW2.out] at c1 hlv hfr hrx NN2 HB2 hb2
    clear HW2 NN HB hb0
    have NN := Lib.hid NN2; clear NN2
    have HB := Lib.hid HB2; clear HB2
    have hb0 := Lib.hid hb2; clear hb2
    go_still_tail 8, (by kernel_rfl)
    change wpList _ _ _ _ _ W2.drew
    go_wp2_with fail
    go_ret
    have e0 : (nodeR (encH y) true 0).toList = encR (some y, 0) := by rw [show (nodeR (encH y) true 0) = _ from nodeR_enc (some y, 0)]
    refine ⟨by rw [hE.out]; rfl, ?_, (((Fr.of_below (S := G) hb0.out).drew)).putRow _ _ (fun _ => NN.out.foot)⟩
    rw [hU.out, e0]
    exact (HB.out.put NN.out hlt (some y, 0)).kept (by rw [size_putRow, size_putRow]; exact Nat.le_refl _) (fun j hj => by
      by_cases hjg : j = g
      · subst hjg; rw [hb_putRow_same (w := W2.drew) NN.out.row, hb_putRow_same NN.out.row]
      · rw [hb_putRow_other _ _ hjg, hb_putRow_other _ _ hjg]; rfl)
  · obtain ⟨g, cap, cur, N⟩ := HB.out.node e1
    have hE := Lib.hid (show backE L p = 53 by unfold backE; rw [e2]; rfl)
    have hU := Lib.hid (show backL L p y = L by unfold backL; rw [e2]; rfl)
    clear e1 e2 e3 e4 e5 hz
    have hlt' : (p : Int) < (L.length : Int) := by omega
    have c1 : (w.alloc (.cells (encH y) 30)).cell? ⟨rb, 1, none⟩ = some (.slice (some ⟨g, 0, none⟩) L.length cap) := cell_of N.own
    have hlv := N.live
    simp only at hlv
    clear N
    go_enter Try.func58, Try.ntmps58
    go_wp2_with fail
    refine (there_any HB.out hL p).mono ?_
    rw [decide_eq_true hlt]
    rintro e w1 ⟨rfl, rfl⟩
    go_wp2_with fail
    go_ret
    refine ⟨by rw [hE.out]; rfl, ?_, Fr.of_below hb0⟩
    rw [hU.out]; exact HB.out
  · have hE := Lib.hid (show backE L p = 31 by unfold backE; rw [e2]; rfl)
    have hU := Lib.hid (show backL L p y = L by unfold backL; rw [e2]; rfl)
    clear e1 e2 e3 e4 hz
    go_enter Try.func58, Try.ntmps58
    go_wp2_with fail
    refine (there_any HB.out hL p).mono ?_
    rw [decide_eq_false hlt]
    rintro e w1 ⟨rfl, rfl⟩
    go_wp2_with fail
    go_ret
    refine ⟨by rw [hE.out]; rfl, ?_, Fr.of_below hb0⟩
    rw [hU.out]; exact HB.out
end
end Go.Proofs.Ytoigddekipjkcaa
