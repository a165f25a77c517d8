/- massiflaw5.StoreCuts: the walk. -/
import Derived.Test.YtoigddekipjkcaaFull
import Derived.BigQuiet
namespace Go.Proofs.Ytoigddekipjkcaa
set_option linter.all false
open Go Go.RowKit Go.Proofs Go.Maps

set_option maxRecDepth 100000 in
set_option maxHeartbeats 1000000 in
theorem StoreCuts_good (log : Nat) (v : Value) (hs : List HB) (m pin : Nat) (w : World) (hl : log ≤ 16) (hr : HashRow w v hs) (hn : hs.length ≤ 200) (hm : m < 18446744073709551616) (hpin : pin < 18446744073709551616) :
    Calls Try.prog 6 #[.int .i64 (log : Int), v, .int .u64 (m : Int), .int .u64 (pin : Int)] w fun e w' => e = .returned (.bool true) ∧ Below w.heap.size w w' := by
  obtain ⟨ad, cap, rfl, hrow⟩ := hr
  have HR : Hid (HashRow w (.slice ad hs.length cap) hs) := ⟨ad, cap, rfl, hrow⟩
  clear hrow
  have b1 : ¬ (log : Int) < 0 := by omega
  have b2 : ¬ (16 : Int) < (log : Int) := by omega
  have b3 : ¬ (200 : Int) < (hs.length : Int) := by omega
  go_enter Try.func6, Try.ntmps6
  go_wp2_with fail
  refine (fill_any log _ hs w hl HR.out (by omega)).mono ?_
  rintro e w1 ⟨sb, F, rfl, hS, hF, hb⟩
  have HS := Lib.hid hS; clear hS
  have HF := Lib.hid hF; clear hF
  go_wp2_with fail
  refine (Pin_any HS.out pin hpin (by have : pinsL (fullL hs) pin = 0 := by unfold pinsL fullL; rw [List.getElem?_map]; cases hs[pin]? <;> rfl
                                      omega)).mono ?_
  rintro e w2 ⟨rfl, hS2, hF2⟩
  have hb2 : Below w.heap.size w w2 := hb.trans (hF2.toBelow HF.out hb.size)
  obtain ⟨E, hE⟩ : ∃ E, errL (fullL hs) pin = E := ⟨_, rfl⟩
  rw [hE]
  have HE := Lib.hid (((FullAs.full hs).err pin).symm.trans hE); clear hE hF2
  have HS2 := Lib.hid hS2; clear hS2
  go_wp2_with fail
  refine (Cut_any HS2.out m hm (by rw [((FullAs.full hs).pin pin).length]; omega)).mono ?_
  rintro e w3 ⟨rfl, hS3, hF3⟩
  have hb3 : Below w.heap.size w w3 := hb2.trans (hF3.toBelow HF.out hb2.size)
  have HC0 := Lib.hid (cutE_pin hs pin m)
  obtain ⟨C, hC⟩ : ∃ C, cutE (pinL (fullL hs) pin) m = C := ⟨_, rfl⟩
  have HL3 : Hid (cutL (pinL (fullL hs) pin) m = if C = 0 then (pinL (fullL hs) pin).take m else pinL (fullL hs) pin) := by unfold Hid cutL; rw [hC]
  rw [hC] at HC0 ⊢
  have HC := Lib.hid HC0.out; clear HC0 hC
  have HS3 := Lib.hid hS3; clear hS3 hF3
  have hwn : IntKind.u64.wrap (hs.length : Int) = (hs.length : Int) := by simp only [IntKind.wrap_u64]; omega
  go_upto_if 49 with (fail)
  go_cut [14] (fun s14 wx => s14 = .int .i64 (C : Int) ∧ wx = w3)
  case first =>
    by_cases h1 : hs.length < m
    · have h1' : (hs.length : Int) < (m : Int) := by omega
      have e := Lib.hid (show C = 31 by rw [HC.out, if_pos h1])
      go_wp2_with fail
      go_meet
      exact ⟨by rw [e.out]; rfl, rfl⟩
    · have h1' : ¬ (hs.length : Int) < (m : Int) := by omega
      by_cases h2 : pin < hs.length
      · have eE : E = 0 := by rw [← HE.out, if_pos h2]
        have eE' : ((E : Int) == 0) = true := by simp [eE]
        clear eE
        by_cases h3 : m ≤ pin
        · have h3' : (m : Int) ≤ (pin : Int) := by omega
          have e : C = 51 := by rw [HC.out, if_neg h1, if_pos ⟨h2, h3⟩]
          replace e := Lib.hid e
          go_wp2_with fail
          go_meet
          exact ⟨by rw [e.out]; rfl, rfl⟩
        · have h3' : ¬ (m : Int) ≤ (pin : Int) := by omega
          have e : C = 0 := by rw [HC.out, if_neg h1, if_neg (fun hh => h3 hh.2)]
          replace e := Lib.hid e
          go_wp2_with fail
          go_meet
          exact ⟨by rw [e.out]; rfl, rfl⟩
      · have eE : E = 31 := by rw [← HE.out, if_neg h2]
        have e : C = 0 := by rw [HC.out, if_neg h1, if_neg (fun hh => h2 hh.1)]
        replace e := Lib.hid e
        have eE' : ((E : Int) == 0) = false := by simp [eE]
        clear eE
        go_wp2_with fail
        go_meet
        exact ⟨by rw [e.out]; rfl, rfl⟩
  case rest =>
    obtain ⟨rfl, rfl⟩ := hcut
    go_upto_if 61 with (fail)
    go_cut [15] (fun _ wx => ∃ L3 F3, StoreL wx sb log L3 F3 ∧ FullAs L3 hs ∧ (∀ j, F3 j → w.heap.size ≤ j) ∧ Below w.heap.size w wx)
    case first =>
      by_cases hC0 : C = 0
      · have h1 : ¬ hs.length < m := fun hh => by rw [HC.out, if_pos hh] at hC0; cases hC0
        have hCb : ((C : Int) == 0) = true := by simp [hC0]
        obtain ⟨L2, hL2⟩ : ∃ L2, cutL (pinL (fullL hs) pin) m = L2 := ⟨_, rfl⟩
        have HF2 : Hid (FullAs L2 (hs.take m)) := by
          unfold Hid; rw [← hL2, HL3.out, if_pos hC0]; exact ((FullAs.full hs).pin pin).take m
        have HS4 : Hid (StoreL wc sb log L2 F) := by rw [← hL2]; exact HS3.out
        have hl2 : L2.length = m := by rw [HF2.out.length]; simp; omega
        have he2 : errL L2 m = 31 := by rw [HF2.out.err, if_neg (by simp; omega)]
        clear hL2 hC0
        go_wp2_with fail
        refine (Len_any HS4.out).mono ?_
        rintro e w4 ⟨rfl, rfl⟩
        rw [hl2]
        have HL2 := Lib.hid hl2; clear hl2
        go_wp2_with fail
        refine (Live_any HS4.out m hm).mono ?_
        rw [he2]
        rintro e w5 ⟨rfl, hb5⟩
        have hb5' : Below w.heap.size w w5 := hb3.trans (hb5.mono hb3.size)
        have HS5 := Lib.hid (HS4.out.below hb5)
        have HE2 := Lib.hid he2; clear he2
        go_wp2_with fail
        go_loopg [15] (hs.length - m) (fun g vp wr => ∃ i L' F', vp = .int .u64 (i : Nat) ∧ g + i = hs.length ∧ StoreL wr sb log L' F' ∧ FullAs L' (hs.take i) ∧ (∀ j, F' j → w.heap.size ≤ j) ∧ Below w.heap.size w wr)
        case atStart => exact ⟨m, L2, F, rfl, by omega, HS5.out, HF2.out, HF.out, hb5'⟩
        case round =>
          obtain ⟨i, L', F', rfl, hg, hS', hFu', hF', hb'⟩ := hrel
          have HG := Lib.hid hg; clear hg
          have HS' := Lib.hid hS'; clear hS'
          have HF' := Lib.hid hF'; clear hF'
          have HFu' := Lib.hid hFu'; clear hFu'
          by_cases hi : i < hs.length
          · have hi' : (i : Int) < (hs.length : Int) := by omega
            obtain ⟨h, hh⟩ : ∃ h, hs[i]? = some h := ⟨hs[i], List.getElem?_eq_getElem hi⟩
            obtain ⟨ad2, cap2, e2, hrow⟩ := HR.out.below hb'
            obtain ⟨b, o, e3, hrw⟩ := hrow i h hh
            obtain ⟨rfl, rfl⟩ : ad2 = ad ∧ cap2 = cap := by simp at e2; exact ⟨e2.1.symm, e2.2.symm⟩
            have HH := Lib.hid hh; clear hh hrow e2
            subst e3
            have hlen : L'.length = i := by rw [HFu'.out.length]; simp; omega
            go_wp2_with fail
            refine (Push_any HS'.out h (by rw [hlen]; omega)).mono ?_
            rintro e w6 ⟨rfl, F2, hS6, hT6⟩
            have HF6 : Hid (∀ j, F2 j → w.heap.size ≤ j) := fun j hj => (hT6.1 j hj).elim (HF'.out j) (fun h => Nat.le_trans hb'.size h)
            have hb6 : Below w.heap.size w w6 := hb'.trans (hT6.2.toBelow HF'.out hb'.size)
            have HS6 := Lib.hid hS6; clear hS6 hT6
            rw [hlen]
            clear hlen
            have hwi : IntKind.u64.wrap ((i : Int) + 1) = (i : Int) + 1 := by simp only [IntKind.wrap_u64]; omega
            go_wp2_with fail
            go_roundg (gk - 1)
            case measure => have := HG.out; omega
            case rel =>
              refine ⟨i + 1, _, F2, by simp, by have := HG.out; omega, HS6.out, ?_, HF6.out, hb6⟩
              have e : hs.take (i + 1) = hs.take i ++ [h] := by rw [List.take_add_one, HH.out]; rfl
              rw [e]; exact HFu'.out.push h
          · have hi' : ¬ (i : Int) < (hs.length : Int) := by omega
            have e := Lib.hid (show i = hs.length by have := HG.out; omega)
            go_wp2_with fail
            go_meet
            refine ⟨L', F', HS'.out, ?_, HF'.out, hb'⟩
            have := HFu'.out
            rw [e.out, List.take_length] at this; exact this
      · have hC0' : ¬ (C : Int) = 0 := by omega
        go_wp2_with fail
        go_meet
        refine ⟨_, F, HS3.out, ?_, HF.out, hb3⟩
        rw [HL3.out, if_neg hC0]; exact (FullAs.full hs).pin pin
    case rest =>
      obtain ⟨L3, F3, hS4, hFu, hF4, hb4⟩ := hcut
      have HS4 := Lib.hid hS4; clear hS4
      have HFu := Lib.hid hFu; clear hFu
      have HF4 := Lib.hid hF4; clear hF4
      have hgt : Try.prog.eqGuardType Try.prog.depth 30 = false := by kernel_rfl
      go_wp2_with fail
      go_loopg [16] (hs.length) (fun g vp wr => ∃ i, vp = .int .u64 (i : Nat) ∧ g + i = hs.length ∧ StoreL wr sb log L3 F3 ∧ Below w.heap.size w wr)
      case atStart => exact ⟨0, rfl, by simp, HS4.out, hb4⟩
      case round =>
        obtain ⟨i, rfl, hg, hS', hb'⟩ := hrel
        have HG := Lib.hid hg; clear hg
        have HS' := Lib.hid hS'; clear hS'
        by_cases hi : i < hs.length
        · have hi' : (i : Int) < (hs.length : Int) := by omega
          obtain ⟨h, hh⟩ : ∃ h, hs[i]? = some h := ⟨hs[i], List.getElem?_eq_getElem hi⟩
          have e1 : hashL L3 i = h := HFu.out.hash hh
          have e2 : errL L3 i = 0 := by rw [HFu.out.err, if_pos hi]
          go_wp2_with fail
          refine (Get_any HS'.out i (by omega)).mono ?_
          rw [e1, e2]
          rintro e w6 ⟨rfl, hb6⟩
          clear e1 e2
          have hb6' : Below w.heap.size w w6 := hb'.trans (hb6.mono hb'.size)
          have HS6 := Lib.hid (HS'.out.below hb6)
          go_wp2_with fail
          refine wp_name fun W7 HW7 => ?_
          have hb7 : Below w.heap.size w W7 := by rw [HW7.out]; exact below_putRow (hb6'.alloc hb6'.size _) hb6'.size _
          have hb7' : Below w6.heap.size w6 W7 := by rw [HW7.out]; exact below_putRow ((Below.refl _ w6).alloc (Nat.le_refl _) _) (Nat.le_refl _) _
          have HS7 := Lib.hid (HS6.out.below hb7')
          have hrx : rowAt W7 ⟨w6.heap.size, 0, none⟩ 32 = some (encH h) := by
            rw [HW7.out]; exact rowAt_putRow_same (hb_new w6 _) (size_encH _) (size_encH _)
          obtain ⟨ad2, cap2, e2, hrow⟩ := HR.out.below hb7
          obtain ⟨b, o, e3, hrw⟩ := hrow i h hh
          obtain ⟨rfl, rfl⟩ : ad2 = ad ∧ cap2 = cap := by simp at e2; exact ⟨e2.1.symm, e2.2.symm⟩
          have HH := Lib.hid hh; clear hh hrow e2
          subst e3
          have hwi : IntKind.u64.wrap ((i : Int) + 1) = (i : Int) + 1 := by simp only [IntKind.wrap_u64]; omega
          go_quiet (fail)
          go_wp2_with fail
          go_roundg (gk - 1)
          case measure => have := HG.out; omega
          case rel => exact ⟨i + 1, by simp, by have := HG.out; omega, HS7.out.kept (Nat.le_refl _) (fun _ _ => rfl), ⟨hb7.os, hb7.tape, hb7.output, hb7.size, hb7.block⟩⟩
        · have hi' : ¬ (i : Int) < (hs.length : Int) := by omega
          have el := HFu.out.length
          have ec := HFu.out.count
          go_wp2_with fail
          refine (Len_any HS'.out).mono ?_
          rintro e w6 ⟨rfl, rfl⟩
          rw [el]; clear el
          go_wp2_with fail
          refine (Alive_any HS'.out).mono ?_
          rintro e w6 ⟨rfl, rfl⟩
          rw [ec]; clear ec
          go_wp2_with fail
          refine (awake_any _).mono ?_
          rintro e w7 ⟨rfl, hb7⟩
          go_wp2_with fail
          go_ret
          exact ⟨rfl, hb'.trans (hb7.mono hb'.size)⟩
theorem StoreCuts_out (x : Int) (ad : Option Addr) (len cap : Nat) (m pin : Int) (w : World) (h : x < 0 ∨ 16 < x ∨ 200 < len) (hl : len ≤ 9223372036854775807) (hx1 : -9223372036854775808 ≤ x) (hx2 : x ≤ 9223372036854775807) :
    Calls Try.prog 6 #[.int .i64 x, .slice ad len cap, .int .u64 m, .int .u64 pin] w fun e w' => e = .returned (.bool true) ∧ w = w' := by
  by_cases h0 : x < 0
  · go_enter Try.func6, Try.ntmps6
    go_wp2
    go_ret
    exact ⟨rfl, rfl⟩
  · by_cases h1 : 16 < x
    · go_enter Try.func6, Try.ntmps6
      go_wp2
      go_ret
      exact ⟨rfl, rfl⟩
    · have h2 : (200 : Int) < (len : Int) := by omega
      go_enter Try.func6, Try.ntmps6
      go_wp2
      go_ret
      exact ⟨rfl, rfl⟩
end Go.Proofs.Ytoigddekipjkcaa
