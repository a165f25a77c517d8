/- massiflaw22.FindParts: the walk. -/
import Derived.Test.YtoigddekipjkcaaFMet
namespace Go.Proofs.Ytoigddekipjkcaa
set_option linter.all false
open Go Go.RowKit Go.Proofs Go.Maps
open Go.ChangeMaps (setBlock)
theorem HashRow.at {w : World} {ad : Option Addr} {n cap : Nat} {hs : List HB} (h : HashRow w (.slice ad n cap) hs) {i : Nat} {x : HB} (hx : hs[i]? = some x) : ∃ b o, ad = some ⟨b, o, none⟩ ∧ rowAt w ⟨b, o + i * 32, none⟩ 32 = some (encH x) := by
  obtain ⟨ad2, cap2, e, hr⟩ := h
  obtain ⟨b, o, e2, hrow⟩ := hr i x hx
  simp at e
  exact ⟨b, o, by rw [e.1]; exact e2, hrow⟩
set_option maxRecDepth 100000 in
set_option maxHeartbeats 4000000 in
theorem FindParts_good (v : Value) (hs : List HB) (n : Nat) (w : World) (hr : HashRow w v hs) (hlm : hs.length ≤ maxLen) (hn : n < 18446744073709551616) :
    Calls Try.prog 4 #[v, .int .u64 (n : Int)] w fun e w' => e = .returned (.bool true) ∧ Below w.heap.size w w' := by
  have hr' := hr
  obtain ⟨ad, cap, rfl, _⟩ := hr'
  have HR := Lib.hid hr; clear hr
  by_cases hl : 200 < hs.length
  · have hl' : (200 : Int) < (hs.length : Int) := by omega
    go_enter Try.func4, Try.ntmps4
    go_wp2_with fail
    go_ret
    exact ⟨rfl, Below.refl _ _⟩
  have hl' : ¬ (200 : Int) < (hs.length : Int) := by omega
  have hL : hs.length ≤ 200 := by omega
  clear hl hlm
  have hL5 : hs.length ≤ 1000000 := by omega
  go_enter Try.func4, Try.ntmps4
  go_wp2_with fail
  refine (FNew_any w).mono ?_
  rintro e w1 ⟨fb, F1, rfl, hS, hF, hb1⟩
  have HS1 := Lib.hid hS; clear hS
  have HF1 := Lib.hid hF; clear hF
  go_wp2_with fail
  go_loopg [6] (hs.length) (fun g vi wr => ∃ i F, vi = .int .i64 (i : Nat) ∧ g + i = hs.length ∧ FindAt wr fb (hs.take i) F ∧ (∀ j, F j → w.heap.size ≤ j) ∧ Below w.heap.size w wr)
  case atStart => exact ⟨0, F1, rfl, by simp, HS1.out, HF1.out, hb1⟩
  case round =>
    obtain ⟨i, F, rfl, hg, hS, hF, hb⟩ := hrel
    have HG := Lib.hid hg; clear hg
    have HS := Lib.hid hS; clear hS
    have HF := Lib.hid hF; clear hF
    by_cases hi : i < hs.length
    · have hi' : (i : Int) < (hs.length : Int) := by omega
      obtain ⟨y, hy⟩ : ∃ y, hs[i]? = some y := ⟨hs[i], List.getElem?_eq_getElem hi⟩
      obtain ⟨b, o, rfl, hrw⟩ := (HR.out.below hb).at hy
      have HY := Lib.hid hy; clear hy
      have hlen : (hs.take i).length = i := by rw [List.length_take]; omega
      go_wp2_with fail
      refine (FAdd_any HS.out (by omega) y).mono ?_
      rintro e w2 ⟨rfl, F2, hS2, hT2⟩
      have HF2 : Hid (∀ j, F2 j → w.heap.size ≤ j) := fun j hj => (hT2.1 j hj).elim (HF.out j) (fun h => Nat.le_trans hb.size h)
      have hb2 : Below w.heap.size w w2 := hb.trans (hT2.2.toBelow HF.out hb.size)
      have HS2 := Lib.hid hS2; clear hS2 hT2
      go_wp2_with fail
      go_roundg (gk - 1)
      case measure => have := HG.out; omega
      case rel => exact ⟨i + 1, F2, by simp, by have := HG.out; omega, by rw [take_snoc HY.out]; exact HS2.out, HF2.out, hb2⟩
    · have hi' : ¬ (i : Int) < (hs.length : Int) := by omega
      have HS' : Hid (FindAt wr fb hs F) := by
        have := HS.out
        rwa [List.take_of_length_le (by omega)] at this
      clear HS HG HS1 HF1 hb1
      obtain ⟨i0, hii, hz0, hz1, hz2⟩ := info_parts infoInt
      go_wp2_with (at_make; refine wpList_make_full _ rfl _ _ 45 rfl wr.heap.size 3 i0 (.int .i64 0) 1 Try.underlying45 hii hz0 hz1 _ _ _ _ hs.length rfl rfl rfl rfl (by rw [hz2]; omega) (by unfold maxLen; omega) (Nat.le_refl _) ?_; intro w3 ho3 hg3)
      obtain ⟨mb, hmb⟩ : ∃ mb, wr.heap.size = mb := ⟨_, rfl⟩
      have hbr3 : Below wr.heap.size wr w3 := ⟨hg3.os, hg3.tape, hg3.output, hg3.size, fun k hk => hg3.block k hk (by simp)⟩
      have HM3 := Lib.hid (MetAt.made ho3)
      have HS3 := Lib.hid (HS'.out.below hbr3)
      have HB3 : Hid (Below w.heap.size w w3) := hb.trans (hbr3.mono hb.size)
      have HFM : Hid (∀ j, F j → j ≠ wr.heap.size) := fun j hj e => by have := HS'.out.lt j hj; omega
      have HMB : Hid (w.heap.size ≤ wr.heap.size) := hb.size
      have hmlt : wr.heap.size < w3.heap.size := by obtain ⟨cur, h, _⟩ := HM3.out; exact hb_lt h
      clear ho3 hg3 hbr3 hb HS' hi hi'
      rw [hmb] at HM3 HFM HMB hmlt
      rw [hmb]
      clear hmb
      go_loopg [8, 9] (hs.length) (fun g vn vi wx => ∃ (i n2 : Nat), vi = .int .i64 (i : Nat) ∧ vn = .int .i64 (n2 : Nat) ∧ g + i = hs.length ∧ (firsts (hs.take i)).length = n2 ∧ MetAt wx mb hs.length (metF hs i) ∧ Fr (fun j => j = mb) w3 wx)
      case atStart => exact ⟨0, 0, rfl, rfl, by simp, rfl, HM3.out.eq (fun p _ => (metF_zero p).symm), Fr.refl _ _⟩
      case round =>
        obtain ⟨i, n2, rfl, rfl, hg, hn2, hmet, hfr⟩ := hrel
        have HG := Lib.hid hg; clear hg
        have hbx : Below w.heap.size w wr := HB3.out.trans (hfr.toBelow (fun j e => by rw [e]; exact HMB.out) HB3.out.size)
        have HSX := Lib.hid (HS3.out.fr hfr HFM.out)
        have hnl : n2 ≤ i := by have := firsts_length (hs.take i); rw [hn2, List.length_take] at this; omega
        have HN := Lib.hid hn2; clear hn2
        have HMT := Lib.hid hmet; clear hmet
        have hmx : mb < wr.heap.size := Nat.lt_of_lt_of_le hmlt hfr.size
        by_cases hi : i < hs.length
        · have hi' : (i : Int) < (hs.length : Int) := by omega
          obtain ⟨y, hy⟩ : ∃ y, hs[i]? = some y := ⟨hs[i], List.getElem?_eq_getElem hi⟩
          obtain ⟨b, o, rfl, hrw⟩ := (HR.out.below hbx).at hy
          obtain ⟨j, r, hidx, hji, hjd, hjv⟩ := at_leaf hL5 hy
          have HY := Lib.hid hy; clear hy
          have HFR := Lib.hid hfr; clear hfr
          have HBX := Lib.hid hbx; clear hbx
          have hwi : IntKind.u64.wrap (i : Int) = (i : Int) := by simp only [IntKind.wrap_u64]; omega
          go_wp2_with fail
          refine (FAt_any HSX.out hL5 y).mono ?_
          rintro e wA ⟨vA, rfl, hu, hbA⟩
          obtain ⟨ad6, cap6, rfl, hu6⟩ := NumRow.of_own hu
          obtain ⟨b6, o6, rfl, c60⟩ := hu6 0 (mk64 j) (by rw [hidx]; rfl)
          have hb6 : wr.heap.size ≤ b6 := (ownsRow_lt hu rfl).2
          rw [hjv] at c60
          have c60' : wA.cell? ⟨b6, o6, none⟩ = some (.int .u64 (j : Int)) := c60
          have HU6 : Hid (∀ k q, (idx hs y)[k]? = some q → wA.cell? ⟨b6, o6 + k, none⟩ = some (.int .u64 (q.1 : Int))) := fun k q hk => by
            obtain ⟨b', o', e, hc⟩ := hu6 k q hk
            simp at e
            obtain ⟨rfl, rfl⟩ := e
            exact hc
          obtain ⟨m, hm⟩ : ∃ m, (idx hs y).length = m := ⟨_, rfl⟩
          have hm0 : 0 < m := by rw [← hm, hidx]; simp
          have hml : m ≤ 200 := by have := idx_length hs y; omega
          have hmi : ¬ ((m : Int) = 0) := by omega
          have hmi2 : ((m : Int) == 0) = false := by simpa using hmi
          have HFI : Hid (fi hs y = j) := by unfold Hid; rw [fi_cons hidx, hjv]
          rw [hm]
          have HMM := Lib.hid hm
          have HMA := Lib.hid (HMT.out.same (hbA.block mb hmx))
          have HSA := Lib.hid (HSX.out.below hbA)
          have HBA : Hid (Below w.heap.size w wA) := HBX.out.trans (hbA.mono HBX.out.size)
          have HFA : Hid (Fr (fun j => j = mb) w3 wA) := HFR.out.trans (Fr.of_below hbA) (fun _ h => h) (fun _ _ h => h)
          have hsA := hbA.size
          have hst : firsts (hs.take (i + 1)) = if y ∈ hs.take i then firsts (hs.take i) else firsts (hs.take i) ++ [y] := by
            rw [take_snoc HY.out, firsts_snoc]
            simp only [mem_firsts]
          have HJ := Lib.hid hjd; clear hjd hu hu6 hbA hm c60 hrw hidx
          by_cases hf : y ∈ hs.take i
          · have hje : ¬ ((j : Int) = (i : Int)) := by have := HJ.out; unfold headIs at this; rw [decide_eq_decide] at this; exact fun e => this.1 e hf
            have hje2 : ((j : Int) == (i : Int)) = false := by simpa using hje
            have HST := Lib.hid (show (firsts (hs.take (i + 1))).length = n2 by rw [hst, if_pos hf]; exact HN.out)
            clear hst
            go_wp2_with fail
            go_roundg (hs.length - (i + 1))
            case measure => have := HG.out; omega
            case rel => exact ⟨i + 1, n2, by simp, rfl, by omega, HST.out, HMA.out.eq (fun p _ => (metF_skip hL5 HY.out (by rw [HFI.out]; omega) p).symm), HFA.out⟩
          · have hje : (j : Int) = (i : Int) := by have := HJ.out; unfold headIs at this; rw [decide_eq_decide] at this; exact this.2 hf
            obtain rfl : j = i := by omega
            have hje2 : ((j : Int) == (j : Int)) = true := by simp
            have HST := Lib.hid (show (firsts (hs.take (j + 1))).length = n2 + 1 by rw [hst, if_neg hf]; simp [HN.out])
            clear hst
            go_wp2_with fail
            go_loopg [11] (m) (fun g vk wy => ∃ k, vk = .int .i64 (k : Nat) ∧ g + k = m ∧ MetAt wy mb hs.length (metG hs j y k) ∧ Fr (fun q => q = mb) wA wy)
            case atStart => exact ⟨0, rfl, by simp, HMA.out.eq (fun p _ => (metG_zero p).symm), Fr.refl _ _⟩
            case round =>
              obtain ⟨k, rfl, hgk, hmg, hfy⟩ := hrel
              have HGK := Lib.hid hgk; clear hgk
              have HMG := Lib.hid hmg; clear hmg
              have HFY := Lib.hid hfy; clear hfy
              by_cases hk : k < m
              · have hk' : (k : Int) < (m : Int) := by omega
                have hkl : k < (idx hs y).length := by rw [HMM.out]; exact hk
                obtain ⟨p, hp, hpe⟩ := mem_idx.1 (List.getElem_mem hkl)
                have hik : (idx hs y)[k]? = some (mk64 p) := by rw [List.getElem?_eq_getElem hkl, hpe]
                have hpl : p < hs.length := (List.getElem?_eq_some_iff.1 hp).1
                have hpl' : (p : Int) < (hs.length : Int) := by omega
                have hpl2 : ¬ ((hs.length : Int) ≤ (p : Int)) := by omega
                have hlw : IntKind.u64.wrap (hs.length : Int) = (hs.length : Int) := by simp only [IntKind.wrap_u64]; omega
                have hcq := HU6.out k (mk64 p) hik
                rw [mk64_val (by omega)] at hcq
                have hcy : wr.cell? ⟨b6, o6 + k, none⟩ = some (.int .u64 (p : Int)) := (cell_block (a := ⟨b6, o6 + k, none⟩) (HFY.out.block b6 (cell_lt hcq) (by omega))).trans hcq
                have hby : Below w.heap.size w wr := HBA.out.trans (HFY.out.toBelow (fun j e => by rw [e]; exact HMB.out) HBA.out.size)
                obtain ⟨b1, o1, e1, hr1⟩ := (HR.out.below hby).at HY.out
                obtain ⟨b2, o2, e2, hr2⟩ := (HR.out.below hby).at hp
                simp at e1 e2
                obtain ⟨rfl, rfl⟩ := e1
                obtain ⟨rfl, rfl⟩ := e2
                obtain ⟨hcm, hfm⟩ := HMG.out.cell hpl
                have hg0 : metG hs j y k p = 0 := metG_here hL5 HFI.out hik hp
                rw [hg0] at hcm
                have HSTEP := Lib.hid (fun q hq => metG_step hL5 HFI.out hik hp q hq)
                have heq : ∀ W, (binOp .neq 30 (.agg (encH y)) (.agg (encH y))).run Try.prog W = .ok (.bool false) W := fun W => by rw [neq_H]; simp
                have hgd := guard_H
                have HBY := Lib.hid hby; clear hby hik hp hpe hcq
                go_wp2_with fail
                refine wp_name fun W7 HW7 => ?_
                have e7 := HW7.out
                subst e7
                clear HW7
                have hd1 : decide (hs.length ≤ p) = false := decide_eq_false (by omega)
                have hd2 : decide ((hs.length : Int) ≤ (p : Int)) = false := decide_eq_false (by omega)
                refine wp_region_calm (C := fun w' => ∃ k, w' = W7.drewN k) (by kernel_rfl) (by kernel_rfl) ⟨1, rfl⟩ ?_
                repeat (go_big_quiet_step (fail))
                refine wpQuiet_nil ?_
                rintro w8 ⟨nq, rfl⟩
                go_wp2_with fail
                go_roundg (m - (k + 1))
                case measure => have := HGK.out; omega
                case rel =>
                  refine ⟨k + 1, by simp, by omega, ?_, ?_⟩
                  · refine MetAt.eq (MetAt.put (w := W7.drewN nq) (HMG.out.same rfl) hpl 1) (fun q hq => ?_)
                    rw [HSTEP.out q hq]
                  · exact (HFY.out.drewN nq).setCell _ _ (fun _ => rfl)
              · have hk' : ¬ (k : Int) < (m : Int) := by omega
                go_wp2_with fail
                go_roundg (hs.length - (j + 1))
                case measure => have := HG.out; omega
                case rel => exact ⟨j + 1, n2 + 1, by simp, by simp, by omega, HST.out, HMG.out.eq (fun p _ => metG_all hL5 HY.out HFI.out (by rw [HMM.out]; omega) p), HFA.out.trans HFY.out (fun _ h => h) (fun _ _ h => h)⟩
        · have hi' : ¬ (i : Int) < (hs.length : Int) := by omega
          have HMX : Hid (MetAt wr mb hs.length (fun _ => 1)) := HMT.out.eq (fun p hp => by rw [show i = hs.length by have := HG.out; omega]; exact metF_full hL5 hp)
          have hn2 : n2 = (firsts hs).length := by
            have := HN.out
            rw [List.take_of_length_le (by omega)] at this
            exact this.symm
          subst hn2
          clear HG HN HMT
          obtain ⟨kd, hkd⟩ : ∃ kd, (firsts hs).length = kd := ⟨_, rfl⟩
          have HKD := Lib.hid hkd
          rw [hkd] at hnl ⊢
          clear hkd
          have HBX := Lib.hid hbx; clear hbx hfr
          go_wp2_with fail
          go_loopg [12] (hs.length) (fun g vk wz => ∃ i, vk = .int .i64 (i : Nat) ∧ g + i = hs.length ∧ wz = wr)
          case atStart => exact ⟨0, rfl, by simp, rfl⟩
          case round =>
            obtain ⟨q, rfl, hgq, rfl⟩ := hrel
            have HGQ := Lib.hid hgq; clear hgq
            by_cases hq : q < hs.length
            · have hq' : (q : Int) < (hs.length : Int) := by omega
              obtain ⟨hcm, _⟩ := HMX.out.cell hq
              go_wp2_with fail
              go_roundg (gk - 1)
              case measure => have := HGQ.out; omega
              case rel => exact ⟨q + 1, by simp, by have := HGQ.out; omega, rfl⟩
            · have hq' : ¬ (q : Int) < (hs.length : Int) := by omega
              go_wp2_with fail
              refine (FUnlike_any HSX.out).mono ?_
              rintro e w9 ⟨rfl, rfl⟩
              rw [HKD.out]
              have hlw : IntKind.u64.wrap (hs.length : Int) = (hs.length : Int) := by simp only [IntKind.wrap_u64]; omega
              by_cases hgt : hs.length < n
              · have hgt' : (hs.length : Int) < (n : Int) := by omega
                have E1 : fcutE hs n = 30 := by unfold fcutE; rw [if_pos hgt]
                have E2 : fcutL hs n = hs := by unfold fcutL; rw [if_pos hgt]
                go_wp2_with fail
                refine (FCut_any HSX.out hL5 n hn).mono ?_
                rw [E1, E2]
                rintro e w10 ⟨rfl, hS10, hf10⟩
                have HS10 := Lib.hid hS10
                have hb10 : Below w.heap.size w w10 := HBX.out.trans (hf10.toBelow HF.out HBX.out.size)
                clear hS10 hf10
                go_wp2_with fail
                refine (FSize_any HS10.out hL5).mono ?_
                rintro e w11 ⟨rfl, rfl⟩
                go_wp2_with fail
                refine (fawake_any _).mono ?_
                rintro e w12 ⟨rfl, hb12⟩
                go_wp2_with fail
                go_ret
                exact ⟨rfl, hb10.trans (hb12.mono hb10.size)⟩
              · have hgt' : ¬ (hs.length : Int) < (n : Int) := by omega
                have E1 : fcutE hs n = 0 := by unfold fcutE; rw [if_neg hgt]
                have E2 : fcutL hs n = hs.take n := by unfold fcutL; rw [if_neg hgt]
                go_wp2_with fail
                refine (FCut_any HSX.out hL5 n hn).mono ?_
                rw [E1, E2]
                rintro e w10 ⟨rfl, hS10, hf10⟩
                have HS10 := Lib.hid hS10
                have hb10 : Below w.heap.size w w10 := HBX.out.trans (hf10.toBelow HF.out HBX.out.size)
                clear hS10 hf10
                have hlen : (hs.take n).length = n := by rw [List.length_take]; omega
                go_wp2_with fail
                refine (FSize_any HS10.out (by omega)).mono ?_
                rw [hlen]
                rintro e w11 ⟨rfl, rfl⟩
                go_wp2_with fail
                go_loopg [13] (hs.length - n) (fun g vi wz => ∃ i Fz, vi = .int .u64 (i : Nat) ∧ g + i = hs.length ∧ n ≤ i ∧ FindAt wz fb (hs.take i) Fz ∧ (∀ j, Fz j → w.heap.size ≤ j) ∧ Below w.heap.size w wz)
                case atStart => exact ⟨n, F, rfl, by omega, Nat.le_refl _, HS10.out, HF.out, hb10⟩
                case round =>
                  obtain ⟨c, Fz, rfl, hgc, hnc, hSz, hFz, hbz⟩ := hrel
                  have HGC := Lib.hid hgc; clear hgc
                  have HSZ := Lib.hid hSz; clear hSz
                  have HFZ := Lib.hid hFz; clear hFz
                  by_cases hc : c < hs.length
                  · have hc' : (c : Int) < (hs.length : Int) := by omega
                    obtain ⟨y, hy⟩ : ∃ y, hs[c]? = some y := ⟨hs[c], List.getElem?_eq_getElem hc⟩
                    have hlc : (hs.take c).length = c := by rw [List.length_take]; omega
                    have hwc : IntKind.u64.wrap ((c : Int) + 1) = (c : Int) + 1 := by simp only [IntKind.wrap_u64]; omega
                    obtain ⟨el1, el2⟩ := leaf_out (L := hs.take c) (i := c) (by omega)
                    go_wp2_with fail
                    refine (FLeaf_any HSZ.out (by omega) c (by omega)).mono ?_
                    rw [el1, el2]
                    rintro e w13 ⟨rfl, hb13⟩
                    have hbw13 : Below w.heap.size w w13 := hbz.trans (hb13.mono hbz.size)
                    have HS13 := Lib.hid (HSZ.out.below hb13)
                    clear hb13 el1 el2
                    go_upto_region 41 with fail
                    refine wp_name fun W14 HW14 => ?_
                    have hb14 : Below w13.heap.size w13 W14 := by rw [HW14.out]; exact below_putRow ((Below.refl _ _).alloc (Nat.le_refl _) _) (Nat.le_refl _) _
                    have hbw14 : Below w.heap.size w W14 := hbw13.trans (hb14.mono hbw13.size)
                    have HS14 := Lib.hid (HS13.out.below hb14)
                    clear HW14 hb14
                    obtain ⟨b, o, e1, hrw⟩ := (HR.out.below hbw14).at hy
                    subst e1
                    have HY := Lib.hid hy; clear hy
                    go_wp2_with fail
                    refine (FAdd_any HS14.out (by omega) y).mono ?_
                    rw [hlc]
                    rintro e w15 ⟨rfl, F15, hS15, hT15⟩
                    have HF15 : Hid (∀ j, F15 j → w.heap.size ≤ j) := fun j hj => (hT15.1 j hj).elim (HFZ.out j) (fun h => Nat.le_trans hbw14.size h)
                    have hbw15 : Below w.heap.size w w15 := hbw14.trans (hT15.2.toBelow HFZ.out hbw14.size)
                    have HS15 := Lib.hid hS15; clear hS15 hT15
                    go_wp2_with fail
                    go_roundg (gk - 1)
                    case measure => have := HGC.out; omega
                    case rel => exact ⟨c + 1, F15, by simp, by have := HGC.out; omega, by omega, by rw [take_snoc HY.out]; exact HS15.out, HF15.out, hbw15⟩
                  · have hc' : ¬ (c : Int) < (hs.length : Int) := by omega
                    have HSE : Hid (FindAt wr fb hs Fz) := by
                      have := HSZ.out
                      rwa [List.take_of_length_le (by omega)] at this
                    clear HSZ
                    go_wp2_with fail
                    refine (FUnlike_any HSE.out).mono ?_
                    rw [HKD.out]
                    rintro e w16 ⟨rfl, rfl⟩
                    go_wp2_with fail
                    refine (fawake_any _).mono ?_
                    rintro e w17 ⟨rfl, hb17⟩
                    go_wp2_with fail
                    go_ret
                    exact ⟨rfl, hbz.trans (hb17.mono hbz.size)⟩
end Go.Proofs.Ytoigddekipjkcaa
