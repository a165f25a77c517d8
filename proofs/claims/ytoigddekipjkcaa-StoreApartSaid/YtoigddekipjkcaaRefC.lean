/- massifref5.Store.Chunks, Sweep, Cut, Push, New. -/
import Derived.Deep.RegionLaw
import Derived.Deep.DeepCutAuto
import Derived.Test.YtoigddekipjkcaaRefL
import Derived.Test.YtoigddekipjkcaaLawSweeps
namespace Go.Proofs.Ytoigddekipjkcaa
set_option linter.all false
open Go Go.RowKit Go.Proofs Go.Maps
section
variable {w : World} {rb log : Nat} {L : List NL} {G : Nat → Prop}
def lastI (o : Option Nat) : Int := match o with | none => -1 | some k => (k : Int)
set_option maxRecDepth 100000 in
theorem RChunks_any (h : RefAt w rb log L G) (hl : log ≤ 16) (hL : L.length ≤ 1000000) : Calls Try.prog 77 #[.pointer (some ⟨rb, 0, none⟩)] w fun e w' => e = .returned (.int .i64 ((ccL L (2 ^ log) L.length).1 : Int)) ∧ w = w' := by
  obtain ⟨ad, cap, c1, _, c0⟩ := h.slice
  have H := Lib.hid h; clear h
  go_enter Try.func77, Try.ntmps77
  go_wp2_with fail
  go_loopg [5, 6] (log) (fun g vw vi wr => ∃ i, vi = .int .i64 (i : Nat) ∧ g + i = log ∧ vw = .int .i64 ((2 ^ i : Nat) : Int) ∧ wr = w)
  case atStart => exact ⟨0, rfl, by simp, rfl, rfl⟩
  case round =>
    obtain ⟨i, rfl, hg, rfl, rfl⟩ := hrel
    have hpw : 2 ^ i ≤ 65536 := pow_le_16 (by omega)
    have HG := Lib.hid hg; clear hg
    obtain ⟨wd, hwd⟩ : ∃ wd, 2 ^ i = wd := ⟨_, rfl⟩
    have hwp : 0 < wd := by rw [← hwd]; exact pow_pos_16 i
    rw [hwd] at hpw ⊢
    have HWD := Lib.hid hwd; clear hwd
    by_cases hi : i < log
    · have hi' : (i : Int) < (log : Int) := by omega
      go_wp2_with fail
      go_roundg (gk - 1)
      case measure => have := HG.out; omega
      case rel => exact ⟨i + 1, by simp, by have := HG.out; omega, by rw [Nat.pow_succ, HWD.out]; simp; omega, rfl⟩
    · have hi' : ¬ (i : Int) < (log : Int) := by omega
      have HE := Lib.hid (show i = log by have := HG.out; omega)
      obtain ⟨gko, hgk⟩ : ∃ x, x = gk := ⟨_, rfl⟩
      subst hgk
      obtain ⟨io, hio⟩ : ∃ x, x = i := ⟨_, rfl⟩
      subst hio
      go_wp2_with fail
      obtain ⟨wo, hwo⟩ : ∃ x, x = wr := ⟨_, rfl⟩
      subst hwo
      go_loopg [3, 4, 7] (L.length) (fun g vc vl vi wr => ∃ i, vi = .int .i64 (i : Nat) ∧ g + i = L.length ∧ vc = .int .i64 ((ccL L wd i).1 : Int) ∧ vl = .int .i64 (lastI (ccL L wd i).2) ∧ wr = wo)
      case atStart => exact ⟨0, rfl, by simp, rfl, rfl, rfl⟩
      case round =>
        obtain ⟨i, rfl, hg, rfl, rfl, rfl⟩ := hrel
        have HG2 := Lib.hid hg; clear hg
        obtain ⟨cc, hcc⟩ : ∃ c, (ccL L wd i).1 = c := ⟨_, rfl⟩
        obtain ⟨cl, hcl⟩ : ∃ c, (ccL L wd i).2 = c := ⟨_, rfl⟩
        have hccb : cc ≤ i := by rw [← hcc]; exact ccL_le L wd i
        rw [hcc, hcl]
        obtain ⟨lv, hlv⟩ : ∃ x, lastI cl = x := ⟨_, rfl⟩
        rw [hlv]
        have HCC := Lib.hid hcc; clear hcc
        have HCL := Lib.hid hcl; clear hcl
        have HLN := Lib.hid hlv; clear hlv
        by_cases hi2 : i < L.length
        · have hi3 : (i : Int) < (L.length : Int) := by omega
          obtain ⟨⟨x, k⟩, hx⟩ : ∃ x, L[i]? = some x := ⟨L[i], List.getElem?_eq_getElem hi2⟩
          obtain ⟨g, cap2, cur, N⟩ := H.out.node hx
          have e1 := c1.symm.trans (cell_of N.own)
          obtain ⟨rfl, rfl⟩ : ad = some ⟨g, 0, none⟩ ∧ cap = cap2 := by simp at e1; exact e1
          have hlv := N.live
          have HX := Lib.hid hx
          clear N e1 hx
          cases x with
          | none =>
            have HLV : Hid (liveAt L i = false) := by unfold Hid liveAt; rw [HX.out]; rfl
            go_wp2_with fail
            go_roundg (gk - 1)
            case measure => have := HG2.out; omega
            case rel =>
              have e : ccL L wd (i + 1) = ccL L wd i := by show (if _ then _ else _) = _; rw [if_neg (fun hh => by rw [HLV.out] at hh; cases hh.1)]
              exact ⟨i + 1, by simp, by have := HG2.out; omega, by rw [e, HCC.out], by rw [e, HCL.out, HLN.out], rfl⟩
          | some y =>
            have HLV : Hid (liveAt L i = true) := by unfold Hid liveAt; rw [HX.out]; rfl
            obtain ⟨qv, hqv⟩ : ∃ q, i / wd = q := ⟨_, rfl⟩
            have hq1 : qv ≤ i := by rw [← hqv]; exact Nat.div_le_self _ _
            have hq : (i : Int) / (wd : Int) = (qv : Int) := by rw [← hqv, ← Int.natCast_ediv]
            have HQ := Lib.hid hqv; clear hqv
            by_cases hqe : (qv : Int) = lv
            · have hqb : ((qv : Int) != lv) = false := by simp [hqe]
              have HQE := Lib.hid hqe; clear hqe
              go_wp2_with fail
              go_roundg (gk - 1)
              case measure => have := HG2.out; omega
              case rel =>
                have hcs : cl = some qv := by
                  have h1 := HLN.out
                  cases hc : cl with
                  | none => rw [hc] at h1; simp [lastI] at h1; have := HQE.out; omega
                  | some c => rw [hc] at h1; simp [lastI] at h1; have := HQE.out; congr 1; omega
                have e : ccL L wd (i + 1) = ccL L wd i := by show (if _ then _ else _) = _; rw [if_neg (fun hh => by rw [HCL.out, hcs, HQ.out] at hh; exact hh.2 rfl)]
                exact ⟨i + 1, by simp, by have := HG2.out; omega, by rw [e, HCC.out], by rw [e, HCL.out, HLN.out], rfl⟩
            · have hqb : ((qv : Int) != lv) = true := by simp [hqe]
              have HQE := Lib.hid hqe; clear hqe
              go_wp2_with fail
              go_roundg (gk - 1)
              case measure => have := HG2.out; omega
              case rel =>
                have hcs : cl ≠ some qv := fun hc => by
                  have h1 := HLN.out
                  rw [hc] at h1; simp [lastI] at h1; exact HQE.out h1
                have e : ccL L wd (i + 1) = (cc + 1, some qv) := by
                  show (if _ then _ else _) = _; rw [if_pos ⟨HLV.out, by rw [HCL.out, HQ.out]; exact hcs⟩, HCC.out, HQ.out]
                exact ⟨i + 1, by simp, by have := HG2.out; omega, by rw [e]; simp, by rw [e]; simp [lastI], rfl⟩
        · have hi3 : ¬ (i : Int) < (L.length : Int) := by omega
          have e := Lib.hid (show i = L.length by have := HG2.out; omega)
          go_wp2_with fail
          go_ret
          refine ⟨?_, rfl⟩
          have := HCC.out
          rw [e.out, ← HWD.out, HE.out] at this
          rw [this]; rfl
theorem goes_inB (L : List NL) (ks : List U64) (i : Nat) (hi : i < 18446744073709551616) : goesBy L ks i = !(decide (0 < pinsL L i) || inB i ks) := by
  unfold goesBy
  have h1 : (cntAt ks (mk64 i) == 0) = !inB i ks := by
    rw [Bool.eq_iff_iff, beq_iff_eq, cntAt_zero, Bool.not_eq_true', ← Bool.not_eq_true, inB_iff]
    refine not_congr ?_
    constructor
    · intro h; have := List.mem_map_of_mem (f := (·.1)) h; rwa [mk64_val hi] at this
    · intro h
      obtain ⟨k, hk, e⟩ := List.mem_map.1 h
      have : mk64 i = k := Subtype.ext (by rw [mk64_val hi]; exact e.symm)
      rw [this]; exact hk
  rw [h1]
  have h2 : (pinsL L i == 0) = !decide (0 < pinsL L i) := by
    by_cases h : pinsL L i = 0
    · simp [h]
    · have : 0 < pinsL L i := by omega
      simp [this, h]
  rw [h2]
  cases inB i ks <;> simp
def goneUp (L : List NL) (ks : List U64) (i : Nat) : List U64 := goneBy (goesBy L ks) (liveUp L i)
theorem goneUp_lt {ks : List U64} {i : Nat} (hi : i ≤ 1000000) : i ∉ (goneUp L ks i).map (·.1) := by
  intro h
  unfold goneUp goneBy at h
  simp only [List.mem_map, List.mem_filter] at h
  obtain ⟨q, ⟨x, ⟨hx, _⟩, rfl⟩, e⟩ := h
  have := liveUp_lt hx hi
  omega
set_option maxRecDepth 100000 in
set_option maxHeartbeats 1000000 in
theorem RSweep_any (h : RefAt w rb log L G) (hL : L.length ≤ 1000000) (v : Value) (ks : List U64) (hr : NumRow w v ks) (hks : ks.length ≤ 1000000) (hpn : ∀ p, pinsL L p ≤ 4611686018427387904) (hG : ks ≠ [] → ∀ j, G j → ∀ b o, (∃ n c, v = .slice (some ⟨b, o, none⟩) n c) → b ≠ j) :
    Calls Try.prog 56 #[.pointer (some ⟨rb, 0, none⟩), v] w fun e w' => e = .returned (.int .u64 ((sweepG L ks).length : Int)) ∧ RefAt w' rb log (sweepL L ks) G ∧ Fr G w w' := by
  obtain ⟨adk, capk, rfl, hrow⟩ := hr
  have HRK : Hid (NumRow w (.slice adk ks.length capk) ks) := ⟨adk, capk, rfl, hrow⟩
  clear hrow
  have HGN := Lib.hid hG; clear hG
  have HPN := Lib.hid hpn; clear hpn
  have H := Lib.hid h; clear h
  go_enter Try.func56, Try.ntmps56
  go_wp2_with fail
  go_loopg [5, 6] (L.length) (fun g vc vi wr => ∃ i, vi = .int .i64 (i : Nat) ∧ g + i = L.length ∧ vc = .int .u64 ((goneUp L ks i).length : Int) ∧ RefAt wr rb log (killL L ((goneUp L ks i).map (·.1))) G ∧ Fr G w wr)
  case atStart => exact ⟨0, rfl, by simp, rfl, by rw [show (goneUp L ks 0).map (·.1) = [] from rfl, killL_nil]; exact H.out, Fr.refl _ _⟩
  case round =>
    obtain ⟨i, rfl, hg, rfl, hR, hF⟩ := hrel
    have HG := Lib.hid hg; clear hg
    have HR := Lib.hid hR; clear hR
    have HF := Lib.hid hF; clear hF
    obtain ⟨c, hc⟩ : ∃ c, (goneUp L ks i).length = c := ⟨_, rfl⟩
    have hcl : c ≤ i := by rw [← hc]; exact Nat.le_trans (goneBy_le _ _) (liveUp_le L i)
    rw [hc]
    have HC := Lib.hid hc; clear hc
    obtain ⟨L1, hL1⟩ : ∃ L1, killL L ((goneUp L ks i).map (·.1)) = L1 := ⟨_, rfl⟩
    have hl1 : L1.length = L.length := by rw [← hL1, length_killL]
    have HR1 : Hid (RefAt wr rb log L1 G) := by unfold Hid; rw [← hL1]; exact HR.out
    have HL1 := Lib.hid hL1; clear hL1 HR
    obtain ⟨ad, cap, c1, _, _⟩ := HR1.out.slice
    rw [hl1] at c1
    by_cases hi : i < L.length
    · have hi' : (i : Int) < (L.length : Int) := by omega
      obtain ⟨⟨x, k⟩, hx⟩ : ∃ x, L[i]? = some x := ⟨L[i], List.getElem?_eq_getElem hi⟩
      have hx1 : L1[i]? = some (x, k) := by rw [← HL1.out]; exact killL_get L _ i k x hx (goneUp_lt (by omega))
      obtain ⟨g, cap2, cur, N⟩ := HR1.out.node hx1
      have e1 := c1.symm.trans (cell_of N.own)
      rw [hl1] at e1
      obtain ⟨rfl, rfl⟩ : ad = some ⟨g, 0, none⟩ ∧ cap = cap2 := by simp at e1; exact e1
      have hlv := N.live
      have hps := N.pins
      have hfr := N.free (by rw [hl1]; exact hi)
      simp only at hlv hps
      have hk : pinsL L i = k := by unfold pinsL; rw [hx]; rfl
      have hkb := HPN.out i
      rw [hk] at hkb
      have HX := Lib.hid hx
      have NN := Lib.hid N
      have HK := Lib.hid hk
      have HLN := Lib.hid hl1
      clear N e1 hx hx1 hk hl1
      obtain ⟨b0, hb0⟩ : ∃ b0, decide (0 < k) = b0 := ⟨_, rfl⟩
      obtain ⟨wo, hwo⟩ : ∃ x, x = wr := ⟨_, rfl⟩
      subst hwo
      obtain ⟨gko, hgk⟩ : ∃ x, x = gk := ⟨_, rfl⟩
      subst hgk
      go_wp2_with fail
      have hwi : IntKind.u64.wrap (i : Int) = (i : Int) := by simp only [IntKind.wrap_u64]; omega
      have HCK : Hid (∀ j p, ks[j]? = some p → ∃ b o, adk = some ⟨b, o, none⟩ ∧ wo.cell? ⟨b, o + j, none⟩ = some (.int .u64 (p.1 : Int))) := by
        intro j p hp
        obtain ⟨ad2, cap3, e2, hrow⟩ := HRK.out
        obtain ⟨b, o, e3, hck⟩ := hrow j p hp
        have e4 : ad2 = adk := by simp at e2; exact e2.1.symm
        subst e4
        refine ⟨b, o, e3, (cell_block (a := ⟨b, o + j, none⟩) (HF.out.block b (cell_lt hck) (fun hf => ?_))).trans hck⟩
        exact HGN.out (fun e => by rw [e] at hp; cases hp) b hf b o ⟨_, _, by rw [e3]⟩ rfl
      go_loopg [7, 8] (ks.length) (fun g vb vj wr => ∃ (b : Bool) (j : Nat), vb = .bool b ∧ vj = .int .i64 (j : Nat) ∧ g + j = ks.length ∧ (b0 || inB i (ks.take j)) = b ∧ wr = wo)
      case atStart => exact ⟨b0, 0, by rw [← hb0], rfl, by simp, by simp [inB], rfl⟩
      case round =>
        obtain ⟨b, j, rfl, rfl, hg2, hbj, rfl⟩ := hrel
        have HG2 := Lib.hid hg2; clear hg2
        have HBJ := Lib.hid hbj; clear hbj
        by_cases hj : j < ks.length
        · have hj' : (j : Int) < (ks.length : Int) := by omega
          obtain ⟨p, hp⟩ : ∃ p, ks[j]? = some p := ⟨ks[j], List.getElem?_eq_getElem hj⟩
          obtain ⟨bb, o, e3, hck⟩ := HCK.out j p hp
          subst e3
          have HP := Lib.hid hp; clear hp
          have eT := Lib.hid (show (b0 || inB i (ks.take (j + 1))) = ((b0 || inB i (ks.take j)) || (p.1 == i)) by rw [List.take_add_one, HP.out]; show (b0 || inB i (ks.take j ++ [p])) = _; rw [inB_snoc]; simp only [Bool.or_assoc])
          rw [HBJ.out] at eT
          by_cases hpi : p.1 = i
          · have hpb : ((p.1 : Int) == (i : Int)) = true := by simp [hpi]
            have HPI := Lib.hid hpi; clear hpi
            go_wp2_with fail
            go_roundg (gk - 1)
            case measure => have := HG2.out; omega
            case rel => exact ⟨true, j + 1, rfl, by simp, by have := HG2.out; omega, by rw [eT.out, HPI.out]; simp, rfl⟩
          · have hpb : ((p.1 : Int) == (i : Int)) = false := by simp; omega
            have HPI := Lib.hid hpi; clear hpi
            go_wp2_with fail
            go_roundg (gk - 1)
            case measure => have := HG2.out; omega
            case rel => exact ⟨b, j + 1, rfl, by simp, by have := HG2.out; omega, by rw [eT.out]; have := HPI.out; simp [this], rfl⟩
        · have hj' : ¬ (j : Int) < (ks.length : Int) := by omega
          have HB : Hid ((b0 || inB i ks) = b) := by
            have e : j = ks.length := by have := HG2.out; omega
            have := HBJ.out; rw [e, List.take_length] at this; exact this
          clear HBJ HG2 hj
          obtain ⟨jo, hjo⟩ : ∃ x, x = j := ⟨_, rfl⟩
          subst hjo
          have HGB : Hid (goesBy L ks i = !b) := by
            unfold Hid; rw [goes_inB L ks i (by omega), HK.out, ← HB.out, ← hb0]
          have HB0 := Lib.hid hb0; clear hb0
          cases x with
          | none =>
            go_wp2_with fail
            go_roundg (gko - 1)
            case measure => have := HG.out; omega
            case rel =>
              have e : goneUp L ks (i + 1) = goneUp L ks i := by unfold goneUp; rw [liveUp_dead (by rw [HX.out]; rfl)]
              exact ⟨i + 1, by simp, by have := HG.out; omega, by rw [e, HC.out], by rw [e, HL1.out]; exact HR1.out, HF.out⟩
          | some y =>
            have HLU := Lib.hid (liveUp_live (L := L) (i := i) (h := y) (by rw [HX.out]; rfl))
            have HMK := Lib.hid (mk64_val (p := i) (by omega))
            cases b with
            | true =>
              go_wp2_with fail
              go_roundg (gko - 1)
              case measure => have := HG.out; omega
              case rel =>
                have e : goneUp L ks (i + 1) = goneUp L ks i := by unfold goneUp; rw [HLU.out, goneBy_miss _ _ (by rw [HMK.out, HGB.out]; rfl)]
                exact ⟨i + 1, by simp, by have := HG.out; omega, by rw [e, HC.out], by rw [e, HL1.out]; exact HR1.out, HF.out⟩
            | false =>
              have hk0 : k = 0 := by
                have h1 := HB.out
                have h2 := HB0.out
                cases b0 with
                | true => simp at h1
                | false => simp at h2; omega
              subst hk0
              go_wp2_with fail
              go_roundg (gko - 1)
              case measure => have := HG.out; omega
              case rel =>
                have e : goneUp L ks (i + 1) = goneUp L ks i ++ [mk64 i] := by unfold goneUp; rw [HLU.out, goneBy_hit _ _ (by rw [HMK.out, HGB.out]; rfl)]
                have e0 : (nodeR (encH zH) false 0).toList = encR (none, 0) := by rw [show (nodeR (encH zH) false 0) = _ from nodeR_enc (none, 0)]
                refine ⟨i + 1, by simp, by have := HG.out; omega, by rw [e, List.length_append, HC.out]; simp, ?_, HF.out.putRow _ _ (fun _ => NN.out.foot)⟩
                rw [e, List.map_append, e0]
                show RefAt _ rb log (killL L ((goneUp L ks i).map (·.1) ++ [(mk64 i).1])) G
                rw [HMK.out, killL_snoc L _ i 0 _ HX.out, HL1.out]
                exact HR1.out.put NN.out (by rw [HLN.out]; exact hi) (none, 0)
    · have hi' : ¬ (i : Int) < (L.length : Int) := by omega
      have e := Lib.hid (show i = L.length by have := HG.out; omega)
      go_wp2_with fail
      go_ret
      have h1 : goneUp L ks i = sweepG L ks := by unfold goneUp sweepG; rw [e.out, liveUp_all]
      refine ⟨?_, ?_, HF.out⟩
      · rw [← h1, HC.out]; rfl
      · have := HR1.out
        rw [← HL1.out, h1] at this; exact this
end
end Go.Proofs.Ytoigddekipjkcaa
