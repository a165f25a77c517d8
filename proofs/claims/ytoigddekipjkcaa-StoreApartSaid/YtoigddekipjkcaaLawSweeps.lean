/- massiflaw5.StoreSweeps: the walk. -/
import Derived.Test.YtoigddekipjkcaaNums
import Derived.BigQuiet
import Derived.Test.YtoigddekipjkcaaCalm
namespace Go.Proofs.Ytoigddekipjkcaa
set_option linter.all false
open Go Go.RowKit Go.Proofs Go.Maps

theorem ccL_le (L : List NL) (wd : Nat) : ∀ p, (ccL L wd p).1 ≤ p
  | 0 => Nat.le_refl _
  | p + 1 => by
    have := ccL_le L wd p
    show (if _ then _ else _ : Nat × Option Nat).1 ≤ _
    split
    · exact Nat.succ_le_succ this
    · exact Nat.le_succ_of_le this
/-- Is this number told? -/
def inB (i : Nat) (l : List U64) : Bool := l.any fun k => k.1 == i
theorem inB_snoc (i : Nat) (l : List U64) (k : U64) : inB i (l ++ [k]) = (inB i l || (k.1 == i)) := by simp [inB]
theorem inB_iff (i : Nat) (l : List U64) : inB i l = true ↔ i ∈ l.map (·.1) := by simp [inB]
/-- What lives behind two sweeps. -/
theorem sweeps_get {L : List NL} {hs : List HB} {ps : List U64} (hF : FullAs L hs) (hL : L.length ≤ 1000000) (ks : List U64) (hpz : ∀ p, p < hs.length → (pinsL L p = 0 ↔ p ∉ ps.map (·.1))) :
    (sweepL (sweepL L ks) ks).length = hs.length ∧ ∀ p (x : HB), hs[p]? = some x → ((sweepL (sweepL L ks) ks)[p]?).bind (·.1) = if p ∈ ps.map (·.1) ∨ p ∈ ks.map (·.1) then some x else none := by
  refine ⟨by rw [length_sweepL, length_sweepL, hF.length], fun p x hx => ?_⟩
  have hp := (List.getElem?_eq_some_iff.1 hx).1
  have hl := hF.length
  rw [get_sweepL (by rw [length_sweepL]; exact hL), goesBy_sweepL, get_sweepL hL, hF.get, hx]
  have hg : goesBy L ks p = true ↔ ¬ (p ∈ ps.map (·.1) ∨ p ∈ ks.map (·.1)) := by
    unfold goesBy
    rw [Bool.and_eq_true, beq_iff_eq, beq_iff_eq, cntAt_zero, hpz p hp]
    have : mk64 p ∈ ks ↔ p ∈ ks.map (·.1) := by
      constructor
      · intro h; have := List.mem_map_of_mem (f := (·.1)) h; rwa [mk64_val (by omega)] at this
      · intro h
        obtain ⟨k, hk, e⟩ := List.mem_map.1 h
        have : mk64 p = k := Subtype.ext (by rw [mk64_val (by omega)]; exact e.symm)
        rw [this]; exact hk
    rw [this]
    constructor
    · rintro ⟨a, b⟩ c; exact c.elim b a
    · intro h; exact ⟨fun c => h (.inr c), fun c => h (.inl c)⟩
  by_cases hd : p ∈ ps.map (·.1) ∨ p ∈ ks.map (·.1)
  · rw [if_neg (fun h => hg.1 h hd), if_neg (fun h => hg.1 h hd), if_pos hd]
  · rw [if_pos (hg.2 hd), if_neg hd]
set_option maxRecDepth 100000 in
set_option maxHeartbeats 2000000 in
theorem StoreSweeps_good (log : Nat) (v vp vk : Value) (hs : List HB) (ps ks : List U64) (w : World) (hl : log ≤ 16) (hr : HashRow w v hs) (hn : hs.length ≤ 200) (hrp : NumRow w vp ps) (hpn : ps.length ≤ 200) (hrk : NumRow w vk ks) (hkn : ks.length ≤ 200) :
    Calls Try.prog 5 #[.int .i64 (log : Int), v, vp, vk] w fun e w' => e = .returned (.bool true) ∧ Below w.heap.size w w' := by
  obtain ⟨ad, cap, rfl, hrow⟩ := hr
  have HR : Hid (HashRow w (.slice ad hs.length cap) hs) := ⟨ad, cap, rfl, hrow⟩
  clear hrow
  obtain ⟨adp, capp, rfl, hrow⟩ := hrp
  have HRP : Hid (NumRow w (.slice adp ps.length capp) ps) := ⟨adp, capp, rfl, hrow⟩
  clear hrow
  obtain ⟨adk, capk, rfl, hrow⟩ := hrk
  have HRK : Hid (NumRow w (.slice adk ks.length capk) ks) := ⟨adk, capk, rfl, hrow⟩
  clear hrow
  have b1 : ¬ (log : Int) < 0 := by omega
  have b2 : ¬ (16 : Int) < (log : Int) := by omega
  have b3 : ¬ (200 : Int) < (hs.length : Int) := by omega
  have b4 : ¬ (200 : Int) < (ps.length : Int) := by omega
  have b5 : ¬ (200 : Int) < (ks.length : Int) := by omega
  go_enter Try.func5, Try.ntmps5
  go_wp2_with fail
  refine (fill_any log _ hs w hl HR.out (by omega)).mono ?_
  rintro e w1 ⟨sb, F, rfl, hS, hF, hb⟩
  have HS := Lib.hid hS; clear hS
  have HF := Lib.hid hF; clear hF
  go_wp2_with fail
  go_loopg [11] (ps.length) (fun g vi wr => ∃ i, vi = .int .i64 (i : Nat) ∧ g + i = ps.length ∧ StoreL wr sb log (pinAll (fullL hs) (ps.take i)) F ∧ Below w.heap.size w wr)
  case atStart => exact ⟨0, rfl, by simp, HS.out, hb⟩
  case round =>
    obtain ⟨i, rfl, hg, hS', hb'⟩ := hrel
    have HG := Lib.hid hg; clear hg
    have HS' := Lib.hid hS'; clear hS'
    by_cases hi : i < ps.length
    · have hi' : (i : Int) < (ps.length : Int) := by omega
      obtain ⟨p, hp⟩ : ∃ p, ps[i]? = some p := ⟨ps[i], List.getElem?_eq_getElem hi⟩
      obtain ⟨ad2, cap2, e2, hrow⟩ := HRP.out.below hb'
      obtain ⟨b, o, e3, hck⟩ := hrow i p hp
      obtain ⟨rfl, rfl⟩ : ad2 = adp ∧ cap2 = capp := by simp at e2; exact ⟨e2.1.symm, e2.2.symm⟩
      have HP := Lib.hid hp; clear hp hrow e2
      subst e3
      have hFu := (FullAs.full hs).pinAll (ps.take i)
      have hle := pinsL_pins_le hs (ps.take i) p.1
      have hE := hFu.err p.1
      go_wp2_with fail
      refine (Pin_any HS'.out p.1 p.2 (by simp at hle; omega)).mono ?_
      rw [hE]
      rintro e w2 ⟨rfl, hS2, hF2⟩
      have hb2 : Below w.heap.size w w2 := hb'.trans (hF2.toBelow HF.out hb'.size)
      have HS2 := Lib.hid hS2; clear hS2 hF2 hFu hle hE
      have hck2 : w2.cell? ⟨b, o + i, none⟩ = some (.int .u64 (p.1 : Int)) := by
        obtain ⟨ad3, cap3, e4, hrow⟩ := HRP.out.below hb2
        obtain ⟨b3, o3, e5, hck3⟩ := hrow i p HP.out
        simp at e4; rw [← e4.1] at e5; cases e5; exact hck3
      have hwn : IntKind.u64.wrap (hs.length : Int) = (hs.length : Int) := by simp only [IntKind.wrap_u64]; omega
      by_cases hpl : p.1 < hs.length
      · have hpl' : (p.1 : Int) < (hs.length : Int) := by omega
        go_wp2_with fail
        go_roundg (gk - 1)
        case measure => have := HG.out; omega
        case rel =>
          refine ⟨i + 1, by simp, by have := HG.out; omega, ?_, hb2⟩
          have e : ps.take (i + 1) = ps.take i ++ [p] := by rw [List.take_add_one, HP.out]; rfl
          rw [e, pinAll_snoc]; exact HS2.out
      · have hpl' : ¬ (p.1 : Int) < (hs.length : Int) := by omega
        go_wp2_with fail
        go_roundg (gk - 1)
        case measure => have := HG.out; omega
        case rel =>
          refine ⟨i + 1, by simp, by have := HG.out; omega, ?_, hb2⟩
          have e : ps.take (i + 1) = ps.take i ++ [p] := by rw [List.take_add_one, HP.out]; rfl
          rw [e, pinAll_snoc]; exact HS2.out
    · have hi' : ¬ (i : Int) < (ps.length : Int) := by omega
      have e : i = ps.length := by have := HG.out; omega
      obtain ⟨L, hL⟩ : ∃ L, pinAll (fullL hs) ps = L := ⟨_, rfl⟩
      have HSL : Hid (StoreL wr sb log L F) := by unfold Hid; have := HS'.out; rw [e, List.take_length, hL] at this; exact this
      have HFu : Hid (FullAs L hs) := by unfold Hid; rw [← hL]; exact (FullAs.full hs).pinAll ps
      have HPZ : Hid (∀ p, p < hs.length → (pinsL L p = 0 ↔ p ∉ ps.map (·.1))) := by unfold Hid; rw [← hL]; exact pinsL_pins_zero hs ps
      clear HS' e HG hi hL
      have hlen := HFu.out.length
      have hcnt := HFu.out.count
      go_wp2_with fail
      refine (Alive_any HSL.out).mono ?_
      rw [hcnt]
      rintro e w2 ⟨rfl, rfl⟩
      have HLEN := Lib.hid hlen; clear hlen
      have HCNT := Lib.hid hcnt; clear hcnt
      have HOWN : Hid (∀ W : World, (W.alloc (Obj.cells #[] 31)).ownsRow W.heap.size 31 1 (.slice (some ⟨W.heap.size, 0, none⟩) 0 0) 0 []) := fun W =>
        ⟨rfl, .inr ⟨W.heap.size, 0, #[], rfl, Nat.le_refl _, hb_new W _, Nat.le_refl _, Nat.zero_le _, rfl, rfl⟩⟩
      have hsz := hb'.size
      have hna : NumRow (wr.alloc (Obj.cells #[] 31)) (.slice adk ks.length capk) ks := HRK.out.below (hb'.alloc hb'.size _)
      go_wp2_with (at_builtin; refine wpList_append_nums _ rfl _ _ rfl wr.heap.size ⟨wr.heap.size, 0, none⟩ 0 [] ks rfl (HOWN.out _) _ rfl hna (by simp; omega) (by simp) ?_; intro ad1 cap1 w2 ho2 hg2 _; simp only [List.nil_append] at ho2; simp only [List.nil_append])
      clear hna
      have hbX : Below wr.heap.size wr w2 := ((Below.refl _ wr).alloc (Nat.le_refl _) _).grown hg2 (by simp) (fun k e => by cases e; exact Nat.le_refl _)
      have hb2 : Below w.heap.size w w2 := hb'.trans (hbX.mono hb'.size)
      refine (Sweep_any (HSL.out.below hbX) _ ks (NumRow.of_own ho2) (by omega) (by rw [HLEN.out]; omega)).mono ?_
      rintro e w3 ⟨rfl, hS3, hF3⟩
      have hb3 : Below w.heap.size w w3 := hb2.trans (hF3.toBelow HF.out hb2.size)
      have HS3 := Lib.hid hS3; clear hS3 hF3 hbX ho2 hg2 hb2
      have HL1 := Lib.hid (show L.length ≤ 1000000 by rw [HLEN.out]; omega)
      obtain ⟨n, hnn⟩ : ∃ n, (sweepG L ks).length = n := ⟨_, rfl⟩
      obtain ⟨c2, hc2⟩ : ∃ c, cntL (sweepL L ks) = c := ⟨_, rfl⟩
      have hsum : c2 + n = hs.length := by rw [← hc2, ← hnn, ← HCNT.out]; exact cntL_sweep HL1.out ks
      have hsum' : (c2 : Int) + (n : Int) = (hs.length : Int) := by omega
      rw [hnn]
      go_wp2_with fail
      refine (Alive_any HS3.out).mono ?_
      rw [hc2]
      rintro e w4 ⟨rfl, rfl⟩
      have HNN := Lib.hid hnn; clear hnn
      have HC2 := Lib.hid hc2; clear hc2
      have hlen2 : (sweepL L ks).length = hs.length := by rw [length_sweepL, HLEN.out]
      go_wp2_with fail
      refine (Len_any HS3.out).mono ?_
      rw [hlen2]
      rintro e w4 ⟨rfl, rfl⟩
      have HLEN2 := Lib.hid hlen2; clear hlen2
      have hwn : IntKind.u64.wrap (hs.length : Int) = (hs.length : Int) := by simp only [IntKind.wrap_u64]; omega
      have hsz3 := hb3.size
      have hna : NumRow (w3.alloc (Obj.cells #[] 31)) (.slice adk ks.length capk) ks := HRK.out.below (hb3.alloc hb3.size _)
      go_wp2_with (at_builtin; refine wpList_append_nums _ rfl _ _ rfl w3.heap.size ⟨w3.heap.size, 0, none⟩ 0 [] ks rfl (HOWN.out _) _ rfl hna (by simp; omega) (by simp) ?_; intro ad2 cap2 w4 ho2 hg2 _; simp only [List.nil_append] at ho2; simp only [List.nil_append])
      clear hna
      have hbX : Below w3.heap.size w3 w4 := ((Below.refl _ w3).alloc (Nat.le_refl _) _).grown hg2 (by simp) (fun k e => by cases e; exact Nat.le_refl _)
      have hb4 : Below w.heap.size w w4 := hb3.trans (hbX.mono hb3.size)
      refine (Sweep_any (HS3.out.below hbX) _ ks (NumRow.of_own ho2) (by omega) (by rw [HLEN2.out]; omega)).mono ?_
      rw [sweepG_again HL1.out]
      rintro e w5 ⟨rfl, hS5, hF5⟩
      have hb5 : Below w.heap.size w w5 := hb4.trans (hF5.toBelow HF.out hb4.size)
      obtain ⟨L5, hL5⟩ : ∃ L5, sweepL (sweepL L ks) ks = L5 := ⟨_, rfl⟩
      rw [hL5] at hS5
      have HS5 := Lib.hid hS5; clear hS5 hF5 hbX ho2 hg2 hb4
      have HL5 : Hid (L5.length = hs.length ∧ ∀ p (x : HB), hs[p]? = some x → (L5[p]?).bind (·.1) = if p ∈ ps.map (·.1) ∨ p ∈ ks.map (·.1) then some x else none) := by
        unfold Hid
        rw [← hL5]
        exact sweeps_get HFu.out HL1.out ks HPZ.out
      clear hL5
      obtain ⟨wd, hwd⟩ : ∃ wd, 2 ^ log = wd := ⟨_, rfl⟩
      have hwd1 : 0 < wd := by rw [← hwd]; exact pow_pos_16 log
      have hwd2 : wd ≤ 65536 := by rw [← hwd]; exact pow_le_16 hl
      have hsh : IntKind.u64.wrap ((2 : Int) ^ log) = (wd : Int) := by rw [cast_pow, hwd]; simp only [IntKind.wrap_u64]; omega
      have HWD := Lib.hid hwd; clear hwd
      go_wp2_with fail
      clear hsh
      obtain ⟨io, hio⟩ : ∃ x, x = i := ⟨_, rfl⟩
      subst hio
      go_loopg [16, 17, 18] (hs.length) (fun g vc vl vp wr => ∃ i, vp = .int .u64 (i : Nat) ∧ g + i = hs.length ∧ vc = .int .i64 ((ccL L5 wd i).1 : Int) ∧ vl = .int .u64 (((ccL L5 wd i).2.getD 9223372036854775808 : Nat) : Int) ∧ StoreL wr sb log L5 F ∧ Below w.heap.size w wr)
      case atStart => exact ⟨0, rfl, by simp, rfl, rfl, HS5.out, hb5⟩
      case round =>
        obtain ⟨i, rfl, hg, rfl, rfl, hS', hb'⟩ := hrel
        have HG := Lib.hid hg; clear hg
        have HS' := Lib.hid hS'; clear hS'
        obtain ⟨cc, hcc⟩ : ∃ c, (ccL L5 wd i).1 = c := ⟨_, rfl⟩
        obtain ⟨cl, hcl⟩ : ∃ c, (ccL L5 wd i).2 = c := ⟨_, rfl⟩
        rw [hcc, hcl]
        obtain ⟨lv, hlv⟩ : ∃ x, cl.getD 9223372036854775808 = x := ⟨_, rfl⟩
        rw [hlv]
        have hccb : cc ≤ i := by rw [← hcc]; exact ccL_le L5 wd i
        have HCC := Lib.hid hcc; clear hcc
        have HCL := Lib.hid hcl; clear hcl
        have HLN := Lib.hid hlv; clear hlv
        by_cases hi : i < hs.length
        · have hi2 : (i : Int) < (hs.length : Int) := by omega
          obtain ⟨h, hh⟩ : ∃ h, hs[i]? = some h := ⟨hs[i], List.getElem?_eq_getElem hi⟩
          have HH := Lib.hid hh; clear hh
          go_wp2_with fail
          obtain ⟨wo, hwo⟩ : ∃ x, x = wr := ⟨_, rfl⟩
          subst hwo
          obtain ⟨gko, hgk⟩ : ∃ x, x = gk := ⟨_, rfl⟩
          subst hgk
          go_loopg [19, 20] (ps.length) (fun g vb vj wr => ∃ (b : Bool) (j : Nat), vb = .bool b ∧ vj = .int .i64 (j : Nat) ∧ g + j = ps.length ∧ (inB i (ps.take j)) = b ∧ wr = wo)
          case atStart => exact ⟨_, 0, rfl, rfl, by simp, rfl, rfl⟩
          case round =>
            obtain ⟨b, j, rfl, rfl, hg2, hbj, rfl⟩ := hrel
            have HG2 := Lib.hid hg2; clear hg2
            have HBJ := Lib.hid hbj; clear hbj
            by_cases hj : j < ps.length
            · have hj' : (j : Int) < (ps.length : Int) := by omega
              obtain ⟨p, hp⟩ : ∃ p, ps[j]? = some p := ⟨ps[j], List.getElem?_eq_getElem hj⟩
              obtain ⟨ad3, cap3, e2, hrow⟩ := HRP.out.below hb'
              obtain ⟨bb, o, e3, hck⟩ := hrow j p hp
              obtain ⟨rfl, rfl⟩ : ad3 = adp ∧ cap3 = capp := by simp at e2; exact ⟨e2.1.symm, e2.2.symm⟩
              have HP := Lib.hid hp; clear hp hrow e2
              subst e3
              have eT := Lib.hid (show (inB i (ps.take (j + 1))) = ((inB i (ps.take j)) || (p.1 == i)) by rw [List.take_add_one, HP.out]; show (inB i (ps.take j ++ [p])) = _; rw [inB_snoc]; try simp only [Bool.or_assoc])
              rw [HBJ.out] at eT
              cases b with
              | true =>
                go_wp2_with fail
                go_roundg (gk - 1)
                case measure => have := HG2.out; omega
                case rel => exact ⟨true, j + 1, rfl, by simp, by have := HG2.out; omega, eT.out, rfl⟩
              | false =>
                by_cases hpi : p.1 = i
                · have hpb : ((p.1 : Int) == (i : Int)) = true := by simp [hpi]
                  have HPI := Lib.hid hpi; clear hpi
                  go_wp2_with fail
                  go_roundg (gk - 1)
                  case measure => have := HG2.out; omega
                  case rel => exact ⟨true, j + 1, rfl, by simp, by have := HG2.out; omega, by rw [eT.out, HPI.out]; simp, rfl⟩
                · have hpb : ((p.1 : Int) == (i : Int)) = false := by simp; omega
                  have HPI := Lib.hid hpi; clear hpi
                  go_wp2_with fail
                  go_roundg (gk - 1)
                  case measure => have := HG2.out; omega
                  case rel => exact ⟨false, j + 1, rfl, by simp, by have := HG2.out; omega, by rw [eT.out]; simpa using HPI.out, rfl⟩
            · have hj' : ¬ (j : Int) < (ps.length : Int) := by omega
              have HB1 : Hid ((inB i ps) = b) := by
                have e : j = ps.length := by have := HG2.out; omega
                have := HBJ.out; rw [e, List.take_length] at this; exact this
              clear HBJ HG2 hj
              obtain ⟨gk1, hgk⟩ : ∃ x, x = gk := ⟨_, rfl⟩
              subst hgk
              go_wp2_with fail
              obtain ⟨wo, hwo⟩ : ∃ x, x = wr := ⟨_, rfl⟩
              subst hwo
              obtain ⟨jo, hjo⟩ : ∃ x, x = j := ⟨_, rfl⟩
              subst hjo
              go_loopg [19, 21] (ks.length) (fun g vb vj wr => ∃ (b : Bool) (j : Nat), vb = .bool b ∧ vj = .int .i64 (j : Nat) ∧ g + j = ks.length ∧ (inB i ps || inB i (ks.take j)) = b ∧ wr = wo)
              case atStart => exact ⟨_, 0, rfl, rfl, by simp, (by rw [HB1.out]; simp [inB]), rfl⟩
              case round =>
                obtain ⟨b, j, rfl, rfl, hg2, hbj, rfl⟩ := hrel
                have HG2 := Lib.hid hg2; clear hg2
                have HBJ := Lib.hid hbj; clear hbj
                by_cases hj : j < ks.length
                · have hj' : (j : Int) < (ks.length : Int) := by omega
                  obtain ⟨p, hp⟩ : ∃ p, ks[j]? = some p := ⟨ks[j], List.getElem?_eq_getElem hj⟩
                  obtain ⟨ad3, cap3, e2, hrow⟩ := HRK.out.below hb'
                  obtain ⟨bb, o, e3, hck⟩ := hrow j p hp
                  obtain ⟨rfl, rfl⟩ : ad3 = adk ∧ cap3 = capk := by simp at e2; exact ⟨e2.1.symm, e2.2.symm⟩
                  have HP := Lib.hid hp; clear hp hrow e2
                  subst e3
                  have eT := Lib.hid (show (inB i ps || inB i (ks.take (j + 1))) = ((inB i ps || inB i (ks.take j)) || (p.1 == i)) by rw [List.take_add_one, HP.out]; show (inB i ps || inB i (ks.take j ++ [p])) = _; rw [inB_snoc]; try simp only [Bool.or_assoc])
                  rw [HBJ.out] at eT
                  cases b with
                  | true =>
                    go_wp2_with fail
                    go_roundg (gk - 1)
                    case measure => have := HG2.out; omega
                    case rel => exact ⟨true, j + 1, rfl, by simp, by have := HG2.out; omega, eT.out, rfl⟩
                  | false =>
                    by_cases hpi : p.1 = i
                    · have hpb : ((p.1 : Int) == (i : Int)) = true := by simp [hpi]
                      have HPI := Lib.hid hpi; clear hpi
                      go_wp2_with fail
                      go_roundg (gk - 1)
                      case measure => have := HG2.out; omega
                      case rel => exact ⟨true, j + 1, rfl, by simp, by have := HG2.out; omega, by rw [eT.out, HPI.out]; simp, rfl⟩
                    · have hpb : ((p.1 : Int) == (i : Int)) = false := by simp; omega
                      have HPI := Lib.hid hpi; clear hpi
                      go_wp2_with fail
                      go_roundg (gk - 1)
                      case measure => have := HG2.out; omega
                      case rel => exact ⟨false, j + 1, rfl, by simp, by have := HG2.out; omega, by rw [eT.out]; simpa using HPI.out, rfl⟩
                · have hj' : ¬ (j : Int) < (ks.length : Int) := by omega
                  have HB2 : Hid ((inB i ps || inB i ks) = b) := by
                    have e : j = ks.length := by have := HG2.out; omega
                    have := HBJ.out; rw [e, List.take_length] at this; exact this
                  clear HBJ HG2 hj
                  obtain ⟨gk1, hgk⟩ : ∃ x, x = gk := ⟨_, rfl⟩
                  subst hgk
                  go_wp2_with fail
                  have HB2 : Hid (b = (inB i ps || inB i ks)) := HB2.out.symm
                  clear HB1
                  obtain ⟨jo2, hjo⟩ : ∃ x, x = j := ⟨_, rfl⟩
                  subst hjo
                  have hgt : Try.prog.eqGuardType Try.prog.depth 30 = false := by kernel_rfl
                  have HX : Hid ((L5[i]?).bind (·.1) = if b = true then some h else none) := by
                    unfold Hid
                    rw [HL5.out.2 i h HH.out, HB2.out]
                    by_cases hd : i ∈ ps.map (·.1) ∨ i ∈ ks.map (·.1)
                    · rw [if_pos hd, if_pos (by rw [Bool.or_eq_true, inB_iff, inB_iff]; exact hd)]
                    · rw [if_neg hd, if_neg (by rw [Bool.or_eq_true, inB_iff, inB_iff]; exact hd)]
                  cases b with
                  | true =>
                    have HLV : Hid (liveAt L5 i = true) := by unfold Hid liveAt; rw [HX.out]; rfl
                    have e1 : hashL L5 i = h := (errL_live HX.out).2
                    have e2 : errL L5 i = 0 := (errL_live HX.out).1
                    go_wp2_with fail
                    refine (Get_any HS'.out i (by omega)).mono ?_
                    rw [e1, e2]
                    rintro e w6 ⟨rfl, hb6⟩
                    have HE1 := Lib.hid e1; clear e1
                    have HE2 := Lib.hid e2; clear e2
                    have hb6' : Below w.heap.size w w6 := hb'.trans (hb6.mono hb'.size)
                    have HS6 := Lib.hid (HS'.out.below hb6)
                    go_upto_region 31 with fail
                    refine wp_name fun W7 HW7 => ?_
                    have hb7 : Below w.heap.size w W7 := by rw [HW7.out]; exact below_putRow (hb6'.alloc hb6'.size _) hb6'.size _
                    have hb7' : Below w6.heap.size w6 W7 := by rw [HW7.out]; exact below_putRow ((Below.refl _ w6).alloc (Nat.le_refl _) _) (Nat.le_refl _) _
                    have HS7 := Lib.hid (HS6.out.below hb7')
                    have hrx : rowAt W7 ⟨w6.heap.size, 0, none⟩ 32 = some (encH h) := by
                      rw [HW7.out]; exact rowAt_putRow_same (hb_new w6 _) (size_encH _) (size_encH _)
                    obtain ⟨ad2, cap2, e2, hrow⟩ := HR.out.below hb7
                    obtain ⟨bb, o, e3, hrw⟩ := hrow i h HH.out
                    obtain ⟨rfl, rfl⟩ : ad2 = ad ∧ cap2 = cap := by simp at e2; exact ⟨e2.1.symm, e2.2.symm⟩
                    clear hrow e2
                    subst e3
                    clear HW7
                    have HL : Hid (∀ s : BW W7, Calls Try.prog 29 #[.pointer (some ⟨sb, 0, none⟩), .int .u64 i] s.w fun e w' => e = .returned (.bool true) ∧ ∃ s' : BW W7, w' = s'.w) := by
                      intro s
                      refine Calls.grown s ((Live_any (HS7.out.below s.b) i (by omega)).mono ?_)
                      rw [HE2.out]
                      rintro e w8 ⟨rfl, hb8d⟩
                      exact ⟨rfl, hb8d⟩
                    have hr1 : ∀ s : BW W7, rowAt s.w ⟨w6.heap.size, 0, none⟩ 32 = some (encH h) := fun s => (rowAt_block (s.b.block _ (rowAt_lt hrx)) 32).trans hrx
                    have hr2 : ∀ s : BW W7, rowAt s.w ⟨bb, o + i * 32, none⟩ 32 = some (encH h) := fun s => (rowAt_block (a := ⟨bb, o + i * 32, none⟩) (s.b.block bb (rowAt_lt hrw)) 32).trans hrw
                    clear hrx hrw
                    refine wp_region_grown (by kernel_rfl) (by kernel_rfl) ?_
                    repeat (go_big_quiet_step (exact HL.out _))
                    refine wpQuiet_nil ?_
                    rintro w8 ⟨s8, hs8⟩
                    have hb8 : Below W7.heap.size W7 w8 := by rw [hs8]; exact s8.b
                    clear hs8
                    clear hr1 hr2 HL
                    have HS8 := Lib.hid (HS7.out.below hb8)
                    have hb8' : Below w.heap.size w w8 := hb7.trans (hb8.mono hb7.size)
                    have hwi : IntKind.u64.wrap ((i : Int) + 1) = (i : Int) + 1 := by simp only [IntKind.wrap_u64]; omega
                    obtain ⟨qv, hqv⟩ : ∃ q, i / wd = q := ⟨_, rfl⟩
                    have hq1 : qv ≤ i := by rw [← hqv]; exact Nat.div_le_self _ _
                    have hq : IntKind.u64.wrap ((i : Int) / (wd : Int)) = (qv : Int) := by
                      rw [← hqv, ← Int.natCast_ediv]; simp only [IntKind.wrap_u64]; omega
                    have HQ := Lib.hid hqv; clear hqv
                    by_cases hqe : qv = lv
                    · have hqb : ((qv : Int) != (lv : Int)) = false := by simp [hqe]
                      have HQE := Lib.hid hqe; clear hqe
                      go_wp2_with fail
                      go_roundg (gko - 1)
                      case measure => have := HG.out; omega
                      case rel =>
                        have hcs : cl = some qv := by
                          have h1 := HLN.out
                          cases hc : cl with
                          | none => rw [hc] at h1; simp at h1; have := HQE.out; omega
                          | some c => rw [hc] at h1; simp at h1; rw [h1, HQE.out]
                        have e : ccL L5 wd (i + 1) = ccL L5 wd i := by show (if _ then _ else _) = _; rw [if_neg (fun hh => by rw [HCL.out, hcs, HQ.out] at hh; exact hh.2 rfl)]
                        refine ⟨i + 1, by simp, by have := HG.out; omega, by rw [e, HCC.out], by rw [e, HCL.out, HLN.out], HS8.out, hb8'⟩
                    · have hqb : ((qv : Int) != (lv : Int)) = true := by simp; omega
                      have HQE := Lib.hid hqe; clear hqe
                      go_wp2_with fail
                      go_roundg (gko - 1)
                      case measure => have := HG.out; omega
                      case rel =>
                        have hcs : cl ≠ some qv := fun hc => by
                          have h1 := HLN.out
                          rw [hc] at h1; simp at h1; exact HQE.out h1
                        have e : ccL L5 wd (i + 1) = (cc + 1, some qv) := by
                          show (if _ then _ else _) = _; rw [if_pos ⟨HLV.out, by rw [HCL.out, HQ.out]; exact hcs⟩, HCC.out, HQ.out]
                        refine ⟨i + 1, by simp, by have := HG.out; omega, by rw [e]; simp, by rw [e]; simp, HS8.out, hb8'⟩
                  | false =>
                    have HLV : Hid (liveAt L5 i = false) := by unfold Hid liveAt; rw [HX.out]; rfl
                    have e1 : hashL L5 i = zH := (errL_dead (by rw [HL5.out.1]; exact hi) HX.out).2
                    have e2 : errL L5 i = 50 := (errL_dead (by rw [HL5.out.1]; exact hi) HX.out).1
                    go_wp2_with fail
                    refine (Get_any HS'.out i (by omega)).mono ?_
                    rw [e1, e2]
                    rintro e w6 ⟨rfl, hb6⟩
                    have HE1 := Lib.hid e1; clear e1
                    have HE2 := Lib.hid e2; clear e2
                    have hb6' : Below w.heap.size w w6 := hb'.trans (hb6.mono hb'.size)
                    have HS6 := Lib.hid (HS'.out.below hb6)
                    go_upto_region 31 with fail
                    refine wp_name fun W7 HW7 => ?_
                    have hb7 : Below w.heap.size w W7 := by rw [HW7.out]; exact below_putRow (hb6'.alloc hb6'.size _) hb6'.size _
                    have hb7' : Below w6.heap.size w6 W7 := by rw [HW7.out]; exact below_putRow ((Below.refl _ w6).alloc (Nat.le_refl _) _) (Nat.le_refl _) _
                    have HS7 := Lib.hid (HS6.out.below hb7')
                    have hrx : rowAt W7 ⟨w6.heap.size, 0, none⟩ 32 = some (encH zH) := by
                      rw [HW7.out]; exact rowAt_putRow_same (hb_new w6 _) (size_encH _) (size_encH _)
                    obtain ⟨ad2, cap2, e2, hrow⟩ := HR.out.below hb7
                    obtain ⟨bb, o, e3, hrw⟩ := hrow i h HH.out
                    obtain ⟨rfl, rfl⟩ : ad2 = ad ∧ cap2 = cap := by simp at e2; exact ⟨e2.1.symm, e2.2.symm⟩
                    clear hrow e2
                    subst e3
                    clear HW7
                    have HL : Hid (∀ s : BW W7, Calls Try.prog 29 #[.pointer (some ⟨sb, 0, none⟩), .int .u64 i] s.w fun e w' => e = .returned (.bool false) ∧ ∃ s' : BW W7, w' = s'.w) := by
                      intro s
                      refine Calls.grown s ((Live_any (HS7.out.below s.b) i (by omega)).mono ?_)
                      rw [HE2.out]
                      rintro e w8 ⟨rfl, hb8d⟩
                      exact ⟨rfl, hb8d⟩
                    have hr1 : ∀ s : BW W7, rowAt s.w ⟨w6.heap.size, 0, none⟩ 32 = some (encH zH) := fun s => (rowAt_block (s.b.block _ (rowAt_lt hrx)) 32).trans hrx
                    have hr2 : ∀ s : BW W7, rowAt s.w ⟨bb, o + i * 32, none⟩ 32 = some (encH h) := fun s => (rowAt_block (a := ⟨bb, o + i * 32, none⟩) (s.b.block bb (rowAt_lt hrw)) 32).trans hrw
                    clear hrx hrw
                    refine wp_region_grown (by kernel_rfl) (by kernel_rfl) ?_
                    repeat (go_big_quiet_step (exact HL.out _))
                    refine wpQuiet_nil ?_
                    rintro w8 ⟨s8, hs8⟩
                    have hb8 : Below W7.heap.size W7 w8 := by rw [hs8]; exact s8.b
                    clear hs8
                    clear hr1 hr2 HL
                    have HS8 := Lib.hid (HS7.out.below hb8)
                    have hb8' : Below w.heap.size w w8 := hb7.trans (hb8.mono hb7.size)
                    have hwi : IntKind.u64.wrap ((i : Int) + 1) = (i : Int) + 1 := by simp only [IntKind.wrap_u64]; omega
                    go_wp2_with fail
                    go_roundg (gko - 1)
                    case measure => have := HG.out; omega
                    case rel =>
                      have e : ccL L5 wd (i + 1) = ccL L5 wd i := by show (if _ then _ else _) = _; rw [if_neg (fun hh => by rw [HLV.out] at hh; cases hh.1)]
                      refine ⟨i + 1, by simp, by have := HG.out; omega, by rw [e, HCC.out], by rw [e, HCL.out, HLN.out], HS8.out, hb8'⟩
        · have hi2 : ¬ (i : Int) < (hs.length : Int) := by omega
          have e := Lib.hid (show i = L5.length by have := HG.out; have := HL5.out.1; omega)
          have hl5 := HL5.out.1
          go_wp2_with fail
          refine (Chunks_cc HS'.out (by omega)).mono ?_
          rw [HWD.out, ← e.out, HCC.out]
          rintro e w6 ⟨rfl, rfl⟩
          go_wp2_with fail
          refine (awake_any _).mono ?_
          rintro e w7 ⟨rfl, hb7⟩
          go_wp2_with fail
          go_ret
          exact ⟨rfl, hb'.trans (hb7.mono hb'.size)⟩
set_option maxRecDepth 100000 in
theorem StoreSweeps_out (x : Int) (ad adp adk : Option Addr) (len cap lp cp lk ck : Nat) (w : World) (h : x < 0 ∨ 16 < x ∨ 200 < len ∨ 200 < lp ∨ 200 < lk) (hl : len ≤ 9223372036854775807) (hp : lp ≤ 9223372036854775807) (hk : lk ≤ 9223372036854775807) (hx1 : -9223372036854775808 ≤ x) (hx2 : x ≤ 9223372036854775807) :
    Calls Try.prog 5 #[.int .i64 x, .slice ad len cap, .slice adp lp cp, .slice adk lk ck] w fun e w' => e = .returned (.bool true) ∧ w = w' := by
  by_cases h0 : x < 0
  · go_enter Try.func5, Try.ntmps5
    go_wp2
    go_ret
    exact ⟨rfl, rfl⟩
  · by_cases h1 : 16 < x
    · go_enter Try.func5, Try.ntmps5
      go_wp2
      go_ret
      exact ⟨rfl, rfl⟩
    · by_cases h2 : 200 < len
      · have h2' : (200 : Int) < (len : Int) := by omega
        go_enter Try.func5, Try.ntmps5
        go_wp2
        go_ret
        exact ⟨rfl, rfl⟩
      · have h2' : ¬ (200 : Int) < (len : Int) := by omega
        by_cases h3 : 200 < lp
        · have h3' : (200 : Int) < (lp : Int) := by omega
          go_enter Try.func5, Try.ntmps5
          go_wp2
          go_ret
          exact ⟨rfl, rfl⟩
        · have h3' : ¬ (200 : Int) < (lp : Int) := by omega
          have h4' : (200 : Int) < (lk : Int) := by omega
          go_enter Try.func5, Try.ntmps5
          go_wp2
          go_ret
          exact ⟨rfl, rfl⟩
end Go.Proofs.Ytoigddekipjkcaa
