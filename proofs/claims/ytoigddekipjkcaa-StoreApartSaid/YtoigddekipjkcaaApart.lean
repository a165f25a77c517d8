/- massiflaw5.StoreApart: the walk. -/
import Derived.Test.YtoigddekipjkcaaOpenA
namespace Go.Proofs.Ytoigddekipjkcaa
set_option linter.all false
open Go Go.RowKit Go.Proofs Go.Maps
/-- A slice of bools, wherever it lies. -/
def BoolRow (w : World) (v : Value) (bs : List Bool) : Prop :=
  ∃ ad cap, v = .slice ad bs.length cap ∧ ∀ (i : Nat) (t : Bool), bs[i]? = some t → ∃ b o, ad = some ⟨b, o, none⟩ ∧ w.cell? ⟨b, o + i, none⟩ = some (.bool t)
section
variable {w : World} {sb rb log n : Nat} {L : List NL} {F G : Nat → Prop}
/-- A pair lies as it lay where others alone have turned. -/
theorem Pair.fr {w' : World} {S : Nat → Prop} {m : Nat} (h : Pair w sb rb log L F G n) (hf : Fr S w w') (hd : ∀ j, S j → ¬ (F j ∨ G j)) (hm : n ≤ m) (hm2 : m ≤ 1000) : Pair w' sb rb log L F G m := by
  have hl : ∀ j, F j → j < w.heap.size := fun j hj => by obtain ⟨_, _, _, _, _, _, S⟩ := h.st; exact S.lt j hj
  exact ⟨h.st.kept hf.size (fun j hj => hf.block j (hl j hj) (fun hs => hd j hs (.inl hj))), h.rf.kept hf.size (fun j hj => hf.block j (h.rf.lt j hj) (fun hs => hd j hs (.inr hj))), h.ap, h.dz, fun p => Nat.le_trans (h.pn p) hm, Nat.le_trans h.ln hm, h.hl, hm2⟩
/-- What has grown stays apart from what lay there. -/
theorem apart_on {sb2 rb2 log2 n2 : Nat} {L2 : List NL} {F2 G2 F5 G5 : Nat → Prop} (hap : ∀ j, (F j ∨ G j) → ¬ (F2 j ∨ G2 j)) (h1 : ∀ j, F5 j → F j ∨ w.heap.size ≤ j) (h2 : ∀ j, G5 j → G j ∨ w.heap.size ≤ j) (hP : Pair w sb2 rb2 log2 L2 F2 G2 n2) : ∀ j, (F5 j ∨ G5 j) → ¬ (F2 j ∨ G2 j) := by
  have hl : ∀ j, (F2 j ∨ G2 j) → j < w.heap.size := fun j hj => hj.elim (fun hj => by obtain ⟨_, _, _, _, _, _, S⟩ := hP.st; exact S.lt j hj) (hP.rf.lt j)
  intro j hj hk
  have := hl j hk
  rcases hj with hj | hj
  · rcases h1 j hj with h | h
    · exact hap j (.inl h) hk
    · omega
  · rcases h2 j hj with h | h
    · exact hap j (.inr h) hk
    · omega
end
set_option maxRecDepth 100000 in
set_option maxHeartbeats 1000000 in
theorem StoreApart_good (x y : Int) (v vb : Value) (al : List ActL) (bs : List Bool) (w : World) (hr : ActRow w v al) (hl : al.length ≤ maxLen) (hbr : BoolRow w vb bs) (hbl : bs.length ≤ maxLen) (hx2 : -9223372036854775808 ≤ x) (hx3 : x ≤ 9223372036854775807) (hy2 : -9223372036854775808 ≤ y) (hy3 : y ≤ 9223372036854775807) :
    Calls Try.prog 8 #[.int .i64 x, .int .i64 y, v, vb] w fun e w' => e = .returned (.bool true) ∧ Below w.heap.size w w' := by
  have HR := Lib.hid hr
  obtain ⟨ad, cap, rfl, hrow⟩ := hr
  have HROW := Lib.hid hrow; clear hrow
  obtain ⟨adb, capb, rfl, hbrow⟩ := hbr
  have HBR := Lib.hid hbrow; clear hbrow
  have HW := Lib.hid (weight_any w _ al HR.out hl)
  unfold maxLen at hl hbl
  go_enter Try.func8, Try.ntmps8
  go_wp2_with fail
  refine HW.out.mono ?_
  rintro e w1 ⟨k, rfl, rfl, hk⟩
  by_cases hk3 : 300 < k
  · have hk3' : (300 : Int) < (k : Int) := by omega
    go_wp2_with fail
    go_ret
    exact ⟨rfl, Below.refl _ _⟩
  · have hk3' : ¬ (300 : Int) < (k : Int) := by omega
    have hkw := hk (by omega)
    have HKW := Lib.hid (show wgt al al.length ≤ 300 by omega)
    have HLE := Lib.hid (show al.length ≤ 300 by have := wgt_ge al al.length (Nat.le_refl _); omega)
    clear hk hkw
    by_cases hx1 : x < 0 ∨ 16 < x
    · by_cases hy1 : y < 0 ∨ 16 < y
      · go_wp2_with fail
        refine (New_bad x w hx1 hx2 hx3).mono ?_
        rintro e w1 ⟨rfl, rfl⟩
        go_wp2_with fail
        refine (New_bad y w hy1 hy2 hy3).mono ?_
        rintro e w2 ⟨rfl, rfl⟩
        go_wp2_with fail
        refine (RNew_out x w hx1 hx2 hx3).mono ?_
        rintro e w3 ⟨rfl, rfl⟩
        go_wp2_with fail
        refine (RNew_out y w hy1 hy2 hy3).mono ?_
        rintro e w4 ⟨rfl, rfl⟩
        clear hx1
        clear hy1
        go_wp2_with fail
        refine (awake_any _).mono ?_
        rintro e w7 ⟨rfl, hb7⟩
        go_wp2_with fail
        go_ret
        exact ⟨rfl, hb7⟩
      · obtain ⟨other, rfl⟩ : ∃ other : Nat, y = (other : Int) := ⟨y.toNat, by omega⟩
        have hl2 : other ≤ 16 := by omega
        clear hy1
        go_wp2_with fail
        refine (New_bad x w hx1 hx2 hx3).mono ?_
        rintro e w1 ⟨rfl, rfl⟩
        go_wp2_with fail
        refine (New_good other w hl2).mono ?_
        rintro e w2 ⟨tb, F2, rfl, hT, hF2, hb2⟩
        have HT := Lib.hid hT; clear hT
        have HF2 := Lib.hid hF2; clear hF2
        go_wp2_with fail
        refine (RNew_out x w2 hx1 hx2 hx3).mono ?_
        rintro e w3 ⟨rfl, rfl⟩
        go_wp2_with fail
        refine (RNew_good other w2 hl2).mono ?_
        rintro e w4 ⟨qb, G2, rfl, hQ, hG2, hb4⟩
        have HQ := Lib.hid hQ; clear hQ
        have HG2 := Lib.hid hG2; clear hG2
        clear hx1
        go_wp2_with fail
        refine (awake_any _).mono ?_
        rintro e w7 ⟨rfl, hb7⟩
        go_wp2_with fail
        go_ret
        exact ⟨rfl, (hb2.trans (hb4.mono hb2.size)).trans (hb7.mono (Nat.le_trans hb2.size hb4.size))⟩
    · obtain ⟨log, rfl⟩ : ∃ log : Nat, x = (log : Int) := ⟨x.toNat, by omega⟩
      have hl1 : log ≤ 16 := by omega
      clear hx1
      by_cases hy1 : y < 0 ∨ 16 < y
      · go_wp2_with fail
        refine (New_good log w hl1).mono ?_
        rintro e w1 ⟨sb, F, rfl, hS, hF, hb1⟩
        have HS := Lib.hid hS; clear hS
        have HF := Lib.hid hF; clear hF
        go_wp2_with fail
        refine (New_bad y w1 hy1 hy2 hy3).mono ?_
        rintro e w2 ⟨rfl, rfl⟩
        go_wp2_with fail
        refine (RNew_good log w1 hl1).mono ?_
        rintro e w3 ⟨rb, G, rfl, hR, hG, hb3⟩
        have HR' := Lib.hid hR; clear hR
        have HG := Lib.hid hG; clear hG
        go_wp2_with fail
        refine (RNew_out y w3 hy1 hy2 hy3).mono ?_
        rintro e w4 ⟨rfl, rfl⟩
        clear hy1
        go_wp2_with fail
        refine (awake_any _).mono ?_
        rintro e w7 ⟨rfl, hb7⟩
        go_wp2_with fail
        go_ret
        exact ⟨rfl, (hb1.trans (hb3.mono hb1.size)).trans (hb7.mono (Nat.le_trans hb1.size hb3.size))⟩
      · obtain ⟨other, rfl⟩ : ∃ other : Nat, y = (other : Int) := ⟨y.toNat, by omega⟩
        have hl2 : other ≤ 16 := by omega
        clear hy1
        go_wp2_with fail
        refine (New_good log w hl1).mono ?_
        rintro e w1 ⟨sb, F, rfl, hS, hF, hb1⟩
        have HS := Lib.hid hS; clear hS
        have HF := Lib.hid hF; clear hF
        go_wp2_with fail
        refine (New_good other w1 hl2).mono ?_
        rintro e w2 ⟨tb, F2, rfl, hT, hF2, hb2⟩
        have HT := Lib.hid hT; clear hT
        have HF2 := Lib.hid hF2; clear hF2
        go_wp2_with fail
        refine (RNew_good log w2 hl1).mono ?_
        rintro e w3 ⟨rb, G, rfl, hR, hG, hb3⟩
        have HR' := Lib.hid hR; clear hR
        have HG := Lib.hid hG; clear hG
        go_wp2_with fail
        refine (RNew_good other w3 hl2).mono ?_
        rintro e w4 ⟨qb, G2, rfl, hQ, hG2, hb4⟩
        have HQ := Lib.hid hQ; clear hQ
        have HG2 := Lib.hid hG2; clear hG2
        have s1 := hb1.size
        have s2 := hb2.size
        have s3 := hb3.size
        have s4 := hb4.size
        have l1 : ∀ j, F j → j < w1.heap.size := fun j hj => by obtain ⟨_, _, _, _, _, _, S⟩ := HS.out; exact S.lt j hj
        have l2 : ∀ j, F2 j → j < w2.heap.size := fun j hj => by obtain ⟨_, _, _, _, _, _, S⟩ := HT.out; exact S.lt j hj
        have l3 : ∀ j, G j → j < w3.heap.size := HR'.out.lt
        have bw2 : Below w1.heap.size w1 w4 := (hb2.trans (hb3.mono hb2.size)).trans (hb4.mono (by omega))
        have bw3 : Below w2.heap.size w2 w4 := hb3.trans (hb4.mono hb3.size)
        have HP : Hid (Pair w4 sb rb log [] F G 0) := ⟨HS.out.below bw2, HR'.out.below hb4, fun j hf hg => by have := l1 j hf; have := HG.out j hg; omega, fun p k h => by simp at h, fun p => by unfold pinsL; simp, Nat.le_refl _, hl1, by omega⟩
        have HP2 : Hid (Pair w4 tb qb other [] F2 G2 0) := ⟨HT.out.below bw3, HQ.out, fun j hf hg => by have := l2 j hf; have := HG2.out j hg; omega, fun p k h => by simp at h, fun p => by unfold pinsL; simp, Nat.le_refl _, hl2, by omega⟩
        have HFw : Hid (∀ j, F j → w.heap.size ≤ j) := HF.out
        have HGw : Hid (∀ j, G j → w.heap.size ≤ j) := fun j hj => by have := HG.out j hj; omega
        have HF2w : Hid (∀ j, F2 j → w.heap.size ≤ j) := fun j hj => by have := HF2.out j hj; omega
        have HG2w : Hid (∀ j, G2 j → w.heap.size ≤ j) := fun j hj => by have := HG2.out j hj; omega
        have HAP : Hid (∀ j, (F j ∨ G j) → ¬ (F2 j ∨ G2 j)) := by
          rintro j (h1 | h1) (h2 | h2)
          · have := l1 j h1; have := HF2.out j h2; omega
          · have := l1 j h1; have := HG2.out j h2; omega
          · have := HG.out j h1; have := l2 j h2; omega
          · have := l3 j h1; have := HG2.out j h2; omega
        have HBW : Hid (Below w.heap.size w w4) := hb1.trans (bw2.mono hb1.size)
        clear l1 l2 l3 bw2 bw3 hb1 hb2 hb3 hb4 HS HT HR' HQ HF HG HF2 HG2 s1 s2 s3 s4
        go_wp2_with fail
        go_loopg [17] (al.length) (fun g vi wr => ∃ i La Fa Ga Lb Fb Gb, vi = .int .i64 (i : Nat) ∧ g + i = al.length ∧ Pair wr sb rb log La Fa Ga i ∧ Pair wr tb qb other Lb Fb Gb i ∧ ((∀ j, Fa j → w.heap.size ≤ j) ∧ (∀ j, Ga j → w.heap.size ≤ j) ∧ (∀ j, Fb j → w.heap.size ≤ j) ∧ (∀ j, Gb j → w.heap.size ≤ j)) ∧ (∀ j, (Fa j ∨ Ga j) → ¬ (Fb j ∨ Gb j)) ∧ Below w.heap.size w wr)
        case atStart => exact ⟨0, [], F, G, [], F2, G2, rfl, by simp, HP.out, HP2.out, ⟨HFw.out, HGw.out, HF2w.out, HG2w.out⟩, HAP.out, HBW.out⟩
        case round =>
          obtain ⟨i, La, Fa, Ga, Lb, Fb, Gb, rfl, hg, hP, hP2, ⟨hf1, hf2, hf3, hf4⟩, hap, hb'⟩ := hrel
          have HG := Lib.hid hg; clear hg
          have HPa := Lib.hid hP; clear hP
          have HPb := Lib.hid hP2; clear hP2
          have Hf1 := Lib.hid hf1; clear hf1
          have Hf2 := Lib.hid hf2; clear hf2
          have Hf3 := Lib.hid hf3; clear hf3
          have Hf4 := Lib.hid hf4; clear hf4
          have Hap := Lib.hid hap; clear hap
          by_cases hi : i < al.length
          · have hi' : (i : Int) < (al.length : Int) := by omega
            obtain ⟨a, ha⟩ : ∃ a, al[i]? = some a := ⟨al[i], List.getElem?_eq_getElem hi⟩
            obtain ⟨b, o, e3, hrw, hnum, _, hw1, hw2⟩ := HROW.out i a ha
            subst e3
            have hrr : rowAt wr ⟨b, o + i * 35, none⟩ 35 = some (encA a) := (rowAt_block (a := ⟨b, o + i * 35, none⟩) (hb'.block b (rowAt_lt hrw)) 35).trans hrw
            have HOKa := Lib.hid (AOK.mk' (F := Fa) (G := Ga) hnum hb' (wgt_len ha HKW.out) hw1 hw2 Hf1.out Hf2.out)
            have HOKb := Lib.hid (AOK.mk' (F := Fb) (G := Gb) hnum hb' (wgt_len ha HKW.out) hw1 hw2 Hf3.out Hf4.out)
            have hi3 : i + 1 ≤ 1000 := by have := HLE.out; omega
            clear ha hrw hnum hw1 hw2
            by_cases ht : i < bs.length
            · have ht' : (i : Int) < (bs.length : Int) := by omega
              obtain ⟨tv, htv⟩ : ∃ tv, bs[i]? = some tv := ⟨bs[i], List.getElem?_eq_getElem ht⟩
              obtain ⟨b5, o5, e5, hc5⟩ := HBR.out i tv htv
              subst e5
              have hc6 : wr.cell? ⟨b5, o5 + i, none⟩ = some (.bool tv) := (hb'.cell (p := ⟨b5, o5 + i, none⟩) (cell_lt hc5)).trans hc5
              clear htv hc5
              cases tv with
              | true =>
                go_wp2_with fail
                refine (act_any HPb.out hi3 a HOKb.out).mono ?_
                rintro e w5 ⟨rfl, L5, F5, G5, hP5, hF5, hG5, hfr⟩
                have hb5 : Below w.heap.size w w5 := fr_below hb' hfr Hf3.out Hf4.out
                have HP5 := Lib.hid hP5; clear hP5
                have HO5 := Lib.hid (HPa.out.fr hfr (fun j h1 h2 => Hap.out j h2 h1) (Nat.le_succ i) hi3)
                have HF5 : Hid (∀ j, F5 j → w.heap.size ≤ j) := fun j hj => (hF5 j hj).elim (Hf3.out j) (fun h => Nat.le_trans hb'.size h)
                have HG5 : Hid (∀ j, G5 j → w.heap.size ≤ j) := fun j hj => (hG5 j hj).elim (Hf4.out j) (fun h => Nat.le_trans hb'.size h)
                have HA5 := Lib.hid (apart_on (fun j h1 h2 => Hap.out j h2 h1) hF5 hG5 HPa.out)
                clear hF5 hG5 hfr
                go_wp2_with fail
                go_roundg (gk - 1)
                case measure => have := HG.out; omega
                case rel => exact ⟨i + 1, La, Fa, Ga, L5, F5, G5, by simp, by have := HG.out; omega, HO5.out, HP5.out, ⟨Hf1.out, Hf2.out, HF5.out, HG5.out⟩, fun j h1 h2 => HA5.out j h2 h1, hb5⟩
              | false =>
                go_wp2_with fail
                refine (act_any HPa.out hi3 a HOKa.out).mono ?_
                rintro e w5 ⟨rfl, L5, F5, G5, hP5, hF5, hG5, hfr⟩
                have hb5 : Below w.heap.size w w5 := fr_below hb' hfr Hf1.out Hf2.out
                have HP5 := Lib.hid hP5; clear hP5
                have HO5 := Lib.hid (HPb.out.fr hfr (fun j h1 h2 => Hap.out j h1 h2) (Nat.le_succ i) hi3)
                have HF5 : Hid (∀ j, F5 j → w.heap.size ≤ j) := fun j hj => (hF5 j hj).elim (Hf1.out j) (fun h => Nat.le_trans hb'.size h)
                have HG5 : Hid (∀ j, G5 j → w.heap.size ≤ j) := fun j hj => (hG5 j hj).elim (Hf2.out j) (fun h => Nat.le_trans hb'.size h)
                have HA5 := Lib.hid (apart_on Hap.out hF5 hG5 HPb.out)
                clear hF5 hG5 hfr
                go_wp2_with fail
                go_roundg (gk - 1)
                case measure => have := HG.out; omega
                case rel => exact ⟨i + 1, L5, F5, G5, Lb, Fb, Gb, by simp, by have := HG.out; omega, HP5.out, HO5.out, ⟨HF5.out, HG5.out, Hf3.out, Hf4.out⟩, HA5.out, hb5⟩
            · have ht' : ¬ (i : Int) < (bs.length : Int) := by omega
              go_wp2_with fail
              refine (act_any HPa.out hi3 a HOKa.out).mono ?_
              rintro e w5 ⟨rfl, L5, F5, G5, hP5, hF5, hG5, hfr⟩
              have hb5 : Below w.heap.size w w5 := fr_below hb' hfr Hf1.out Hf2.out
              have HP5 := Lib.hid hP5; clear hP5
              have HO5 := Lib.hid (HPb.out.fr hfr (fun j h1 h2 => Hap.out j h1 h2) (Nat.le_succ i) hi3)
              have HF5 : Hid (∀ j, F5 j → w.heap.size ≤ j) := fun j hj => (hF5 j hj).elim (Hf1.out j) (fun h => Nat.le_trans hb'.size h)
              have HG5 : Hid (∀ j, G5 j → w.heap.size ≤ j) := fun j hj => (hG5 j hj).elim (Hf2.out j) (fun h => Nat.le_trans hb'.size h)
              have HA5 := Lib.hid (apart_on Hap.out hF5 hG5 HPb.out)
              clear hF5 hG5 hfr
              go_wp2_with fail
              go_roundg (gk - 1)
              case measure => have := HG.out; omega
              case rel => exact ⟨i + 1, L5, F5, G5, Lb, Fb, Gb, by simp, by have := HG.out; omega, HP5.out, HO5.out, ⟨HF5.out, HG5.out, Hf3.out, Hf4.out⟩, HA5.out, hb5⟩
          · have hi' : ¬ (i : Int) < (al.length : Int) := by omega
            go_wp2_with fail
            refine (whole_any HPa.out).mono ?_
            rintro e w5 ⟨rfl, hb5⟩
            have hb5' : Below w.heap.size w w5 := hb'.trans (hb5.mono hb'.size)
            have HPb5 := Lib.hid (HPb.out.below hb5)
            go_wp2_with fail
            refine (whole_any HPb5.out).mono ?_
            rintro e w6 ⟨rfl, hb6⟩
            have hb6' : Below w.heap.size w w6 := hb5'.trans (hb6.mono hb5'.size)
            go_wp2_with fail
            refine (awake_any _).mono ?_
            rintro e w7 ⟨rfl, hb7⟩
            go_wp2_with fail
            go_ret
            exact ⟨rfl, hb6'.trans (hb7.mono hb6'.size)⟩
end Go.Proofs.Ytoigddekipjkcaa
