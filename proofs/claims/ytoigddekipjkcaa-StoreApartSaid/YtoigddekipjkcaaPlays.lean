/- massiflaw5: act, weight, whole. -/
import Derived.Test.YtoigddekipjkcaaAct6
namespace Go.Proofs.Ytoigddekipjkcaa
set_option linter.all false
open Go Go.RowKit Go.Proofs Go.Maps
/-- An act whose list lies ahead of both stores. -/
structure AOK (w : World) (F G : Nat → Prop) (a : ActL) : Prop where
  num : NumRow w a.kv a.ks
  len : a.ks.length ≤ 1000
  lo : -9223372036854775808 ≤ a.what
  hi : a.what ≤ 9223372036854775807
  ap : a.ks ≠ [] → ∀ b o nn c, a.kv = .slice (some ⟨b, o, none⟩) nn c → ¬ F b ∧ ¬ G b
section
variable {w : World} {sb rb log n : Nat} {L : List NL} {F G : Nat → Prop}
theorem act_any (h : Pair w sb rb log L F G n) (hn : n + 1 ≤ 1000) (a : ActL) (ha : AOK w F G a) :
    Calls Try.prog 37 #[.pointer (some ⟨sb, 0, none⟩), .pointer (some ⟨rb, 0, none⟩), .agg (encA a)] w (ActPost w sb rb log (n + 1) F G) := by
  by_cases h0 : a.what < 1 ∨ 11 < a.what
  · exact act_0 h hn a h0 ha.lo ha.hi
  · rcases (show a.what = 1 ∨ a.what = 2 ∨ a.what = 3 ∨ a.what = 4 ∨ a.what = 5 ∨ a.what = 6 ∨ a.what = 7 ∨ a.what = 8 ∨ a.what = 9 ∨ a.what = 10 ∨ a.what = 11 by omega) with e | e | e | e | e | e | e | e | e | e | e
    · exact act_1 h hn a e
    · exact act_2 h hn a e
    · exact act_3 h hn a e
    · exact act_4 h hn a e
    · exact act_5 h hn a e
    · exact act_6 h hn a e ha.num ha.len ha.ap
    · exact act_7 h hn a e
    · exact act_8 h hn a e
    · exact act_9 h hn a e
    · exact act_10 h hn a e
    · exact act_11 h hn a e
set_option maxRecDepth 100000 in
theorem whole_any (h : Pair w sb rb log L F G n) : Calls Try.prog 38 #[.pointer (some ⟨sb, 0, none⟩), .pointer (some ⟨rb, 0, none⟩)] w fun e w' => e = .returned (.bool true) ∧ Below w.heap.size w w' := by
  have HLn := Lib.hid h.lenLe
  have H := Lib.hid h; clear h
  go_enter Try.func38, Try.ntmps38
  go_wp2_with fail
  go_loopg [5] (L.length + 2) (fun g vp wr => ∃ i, vp = .int .u64 (i : Nat) ∧ g + i = L.length + 2 ∧ Below w.heap.size w wr)
  case atStart => exact ⟨0, rfl, by simp, Below.refl _ _⟩
  case round =>
    obtain ⟨i, rfl, hg, hb⟩ := hrel
    have HG := Lib.hid hg; clear hg
    have HR := Lib.hid (H.out.below hb)
    have hLl := HLn.out
    have hw2 : IntKind.u64.wrap ((L.length : Int) + 2) = (L.length : Int) + 2 := by simp only [IntKind.wrap_u64]; omega
    have hil : i ≤ 1000002 := by have := HG.out; omega
    have hwi : IntKind.u64.wrap ((i : Int) + 1) = (i : Int) + 1 := by simp only [IntKind.wrap_u64]; omega
    by_cases hi : i < L.length + 2
    · have hi' : (i : Int) < (L.length : Int) + 2 := by omega
      go_wp2_with fail
      refine (RLen_any HR.out.rf HLn.out).mono ?_
      rintro e w2 ⟨rfl, rfl⟩
      go_wp2_with fail
      refine (alike_any HR.out i (by omega)).mono ?_
      rintro e w3 ⟨rfl, hb3⟩
      go_wp2_with fail
      go_roundg (gk - 1)
      case measure => have := HG.out; omega
      case rel => exact ⟨i + 1, by simp, by have := HG.out; omega, hb.trans (hb3.mono hb.size)⟩
    · have hi' : ¬ (i : Int) < (L.length : Int) + 2 := by omega
      go_wp2_with fail
      refine (RLen_any HR.out.rf HLn.out).mono ?_
      rintro e w2 ⟨rfl, rfl⟩
      go_wp2_with fail
      refine (numbers_any HR.out).mono ?_
      rintro e w3 ⟨rfl, rfl⟩
      go_wp2_with fail
      refine (told_any HR.out 0 (by omega)).mono ?_
      rintro e w3 ⟨rfl, hb3⟩
      go_wp2_with fail
      go_ret
      exact ⟨rfl, hb.trans (hb3.mono hb.size)⟩
end
theorem rowAt_cell {w : World} {b o n j : Nat} {c : Array Value} (h : rowAt w ⟨b, o, none⟩ n = some c) (hj : j < n) : w.cell? ⟨b, o + j, none⟩ = c[j]? := by
  unfold rowAt at h
  split at h
  · rename_i cs t f hb
    split at h
    · rename_i hc
      simp only [Option.some.injEq] at h
      subst h
      simp only at hb hc
      rw [cell_of hb, Array.getElem?_extract, if_pos (by omega)]
    · cases h
  · cases h
/-- A slice of acts, wherever it lies. -/
def ActRow (w : World) (v : Value) (al : List ActL) : Prop :=
  ∃ ad cap, v = .slice ad al.length cap ∧ ∀ (i : Nat) (a : ActL), al[i]? = some a → ∃ b o, ad = some ⟨b, o, none⟩ ∧ rowAt w ⟨b, o + i * 35, none⟩ 35 = some (encA a) ∧ NumRow w a.kv a.ks ∧ a.ks.length ≤ 20000000000000 ∧ -9223372036854775808 ≤ a.what ∧ a.what ≤ 9223372036854775807
theorem ActRow.below {w w' : World} {v : Value} {al : List ActL} (h : ActRow w v al) (hb : Below w.heap.size w w') : ActRow w' v al := by
  obtain ⟨ad, cap, e, hr⟩ := h
  refine ⟨ad, cap, e, fun i a hi => ?_⟩
  obtain ⟨b, o, e2, h1, h2, h3⟩ := hr i a hi
  exact ⟨b, o, e2, (rowAt_block (a := ⟨b, o + i * 35, none⟩) (hb.block b (rowAt_lt h1)) 35).trans h1, h2.below hb, h3⟩
/-- How many acts and numbers there are: so far, up to 300 and one step more. -/
def wgt (al : List ActL) : Nat → Nat
  | 0 => 0
  | i + 1 => wgt al i + (match al[i]? with | some a => 1 + a.ks.length | none => 0)
theorem wgt_step {al : List ActL} {i : Nat} {a : ActL} (h : al[i]? = some a) : wgt al (i + 1) = wgt al i + (1 + a.ks.length) := by
  show wgt al i + _ = _; rw [h]
theorem wgt_ge (al : List ActL) : ∀ i, i ≤ al.length → i ≤ wgt al i
  | 0, _ => Nat.zero_le _
  | i + 1, h => by
    have := wgt_ge al i (by omega)
    rw [wgt_step (List.getElem?_eq_getElem (show i < al.length by omega))]; omega
theorem wgt_mono (al : List ActL) (i : Nat) : ∀ j, i ≤ j → wgt al i ≤ wgt al j
  | 0, h => by have : i = 0 := by omega
               subst this; exact Nat.le_refl _
  | j + 1, h => by
    by_cases e : i = j + 1
    · subst e; exact Nat.le_refl _
    · exact Nat.le_trans (wgt_mono al i j (by omega)) (Nat.le_add_right _ _)
def WPost (al : List ActL) (w : World) (e : Ending) (w' : World) : Prop := ∃ k : Nat, e = .returned (.int .i64 (k : Int)) ∧ w = w' ∧ (k ≤ 300 → k = wgt al al.length) 
set_option maxRecDepth 100000 in
theorem weight_any (w : World) (v : Value) (al : List ActL) (hr : ActRow w v al) (hl : al.length ≤ maxLen) : Calls Try.prog 34 #[v] w (WPost al w) := by
  obtain ⟨ad, cap, rfl, hrow⟩ := hr
  have HR := Lib.hid hrow; clear hrow
  unfold maxLen at hl
  go_enter Try.func34, Try.ntmps34
  go_wp2_with fail
  go_loopg [3, 4] (al.length) (fun g vn vi wr => ∃ i, vi = .int .i64 (i : Nat) ∧ g + i = al.length ∧ vn = .int .i64 (wgt al i : Int) ∧ (i = 0 ∨ wgt al (i - 1) ≤ 300) ∧ wr = w)
  case atStart => exact ⟨0, rfl, by simp, rfl, .inl rfl, rfl⟩
  case round =>
    obtain ⟨i, rfl, hg, rfl, hw, rfl⟩ := hrel
    have HG := Lib.hid hg; clear hg
    obtain ⟨c, hc⟩ : ∃ c, wgt al i = c := ⟨_, rfl⟩
    rw [hc]
    have HC := Lib.hid hc; clear hc
    have HW := Lib.hid hw; clear hw
    by_cases hi : i < al.length
    · have hi' : (i : Int) < (al.length : Int) := by omega
      by_cases h3 : c ≤ 300
      · have h3' : (c : Int) ≤ 300 := by omega
        obtain ⟨a, ha⟩ : ∃ a, al[i]? = some a := ⟨al[i], List.getElem?_eq_getElem hi⟩
        obtain ⟨b, o, e3, hrw, ⟨ad2, cap2, ekv, _⟩, hml, _, _⟩ := HR.out i a ha
        subst e3
        have hcell : wr.cell? ⟨b, o + i * 35 + 34, none⟩ = some (.slice ad2 a.ks.length cap2) := by rw [rowAt_cell hrw (by omega), encA_34, ekv]
        have HS := Lib.hid (wgt_step ha)
        have HA := Lib.hid ha; clear ha hrw ekv
        go_wp2_with fail
        go_roundg (gk - 1)
        case measure => have := HG.out; omega
        case rel =>
          refine ⟨i + 1, by simp, by have := HG.out; omega, ?_, .inr (by rw [Nat.add_sub_cancel, HC.out]; exact h3), rfl⟩
          rw [HS.out, HC.out]; simp
      · have h3' : ¬ (c : Int) ≤ 300 := by omega
        go_wp2_with fail
        go_ret
        refine ⟨c, rfl, rfl, fun h => absurd h h3⟩
    · have hi' : ¬ (i : Int) < (al.length : Int) := by omega
      have e := Lib.hid (show i = al.length by have := HG.out; omega)
      go_wp2_with fail
      go_ret
      exact ⟨c, rfl, rfl, fun _ => by rw [← e.out, HC.out]⟩
/-! loading an act -/
theorem aggA : AggT Try.prog 65 35 := ⟨fun w => by kernel_rfl, fun w => by kernel_rfl⟩
@[go_sem ↓] theorem load_A (ev : Operand → Value) (d : Option Tmp) (x : Operand) (ty : TypeId) (pos : String) (after : Array Edge) (g : Option (Nat × Bool)) (w : World) :
    (execOp ev { dst := d, op := .load 65 x, type := ty, pos := pos, after := after, guard := g }).run Try.prog w = loadAgg Try.prog 65 35 (ev x) w := run_load_agg aggA ev d x ty pos after g w
theorem num_block {w : World} {v : Value} {ks : List U64} (h : NumRow w v ks) (hne : ks ≠ []) {b o n c : Nat} (e : v = .slice (some ⟨b, o, none⟩) n c) : b < w.heap.size := by
  obtain ⟨ad, cap, e2, hr⟩ := h
  cases ks with
  | nil => exact absurd rfl hne
  | cons k ks =>
    obtain ⟨b2, o2, e3, hc⟩ := hr 0 k rfl
    rw [e2, e3] at e
    have := cell_lt hc
    simp at e
    rw [← e.1.1]; exact this
theorem AOK.mk' {w0 wr : World} {F G : Nat → Prop} {a : ActL} (hn : NumRow w0 a.kv a.ks) (hb : Below w0.heap.size w0 wr) (hl : a.ks.length ≤ 1000) (h1 : -9223372036854775808 ≤ a.what) (h2 : a.what ≤ 9223372036854775807) (hF : ∀ j, F j → w0.heap.size ≤ j) (hG : ∀ j, G j → w0.heap.size ≤ j) : AOK wr F G a :=
  ⟨hn.below hb, hl, h1, h2, fun hne b o nn c e => by
    have := num_block hn hne e
    exact ⟨fun h => by have := hF b h; omega, fun h => by have := hG b h; omega⟩⟩
theorem fr_below {w0 w w' : World} {F G : Nat → Prop} (hb : Below w0.heap.size w0 w) (h : Fr (fun j => F j ∨ G j) w w') (hF : ∀ j, F j → w0.heap.size ≤ j) (hG : ∀ j, G j → w0.heap.size ≤ j) : Below w0.heap.size w0 w' :=
  hb.trans (h.toBelow (fun j hj => hj.elim (hF j) (hG j)) hb.size)
theorem wgt_len {al : List ActL} {i : Nat} {a : ActL} (h : al[i]? = some a) (hw : wgt al al.length ≤ 300) : a.ks.length ≤ 1000 := by
  have hl := (List.getElem?_eq_some_iff.1 h).1
  have h1 := wgt_mono al (i + 1) al.length (by omega)
  rw [wgt_step h] at h1
  omega
set_option maxRecDepth 100000 in
theorem StorePlays_good (x : Int) (v : Value) (al : List ActL) (w : World) (hr : ActRow w v al) (hl : al.length ≤ maxLen) (hx1 : -9223372036854775808 ≤ x) (hx2 : x ≤ 9223372036854775807) :
    Calls Try.prog 7 #[.int .i64 x, v] w fun e w' => e = .returned (.bool true) ∧ Below w.heap.size w w' := by
  have HR := Lib.hid hr
  obtain ⟨ad, cap, rfl, hrow⟩ := hr
  have HROW := Lib.hid hrow; clear hrow
  have HW := Lib.hid (weight_any w _ al HR.out hl)
  unfold maxLen at hl
  go_enter Try.func7, Try.ntmps7
  go_wp2_with fail
  refine HW.out.mono ?_
  rintro e w1 ⟨k, rfl, rfl, hk⟩
  by_cases hk3 : 300 < k
  · have hk3' : (300 : Int) < (k : Int) := by omega
    go_wp2_with fail
    go_ret
    exact ⟨rfl, Below.refl _ _⟩
  · have hk3' : ¬ (300 : Int) < (k : Int) := by omega
    have hkw := hk (by omega)
    have HKW := Lib.hid (show wgt al al.length ≤ 300 by omega)
    have HLE := Lib.hid (show al.length ≤ 300 by have := wgt_ge al al.length (Nat.le_refl _); omega)
    clear hk hkw
    by_cases hx : x < 0 ∨ 16 < x
    · go_wp2_with fail
      refine (New_bad x w hx hx1 hx2).mono ?_
      rintro e w1 ⟨rfl, rfl⟩
      go_wp2_with fail
      refine (RNew_out x _ hx hx1 hx2).mono ?_
      rintro e w1 ⟨rfl, rfl⟩
      clear hx
      go_wp2_with fail
      refine (awake_any _).mono ?_
      rintro e w7 ⟨rfl, hb7⟩
      go_wp2_with fail
      go_ret
      exact ⟨rfl, hb7⟩
    · obtain ⟨log, rfl⟩ : ∃ log : Nat, x = (log : Int) := ⟨x.toNat, by omega⟩
      have hlog : log ≤ 16 := by omega
      clear hx hx1 hx2
      go_wp2_with fail
      refine (New_good log w hlog).mono ?_
      rintro e w1 ⟨sb, F, rfl, hS, hF, hb1⟩
      have HS := Lib.hid hS; clear hS
      have HF := Lib.hid hF; clear hF
      go_wp2_with fail
      refine (RNew_good log w1 hlog).mono ?_
      rintro e w2 ⟨rb, G, rfl, hR, hG, hb2⟩
      have hlw := hb1.size
      have HP : Hid (Pair w2 sb rb log [] F G 0) := ⟨HS.out.below hb2, hR, fun j hf hg => by
        obtain ⟨_, _, _, _, _, _, S⟩ := HS.out
        have := S.lt j hf; have := hG j hg; omega, fun p k h => by simp at h, fun p => by unfold pinsL; simp, Nat.le_refl _, hlog, by omega⟩
      have HG2 : Hid (∀ j, G j → w.heap.size ≤ j) := fun j hj => Nat.le_trans hlw (hG j hj)
      have hbw : Below w.heap.size w w2 := hb1.trans (hb2.mono hlw)
      clear hR hG hb2 hb1 HS hlw
      go_wp2_with fail
      go_loopg [9] (al.length) (fun g vi wr => ∃ i L F' G', vi = .int .i64 (i : Nat) ∧ g + i = al.length ∧ Pair wr sb rb log L F' G' i ∧ (∀ j, F' j → w.heap.size ≤ j) ∧ (∀ j, G' j → w.heap.size ≤ j) ∧ Below w.heap.size w wr)
      case atStart => exact ⟨0, [], F, G, rfl, by simp, HP.out, HF.out, HG2.out, hbw⟩
      case round =>
        obtain ⟨i, L, F', G', rfl, hg, hP, hF', hG', hb'⟩ := hrel
        have HG := Lib.hid hg; clear hg
        have HP' := Lib.hid hP; clear hP
        have HF' := Lib.hid hF'; clear hF'
        have HG' := Lib.hid hG'; clear hG'
        by_cases hi : i < al.length
        · have hi' : (i : Int) < (al.length : Int) := by omega
          obtain ⟨a, ha⟩ : ∃ a, al[i]? = some a := ⟨al[i], List.getElem?_eq_getElem hi⟩
          obtain ⟨b, o, e3, hrw, hnum, _, hw1, hw2⟩ := HROW.out i a ha
          subst e3
          have hrr : rowAt wr ⟨b, o + i * 35, none⟩ 35 = some (encA a) := (rowAt_block (a := ⟨b, o + i * 35, none⟩) (hb'.block b (rowAt_lt hrw)) 35).trans hrw
          have HOK := Lib.hid (AOK.mk' (F := F') (G := G') hnum hb' (wgt_len ha HKW.out) hw1 hw2 HF'.out HG'.out)
          have hi3 : i + 1 ≤ 1000 := by have := HLE.out; omega
          clear ha hrw hnum hw1 hw2
          go_wp2_with fail
          refine (act_any HP'.out hi3 a HOK.out).mono ?_
          rintro e w5 ⟨rfl, L5, F5, G5, hP5, hF5, hG5, hfr⟩
          have hb5 : Below w.heap.size w w5 := fr_below hb' hfr HF'.out HG'.out
          have HP5 := Lib.hid hP5; clear hP5
          have HF5 : Hid (∀ j, F5 j → w.heap.size ≤ j) := fun j hj => (hF5 j hj).elim (HF'.out j) (fun h => Nat.le_trans hb'.size h)
          have HG5 : Hid (∀ j, G5 j → w.heap.size ≤ j) := fun j hj => (hG5 j hj).elim (HG'.out j) (fun h => Nat.le_trans hb'.size h)
          clear hF5 hG5 hfr
          go_wp2_with fail
          go_roundg (gk - 1)
          case measure => have := HG.out; omega
          case rel => exact ⟨i + 1, L5, F5, G5, by simp, by have := HG.out; omega, HP5.out, HF5.out, HG5.out, hb5⟩
        · have hi' : ¬ (i : Int) < (al.length : Int) := by omega
          go_wp2_with fail
          refine (whole_any HP'.out).mono ?_
          rintro e w5 ⟨rfl, hb5⟩
          have hb5' : Below w.heap.size w w5 := hb'.trans (hb5.mono hb'.size)
          go_wp2_with fail
          refine (awake_any _).mono ?_
          rintro e w7 ⟨rfl, hb7⟩
          go_wp2_with fail
          go_ret
          exact ⟨rfl, hb5'.trans (hb7.mono hb5'.size)⟩
end Go.Proofs.Ytoigddekipjkcaa
