/- massiflaw5.act: what is done to both stores. -/
import Derived.Deep.RegionHeld3
import Derived.Test.YtoigddekipjkcaaTold
import Derived.Test.YtoigddekipjkcaaUnpin
namespace Go.Proofs.Ytoigddekipjkcaa
set_option linter.all false
open Go Go.RowKit Go.Proofs Go.Maps
/-- What is done. -/
structure ActL where
  what : Int
  p : U64
  h : HB
  kv : Value
  ks : List U64
def encA (a : ActL) : Array Value := #[.int .i64 a.what, .int .u64 (a.p.1 : Int)] ++ encH a.h ++ #[a.kv]
def actO (a : ActL) : Obj := .cells (encA a) 65 (0, 0)
theorem size_encA (a : ActL) : (encA a).size = 35 := by simp [encA, size_encH]
theorem encA_0 (a : ActL) : (encA a)[0]? = some (.int .i64 a.what) := by
  unfold encA; rw [Array.append_assoc, Array.getElem?_append_left (by simp)]; rfl
theorem encA_1 (a : ActL) : (encA a)[1]? = some (.int .u64 (a.p.1 : Int)) := by
  unfold encA; rw [Array.append_assoc, Array.getElem?_append_left (by simp)]; rfl
theorem encA_34 (a : ActL) : (encA a)[34]? = some a.kv := by
  unfold encA
  rw [Array.getElem?_append_right (by simp [size_encH])]
  simp [size_encH]
theorem encA_h (a : ActL) : (encA a).extract 2 34 = encH a.h := by
  unfold encA
  apply Array.ext'
  have h : (encH a.h).toList.length = 32 := by simp [size_encH]
  simp only [Array.toList_extract, Array.toList_append, List.extract_eq_drop_take]
  simp [List.take_append, h]
/-- The act's own copy, in a box. -/
structure ABox (w : World) (b : Nat) (a : ActL) : Prop where
  c0 : w.cell? ⟨b, 0, none⟩ = some (.int .i64 a.what)
  c1 : w.cell? ⟨b, 1, none⟩ = some (.int .u64 (a.p.1 : Int))
  c2 : rowAt w ⟨b, 2, none⟩ 32 = some (encH a.h)
  c34 : w.cell? ⟨b, 34, none⟩ = some a.kv
theorem ABox.of {w : World} {b : Nat} {a : ActL} (h : w.heap[b]? = some (actO a)) : ABox w b a :=
  ⟨(cell_of h).trans (encA_0 a), (cell_of h).trans (encA_1 a), by rw [rowAt_of h (by rw [size_encA]; omega)]; exact congrArg some (encA_h a), (cell_of h).trans (encA_34 a)⟩
/-- Both have been turned alike. -/
def ActPost (w : World) (sb rb log n : Nat) (F G : Nat → Prop) (e : Ending) (w' : World) : Prop :=
  e = .returned (.bool true) ∧ ∃ L' F' G', Pair w' sb rb log L' F' G' n ∧ (∀ j, F' j → F j ∨ w.heap.size ≤ j) ∧ (∀ j, G' j → G j ∨ w.heap.size ≤ j) ∧ Fr (fun j => F j ∨ G j) w w'
section
variable {w : World} {sb rb log n : Nat} {L : List NL} {F G : Nat → Prop}
theorem pairF_box {w1 : World} (h : Pair w1 sb rb log L F G n) {b : Nat} (hb : w1.heap.size ≤ b) : ¬ F b ∧ ¬ G b := by
  obtain ⟨_, _, _, _, _, _, S⟩ := h.st
  exact ⟨fun hf => by have := S.lt b hf; omega, fun hg => by have := h.rf.lt b hg; omega⟩
theorem pin_le {p : Nat} (h : ∀ q, pinsL L q ≤ n) (q : Nat) : pinsL (pinL L p) q ≤ n + 1 := by
  unfold pinL
  split
  · unfold pinsL
    by_cases hq : q = p
    · subst hq
      by_cases hl : q < L.length
      · rw [List.getElem?_set_self hl]; have := h q; simp; exact this
      · rw [List.getElem?_eq_none (by rw [List.length_set]; omega)]; simp
    · rw [List.getElem?_set_ne (fun e => hq e.symm)]; have := h q; unfold pinsL at this; omega
  · have := h q; omega
theorem pin_dz {p : Nat} (h : ∀ (q k : Nat), L[q]? = some (none, k) → k = 0) : ∀ (q k : Nat), (pinL L p)[q]? = some (none, k) → k = 0 := by
  intro q k hq
  unfold pinL at hq
  split at hq
  · by_cases he : q = p
    · subst he
      by_cases hl : q < L.length
      · rw [List.getElem?_set_self hl] at hq; cases hq
      · rw [List.getElem?_eq_none (by rw [List.length_set]; omega)] at hq; cases hq
    · rw [List.getElem?_set_ne (fun e => he e.symm)] at hq; exact h q k hq
  · exact h q k hq
theorem length_pinL (p : Nat) : (pinL L p).length = L.length := by unfold pinL; split <;> simp
/-- The end of an act that turns both. -/
theorem act_end {W1 w2 w3 : World} {F2 G2 : Nat → Prop} {L' : List NL} {m : Nat} (hb0 : Below w.heap.size w W1) (hP : Pair W1 sb rb log L F G n) (hS : StoreL w2 sb log L' F2) (hT2 : Turns W1 w2 F F2) (hR : RefAt w3 rb log L' G2) (hT3 : Turns w2 w3 G G2)
    (hdz : ∀ (p k : Nat), L'[p]? = some (none, k) → k = 0) (hpn : ∀ p, pinsL L' p ≤ m) (hln : L'.length ≤ m) (hm : m ≤ 1000) :
    ∃ L' F' G', Pair w3 sb rb log L' F' G' m ∧ (∀ j, F' j → F j ∨ w.heap.size ≤ j) ∧ (∀ j, G' j → G j ∨ w.heap.size ≤ j) ∧ Fr (fun j => F j ∨ G j) w w3 := by
  have hsz := hb0.size
  have hF1 : ∀ j, F j → j < W1.heap.size := fun j hj => by obtain ⟨_, _, _, _, _, _, S⟩ := hP.st; exact S.lt j hj
  have hF2 : ∀ j, F2 j → j < w2.heap.size := fun j hj => by obtain ⟨_, _, _, _, _, _, S⟩ := hS; exact S.lt j hj
  have hG1 := hP.rf.lt
  have hd : ∀ j, F2 j → ¬ G j := fun j hj hg => (hT2.1 j hj).elim (fun hf => hP.ap j hf hg) (fun h => by have := hG1 j hg; omega)
  refine ⟨L', F2, G2, ⟨hS.kept hT3.2.size (fun j hj => hT3.2.block j (hF2 j hj) (hd j hj)), hR, fun j hf hg => ?_, hdz, hpn, hln, hP.hl, hm⟩, fun j hj => (hT2.1 j hj).imp id (fun h => by omega), fun j hj => (hT3.1 j hj).imp id (fun h => by have := hT2.2.size; omega), ?_⟩
  · rcases hT3.1 j hg with h | h
    · exact hd j hf h
    · have := hF2 j hf; omega
  · refine ((Fr.of_below (S := fun j => F j ∨ G j) hb0).trans hT2.2 (fun _ h => h) (fun j _ h => .inl h)).trans hT3.2 (fun _ h => h) (fun j _ h => .inr h)
theorem turns_same {W W' : World} {F : Nat → Prop} (h : Fr F W W') : Turns W W' F F := ⟨fun _ h => .inl h, h⟩
/-- The end of an act that turns none. -/
theorem act_same {w' : World} (h : Pair w sb rb log L F G n) (hb : Below w.heap.size w w') {m : Nat} (hm : n ≤ m) (hm2 : m ≤ 1000) :
    ∃ L' F' G', Pair w' sb rb log L' F' G' m ∧ (∀ j, F' j → F j ∨ w.heap.size ≤ j) ∧ (∀ j, G' j → G j ∨ w.heap.size ≤ j) ∧ Fr (fun j => F j ∨ G j) w w' := by
  have h2 := h.below hb
  exact ⟨L, F, G, ⟨h2.st, h2.rf, h2.ap, h2.dz, fun p => Nat.le_trans (h2.pn p) hm, Nat.le_trans h2.ln hm, h2.hl, hm2⟩, fun _ h => .inl h, fun _ h => .inl h, Fr.of_below hb⟩
theorem set_dz {p : Nat} {y : NL} (h : ∀ (q k : Nat), L[q]? = some (none, k) → k = 0) (hy : y.1 = none → y.2 = 0) : ∀ (q k : Nat), (L.set p y)[q]? = some (none, k) → k = 0 := by
  intro q k hq
  by_cases he : q = p
  · subst he
    by_cases hl : q < L.length
    · rw [List.getElem?_set_self hl] at hq
      have : y = (none, k) := Option.some.inj hq
      rw [this] at hy; exact hy rfl
    · rw [List.getElem?_eq_none (by rw [List.length_set]; omega)] at hq; cases hq
  · rw [List.getElem?_set_ne (fun e => he e.symm)] at hq; exact h q k hq
theorem set_pn {p m : Nat} {y : NL} (h : ∀ q, pinsL L q ≤ m) (hy : y.2 ≤ m) : ∀ q, pinsL (L.set p y) q ≤ m := by
  intro q
  by_cases he : q = p
  · subst he
    by_cases hl : q < L.length
    · unfold pinsL; rw [List.getElem?_set_self hl]; exact hy
    · unfold pinsL; rw [List.getElem?_eq_none (by rw [List.length_set]; omega)]; exact Nat.zero_le _
  · have := h q; unfold pinsL at this ⊢; rw [List.getElem?_set_ne (fun e => he e.symm)]; exact this
theorem unpin_ok {p : Nat} (hd : ∀ (q k : Nat), L[q]? = some (none, k) → k = 0) (hp : ∀ q, pinsL L q ≤ n) : (∀ (q k : Nat), (unpinL L p)[q]? = some (none, k) → k = 0) ∧ (∀ q, pinsL (unpinL L p) q ≤ n) ∧ (unpinL L p).length = L.length := by
  unfold unpinL
  cases hx : L[p]? with
  | none => exact ⟨hd, hp, rfl⟩
  | some y =>
    obtain ⟨x, k⟩ := y
    have hpk := hp p
    unfold pinsL at hpk; rw [hx] at hpk
    refine ⟨set_dz hd (fun e => ?_), set_pn hp (by simp at hpk ⊢; omega), by simp⟩
    have e' : x = none := e
    subst e'
    have := hd p k hx
    simp; omega
theorem drop_ok {p : Nat} (hd : ∀ (q k : Nat), L[q]? = some (none, k) → k = 0) (hp : ∀ q, pinsL L q ≤ n) : (∀ (q k : Nat), (dropL L p)[q]? = some (none, k) → k = 0) ∧ (∀ q, pinsL (dropL L p) q ≤ n) ∧ (dropL L p).length = L.length := by
  unfold dropL
  split
  · exact ⟨set_dz hd (fun _ => rfl), set_pn hp (Nat.zero_le _), by simp⟩
  · exact ⟨hd, hp, rfl⟩
theorem back_ok {p : Nat} {x : HB} (hd : ∀ (q k : Nat), L[q]? = some (none, k) → k = 0) (hp : ∀ q, pinsL L q ≤ n) : (∀ (q k : Nat), (backL L p x)[q]? = some (none, k) → k = 0) ∧ (∀ q, pinsL (backL L p x) q ≤ n) ∧ (backL L p x).length = L.length := by
  unfold backL
  split
  · exact ⟨set_dz hd (fun e => by cases e), set_pn hp (hp p), by simp⟩
  · exact ⟨hd, hp, rfl⟩
theorem cut_ok {m : Nat} (hd : ∀ (q k : Nat), L[q]? = some (none, k) → k = 0) (hp : ∀ q, pinsL L q ≤ n) : (∀ (q k : Nat), (cutL L m)[q]? = some (none, k) → k = 0) ∧ (∀ q, pinsL (cutL L m) q ≤ n) ∧ (cutL L m).length ≤ L.length := by
  unfold cutL
  split
  · refine ⟨fun q k hq => ?_, fun q => ?_, by rw [List.length_take]; omega⟩
    · rw [List.getElem?_take] at hq
      split at hq
      · exact hd q k hq
      · cases hq
    · have := hp q
      unfold pinsL at this ⊢
      rw [List.getElem?_take]
      split
      · exact this
      · exact Nat.zero_le _
  · exact ⟨hd, hp, Nat.le_refl _⟩
theorem sweep_ok {ks : List U64} (hd : ∀ (q k : Nat), L[q]? = some (none, k) → k = 0) (hp : ∀ q, pinsL L q ≤ n) (hL : L.length ≤ 1000000) : (∀ (q k : Nat), (sweepL L ks)[q]? = some (none, k) → k = 0) ∧ (∀ q, pinsL (sweepL L ks) q ≤ n) ∧ (sweepL L ks).length = L.length := by
  refine ⟨fun q k hq => ?_, fun q => by unfold sweepL; rw [pinsL_killL]; exact hp q, length_sweepL L ks⟩
  unfold sweepL at hq
  rw [get_killL] at hq
  cases hx : L[q]? with
  | none => rw [hx] at hq; cases hq
  | some x =>
    rw [hx] at hq
    simp only [Option.map_some, Option.some.injEq] at hq
    by_cases hm : q ∈ (sweepG L ks).map (·.1)
    · rw [if_pos hm] at hq
      have h1 := ((liveL_get hL ks q).1 hm).1
      unfold goesBy at h1
      rw [Bool.and_eq_true, beq_iff_eq, beq_iff_eq] at h1
      have h2 := h1.2
      unfold pinsL at h2; rw [hx] at h2
      have : x.2 = k := by cases hq; rfl
      simp at h2; omega
    · rw [if_neg hm] at hq
      exact hd q k (by rw [hx, hq])
theorem push_ok {x : HB} (hd : ∀ (q k : Nat), L[q]? = some (none, k) → k = 0) (hp : ∀ q, pinsL L q ≤ n) : (∀ (q k : Nat), (L ++ [((some x, 0) : NL)])[q]? = some (none, k) → k = 0) ∧ (∀ q, pinsL (L ++ [((some x, 0) : NL)]) q ≤ n) := by
  refine ⟨fun q k hq => ?_, fun q => ?_⟩
  · rw [List.getElem?_append] at hq
    split at hq
    · exact hd q k hq
    · rw [List.getElem?_singleton] at hq
      split at hq <;> cases hq
  · have := hp q
    unfold pinsL at this ⊢
    rw [List.getElem?_append]
    split
    · exact this
    · rw [List.getElem?_singleton]; split <;> simp
set_option maxRecDepth 100000 in
theorem act_3 (h : Pair w sb rb log L F G n) (hn : n + 1 ≤ 1000) (a : ActL) (ha : a.what = 3) :
    Calls Try.prog 37 #[.pointer (some ⟨sb, 0, none⟩), .pointer (some ⟨rb, 0, none⟩), .agg (encA a)] w (ActPost w sb rb log (n + 1) F G) := by
  have HLn := Lib.hid h.lenLe
  have H := Lib.hid h; clear h
  go_enter Try.func37, Try.ntmps37
  obtain ⟨W1, hW1⟩ : ∃ W1, W1 = w.alloc (.cells (encA a) 65) := ⟨_, rfl⟩
  have hb0 : Below w.heap.size w W1 := by rw [hW1]; exact (Below.refl _ _).alloc (Nat.le_refl _) _
  have hbx : W1.heap[w.heap.size]? = some (actO a) := by rw [hW1]; exact hb_new w _
  have AB := ABox.of hbx
  have hc0 := AB.c0
  rw [ha] at hc0
  have hc1 := AB.c1
  have hc2 := AB.c2
  have hc34 := AB.c34
  rw [hW1] at hc0
  go_upto_region 7 with fail
  rw [← hW1]
  have hbd : Below w.heap.size w W1.drew := hb0.drew
  have H1 := Lib.hid (H.out.below hbd)
  have hsz : w.heap.size < W1.heap.size := hb_lt hbx
  have hnF := Lib.hid (pairF_box H.out (Nat.le_refl _))
  have hbxd := Lib.hid (show W1.drew.heap[w.heap.size]? = some (actO a) from hbx)
  have hpn := Lib.hid (show pinsL L a.p.1 ≤ 4611686018427387904 from by have := H.out.pn a.p.1; have := H.out.hn; omega)
  have hpa := Lib.hid (show ∀ p, pinsL L p ≤ 4611686018427387904 from fun p => by have := H.out.pn p; have := H.out.hn; omega)
  have HL2 := Lib.hid (show L.length ≤ 4611686018427387904 from by have := HLn.out; omega)
  clear hW1 hc0 hc2 hc34 AB hbx
  obtain ⟨E, hE⟩ : ∃ E, errL L a.p.1 = E := ⟨_, rfl⟩
  have HE := Lib.hid hE; clear hE
  go_region_held3 (fun w' => w'.cell? ⟨w.heap.size, 1, none⟩ = some (.int .u64 (a.p.1 : Int))) (first | exact hk3 | exact hk2 | exact hc1 | go_keep)
    (first
      | (go_at_call 24; refine (Pin_any H1.out.st a.p.1 a.p.2 hpn.out).mono ?_; rw [HE.out]; rintro e w2 ⟨rfl, hS2, hF2⟩; have hbx2 := (hF2.block _ (hb_lt hbxd.out) hnF.out.1).trans hbxd.out; have hk2 := (ABox.of hbx2).c1; have hR2 := H1.out.rf.fr hF2 (fun j hg hf => H1.out.ap j hf hg))
      | (go_at_call 52; refine (RPin_any hR2 HLn.out a.p.1 a.p.2 hpn.out).mono ?_; rw [HE.out]; rintro e w3 ⟨rfl, hR3, hF3⟩; have hbx3 := (hF3.block _ (hb_lt hbx2) hnF.out.2).trans hbx2; have hk3 := (ABox.of hbx3).c1))
  have HS2 := Lib.hid hS2; clear hS2
  have HF2 := Lib.hid hF2; clear hF2
  have HR3 := Lib.hid hR3; clear hR3
  have HF3 := Lib.hid hF3; clear hF3
  go_wp2_with fail
  go_ret
  have hlen := length_pinL (L := L) a.p.1
  exact ⟨rfl, act_end hbd H1.out HS2.out (turns_same HF2.out) HR3.out (turns_same HF3.out) (pin_dz H.out.dz) (pin_le H.out.pn) (by rw [hlen]; have := H.out.ln; omega) hn⟩
set_option maxRecDepth 100000 in
theorem act_4 (h : Pair w sb rb log L F G n) (hn : n + 1 ≤ 1000) (a : ActL) (ha : a.what = 4) :
    Calls Try.prog 37 #[.pointer (some ⟨sb, 0, none⟩), .pointer (some ⟨rb, 0, none⟩), .agg (encA a)] w (ActPost w sb rb log (n + 1) F G) := by
  have HLn := Lib.hid h.lenLe
  have H := Lib.hid h; clear h
  go_enter Try.func37, Try.ntmps37
  obtain ⟨W1, hW1⟩ : ∃ W1, W1 = w.alloc (.cells (encA a) 65) := ⟨_, rfl⟩
  have hb0 : Below w.heap.size w W1 := by rw [hW1]; exact (Below.refl _ _).alloc (Nat.le_refl _) _
  have hbx : W1.heap[w.heap.size]? = some (actO a) := by rw [hW1]; exact hb_new w _
  have AB := ABox.of hbx
  have hc0 := AB.c0
  rw [ha] at hc0
  have hc1 := AB.c1
  have hc2 := AB.c2
  have hc34 := AB.c34
  rw [hW1] at hc0
  go_upto_region 9 with fail
  rw [← hW1]
  have hbd : Below w.heap.size w W1.drew := hb0.drew
  have H1 := Lib.hid (H.out.below hbd)
  have hsz : w.heap.size < W1.heap.size := hb_lt hbx
  have hnF := Lib.hid (pairF_box H.out (Nat.le_refl _))
  have hbxd := Lib.hid (show W1.drew.heap[w.heap.size]? = some (actO a) from hbx)
  have hpn := Lib.hid (show pinsL L a.p.1 ≤ 4611686018427387904 from by have := H.out.pn a.p.1; have := H.out.hn; omega)
  have hpa := Lib.hid (show ∀ p, pinsL L p ≤ 4611686018427387904 from fun p => by have := H.out.pn p; have := H.out.hn; omega)
  have HL2 := Lib.hid (show L.length ≤ 4611686018427387904 from by have := HLn.out; omega)
  clear hW1 hc0 hc2 hc34 AB hbx
  obtain ⟨E, hE⟩ : ∃ E, unpinE L a.p.1 = E := ⟨_, rfl⟩
  have HE := Lib.hid hE; clear hE
  go_region_held3 (fun w' => w'.cell? ⟨w.heap.size, 1, none⟩ = some (.int .u64 (a.p.1 : Int))) (first | exact hk3 | exact hk2 | exact hc1 | go_keep)
    (first
      | (go_at_call 53; refine (Unpin_any H1.out.st a.p.1 a.p.2 hpn.out).mono ?_; rw [HE.out]; rintro e w2 ⟨rfl, hS2, hF2⟩; have hbx2 := (hF2.block _ (hb_lt hbxd.out) hnF.out.1).trans hbxd.out; have hk2 := (ABox.of hbx2).c1; have hR2 := H1.out.rf.fr hF2 (fun j hg hf => H1.out.ap j hf hg))
      | (go_at_call 54; refine (RUnpin_any hR2 HLn.out a.p.1 a.p.2 hpn.out).mono ?_; rw [HE.out]; rintro e w3 ⟨rfl, hR3, hF3⟩; have hbx3 := (hF3.block _ (hb_lt hbx2) hnF.out.2).trans hbx2; have hk3 := (ABox.of hbx3).c1))
  have HS2 := Lib.hid hS2; clear hS2
  have HF2 := Lib.hid hF2; clear hF2
  have HR3 := Lib.hid hR3; clear hR3
  have HF3 := Lib.hid hF3; clear hF3
  go_wp2_with fail
  go_ret
  obtain ⟨ok1, ok2, ok3⟩ := unpin_ok (p := a.p.1) H.out.dz H.out.pn
  exact ⟨rfl, act_end hbd H1.out HS2.out (turns_same HF2.out) HR3.out (turns_same HF3.out) ok1 (fun q => Nat.le_succ_of_le (ok2 q)) (by rw [ok3]; have := H.out.ln; omega) hn⟩
set_option maxRecDepth 100000 in
theorem act_5 (h : Pair w sb rb log L F G n) (hn : n + 1 ≤ 1000) (a : ActL) (ha : a.what = 5) :
    Calls Try.prog 37 #[.pointer (some ⟨sb, 0, none⟩), .pointer (some ⟨rb, 0, none⟩), .agg (encA a)] w (ActPost w sb rb log (n + 1) F G) := by
  have HLn := Lib.hid h.lenLe
  have H := Lib.hid h; clear h
  go_enter Try.func37, Try.ntmps37
  obtain ⟨W1, hW1⟩ : ∃ W1, W1 = w.alloc (.cells (encA a) 65) := ⟨_, rfl⟩
  have hb0 : Below w.heap.size w W1 := by rw [hW1]; exact (Below.refl _ _).alloc (Nat.le_refl _) _
  have hbx : W1.heap[w.heap.size]? = some (actO a) := by rw [hW1]; exact hb_new w _
  have AB := ABox.of hbx
  have hc0 := AB.c0
  rw [ha] at hc0
  have hc1 := AB.c1
  have hc2 := AB.c2
  have hc34 := AB.c34
  rw [hW1] at hc0
  go_upto_region 11 with fail
  rw [← hW1]
  have hbd : Below w.heap.size w W1.drew := hb0.drew
  have H1 := Lib.hid (H.out.below hbd)
  have hsz : w.heap.size < W1.heap.size := hb_lt hbx
  have hnF := Lib.hid (pairF_box H.out (Nat.le_refl _))
  have hbxd := Lib.hid (show W1.drew.heap[w.heap.size]? = some (actO a) from hbx)
  have hpn := Lib.hid (show pinsL L a.p.1 ≤ 4611686018427387904 from by have := H.out.pn a.p.1; have := H.out.hn; omega)
  have hpa := Lib.hid (show ∀ p, pinsL L p ≤ 4611686018427387904 from fun p => by have := H.out.pn p; have := H.out.hn; omega)
  have HL2 := Lib.hid (show L.length ≤ 4611686018427387904 from by have := HLn.out; omega)
  clear hW1 hc0 hc2 hc34 AB hbx
  obtain ⟨E, hE⟩ : ∃ E, dropE L a.p.1 = E := ⟨_, rfl⟩
  have HE := Lib.hid hE; clear hE
  go_region_held3 (fun w' => w'.cell? ⟨w.heap.size, 1, none⟩ = some (.int .u64 (a.p.1 : Int))) (first | exact hk3 | exact hk2 | exact hc1 | go_keep)
    (first
      | (go_at_call 48; refine (Drop_any H1.out.st a.p.1 a.p.2 HL2.out).mono ?_; rw [HE.out]; rintro e w2 ⟨rfl, hS2, hF2⟩; have hbx2 := (hF2.block _ (hb_lt hbxd.out) hnF.out.1).trans hbxd.out; have hk2 := (ABox.of hbx2).c1; have hR2 := H1.out.rf.fr hF2 (fun j hg hf => H1.out.ap j hf hg))
      | (go_at_call 55; refine (RDrop_any hR2 HLn.out a.p.1 a.p.2 hpn.out).mono ?_; rw [HE.out]; rintro e w3 ⟨rfl, hR3, hF3⟩; have hbx3 := (hF3.block _ (hb_lt hbx2) hnF.out.2).trans hbx2; have hk3 := (ABox.of hbx3).c1))
  have HS2 := Lib.hid hS2; clear hS2
  have HF2 := Lib.hid hF2; clear hF2
  have HR3 := Lib.hid hR3; clear hR3
  have HF3 := Lib.hid hF3; clear hF3
  go_wp2_with fail
  go_ret
  obtain ⟨ok1, ok2, ok3⟩ := drop_ok (p := a.p.1) H.out.dz H.out.pn
  exact ⟨rfl, act_end hbd H1.out HS2.out (turns_same HF2.out) HR3.out (turns_same HF3.out) ok1 (fun q => Nat.le_succ_of_le (ok2 q)) (by rw [ok3]; have := H.out.ln; omega) hn⟩
set_option maxRecDepth 100000 in
theorem act_8 (h : Pair w sb rb log L F G n) (hn : n + 1 ≤ 1000) (a : ActL) (ha : a.what = 8) :
    Calls Try.prog 37 #[.pointer (some ⟨sb, 0, none⟩), .pointer (some ⟨rb, 0, none⟩), .agg (encA a)] w (ActPost w sb rb log (n + 1) F G) := by
  have HLn := Lib.hid h.lenLe
  have H := Lib.hid h; clear h
  go_enter Try.func37, Try.ntmps37
  obtain ⟨W1, hW1⟩ : ∃ W1, W1 = w.alloc (.cells (encA a) 65) := ⟨_, rfl⟩
  have hb0 : Below w.heap.size w W1 := by rw [hW1]; exact (Below.refl _ _).alloc (Nat.le_refl _) _
  have hbx : W1.heap[w.heap.size]? = some (actO a) := by rw [hW1]; exact hb_new w _
  have AB := ABox.of hbx
  have hc0 := AB.c0
  rw [ha] at hc0
  have hc1 := AB.c1
  have hc2 := AB.c2
  have hc34 := AB.c34
  rw [hW1] at hc0
  go_upto_region 26 with fail
  rw [← hW1]
  have hbd : Below w.heap.size w W1.drew := hb0.drew
  have H1 := Lib.hid (H.out.below hbd)
  have hsz : w.heap.size < W1.heap.size := hb_lt hbx
  have hnF := Lib.hid (pairF_box H.out (Nat.le_refl _))
  have hbxd := Lib.hid (show W1.drew.heap[w.heap.size]? = some (actO a) from hbx)
  have hpn := Lib.hid (show pinsL L a.p.1 ≤ 4611686018427387904 from by have := H.out.pn a.p.1; have := H.out.hn; omega)
  have hpa := Lib.hid (show ∀ p, pinsL L p ≤ 4611686018427387904 from fun p => by have := H.out.pn p; have := H.out.hn; omega)
  have HL2 := Lib.hid (show L.length ≤ 4611686018427387904 from by have := HLn.out; omega)
  clear hW1 hc0 hc2 hc34 AB hbx
  obtain ⟨E, hE⟩ : ∃ E, cutE L a.p.1 = E := ⟨_, rfl⟩
  have HE := Lib.hid hE; clear hE
  go_region_held3 (fun w' => w'.cell? ⟨w.heap.size, 1, none⟩ = some (.int .u64 (a.p.1 : Int))) (first | exact hk3 | exact hk2 | exact hc1 | go_keep)
    (first
      | (go_at_call 32; refine (Cut_any H1.out.st a.p.1 a.p.2 HLn.out).mono ?_; rw [HE.out]; rintro e w2 ⟨rfl, hS2, hF2⟩; have hbx2 := (hF2.block _ (hb_lt hbxd.out) hnF.out.1).trans hbxd.out; have hk2 := (ABox.of hbx2).c1; have hR2 := H1.out.rf.fr hF2 (fun j hg hf => H1.out.ap j hf hg))
      | (go_at_call 59; refine (RCut_any hR2 HLn.out a.p.1 a.p.2 hpa.out).mono ?_; rw [HE.out]; rintro e w3 ⟨rfl, hR3, hF3⟩; have hbx3 := (hF3.block _ (hb_lt hbx2) hnF.out.2).trans hbx2; have hk3 := (ABox.of hbx3).c1))
  have HS2 := Lib.hid hS2; clear hS2
  have HF2 := Lib.hid hF2; clear hF2
  have HR3 := Lib.hid hR3; clear hR3
  have HF3 := Lib.hid hF3; clear hF3
  go_wp2_with fail
  go_ret
  obtain ⟨ok1, ok2, ok3⟩ := cut_ok (m := a.p.1) H.out.dz H.out.pn
  exact ⟨rfl, act_end hbd H1.out HS2.out (turns_same HF2.out) HR3.out (turns_same HF3.out) ok1 (fun q => Nat.le_succ_of_le (ok2 q)) (by have := H.out.ln; omega) hn⟩
end
end Go.Proofs.Ytoigddekipjkcaa
