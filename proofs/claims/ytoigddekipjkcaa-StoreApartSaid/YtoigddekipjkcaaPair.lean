/- massiflaw5: numbers, alike. -/
import Derived.Test.YtoigddekipjkcaaRefN
import Derived.Test.YtoigddekipjkcaaAwake
namespace Go.Proofs.Ytoigddekipjkcaa
set_option linter.all false
open Go Go.RowKit Go.Proofs Go.Maps
/-- A store and the reference's, that hold one list. -/
structure Pair (w : World) (sb rb log : Nat) (L : List NL) (F G : Nat → Prop) (n : Nat) : Prop where
  st : StoreL w sb log L F
  rf : RefAt w rb log L G
  ap : ∀ j, F j → ¬ G j
  dz : ∀ (p k : Nat), L[p]? = some (none, k) → k = 0
  pn : ∀ p, pinsL L p ≤ n
  ln : L.length ≤ n
  hl : log ≤ 16
  hn : n ≤ 1000
theorem Pair.below {w w' : World} {sb rb log n : Nat} {L : List NL} {F G : Nat → Prop} (h : Pair w sb rb log L F G n) (hb : Below w.heap.size w w') : Pair w' sb rb log L F G n :=
  ⟨h.st.below hb, h.rf.below hb, h.ap, h.dz, h.pn, h.ln, h.hl, h.hn⟩
theorem Pair.lenLe {w : World} {sb rb log n : Nat} {L : List NL} {F G : Nat → Prop} (h : Pair w sb rb log L F G n) : L.length ≤ 1000000 := by have := h.ln; have := h.hn; omega
theorem liveAt_err (L : List NL) (p : Nat) : decide ((errL L p : Int) = 0) = liveAt L p := by
  rcases bind_cases L p with ⟨hlt, k, e1, e2, e3, e4, e5⟩ | ⟨hlt, y, k, e1, e2, e3, e4, e5⟩ | ⟨hlt, e1, e2, e3, e4⟩
  · rw [e2]; unfold liveAt; rw [e1]; rfl
  · rw [e2]; unfold liveAt; rw [e1]; rfl
  · rw [e2]; unfold liveAt; rw [e1]; rfl
section
variable {w : World} {sb rb log n : Nat} {L : List NL} {F G : Nat → Prop}
set_option maxRecDepth 100000 in
theorem numbers_any (h : Pair w sb rb log L F G n) : Calls Try.prog 60 #[.pointer (some ⟨sb, 0, none⟩), .pointer (some ⟨rb, 0, none⟩)] w fun e w' => e = .returned (.bool true) ∧ w = w' := by
  have H := Lib.hid h; clear h
  have HL := Lib.hid H.out.lenLe
  go_enter Try.func60, Try.ntmps60
  go_wp2_with fail
  refine (Len_any H.out.st).mono ?_
  rintro e w1 ⟨rfl, rfl⟩
  go_wp2_with fail
  refine (RLen_any H.out.rf HL.out).mono ?_
  rintro e w1 ⟨rfl, rfl⟩
  go_wp2_with fail
  refine (Alive_any H.out.st).mono ?_
  rintro e w1 ⟨rfl, rfl⟩
  go_wp2_with fail
  refine (RAlive_any H.out.rf HL.out).mono ?_
  rintro e w1 ⟨rfl, rfl⟩
  go_wp2_with fail
  refine (Chunks_cc H.out.st HL.out).mono ?_
  rintro e w1 ⟨rfl, rfl⟩
  go_wp2_with fail
  refine (RChunks_any H.out.rf H.out.hl HL.out).mono ?_
  rintro e w1 ⟨rfl, rfl⟩
  go_wp2_with fail
  go_ret
  exact ⟨rfl, rfl⟩
set_option maxRecDepth 100000 in
theorem alike_any (h : Pair w sb rb log L F G n) (p : Nat) (hp : p < 18446744073709551616) : Calls Try.prog 51 #[.pointer (some ⟨sb, 0, none⟩), .pointer (some ⟨rb, 0, none⟩), .int .u64 p] w fun e w' => e = .returned (.bool true) ∧ Below w.heap.size w w' := by
  have H := Lib.hid h; clear h
  have HL := Lib.hid H.out.lenLe
  have hgt : Try.prog.eqGuardType Try.prog.depth 30 = false := by kernel_rfl
  go_enter Try.func51, Try.ntmps51
  go_wp2_with fail
  refine (Get_any H.out.st p hp).mono ?_
  rintro e w1 ⟨rfl, hb1⟩
  have H1 := Lib.hid (H.out.below hb1)
  obtain ⟨E, hE⟩ : ∃ E, errL L p = E := ⟨_, rfl⟩
  obtain ⟨x, hx⟩ : ∃ x, hashL L p = x := ⟨_, rfl⟩
  rw [hE, hx]
  have HE := Lib.hid hE; clear hE
  have HX := Lib.hid hx; clear hx
  go_wp2_with fail
  refine calls_name fun W2 HW2 => ?_
  have hb2' : Below w1.heap.size w1 W2 := by rw [HW2.out]; exact below_putRow ((Below.refl _ w1).alloc (Nat.le_refl _) _) (Nat.le_refl _) _
  have hb2 : Below w.heap.size w W2 := hb1.trans (hb2'.mono hb1.size)
  have hr2 : rowAt W2 ⟨w1.heap.size, 0, none⟩ 32 = some (encH x) := by
    rw [HW2.out]; exact rowAt_putRow_same (hb_new w1 _) (size_encH _) (size_encH _)
  clear HW2
  have H2 := Lib.hid (H1.out.below hb2')
  refine (RGet_any H2.out.rf HL.out p hp).mono ?_
  rw [HE.out, HX.out]
  rintro e w3 ⟨rfl, hb3'⟩
  have hb3 : Below w.heap.size w w3 := hb2.trans (hb3'.mono hb2.size)
  have hr3 : rowAt w3 ⟨w1.heap.size, 0, none⟩ 32 = some (encH x) := (rowAt_block (hb3'.block _ (rowAt_lt hr2)) 32).trans hr2
  have H3 := Lib.hid (H2.out.below hb3')
  clear hr2
  have hlt3 := rowAt_lt hr3
  have hne3 : w1.heap.size ≠ w3.heap.size := by simp at hlt3; omega
  go_wp2_with fail
  refine calls_name fun W4 HW4 => ?_
  have hb4' : Below w3.heap.size w3 W4 := by rw [HW4.out]; exact below_putRow ((Below.refl _ w3).alloc (Nat.le_refl _) _) (Nat.le_refl _) _
  have hb4 : Below w.heap.size w W4 := hb3.trans (hb4'.mono hb3.size)
  have H4 := Lib.hid (H3.out.below hb4')
  clear HW4
  refine (Live_any H4.out.st p hp).mono ?_
  rw [liveAt_err]
  rintro e w5 ⟨rfl, hb5'⟩
  have hb5 : Below w.heap.size w w5 := hb4.trans (hb5'.mono hb4.size)
  have H5 := Lib.hid (H4.out.below hb5')
  obtain ⟨lv, hlv⟩ : ∃ b, liveAt L p = b := ⟨_, rfl⟩
  rw [hlv]
  have HLV := Lib.hid hlv; clear hlv
  go_wp2_with fail
  refine (RLive_any H5.out.rf HL.out p hp).mono ?_
  rw [HLV.out]
  rintro e w6 ⟨rfl, rfl⟩
  go_wp2_with fail
  refine (Pins_any H5.out.st p hp).mono ?_
  rintro e w6 ⟨rfl, rfl⟩
  go_wp2_with fail
  refine (RPins_any H5.out.rf HL.out p hp).mono ?_
  rintro e w6 ⟨rfl, rfl⟩
  go_wp2_with fail
  go_ret
  exact ⟨rfl, hb5⟩
end
end Go.Proofs.Ytoigddekipjkcaa
