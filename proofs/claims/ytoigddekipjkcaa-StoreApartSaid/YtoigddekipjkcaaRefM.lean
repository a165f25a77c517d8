/- massifref5.Store's methods that ask or turn one node. -/
import Derived.StillTailTactics
import Derived.BigRegion
import Derived.Test.YtoigddekipjkcaaRef
namespace Go.Proofs.Ytoigddekipjkcaa
set_option linter.all false
open Go Go.RowKit Go.Proofs Go.Maps
section
variable {w : World} {rb log : Nat} {L : List NL} {G : Nat → Prop}
theorem wrapL (hL : L.length ≤ 1000000) : IntKind.u64.wrap (L.length : Int) = (L.length : Int) := by simp only [IntKind.wrap_u64]; omega
theorem RLen_any (h : RefAt w rb log L G) (hL : L.length ≤ 1000000) : Calls Try.prog 62 #[.pointer (some ⟨rb, 0, none⟩)] w fun e w' => e = .returned (.int .u64 (L.length : Int)) ∧ w = w' := by
  obtain ⟨v, h1, h2, h3, h4, h5⟩ := h
  obtain ⟨ad, cap, rfl⟩ := h2.shape
  have c1 : w.cell? ⟨rb, 1, none⟩ = some (.slice ad L.length cap) := cell_of h1
  have hw := wrapL hL
  clear h1 h2 h3 h4 h5
  go_enter Try.func62, Try.ntmps62
  go_wp2
  go_ret
  exact ⟨rfl, rfl⟩
theorem there_any (h : RefAt w rb log L G) (hL : L.length ≤ 1000000) (p : Nat) : Calls Try.prog 75 #[.pointer (some ⟨rb, 0, none⟩), .int .u64 p] w fun e w' => e = .returned (.bool (decide (p < L.length))) ∧ w = w' := by
  obtain ⟨v, h1, h2, h3, h4, h5⟩ := h
  obtain ⟨ad, cap, rfl⟩ := h2.shape
  have c1 : w.cell? ⟨rb, 1, none⟩ = some (.slice ad L.length cap) := cell_of h1
  have hw := wrapL hL
  clear h1 h2 h3 h4 h5
  go_enter Try.func75, Try.ntmps75
  go_wp2
  go_ret
  exact ⟨by simp, rfl⟩
theorem RefAt.slice (h : RefAt w rb log L G) : ∃ ad cap, w.cell? ⟨rb, 1, none⟩ = some (.slice ad L.length cap) ∧ w.frozen? ⟨rb, 1, none⟩ = false ∧ w.cell? ⟨rb, 0, none⟩ = some (.int .i64 (log : Int)) := by
  obtain ⟨v, h1, h2, h3, h4, h5⟩ := h
  obtain ⟨ad, cap, rfl⟩ := h2.shape
  exact ⟨ad, cap, cell_of h1, frozen_of h1, cell_of h1⟩
theorem hashR {x : NL} {p : Nat} (hx : L[p]? = some x) : hashL L p = x.1.getD zH := by unfold hashL; rw [hx]; rfl
theorem errR {x : NL} {p : Nat} (hx : L[p]? = some x) : errL L p = if x.1.isSome then 0 else 50 := by
  have := (List.getElem?_eq_some_iff.1 hx).1
  unfold errL; rw [if_pos this, hx]; rfl
set_option maxRecDepth 100000 in
theorem RGet_any (h : RefAt w rb log L G) (hL : L.length ≤ 1000000) (p : Nat) (hp : p < 18446744073709551616) : Calls Try.prog 71 #[.pointer (some ⟨rb, 0, none⟩), .int .u64 p] w fun e w' =>
    e = .returned (.tuple #[.agg (encH (hashL L p)), .int .i64 (errL L p : Int)]) ∧ Below w.heap.size w w' := by
  have H := Lib.hid h; clear h
  have hb0 : Below w.heap.size w (w.alloc (.cells (encH zH) 30)) := (Below.refl _ _).alloc (Nat.le_refl _) _
  by_cases hlt : p < L.length
  · obtain ⟨x, hx⟩ : ∃ x, L[p]? = some x := ⟨L[p], List.getElem?_eq_getElem hlt⟩
    obtain ⟨g, cap, cur, N⟩ := (H.out.below hb0).node hx
    have HX := Lib.hid hx; clear hx
    have c1 : (w.alloc (.cells (encH zH) 30)).cell? ⟨rb, 1, none⟩ = some (.slice (some ⟨g, 0, none⟩) L.length cap) := cell_of N.own
    have hh := N.hash
    have hlv := N.live
    have HB := Lib.hid (H.out.below hb0)
    have hlt' : (p : Int) < (L.length : Int) := by omega
    clear N
    obtain ⟨a, k⟩ := x
    cases a with
    | none =>
      go_enter Try.func71, Try.ntmps71
      go_wp2_with fail
      refine (there_any HB.out hL p).mono ?_
      rw [decide_eq_true hlt]
      rintro e w1 ⟨rfl, rfl⟩
      go_wp2_with fail
      refine bodyPost_ret (results_cell_tmp aggH rfl _ _ rfl (rowAt_putRow_new _ _ _ _ _ _ rfl (size_encH _) (by simp [size_encH]))) rfl ⟨?_, ?_⟩
      · rw [errR HX.out, hashR HX.out]; simp
      · exact below_putRow ((Below.refl _ _).alloc (Nat.le_refl _) _) (Nat.le_refl _) _
    | some y =>
      go_enter Try.func71, Try.ntmps71
      go_wp2_with fail
      refine (there_any HB.out hL p).mono ?_
      rw [decide_eq_true hlt]
      rintro e w1 ⟨rfl, rfl⟩
      go_wp2_with fail
      refine bodyPost_ret (results_cell_tmp aggH rfl _ _ rfl (rowAt_putRow_new _ _ _ _ _ _ rfl (size_encH _) (by simp [size_encH]))) rfl ⟨?_, ?_⟩
      · rw [errR HX.out, hashR HX.out]; rfl
      · exact below_putRow ((Below.refl _ _).alloc (Nat.le_refl _) _) (Nat.le_refl _) _
  · have HB := Lib.hid (H.out.below hb0)
    obtain ⟨e1, e2⟩ := errL_out hlt
    have HE1 := Lib.hid e1; clear e1
    have HE2 := Lib.hid e2; clear e2
    go_enter Try.func71, Try.ntmps71
    go_wp2_with fail
    refine (there_any HB.out hL p).mono ?_
    rw [decide_eq_false hlt]
    rintro e w1 ⟨rfl, rfl⟩
    go_wp2_with fail
    refine bodyPost_ret (results_cell_tmp aggH rfl _ _ rfl (rowAt_putRow_new _ _ _ _ _ _ rfl (size_encH _) (by simp [size_encH]))) rfl ⟨?_, ?_⟩
    · rw [HE1.out, HE2.out]; rfl
    · exact below_putRow ((Below.refl _ _).alloc (Nat.le_refl _) _) (Nat.le_refl _) _
theorem RLive_any (h : RefAt w rb log L G) (hL : L.length ≤ 1000000) (p : Nat) (hp : p < 18446744073709551616) : Calls Try.prog 72 #[.pointer (some ⟨rb, 0, none⟩), .int .u64 p] w fun e w' => e = .returned (.bool (liveAt L p)) ∧ w = w' := by
  have H := Lib.hid h; clear h
  by_cases hlt : p < L.length
  · obtain ⟨x, hx⟩ : ∃ x, L[p]? = some x := ⟨L[p], List.getElem?_eq_getElem hlt⟩
    obtain ⟨g, cap, cur, N⟩ := H.out.node hx
    have c1 : w.cell? ⟨rb, 1, none⟩ = some (.slice (some ⟨g, 0, none⟩) L.length cap) := cell_of N.own
    have hlv := N.live
    have hlt' : (p : Int) < (L.length : Int) := by omega
    have hl : liveAt L p = x.1.isSome := by unfold liveAt; rw [hx]; rfl
    have HL := Lib.hid hl; clear hl
    clear N hx
    go_enter Try.func72, Try.ntmps72
    go_wp2_with fail
    refine (there_any H.out hL p).mono ?_
    rw [decide_eq_true hlt]
    rintro e w1 ⟨rfl, rfl⟩
    go_wp2_with fail
    go_ret
    exact ⟨by rw [HL.out]; rfl, rfl⟩
  · have hl : liveAt L p = false := by unfold liveAt; rw [List.getElem?_eq_none (Nat.le_of_not_lt hlt)]; rfl
    have HL := Lib.hid hl; clear hl
    go_enter Try.func72, Try.ntmps72
    go_wp2_with fail
    refine (there_any H.out hL p).mono ?_
    rw [decide_eq_false hlt]
    rintro e w1 ⟨rfl, rfl⟩
    go_wp2_with fail
    go_ret
    exact ⟨by rw [HL.out]; rfl, rfl⟩
theorem RPins_any (h : RefAt w rb log L G) (hL : L.length ≤ 1000000) (p : Nat) (hp : p < 18446744073709551616) : Calls Try.prog 74 #[.pointer (some ⟨rb, 0, none⟩), .int .u64 p] w fun e w' => e = .returned (.int .i64 (pinsL L p : Int)) ∧ w = w' := by
  have H := Lib.hid h; clear h
  by_cases hlt : p < L.length
  · obtain ⟨x, hx⟩ : ∃ x, L[p]? = some x := ⟨L[p], List.getElem?_eq_getElem hlt⟩
    obtain ⟨g, cap, cur, N⟩ := H.out.node hx
    have c1 : w.cell? ⟨rb, 1, none⟩ = some (.slice (some ⟨g, 0, none⟩) L.length cap) := cell_of N.own
    have hlv := N.pins
    have hlt' : (p : Int) < (L.length : Int) := by omega
    have hl : pinsL L p = x.2 := by unfold pinsL; rw [hx]; rfl
    have HL := Lib.hid hl; clear hl
    clear N hx
    go_enter Try.func74, Try.ntmps74
    go_wp2_with fail
    refine (there_any H.out hL p).mono ?_
    rw [decide_eq_true hlt]
    rintro e w1 ⟨rfl, rfl⟩
    go_wp2_with fail
    go_ret
    exact ⟨by rw [HL.out]; rfl, rfl⟩
  · have hl : pinsL L p = 0 := by unfold pinsL; rw [List.getElem?_eq_none (Nat.le_of_not_lt hlt)]; rfl
    have HL := Lib.hid hl; clear hl
    go_enter Try.func74, Try.ntmps74
    go_wp2_with fail
    refine (there_any H.out hL p).mono ?_
    rw [decide_eq_false hlt]
    rintro e w1 ⟨rfl, rfl⟩
    go_wp2_with fail
    go_ret
    exact ⟨by rw [HL.out]; rfl, rfl⟩
end
end Go.Proofs.Ytoigddekipjkcaa
