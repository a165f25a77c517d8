/- massifref5.Store.Cut, Push, New. -/
import Derived.Deep.RegionLaw
import Derived.Test.YtoigddekipjkcaaRefC
namespace Go.Proofs.Ytoigddekipjkcaa
set_option linter.all false
open Go Go.RowKit Go.Proofs Go.Maps
section
variable {w : World} {rb log : Nat} {L : List NL} {G : Nat → Prop}
set_option maxRecDepth 100000 in
theorem RCut_any (h : RefAt w rb log L G) (hL : L.length ≤ 1000000) (m : Nat) (hm : m < 18446744073709551616) (hpn : ∀ p, pinsL L p ≤ 4611686018427387904) :
    Calls Try.prog 59 #[.pointer (some ⟨rb, 0, none⟩), .int .u64 m] w fun e w' => e = .returned (.int .i64 (cutE L m : Int)) ∧ RefAt w' rb log (cutL L m) G ∧ Fr G w w' := by
  have HPN := Lib.hid hpn; clear hpn
  obtain ⟨ad, cap, c1, f1, _⟩ := h.slice
  have H := Lib.hid h; clear h
  have hwn := wrapL hL
  by_cases hlt : L.length < m
  · have hlt' : (L.length : Int) < (m : Int) := by omega
    have hE := Lib.hid (show cutE L m = 31 by unfold cutE; rw [if_pos hlt])
    go_enter Try.func59, Try.ntmps59
    go_wp2_with fail
    go_ret
    refine ⟨by rw [hE.out]; rfl, ?_, Fr.refl _ _⟩
    unfold cutL; rw [hE.out, if_neg (by decide)]; exact H.out
  · have hlt' : ¬ (L.length : Int) < (m : Int) := by omega
    go_enter Try.func59, Try.ntmps59
    go_wp2_with fail
    go_loopg [5] (L.length - m) (fun g vi wr => ∃ i, vi = .int .u64 (i : Nat) ∧ g + i = L.length ∧ m ≤ i ∧ (∀ p, m ≤ p → p < i → pinsL L p = 0) ∧ wr = w)
    case atStart => exact ⟨m, rfl, by omega, Nat.le_refl _, fun p h1 h2 => by omega, rfl⟩
    case round =>
      obtain ⟨i, rfl, hg, hmi, hz, rfl⟩ := hrel
      have HG := Lib.hid hg; clear hg
      have HZ := Lib.hid hz; clear hz
      by_cases hi : i < L.length
      · have hi' : (i : Int) < (L.length : Int) := by omega
        obtain ⟨⟨x, k⟩, hx⟩ : ∃ x, L[i]? = some x := ⟨L[i], List.getElem?_eq_getElem hi⟩
        obtain ⟨g, cap2, cur, N⟩ := H.out.node hx
        have e1 := c1.symm.trans (cell_of N.own)
        obtain ⟨rfl, rfl⟩ : ad = some ⟨g, 0, none⟩ ∧ cap = cap2 := by simp at e1; exact e1
        have hps := N.pins
        simp only at hps
        have hk : pinsL L i = k := by unfold pinsL; rw [hx]; rfl
        have hkb := HPN.out i
        rw [hk] at hkb
        have HK := Lib.hid hk
        have hwi : IntKind.u64.wrap ((i : Int) + 1) = (i : Int) + 1 := by simp only [IntKind.wrap_u64]; omega
        clear N e1 hx hk
        by_cases hk0 : k = 0
        · subst hk0
          go_wp2_with fail
          go_roundg (gk - 1)
          case measure => have := HG.out; omega
          case rel =>
            refine ⟨i + 1, by simp, by have := HG.out; omega, by omega, fun p h1 h2 => ?_, rfl⟩
            by_cases hpi : p = i
            · subst hpi; exact HK.out
            · exact HZ.out p h1 (by omega)
        · have hk1 : (0 : Int) < (k : Int) := by omega
          have hE := Lib.hid (show cutE L m = 51 by
            unfold cutE; rw [if_neg hlt, if_pos ((pinnedFrom_iff L m).2 ⟨i, hmi, by rw [HK.out]; exact hk0⟩)])
          go_wp2_with fail
          go_ret
          refine ⟨by rw [hE.out]; rfl, ?_, Fr.refl _ _⟩
          unfold cutL; rw [hE.out, if_neg (by decide)]; exact H.out
      · have hi' : ¬ (i : Int) < (L.length : Int) := by omega
        have e : i = L.length := by have := HG.out; omega
        have hE := Lib.hid (show cutE L m = 0 by
          unfold cutE
          rw [if_neg hlt, if_neg (fun hh => by
            obtain ⟨p, h1, h2⟩ := (pinnedFrom_iff L m).1 hh
            by_cases hp : p < L.length
            · exact h2 (HZ.out p h1 (by omega))
            · exact h2 (by unfold pinsL; rw [List.getElem?_eq_none (by omega)]; rfl))])
        have hU := Lib.hid (show cutL L m = L.take m by unfold cutL; rw [if_pos hE.out])
        obtain ⟨v, h1, h2, h3, h4, h5⟩ := H.out
        have hmL : (m : Int) ≤ (L.length : Int) := by omega
        rcases h2 with ⟨rfl, hl0⟩ | ⟨g, cap2, cur, rfl, a1, a2, a3, a4, a5, a6⟩
        · have e1 := c1.symm.trans (cell_of h1)
          obtain ⟨rfl, rfl⟩ : ad = none ∧ cap = 0 := by simp at e1; exact ⟨e1.1, e1.2.2⟩
          have hm0 : m = 0 := by omega
          subst hm0
          have HH1 := Lib.hid h1; clear h1
          have HE0 := Lib.hid e; clear e
          have HH4 := Lib.hid h4; clear h4
          have HH5 := Lib.hid h5; clear h5
          clear hi e1 hl0
          go_wp2_with fail
          go_ret
          refine ⟨by rw [hE.out]; rfl, ?_, (Fr.refl G wr).setCell _ _ (fun _ => h3)⟩
          rw [hU.out]
          refine ⟨.slice none 0 0, ?_, .inl ⟨rfl, rfl⟩, h3, fun j hj => by simp [Value.ownBlock] at hj, fun j hj => by simp; exact HH5.out j hj⟩
          have := hb_setCell_same (i := 1) HH1.out (.slice none 0 0)
          unfold refCells
          simpa using this
        · have e1 := c1.symm.trans (cell_of h1)
          obtain ⟨rfl, rfl⟩ : ad = some ⟨g, 0, none⟩ ∧ cap = cap2 := by simp at e1; exact e1
          have hmc : (m : Int) ≤ (cap : Int) := by omega
          have HH1 := Lib.hid h1; clear h1
          have hne : rb ≠ g := ne_type HH1.out a1 (by decide)
          have HA1 := Lib.hid a1; clear a1
          have HA6 := Lib.hid a6; clear a6
          have HA5 := Lib.hid a5; clear a5
          have HA2 := Lib.hid a2; clear a2
          have HA3 := Lib.hid a3; clear a3
          have HA4 := Lib.hid a4; clear a4
          have HMI := Lib.hid hmi; clear hmi
          have HLT := Lib.hid hlt; clear hlt
          have HE0 := Lib.hid e; clear e
          have HH4 := Lib.hid h4; clear h4
          have HH5 := Lib.hid h5; clear h5
          clear hi e1
          go_wp2_with fail
          go_ret
          refine ⟨by rw [hE.out]; rfl, ?_, (Fr.refl G wr).setCell _ _ (fun _ => h3)⟩
          rw [hU.out]
          have hlm : (L.take m).length = m := by rw [List.length_take]; omega
          refine ⟨.slice (some ⟨g, 0, none⟩) m m, ?_, .inr ⟨g, m, cur, by rw [hlm], (Below.heap_setCell _ _ _ g hne.symm).trans HA1.out, by rw [hlm]; exact Nat.le_refl _, by have := HA3.out; omega, ?_, .inr hlm.symm, ?_⟩, h3, fun j hj => HH4.out j hj, fun j hj => by simp; exact HH5.out j hj⟩
          · have := hb_setCell_same (i := 1) HH1.out (.slice (some ⟨g, 0, none⟩) m m)
            unfold refCells
            simpa using this
          · have : m * 34 ≤ cap * 34 := Nat.mul_le_mul_right _ (by omega)
            have := HA4.out
            omega
          · rw [hlm, ← rowR_take, ← HA6.out, List.take_take, Nat.min_eq_left (Nat.mul_le_mul_right _ (by omega))]
end
end Go.Proofs.Ytoigddekipjkcaa
