/- A store in which all of a list lives. -/
import Derived.Test.YtoigddekipjkcaaFill
namespace Go.Proofs.Ytoigddekipjkcaa
set_option linter.all false
open Go Go.RowKit Go.Proofs Go.Maps

/-- All of hs lives, place by place, whatever is pinned. -/
def FullAs (L : List NL) (hs : List HB) : Prop := L.map (·.1) = hs.map some
theorem FullAs.full (hs : List HB) : FullAs (fullL hs) hs := by simp [FullAs, fullL, Function.comp_def]
theorem FullAs.length {L : List NL} {hs : List HB} (h : FullAs L hs) : L.length = hs.length := by
  have := congrArg List.length h; simpa [FullAs] using this
theorem FullAs.get {L : List NL} {hs : List HB} (h : FullAs L hs) (p : Nat) : (L[p]?).bind (·.1) = hs[p]? := by
  have e : (L.map (·.1))[p]? = (hs.map some)[p]? := by rw [h]
  rw [List.getElem?_map, List.getElem?_map] at e
  cases hx : L[p]? <;> cases hy : hs[p]? <;> simp [hx, hy] at e ⊢
  exact e
theorem FullAs.err {L : List NL} {hs : List HB} (h : FullAs L hs) (p : Nat) : errL L p = if p < hs.length then 0 else 31 := by
  unfold errL
  rw [h.get p, h.length]
  by_cases hp : p < hs.length
  · simp [hp]
  · simp [hp]
theorem FullAs.hash {L : List NL} {hs : List HB} (h : FullAs L hs) {p : Nat} {x : HB} (hp : hs[p]? = some x) : hashL L p = x := by
  unfold hashL; rw [h.get p, hp]; rfl
theorem FullAs.pin {L : List NL} {hs : List HB} (h : FullAs L hs) (p : Nat) : FullAs (pinL L p) hs := by
  unfold pinL
  split
  · rename_i he
    unfold FullAs at h ⊢
    rw [← h]
    apply List.ext_getElem?
    intro q
    rw [List.getElem?_map, List.getElem?_map]
    by_cases hq : q = p
    · subst hq
      rcases bind_cases L q with ⟨_, k, e1, e2, _⟩ | ⟨hlt', y, k, e1, e2, e3, e4, e5⟩ | ⟨hh, _, e2, _⟩
      · rw [he] at e2; cases e2
      · rw [List.getElem?_set_self hlt', e4, e1]; rfl
      · rw [he] at e2; cases e2
    · rw [List.getElem?_set_ne (fun e => hq e.symm)]
  · exact h
theorem FullAs.take {L : List NL} {hs : List HB} (h : FullAs L hs) (m : Nat) : FullAs (L.take m) (hs.take m) := by
  unfold FullAs at h ⊢; rw [List.map_take, h, List.map_take]
theorem FullAs.push {L : List NL} {hs : List HB} (h : FullAs L hs) (x : HB) : FullAs (L ++ [(some x, 0)]) (hs ++ [x]) := by
  unfold FullAs at h ⊢; simp [h]
theorem FullAs.count {L : List NL} {hs : List HB} (h : FullAs L hs) : cntL L = hs.length := by
  have e : cntL L = ((L.map (·.1)).filter Option.isSome).length := by unfold cntL; rw [List.filter_map, List.length_map]; rfl
  rw [e, h, List.filter_map, List.length_map]
  have : (hs.filter (Option.isSome ∘ some)) = hs := List.filter_eq_self.2 (fun _ _ => rfl)
  rw [this]
/-- What a cut answers where all lives and one may be pinned. -/
theorem cutE_pin (hs : List HB) (pin m : Nat) : cutE (pinL (fullL hs) pin) m = if hs.length < m then 31 else if pin < hs.length ∧ m ≤ pin then 51 else 0 := by
  have hF := (FullAs.full hs)
  unfold cutE
  rw [(hF.pin pin).length]
  by_cases hm : hs.length < m
  · simp [hm]
  · rw [if_neg hm, if_neg hm]
    have hp : pinnedFrom (pinL (fullL hs) pin) m = true ↔ (pin < hs.length ∧ m ≤ pin) := by
      rw [pinnedFrom_iff]
      have h0 : ∀ q, pinsL (fullL hs) q = 0 := fun q => by
        unfold pinsL fullL; rw [List.getElem?_map]; cases hs[q]? <;> rfl
      have he := hF.err pin
      constructor
      · rintro ⟨p, h1, h2⟩
        unfold pinL at h2
        by_cases hpl : pin < hs.length
        · rw [he, if_pos hpl, if_pos rfl] at h2
          by_cases hpp : p = pin
          · exact ⟨hpl, by omega⟩
          · exfalso; apply h2
            unfold pinsL; rw [List.getElem?_set_ne (fun e => hpp e.symm)]; exact h0 p
        · rw [he, if_neg hpl, if_neg (by decide)] at h2
          exact absurd (h0 p) h2
      · rintro ⟨h1, h2⟩
        refine ⟨pin, h2, ?_⟩
        unfold pinL
        rw [he, if_pos h1, if_pos rfl]
        unfold pinsL
        rw [List.getElem?_set_self (by rw [hF.length]; exact h1)]
        simp
    by_cases hc : pin < hs.length ∧ m ≤ pin
    · rw [if_pos (hp.2 hc), if_pos hc]
    · rw [if_neg (fun h => hc (hp.1 h)), if_neg hc]
end Go.Proofs.Ytoigddekipjkcaa
