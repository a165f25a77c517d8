/- What a sweep and a cut leave, in plain Lean. -/
import Derived.Test.YtoigddekipjkcaaLive
namespace Go.Proofs.Ytoigddekipjkcaa
set_option linter.all false
open Go Go.RowKit Go.Proofs

/-- These places live no more. -/
def killL (L : List NL) (ps : List Nat) : List NL := L.mapIdx fun p x => if p ∈ ps then (none, x.2) else x
theorem length_killL (L : List NL) (ps : List Nat) : (killL L ps).length = L.length := by simp [killL]
theorem get_killL (L : List NL) (ps : List Nat) (p : Nat) : (killL L ps)[p]? = (L[p]?).map fun x => if p ∈ ps then (none, x.2) else x := by simp [killL]
theorem killL_nil (L : List NL) : killL L [] = L := by
  apply List.ext_getElem?; intro p; rw [get_killL]; simp
theorem killL_snoc (L : List NL) (ps : List Nat) (p k : Nat) (x : Option HB) (h : L[p]? = some (x, k)) : killL L (ps ++ [p]) = (killL L ps).set p (none, k) := by
  apply List.ext_getElem?
  intro q
  have hp := (List.getElem?_eq_some_iff.1 h).1
  by_cases hq : q = p
  · subst hq
    rw [List.getElem?_set_self (by rw [length_killL]; exact hp), get_killL, h]; simp
  · rw [List.getElem?_set_ne (fun e => hq e.symm), get_killL, get_killL]
    simp [hq]
/-- A place of the list that lives, and has not been killed yet. -/
theorem killL_get (L : List NL) (ps : List Nat) (p k : Nat) (x : Option HB) (h : L[p]? = some (x, k)) (hn : p ∉ ps) : (killL L ps)[p]? = some (x, k) := by
  rw [get_killL, h]; simp [hn]
theorem pinsL_killL (L : List NL) (ps : List Nat) (p : Nat) : pinsL (killL L ps) p = pinsL L p := by
  unfold pinsL
  rw [get_killL]
  cases L[p]? with
  | none => rfl
  | some x => by_cases hp : p ∈ ps <;> simp [hp]
/-- Does a node behind n have a pin? -/
def pinnedFrom (L : List NL) (n : Nat) : Bool := (L.drop n).any fun x => x.2 != 0
def cutE (L : List NL) (n : Nat) : Nat := if L.length < n then 31 else if pinnedFrom L n then 51 else 0
def cutL (L : List NL) (n : Nat) : List NL := if cutE L n = 0 then L.take n else L
theorem pinnedFrom_iff (L : List NL) (n : Nat) : pinnedFrom L n = true ↔ ∃ p, n ≤ p ∧ pinsL L p ≠ 0 := by
  unfold pinnedFrom pinsL
  rw [List.any_eq_true]
  constructor
  · rintro ⟨x, hx, h⟩
    obtain ⟨i, hi⟩ := List.getElem?_of_mem hx
    rw [List.getElem?_drop] at hi
    exact ⟨n + i, by omega, by rw [hi]; simpa using h⟩
  · rintro ⟨p, hp, h⟩
    cases hx : L[p]? with
    | none => rw [hx] at h; simp at h
    | some x =>
      rw [hx] at h
      refine ⟨x, List.mem_of_getElem? (i := p - n) (by rw [List.getElem?_drop, show n + (p - n) = p by omega]; exact hx), by simpa using h⟩
/-- The places that are to go. -/
def goneBy (f : Nat → Bool) (ps : List PH) : List U64 := (ps.filter fun x => f x.1.1).map (·.1)
theorem goneBy_hit (f : Nat → Bool) (pre : List PH) {x : PH} (h : f x.1.1 = true) : goneBy f (pre ++ [x]) = goneBy f pre ++ [x.1] := by simp [goneBy, h]
theorem goneBy_miss (f : Nat → Bool) (pre : List PH) {x : PH} (h : f x.1.1 = false) : goneBy f (pre ++ [x]) = goneBy f pre := by simp [goneBy, h]
theorem goneBy_le (f : Nat → Bool) (pre : List PH) : (goneBy f pre).length ≤ pre.length := by simp only [goneBy, List.length_map]; exact List.length_filter_le _ _
theorem mem_goneBy {L : List NL} (hL : L.length ≤ 1000000) (f : Nat → Bool) (p : Nat) : p ∈ (goneBy f (liveL L)).map (·.1) ↔ f p = true ∧ ∃ h, (L[p]?).bind (·.1) = some h := by
  unfold goneBy
  simp only [List.mem_map, List.mem_filter]
  constructor
  · rintro ⟨q, ⟨x, ⟨hx, hf⟩, rfl⟩, rfl⟩
    obtain ⟨r, h1, h2⟩ := mem_liveL.1 hx
    have := live_lt h1
    have e : x.1.1 = r := by rw [h2, mk64_val (by omega)]
    rw [e]
    exact ⟨by rw [← e]; exact hf, _, h1⟩
  · rintro ⟨hf, h, h1⟩
    have := live_lt h1
    exact ⟨mk64 p, ⟨(mk64 p, h), ⟨mem_liveL.2 ⟨p, h1, rfl⟩, by rw [mk64_val (by omega)]; exact hf⟩, rfl⟩, mk64_val (by omega)⟩
theorem sorted_goneBy {L : List NL} (hL : L.length ≤ 1000000) (f : Nat → Bool) : ((goneBy f (liveL L)).map (·.1)).Nodup := by
  have h := sorted_liveL (L := L) (by omega)
  unfold goneBy
  rw [List.map_map, List.nodup_iff_pairwise_ne, List.pairwise_map]
  exact (h.filter _).imp fun hab e => by simp at e; omega
theorem killL_cut (L : List NL) (n : Nat) (hL : L.length ≤ 1000000) (hp : pinnedFrom L n = false) {log : Nat} :
    ({ saOf log (killL L ((goneBy (fun p => decide (n ≤ p)) (liveL L)).map (·.1))) with n := n } : SA) = saOf log (L.take n) ∨ L.length < n := by
  by_cases hn : L.length < n
  · exact .inr hn
  · left
    have hpin : ∀ p, n ≤ p → pinsL L p = 0 := fun p hp' => Classical.byContradiction fun h => by rw [(pinnedFrom_iff L n).2 ⟨p, hp', h⟩] at hp; cases hp
    obtain ⟨G, hG⟩ : ∃ G, (goneBy (fun p => decide (n ≤ p)) (liveL L)).map (·.1) = G := ⟨_, rfl⟩
    have hm : ∀ p, p ∈ G ↔ n ≤ p ∧ ∃ h, (L[p]?).bind (·.1) = some h := fun p => by rw [← hG, mem_goneBy hL]; simp
    rw [hG]
    have ht : (killL L G).take n = L.take n := by
      apply List.ext_getElem?; intro p
      rw [List.getElem?_take, List.getElem?_take]
      by_cases hpn : p < n
      · rw [if_pos hpn, if_pos hpn, get_killL]
        have : p ∉ G := fun h => by have := (hm p).1 h; omega
        simp [this]
      · rw [if_neg hpn, if_neg hpn]
    have hd : ∀ p, n ≤ p → ((killL L G)[p]?).bind (·.1) = none := fun p hp' => by
      rw [get_killL]
      cases hx : L[p]? with
      | none => rfl
      | some x =>
        by_cases hg : p ∈ G
        · simp [hg]
        · have : x.1 = none := by
            cases hx1 : x.1 with
            | none => rfl
            | some h => exact absurd ((hm p).2 ⟨hp', h, by rw [hx]; exact hx1⟩) hg
          simp [hg, this]
    have hc : cntL (killL L G) = cntL (L.take n) := by
      have e : killL L G = L.take n ++ (killL L G).drop n := by rw [← ht, List.take_append_drop]
      have z : cntL ((killL L G).drop n) = 0 := by
        unfold cntL
        rw [List.length_eq_zero_iff, List.filter_eq_nil_iff]
        intro x hx
        obtain ⟨i, hi⟩ := List.getElem?_of_mem hx
        rw [List.getElem?_drop] at hi
        have := hd (n + i) (by omega)
        rw [hi] at this
        simpa using this
      rw [e]
      unfold cntL at z ⊢
      rw [List.filter_append, List.length_append, z]; rfl
    refine sa_ext rfl (by simp [saOf]; omega) hc (fun p => ?_) (fun p => ?_)
    · simp only [saOf]
      by_cases hpn : p < n
      · rw [← ht, List.getElem?_take, if_pos hpn]
      · rw [hd p (by omega), List.getElem?_take, if_neg hpn]; rfl
    · simp only [saOf]
      have : ((killL L G)[p]?.map (·.2)).getD 0 = pinsL L p := pinsL_killL L G p
      rw [this, List.getElem?_take]
      by_cases hpn : p < n
      · rw [if_pos hpn]; rfl
      · rw [if_neg hpn, hpin p (by omega)]; rfl
end Go.Proofs.Ytoigddekipjkcaa
