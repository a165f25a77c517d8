/- What pins and sweeps leave; counting chunks; copying numbers. -/
import Derived.Test.YtoigddekipjkcaaSweep
import Derived.Test.YtoigddekipjkcaaFull
namespace Go.Proofs.Ytoigddekipjkcaa
set_option linter.all false
open Go Go.RowKit Go.Proofs Go.Maps

/-- The store's list behind so many pins. -/
def pinAll (L : List NL) (ps : List U64) : List NL := ps.foldl (fun L p => pinL L p.1) L
theorem pinAll_snoc (L : List NL) (ps : List U64) (p : U64) : pinAll L (ps ++ [p]) = pinL (pinAll L ps) p.1 := by simp [pinAll]
theorem FullAs.pinAll {hs : List HB} (ps : List U64) : ∀ {L : List NL}, FullAs L hs → FullAs (pinAll L ps) hs := by
  induction ps with
  | nil => intro L h; exact h
  | cons p ps ih => intro L h; exact ih (h.pin p.1)
theorem pinsL_pinL {L : List NL} {hs : List HB} (h : FullAs L hs) (q p : Nat) : pinsL (pinL L q) p = pinsL L p + if q < hs.length ∧ q = p then 1 else 0 := by
  unfold pinL
  rw [h.err]
  by_cases hq : q < hs.length
  · rw [if_pos hq, if_pos rfl]
    by_cases hp : q = p
    · subst hp
      rw [if_pos ⟨hq, rfl⟩]
      have hl : q < L.length := by rw [h.length]; exact hq
      show ((((L.set q _)[q]?).map (·.2)).getD 0) = _
      rw [List.getElem?_set_self hl]; rfl
    · rw [if_neg (fun hh => hp hh.2)]
      unfold pinsL
      rw [List.getElem?_set_ne hp]; rfl
  · rw [if_neg hq, if_neg (by decide), if_neg (fun hh => hq hh.1)]; rfl
theorem pinsL_pinAll {hs : List HB} (p : Nat) (ps : List U64) : ∀ {L : List NL}, FullAs L hs → pinsL (pinAll L ps) p = pinsL L p + if p < hs.length then (ps.map (·.1)).count p else 0 := by
  induction ps with
  | nil => intro L h; simp [pinAll]
  | cons q ps ih =>
    intro L h
    rw [show pinAll L (q :: ps) = pinAll (pinL L q.1) ps from rfl, ih (h.pin q.1), pinsL_pinL h, List.map_cons, List.count_cons]
    by_cases hp : p < hs.length
    · rw [if_pos hp, if_pos hp]
      by_cases hq : q.1 = p
      · rw [if_pos ⟨by omega, hq⟩, if_pos (by simpa using hq)]; omega
      · rw [if_neg (fun hh => hq hh.2), if_neg (by simpa using hq)]; omega
    · rw [if_neg hp, if_neg hp]
      by_cases hq : q.1 < hs.length ∧ q.1 = p
      · omega
      · rw [if_neg hq]
theorem pinsL_full (hs : List HB) (p : Nat) : pinsL (fullL hs) p = 0 := by unfold pinsL fullL; rw [List.getElem?_map]; cases hs[p]? <;> rfl
theorem pinsL_pins_le (hs : List HB) (ps : List U64) (p : Nat) : pinsL (pinAll (fullL hs) ps) p ≤ ps.length := by
  rw [pinsL_pinAll p ps (FullAs.full hs), pinsL_full]
  split
  · have := List.count_le_length (a := p) (l := ps.map (·.1)); rw [List.length_map] at this; omega
  · omega
theorem pinsL_pins_zero (hs : List HB) (ps : List U64) (p : Nat) (hp : p < hs.length) : pinsL (pinAll (fullL hs) ps) p = 0 ↔ p ∉ ps.map (·.1) := by
  rw [pinsL_pinAll p ps (FullAs.full hs), pinsL_full, if_pos hp, Nat.zero_add, List.count_eq_zero]

/-- Killed places that live, each once, are fewer alive by as many. -/
theorem cntL_killL (L : List NL) (ps : List Nat) (hn : ps.Nodup) (hl : ∀ p ∈ ps, ∃ h, (L[p]?).bind (·.1) = some h) : ∀ i, i ≤ ps.length → cntL (killL L (ps.take i)) + i = cntL L := by
  intro i
  induction i with
  | zero => intro _; simp [killL_nil]
  | succ i ih =>
    intro hi
    have hp : ps[i]? = some ps[i] := List.getElem?_eq_getElem (by omega)
    obtain ⟨h, hh⟩ := hl _ (List.mem_of_getElem? hp)
    obtain ⟨k, hx⟩ : ∃ k, L[ps[i]]? = some (some h, k) := by
      cases hx : L[ps[i]]? with
      | none => rw [hx] at hh; simp at hh
      | some y => rw [hx] at hh; exact ⟨y.2, by have : y.1 = some h := hh; rw [← this]⟩
    have hnt := not_mem_take hn hp
    have h2 := killL_get L _ _ _ _ hx hnt
    have h3 := cntL_set (none, k) h2
    rw [List.take_add_one, hp, Option.toList, killL_snoc L _ _ _ _ hx]
    have := ih (by omega)
    simp at h3
    omega
theorem liveL_get {L : List NL} (hL : L.length ≤ 1000000) (ks : List U64) (p : Nat) : p ∈ (sweepG L ks).map (·.1) ↔ goesBy L ks p = true ∧ ∃ h, (L[p]?).bind (·.1) = some h := mem_goneBy hL _ p
theorem cntL_sweep {L : List NL} (hL : L.length ≤ 1000000) (ks : List U64) : cntL (sweepL L ks) + (sweepG L ks).length = cntL L := by
  have := cntL_killL L ((sweepG L ks).map (·.1)) (sorted_goneBy hL _) (fun p hp => ((liveL_get hL ks p).1 hp).2) ((sweepG L ks).map (·.1)).length (Nat.le_refl _)
  rw [List.take_length, List.length_map] at this
  exact this
theorem length_sweepL (L : List NL) (ks : List U64) : (sweepL L ks).length = L.length := length_killL _ _
theorem get_sweepL {L : List NL} (hL : L.length ≤ 1000000) (ks : List U64) (p : Nat) : ((sweepL L ks)[p]?).bind (·.1) = if goesBy L ks p = true then none else (L[p]?).bind (·.1) := by
  unfold sweepL
  rw [get_killL]
  cases hx : L[p]? with
  | none => simp
  | some x =>
    have hm := liveL_get hL ks p
    rw [hx] at hm
    simp only [Option.map_some, Option.bind_some]
    by_cases hg : goesBy L ks p = true
    · rw [if_pos hg]
      by_cases hp : p ∈ (sweepG L ks).map (·.1)
      · rw [if_pos hp]
      · rw [if_neg hp]
        cases hx1 : x.1 with
        | none => rfl
        | some h => exact absurd (hm.2 ⟨hg, h, hx1⟩) hp
    · rw [if_neg hg, if_neg (fun hp => hg (hm.1 hp).1)]
theorem goesBy_sweepL (L : List NL) (ks : List U64) (p : Nat) : goesBy (sweepL L ks) ks p = goesBy L ks p := by unfold goesBy sweepL; rw [pinsL_killL]
theorem sweepG_again {L : List NL} (hL : L.length ≤ 1000000) (ks : List U64) : (sweepG (sweepL L ks) ks).length = 0 := by
  have h : (sweepG (sweepL L ks) ks).map (·.1) = [] := by
    rw [List.eq_nil_iff_forall_not_mem]
    intro p hp
    obtain ⟨h1, h, h2⟩ := (liveL_get (by rw [length_sweepL]; exact hL) ks p).1 hp
    rw [goesBy_sweepL] at h1
    rw [get_sweepL hL, if_pos h1] at h2
    cases h2
  have := congrArg List.length h
  simpa using this

/-- Counting chunks along the places: how many, and which was the last. -/
def ccL (L : List NL) (wd : Nat) : Nat → Nat × Option Nat
  | 0 => (0, none)
  | p + 1 => if liveAt L p = true ∧ (ccL L wd p).2 ≠ some (p / wd) then ((ccL L wd p).1 + 1, some (p / wd)) else ccL L wd p
theorem ccL_list (L : List NL) (wd : Nat) : ∀ p, ∃ ls : List Nat, ls.Nodup ∧ ls.length = (ccL L wd p).1 ∧ (∀ k, k ∈ ls ↔ ∃ q, q < p ∧ liveAt L q = true ∧ q / wd = k) ∧
    (∀ k, (ccL L wd p).2 = some k → k ∈ ls ∧ ∀ k' ∈ ls, k' ≤ k) ∧ ((ccL L wd p).2 = none → ls = []) := by
  intro p
  induction p with
  | zero => exact ⟨[], List.nodup_nil, rfl, (fun k => by simp), (fun k h => by cases h), fun _ => rfl⟩
  | succ p ih =>
    obtain ⟨ls, h1, h2, h3, h4, h5⟩ := ih
    have hle : ∀ k ∈ ls, k ≤ p / wd := fun k hk => by
      obtain ⟨q, hq, _, rfl⟩ := (h3 k).1 hk
      exact Nat.div_le_div_right (by omega)
    unfold ccL
    by_cases hl : liveAt L p = true
    · by_cases he : (ccL L wd p).2 = some (p / wd)
      · rw [if_neg (fun hh => hh.2 he)]
        refine ⟨ls, h1, h2, fun k => ?_, h4, h5⟩
        rw [h3 k]
        constructor
        · rintro ⟨q, hq, h⟩; exact ⟨q, by omega, h⟩
        · rintro ⟨q, hq, hh, rfl⟩
          by_cases hqp : q = p
          · subst hqp
            exact (h3 _).1 (h4 _ he).1
          · exact ⟨q, by omega, hh, rfl⟩
      · rw [if_pos ⟨hl, he⟩]
        have hnm : p / wd ∉ ls := fun hm => by
          cases ho : (ccL L wd p).2 with
          | none => rw [h5 ho] at hm; cases hm
          | some k =>
            obtain ⟨a1, a2⟩ := h4 k ho
            have := a2 _ hm
            have := hle k a1
            apply he; rw [ho]; congr 1; omega
        refine ⟨p / wd :: ls, List.nodup_cons.2 ⟨hnm, h1⟩, by simp [h2], fun k => ?_, fun k hk => ?_, fun hk => by cases hk⟩
        · rw [List.mem_cons, h3 k]
          constructor
          · rintro (rfl | ⟨q, hq, h⟩)
            · exact ⟨p, by omega, hl, rfl⟩
            · exact ⟨q, by omega, h⟩
          · rintro ⟨q, hq, hh, rfl⟩
            by_cases hqp : q = p
            · subst hqp; exact .inl rfl
            · exact .inr ⟨q, by omega, hh, rfl⟩
        · simp only [Option.some.injEq] at hk
          subst hk
          refine ⟨List.mem_cons_self, fun k' hk' => ?_⟩
          rcases List.mem_cons.1 hk' with rfl | hk'
          · exact Nat.le_refl _
          · exact hle k' hk'
    · rw [if_neg (fun hh => hl hh.1)]
      refine ⟨ls, h1, h2, fun k => ?_, h4, h5⟩
      rw [h3 k]
      constructor
      · rintro ⟨q, hq, h⟩; exact ⟨q, by omega, h⟩
      · rintro ⟨q, hq, hh, rfl⟩
        by_cases hqp : q = p
        · subst hqp; exact absurd hh hl
        · exact ⟨q, by omega, hh, rfl⟩
theorem liveAt_lt {L : List NL} {p : Nat} (h : liveAt L p = true) : p < L.length := by
  unfold liveAt at h
  rcases Nat.lt_or_ge p L.length with h' | h'
  · exact h'
  · simp [List.getElem?_eq_none h'] at h
section
variable {w : World} {sb log : Nat} {L : List NL} {F : Nat → Prop}
theorem Chunks_cc (h : StoreL w sb log L F) (hL : L.length ≤ 1000000) : Calls Try.prog 30 #[.pointer (some ⟨sb, 0, none⟩)] w fun e w' =>
    e = .returned (.int .i64 ((ccL L (2 ^ log) L.length).1 : Int)) ∧ w = w' := by
  obtain ⟨cm, pm, M, Ps, NS, NB, S⟩ := h
  have c1 : w.cell? ⟨sb, 3, none⟩ = some (.map (some cm)) := cell_of S.cells
  have hlen := MapIs.len Try.underlying77 S.map 3
  have HS := Lib.hid S; clear S
  go_enter Try.func30, Try.ntmps30
  go_wp2
  go_ret
  refine ⟨?_, rfl⟩
  obtain ⟨ls, h1, h2, h3, _, _⟩ := ccL_list L (2 ^ log) L.length
  have hn := HS.out.map.nodup
  have hp : 0 < 2 ^ log := Nat.pos_of_ne_zero (by simp)
  have e : M.length = ls.length := by
    have hn2 : (M.map (fun x => x.1.1)).Nodup := by
      have : M.map (fun x => x.1.1) = (M.map (·.1)).map Subtype.val := by simp [Function.comp_def]
      rw [this]
      exact List.Pairwise.map _ (fun a b (hab : a ≠ b) e => hab (Subtype.ext e)) hn
    have hperm : (M.map (fun x => x.1.1)).Perm ls := (List.perm_ext_iff_of_nodup hn2 h1).2 fun k => by
      rw [h3 k]
      constructor
      · intro hm
        obtain ⟨x, hx, rfl⟩ := List.mem_map.1 hm
        obtain ⟨i, hi, hl⟩ := (HS.out.key_iff x.1).1 (List.mem_map_of_mem hx)
        refine ⟨_, liveAt_lt hl, hl, ?_⟩
        rw [Nat.mul_comm, Nat.mul_add_div hp, Nat.div_eq_of_lt hi, Nat.add_zero]
      · rintro ⟨q, hq, hl, rfl⟩
        have hlt : q < 18446744073709551616 := by omega
        have hkl : q / 2 ^ log < 18446744073709551616 := Nat.lt_of_le_of_lt (Nat.div_le_self _ _) hlt
        have hm := (HS.out.key_iff ⟨q / 2 ^ log, hkl⟩).2 ⟨q % 2 ^ log, Nat.mod_lt _ hp, by
          have := Nat.div_add_mod q (2 ^ log)
          rw [show q / 2 ^ log * 2 ^ log + q % 2 ^ log = q by rw [Nat.mul_comm]; exact this]; exact hl⟩
        obtain ⟨x, hx, e⟩ := List.mem_map.1 hm
        exact List.mem_map.2 ⟨x, hx, congrArg Subtype.val e⟩
    have := hperm.length_eq
    simpa using this
  rw [← h2, ← e]; rfl
end
end Go.Proofs.Ytoigddekipjkcaa
