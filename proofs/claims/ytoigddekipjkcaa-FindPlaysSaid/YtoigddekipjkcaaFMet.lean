/- massiflaw22.FindParts: what is counted. -/
import Derived.Test.YtoigddekipjkcaaFAwake
namespace Go.Proofs.Ytoigddekipjkcaa
set_option linter.all false
open Go Go.RowKit Go.Proofs Go.Maps
open Go.ChangeMaps (setBlock)

theorem idxF_rise (h : HB) : ∀ (L : List HB) (k : Nat), k + L.length ≤ 1000000 → (idxF k L h).Pairwise (fun a b => a.1 < b.1) ∧ ∀ m ∈ idxF k L h, k ≤ m.1
  | [], _, _ => ⟨List.Pairwise.nil, fun m hm => by cases hm⟩
  | x :: r, k, hk => by
    simp only [List.length_cons] at hk
    obtain ⟨h1, h2⟩ := idxF_rise h r (k + 1) (by omega)
    simp only [idxF]
    split
    · refine ⟨List.pairwise_cons.2 ⟨fun m hm => ?_, h1⟩, fun m hm => ?_⟩
      · have := h2 m hm; rw [mk64_val (by omega)]; omega
      · rcases List.mem_cons.1 hm with e | e
        · rw [e, mk64_val (by omega)]; omega
        · have := h2 m e; omega
    · exact ⟨h1, fun m hm => by have := h2 m hm; omega⟩
theorem idx_nodup {L : List HB} (hL : L.length ≤ 1000000) (h : HB) : (idx L h).Nodup := by
  have := (idxF_rise h L 0 (by omega)).1
  rw [List.nodup_iff_pairwise_ne]
  exact this.imp (fun hab e => by rw [e] at hab; omega)
def metF (L : List HB) (i p : Nat) : Nat := match L[p]? with
  | some x => if fi L x < i then 1 else 0
  | none => 0
def metG (L : List HB) (i : Nat) (y : HB) (k p : Nat) : Nat := match L[p]? with
  | some x => if fi L x < i then 1 else if fi L x = i ∧ mk64 p ∈ (idx L y).take k then 1 else 0
  | none => 0
section
variable {L : List HB} {i : Nat} {y : HB}
theorem metG_zero (p : Nat) : metG L i y 0 p = metF L i p := by
  unfold metG metF
  split
  · simp
  · rfl
theorem metG_all (hL : L.length ≤ 1000000) (hy : L[i]? = some y) (hf : fi L y = i) {k : Nat} (hk : (idx L y).length ≤ k) (p : Nat) : metG L i y k p = metF L (i + 1) p := by
  unfold metG metF
  split
  · rename_i x hx
    rw [List.take_of_length_le hk]
    by_cases h1 : fi L x < i
    · rw [if_pos h1, if_pos (by omega)]
    · rw [if_neg h1]
      by_cases h2 : fi L x = i
      · have hxy : x = y := fi_inj hL (List.mem_of_getElem? hx) (List.mem_of_getElem? hy) (by rw [h2, hf])
        subst hxy
        rw [if_pos ⟨h2, mem_idx.2 ⟨p, hx, rfl⟩⟩, if_pos (by omega)]
      · rw [if_neg (fun h => h2 h.1), if_neg (by omega)]
  · rfl
theorem metF_skip (hL : L.length ≤ 1000000) (hy : L[i]? = some y) (hf : fi L y ≠ i) (p : Nat) : metF L (i + 1) p = metF L i p := by
  unfold metF
  split
  · rename_i x hx
    have : fi L x ≠ i := fun e => by
      have := fi_at hL (List.mem_of_getElem? hx)
      rw [e, hy] at this
      simp at this
      subst this; exact hf e
    by_cases h1 : fi L x < i
    · rw [if_pos h1, if_pos (by omega)]
    · rw [if_neg h1, if_neg (by omega)]
  · rfl
theorem metF_full (hL : L.length ≤ 1000000) {p : Nat} (hp : p < L.length) : metF L L.length p = 1 := by
  unfold metF
  rw [List.getElem?_eq_getElem hp]
  simp only
  rw [if_pos (fi_lt hL (List.getElem_mem hp))]
theorem metF_zero (p : Nat) : metF L 0 p = 0 := by
  unfold metF
  split
  · rw [if_neg (by omega)]
  · rfl
theorem metG_here (hL : L.length ≤ 1000000) (hf : fi L y = i) {k p0 : Nat} (hk : (idx L y)[k]? = some (mk64 p0)) (hp : L[p0]? = some y) : metG L i y k p0 = 0 := by
  unfold metG
  rw [hp]
  simp only
  rw [if_neg (by omega), if_neg]
  rintro ⟨_, hm⟩
  have hnd := idx_nodup hL y
  obtain ⟨j, hj⟩ := List.getElem?_of_mem hm
  rw [List.getElem?_take] at hj
  split at hj
  · have h1 := (List.getElem?_eq_some_iff.1 hk)
    have h2 := (List.getElem?_eq_some_iff.1 hj)
    have := (List.getElem_inj (xs := idx L y) (h₀ := h2.1) (h₁ := h1.1) hnd).1 (by rw [h1.2, h2.2])
    omega
  · cases hj
theorem metG_step (hL : L.length ≤ 1000000) (hf : fi L y = i) {k p0 : Nat} (hk : (idx L y)[k]? = some (mk64 p0)) (hp : L[p0]? = some y) (p : Nat) (hpl : p < L.length) : metG L i y (k + 1) p = if p = p0 then 1 else metG L i y k p := by
  have hp0 := (List.getElem?_eq_some_iff.1 hp).1
  have ht : (idx L y).take (k + 1) = (idx L y).take k ++ [mk64 p0] := by rw [List.take_add_one, hk]; rfl
  by_cases hpp : p = p0
  · subst hpp
    rw [if_pos rfl]
    unfold metG
    rw [hp]
    simp only
    rw [if_neg (by omega), if_pos ⟨hf, by rw [ht]; simp⟩]
  · rw [if_neg hpp]
    unfold metG
    split
    · rename_i x hx
      have : (mk64 p ∈ (idx L y).take (k + 1)) ↔ mk64 p ∈ (idx L y).take k := by
        rw [ht, List.mem_append, List.mem_singleton]
        exact ⟨fun h => h.elim id (fun e => absurd (mk64_inj (by omega) (by omega) e) hpp), .inl⟩
      simp only [this]
    · rfl
end
/-- The row of counts. -/
def MetAt (w : World) (mb n : Nat) (f : Nat → Nat) : Prop :=
  ∃ cur, w.heap[mb]? = some (.cells cur 3 (0, 0)) ∧ cur.size = n ∧ ∀ p, p < n → cur[p]? = some (.int .i64 (f p : Int))
theorem MetAt.same {w w' : World} {mb n : Nat} {f : Nat → Nat} (h : MetAt w mb n f) (hb : w'.heap[mb]? = w.heap[mb]?) : MetAt w' mb n f := by
  obtain ⟨cur, h1, h2⟩ := h; exact ⟨cur, hb.trans h1, h2⟩
theorem MetAt.eq {w : World} {mb n : Nat} {f g : Nat → Nat} (h : MetAt w mb n f) (hfg : ∀ p, p < n → f p = g p) : MetAt w mb n g := by
  obtain ⟨cur, h1, h2, h3⟩ := h; exact ⟨cur, h1, h2, fun p hp => by rw [← hfg p hp]; exact h3 p hp⟩
theorem MetAt.cell {w : World} {mb n : Nat} {f : Nat → Nat} (h : MetAt w mb n f) {p : Nat} (hp : p < n) : w.cell? ⟨mb, p, none⟩ = some (.int .i64 (f p : Int)) ∧ w.frozen? ⟨mb, p, none⟩ = false := by
  obtain ⟨cur, h1, h2, h3⟩ := h; exact ⟨(cell_of h1).trans (h3 p hp), frozen_of h1⟩
theorem MetAt.put {w : World} {mb n : Nat} {f : Nat → Nat} (h : MetAt w mb n f) {p0 : Nat} (hp : p0 < n) (m : Nat) : MetAt (w.setCell ⟨mb, p0, none⟩ (.int .i64 (m : Int))) mb n (fun p => if p = p0 then m else f p) := by
  obtain ⟨cur, h1, h2, h3⟩ := h
  refine ⟨_, hb_setCell_same h1 _, by simp [h2], fun p hpn => ?_⟩
  show (cur.setIfInBounds p0 _)[p]? = some (.int .i64 ((if p = p0 then m else f p : Nat) : Int))
  by_cases e : p = p0
  · subst e
    rw [if_pos rfl]
    simp [Array.getElem?_setIfInBounds, h2, hp]
  · rw [if_neg e]
    rw [Array.getElem?_setIfInBounds_ne (fun e' => e e'.symm)]
    exact h3 p hpn
theorem infoInt : (Try.prog.info? 3).map (fun i => (i.zero, i.size, i.bytes)) = some (some (.int .i64 0), 1, 8) := by kernel_rfl
theorem MetAt.made {w : World} {base mb n : Nat} (h : w.ownsRow base 3 1 (.slice (some ⟨mb, 0, none⟩) n n) n (madeCells (Value.int .i64 0).cells (n * 1)).toList) : MetAt w mb n (fun _ => 0) := by
  obtain ⟨_, ⟨e, _⟩ | ⟨g, cap, cur, e, h3, h4, h5, h6, h7, h8⟩⟩ := h
  · cases e
  · simp at e
    obtain ⟨rfl, rfl⟩ := e
    refine ⟨cur, h4, by omega, fun p hp => ?_⟩
    have : (cur.toList.take (n * 1))[p]? = some (.int .i64 0) := by
      rw [h8, Array.getElem?_toList]
      unfold madeCells
      simp [Value.cells, hp, Nat.mod_one]
    rw [List.getElem?_take, if_pos (by omega), Array.getElem?_toList] at this
    exact this
end Go.Proofs.Ytoigddekipjkcaa
