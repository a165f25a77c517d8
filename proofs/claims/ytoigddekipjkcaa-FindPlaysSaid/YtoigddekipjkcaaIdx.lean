/- Where hashes stand in a list; find.Find and massifref22.Find as values. -/
import Derived.Test.YtoigddekipjkcaaHrow
import Derived.Test.YtoigddekipjkcaaLive
namespace Go.Proofs.Ytoigddekipjkcaa
set_option linter.all false
open Go Go.RowKit Go.Proofs Go.Maps
open Go.ChangeMaps (setBlock)

def idxF (k : Nat) : List HB → HB → List U64
  | [], _ => []
  | x :: r, h => if x = h then mk64 k :: idxF (k + 1) r h else idxF (k + 1) r h
/-- The indices at which h stands. -/
def idx (L : List HB) (h : HB) : List U64 := idxF 0 L h
theorem idxF_snoc (h x : HB) : ∀ (L : List HB) (k : Nat), idxF k (L ++ [x]) h = idxF k L h ++ if x = h then [mk64 (k + L.length)] else []
  | [], k => by simp only [List.nil_append, idxF, List.length_nil, Nat.add_zero]
  | y :: r, k => by
    have ih := idxF_snoc h x r (k + 1)
    have e : k + 1 + r.length = k + (y :: r).length := by simp; omega
    rw [e] at ih
    simp only [List.cons_append, idxF, ih]
    split <;> simp
theorem idx_snoc (L : List HB) (x h : HB) : idx (L ++ [x]) h = idx L h ++ if x = h then [mk64 L.length] else [] := by
  unfold idx; rw [idxF_snoc, Nat.zero_add]
theorem idx_snoc_same (L : List HB) (h : HB) : idx (L ++ [h]) h = idx L h ++ [mk64 L.length] := by rw [idx_snoc, if_pos rfl]
theorem idx_snoc_ne (L : List HB) {x h : HB} (e : h ≠ x) : idx (L ++ [x]) h = idx L h := by rw [idx_snoc, if_neg (fun e' => e e'.symm), List.append_nil]
theorem idxF_length (h : HB) : ∀ (L : List HB) (k : Nat), (idxF k L h).length ≤ L.length
  | [], _ => Nat.le_refl _
  | x :: r, k => by
    have := idxF_length h r (k + 1)
    simp only [idxF]; split <;> simp <;> omega
theorem idx_length (L : List HB) (h : HB) : (idx L h).length ≤ L.length := idxF_length h L 0
theorem mem_idxF {h : HB} {m : U64} : ∀ {L : List HB} {k : Nat}, m ∈ idxF k L h ↔ ∃ i, L[i]? = some h ∧ m = mk64 (k + i)
  | [], k => by simp [idxF]
  | x :: r, k => by
    have ih := mem_idxF (h := h) (m := m) (L := r) (k := k + 1)
    have e : (∃ i, (x :: r)[i]? = some h ∧ m = mk64 (k + i)) ↔ (x = h ∧ m = mk64 k) ∨ m ∈ idxF (k + 1) r h := by
      rw [ih]
      constructor
      · rintro ⟨i, h1, h2⟩
        cases i with
        | zero => exact .inl ⟨by simpa using h1, by simpa using h2⟩
        | succ i => exact .inr ⟨i, by simpa using h1, by rw [h2]; congr 1; omega⟩
      · rintro (⟨h1, h2⟩ | ⟨i, h1, h2⟩)
        · exact ⟨0, by simpa using h1, by simpa using h2⟩
        · exact ⟨i + 1, by simpa using h1, by rw [h2]; congr 1; omega⟩
    rw [e]
    simp only [idxF]
    split <;> rename_i hx <;> simp [hx]
theorem mem_idx {L : List HB} {h : HB} {m : U64} : m ∈ idx L h ↔ ∃ i, L[i]? = some h ∧ m = mk64 i := by unfold idx; rw [mem_idxF]; simp
theorem idx_nil {L : List HB} {h : HB} : idx L h = [] ↔ h ∉ L := by
  constructor
  · intro e hm
    obtain ⟨i, hi⟩ := List.getElem?_of_mem hm
    have : mk64 i ∈ idx L h := mem_idx.2 ⟨i, hi, rfl⟩
    rw [e] at this; cases this
  · intro hn
    cases hx : idx L h with
    | nil => rfl
    | cons m r =>
      exfalso
      obtain ⟨i, hi, _⟩ := mem_idx.1 (show m ∈ idx L h by rw [hx]; simp)
      exact hn (List.mem_of_getElem? hi)
theorem idx_pos {L : List HB} {h : HB} : 0 < (idx L h).length ↔ h ∈ L := by
  rw [List.length_pos_iff, ne_eq, idx_nil, Classical.not_not]
theorem head_idxF {h : HB} : ∀ {L : List HB} {k : Nat}, h ∈ L → ∃ j r, idxF k L h = mk64 (k + j) :: r ∧ L[j]? = some h ∧ ∀ i, i < j → L[i]? ≠ some h
  | [], _, hm => by cases hm
  | x :: l, k, hm => by
    by_cases hx : x = h
    · exact ⟨0, idxF (k + 1) l h, by simp [idxF, hx], by simp [hx], fun i hi => by omega⟩
    · have hm' : h ∈ l := (List.mem_cons.1 hm).elim (fun e => absurd e.symm hx) id
      obtain ⟨j, r, h1, h2, h3⟩ := head_idxF (h := h) (L := l) (k := k + 1) hm'
      refine ⟨j + 1, r, by simp only [idxF, if_neg hx, h1]; congr 2; omega, by simpa using h2, fun i hi => ?_⟩
      cases i with
      | zero => simpa using hx
      | succ i => simpa using h3 i (by omega)
/-- The first index. -/
theorem head_idx {L : List HB} {h : HB} {i : Nat} (hi : L[i]? = some h) : ∃ j r, idx L h = mk64 j :: r ∧ L[j]? = some h ∧ j ≤ i ∧ (j = i ↔ h ∉ L.take i) := by
  obtain ⟨j, r, h1, h2, h3⟩ := head_idxF (k := 0) (List.mem_of_getElem? hi)
  rw [Nat.zero_add] at h1
  have hji : j ≤ i := by
    rcases Nat.lt_or_ge i j with h | h
    · exact absurd hi (h3 i h)
    · exact h
  refine ⟨j, r, h1, h2, hji, fun e hm => ?_, fun hn => ?_⟩
  · subst e
    obtain ⟨q, hq⟩ := List.getElem?_of_mem hm
    rw [List.getElem?_take] at hq
    split at hq
    · exact h3 q ‹_› hq
    · cases hq
  · rcases Nat.lt_or_ge j i with h | h
    · exact absurd (List.mem_of_getElem? (i := j) (by rw [List.getElem?_take, if_pos h]; exact h2)) hn
    · omega
theorem mk64_inj {i j : Nat} (hi : i < 18446744073709551616) (hj : j < 18446744073709551616) (h : mk64 i = mk64 j) : i = j := by
  have := congrArg (·.1) h
  simp only [mk64] at this
  omega
/-! unlike hashes, in the order of their first indices -/
def stepF (acc : List HB) (x : HB) : List HB := if x ∈ acc then acc else acc ++ [x]
def firsts (L : List HB) : List HB := L.foldl stepF []
theorem firsts_snoc (L : List HB) (x : HB) : firsts (L ++ [x]) = if x ∈ firsts L then firsts L else firsts L ++ [x] := by simp only [firsts, List.foldl_append, List.foldl_cons, List.foldl_nil]; rfl
theorem snoc_ind {α : Type} {p : List α → Prop} (h0 : p []) (h1 : ∀ l x, p l → p (l ++ [x])) : ∀ l, p l := by
  intro l
  have : ∀ n, n ≤ l.length → p (l.take n) := by
    intro n
    induction n with
    | zero => intro _; simpa using h0
    | succ n ih =>
      intro hn
      rw [List.take_succ_eq_append_getElem (by omega)]
      exact h1 _ _ (ih (by omega))
  simpa using this l.length (Nat.le_refl _)
theorem mem_firsts (L : List HB) (h : HB) : h ∈ firsts L ↔ h ∈ L := by
  induction L using snoc_ind with
  | h0 => simp [firsts]
  | h1 l x ih =>
    rw [firsts_snoc]
    split
    · rename_i hx
      rw [List.mem_append, List.mem_singleton, ih]
      constructor
      · exact .inl
      · rintro (h' | rfl)
        · exact h'
        · exact ih.1 hx
    · rw [List.mem_append, List.mem_append, ih]
theorem nodup_firsts (L : List HB) : (firsts L).Nodup := by
  induction L using snoc_ind with
  | h0 => exact List.nodup_nil
  | h1 l x ih =>
    rw [firsts_snoc]
    split
    · exact ih
    · rename_i hx
      rw [List.nodup_append]
      exact ⟨ih, by simp, fun a ha b hb e => hx (by simp at hb; rw [← hb, ← e]; exact ha)⟩
theorem firsts_length (L : List HB) : (firsts L).length ≤ L.length := by
  induction L using snoc_ind with
  | h0 => simp [firsts]
  | h1 l x ih => rw [firsts_snoc]; split <;> simp <;> omega
theorem nodup_perm_length {α : Type} [DecidableEq α] {a b : List α} (ha : a.Nodup) (hb : b.Nodup) (h : ∀ x, x ∈ a ↔ x ∈ b) : a.length = b.length :=
  Nat.le_antisymm (length_le_of_sub ha (fun x hx => (h x).1 hx)) (length_le_of_sub hb (fun x hx => (h x).2 hx))
/-- The hashes that stand twice or more. -/
def isTwice (L : List HB) (h : HB) : Bool := decide (1 < (idx L h).length)
def twice (L : List HB) : List HB := (firsts L).filter (isTwice L)
/-! ### find.Find -/
def URow (w : World) (base : Nat) (v : Value) (ks : List U64) : Prop := w.ownsRow base 31 1 v ks.length (u64Cells ks)
theorem URow.same {w w' : World} {base : Nat} {v : Value} {ks : List U64} (h : URow w base v ks) (hb : ∀ j, v.ownBlock = some j → w'.heap[j]? = w.heap[j]?) : URow w' base v ks := ownsRow_same h hb
def nilV : Value := .slice none 0 0
def rowOf (M : List (HB × Value)) (h : HB) : Value := (alGet M h).getD nilV
structure MapOf (w : World) (b : Nat) (M : List (HB × Value)) (L : List HB) (F : Nat → Prop) : Prop where
  map : MapIs ekH id w b M
  row : ∀ h, URow w 0 (rowOf M h) (idx L h)
  mem : ∀ h, alGet M h = none ↔ h ∉ L
  foot : ∀ h j, (rowOf M h).ownBlock = some j → F j
  apart : ∀ h h' j, (rowOf M h).ownBlock = some j → (rowOf M h').ownBlock = some j → h = h'
  fb : F b
structure FindRep (w : World) (fb : Nat) (v : Value) (b : Nat) (M : List (HB × Value)) (L Lm : List HB) (F : Nat → Prop) : Prop where
  own : w.heap[fb]? = some (.cells #[v, .map (some b)] 72 (0, 0))
  leaves : HOwn w 0 v L
  vf : ∀ j, v.ownBlock = some j → F j
  m : MapOf w b M Lm F
  ff : F fb
  lt : ∀ j, F j → j < w.heap.size
def FindAt (w : World) (fb : Nat) (L : List HB) (F : Nat → Prop) : Prop := ∃ v b M, FindRep w fb v b M L L F
theorem MapOf.kept {w w' : World} {b : Nat} {M : List (HB × Value)} {L : List HB} {F : Nat → Prop} (h : MapOf w b M L F) (hb : ∀ j, F j → w'.heap[j]? = w.heap[j]?) : MapOf w' b M L F :=
  ⟨h.map.same (hb b h.fb), fun x => (h.row x).same (fun j hj => hb j (h.foot x j hj)), h.mem, h.foot, h.apart, h.fb⟩
theorem FindRep.kept {w w' : World} {fb b : Nat} {v : Value} {M : List (HB × Value)} {L Lm : List HB} {F : Nat → Prop} (h : FindRep w fb v b M L Lm F) (hs : w.heap.size ≤ w'.heap.size) (hb : ∀ j, F j → w'.heap[j]? = w.heap[j]?) : FindRep w' fb v b M L Lm F :=
  ⟨(hb fb h.ff).trans h.own, h.leaves.same (fun j hj => hb j (h.vf j hj)), h.vf, h.m.kept hb, h.ff, fun j hj => Nat.lt_of_lt_of_le (h.lt j hj) hs⟩
theorem FindAt.kept {w w' : World} {fb : Nat} {L : List HB} {F : Nat → Prop} (h : FindAt w fb L F) (hs : w.heap.size ≤ w'.heap.size) (hb : ∀ j, F j → w'.heap[j]? = w.heap[j]?) : FindAt w' fb L F := by
  obtain ⟨v, b, M, h⟩ := h; exact ⟨v, b, M, h.kept hs hb⟩
theorem FindAt.lt {w : World} {fb : Nat} {L : List HB} {F : Nat → Prop} (h : FindAt w fb L F) : ∀ j, F j → j < w.heap.size := by obtain ⟨v, b, M, h⟩ := h; exact h.lt
theorem FindAt.below {w w' : World} {fb : Nat} {L : List HB} {F : Nat → Prop} (h : FindAt w fb L F) (hb : Below w.heap.size w w') : FindAt w' fb L F :=
  h.kept hb.size (fun j hj => hb.block j (h.lt j hj))
theorem FindAt.fr {w w' : World} {fb : Nat} {L : List HB} {F S : Nat → Prop} (h : FindAt w fb L F) (hf : Fr S w w') (hd : ∀ j, F j → ¬ S j) : FindAt w' fb L F :=
  h.kept hf.size (fun j hj => hf.block j (h.lt j hj) (hd j hj))
/-- A row put. -/
theorem MapOf.upd {w w2 : World} {b : Nat} {M : List (HB × Value)} {L L' : List HB} {F F' : Nat → Prop} (h : MapOf w b M L F) (h0 : HB) (r : Value) (hM : MapIs ekH id w2 b (alPut M h0 r)) (hr : URow w2 0 r (idx L' h0))
    (hL : ∀ x, x ≠ h0 → idx L' x = idx L x) (hm : h0 ∈ L') (hb : ∀ j, F j → j ≠ b → (rowOf M h0).ownBlock ≠ some j → w2.heap[j]? = w.heap[j]?) (hbk : ∀ x, (rowOf M x).ownBlock ≠ some b) (hF : ∀ j, F j → F' j)
    (hf : ∀ j, r.ownBlock = some j → F' j ∧ ((rowOf M h0).ownBlock = some j ∨ ¬ F j)) : MapOf w2 b (alPut M h0 r) L' F' := by
  have hg : ∀ x, rowOf (alPut M h0 r) x = if x = h0 then r else rowOf M x := fun x => by
    unfold rowOf; rw [alGet_put]; split <;> rfl
  refine ⟨hM, fun x => ?_, fun x => ?_, fun x j => ?_, fun x y j => ?_, hF b h.fb⟩
  · rw [hg]
    by_cases hx : x = h0
    · rw [if_pos hx, hx]; exact hr
    · rw [if_neg hx, hL x hx]
      refine (h.row x).same (fun j hj => hb j (h.foot x j hj) (fun e => hbk x (e ▸ hj)) (fun e => hx (h.apart x h0 j hj e)))
  · rw [alGet_put]
    by_cases hx : x = h0
    · rw [if_pos hx, hx]; simp [hm]
    · rw [if_neg hx, h.mem x, ← idx_nil, ← idx_nil, hL x hx]
  · rw [hg]
    split
    · intro hj; exact (hf j hj).1
    · intro hj; exact hF j (h.foot x j hj)
  · rw [hg, hg]
    by_cases hx : x = h0 <;> by_cases hy : y = h0
    · intro _ _; rw [hx, hy]
    · rw [if_pos hx, if_neg hy]
      intro h1 h2
      rcases (hf j h1).2 with h3 | h3
      · rw [hx]; exact h.apart h0 y j h3 h2
      · exact absurd (h.foot y j h2) h3
    · rw [if_neg hx, if_pos hy]
      intro h1 h2
      rcases (hf j h2).2 with h3 | h3
      · rw [hy]; exact h.apart x h0 j h1 h3
      · exact absurd (h.foot x j h1) h3
    · rw [if_neg hx, if_neg hy]; exact h.apart x y j
/-- A row deleted. -/
theorem MapOf.del {w w2 : World} {b : Nat} {M : List (HB × Value)} {L L' : List HB} {F : Nat → Prop} (h : MapOf w b M L F) (h0 : HB) (hM : MapIs ekH id w2 b (alDel M h0))
    (hL : ∀ x, x ≠ h0 → idx L' x = idx L x) (hm : h0 ∉ L') (hb : ∀ j, F j → j ≠ b → w2.heap[j]? = w.heap[j]?) (hbk : ∀ x, (rowOf M x).ownBlock ≠ some b) : MapOf w2 b (alDel M h0) L' F := by
  have hg : ∀ x, rowOf (alDel M h0) x = if x = h0 then nilV else rowOf M x := fun x => by
    unfold rowOf; rw [alGet_del]; split <;> rfl
  refine ⟨hM, fun x => ?_, fun x => ?_, fun x j => ?_, fun x y j => ?_, h.fb⟩
  · rw [hg]
    by_cases hx : x = h0
    · rw [if_pos hx, hx, idx_nil.2 hm]; exact World.ownsRow_nil _ _ _ _
    · rw [if_neg hx, hL x hx]
      exact (h.row x).same (fun j hj => hb j (h.foot x j hj) (fun e => hbk x (e ▸ hj)))
  · rw [alGet_del]
    by_cases hx : x = h0
    · rw [if_pos hx, hx]; simp [hm]
    · rw [if_neg hx, h.mem x, ← idx_nil, ← idx_nil, hL x hx]
  · rw [hg]
    split
    · intro hj; cases hj
    · intro hj; exact h.foot x j hj
  · rw [hg, hg]
    by_cases hx : x = h0 <;> by_cases hy : y = h0
    · intro _ _; rw [hx, hy]
    · rw [if_pos hx]; intro h1; cases h1
    · rw [if_neg hx, if_pos hy]; intro _ h2; cases h2
    · rw [if_neg hx, if_neg hy]; exact h.apart x y j
theorem MapOf.length {w : World} {b : Nat} {M : List (HB × Value)} {L : List HB} {F : Nat → Prop} (h : MapOf w b M L F) : M.length = (firsts L).length := by
  have e0 : M.length = (M.map (·.1)).length := by simp
  rw [e0]
  refine nodup_perm_length h.map.nodup (nodup_firsts L) (fun x => ?_)
  rw [mem_firsts]
  have := h.mem x
  rw [alGet_not_mem] at this
  constructor
  · intro hx; exact Classical.byContradiction fun hn => this.2 hn hx
  · intro hx; exact Classical.byContradiction fun hn => this.1 hn hx
theorem MapOf.rowNe {w : World} {b fb : Nat} {M : List (HB × Value)} {L : List HB} {F : Nat → Prop} {c : Array Value} {t : TypeId} (h : MapOf w b M L F) (h1 : w.heap[fb]? = some (.cells c t (0, 0))) (ht : t ≠ 31) (x : HB) : (rowOf M x).ownBlock ≠ some fb :=
  own_ne h1 (h.row x) (fun e => ht e.symm)
theorem MapOf.mapNe {w : World} {b : Nat} {M : List (HB × Value)} {L : List HB} {F : Nat → Prop} (h : MapOf w b M L F) (x : HB) : (rowOf M x).ownBlock ≠ some b := by
  obtain ⟨es, ck, hb, _⟩ := h.map
  obtain ⟨_, ⟨e, _⟩ | ⟨g, cap, cur, e, _, h4, _⟩⟩ := h.row x
  · rw [e]; simp [Value.ownBlock]
  · rw [e]; simp only [Value.ownBlock, ne_eq, Option.some.injEq]
    exact ne_map h4 hb
end Go.Proofs.Ytoigddekipjkcaa
