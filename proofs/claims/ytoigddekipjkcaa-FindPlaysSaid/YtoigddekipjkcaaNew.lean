/- store.New, and how many chunks there are. -/
import Derived.Test.YtoigddekipjkcaaMeth2
namespace Go.Proofs.Ytoigddekipjkcaa
set_option linter.all false
open Go Go.RowKit Go.Proofs Go.Maps
open Go.ChangeMaps (setBlock)

theorem StoreAt.fresh {w : World} {sb cm pm log : Nat} (hl : log ≤ 16) (hc : StoreCells w sb log 0 0 cm pm) (h1 : w.heap[cm]? = some (.map #[] 0)) (h2 : w.heap[pm]? = some (.map #[] 0)) (hne : cm ≠ pm) :
    StoreL w sb log [] (fun j => j = sb ∨ j = cm ∨ j = pm) := by
  refine ⟨cm, pm, [], [], fun _ => [], fun _ => 0, hl, hc, MapIs.made h1, MapIs.made h2, fun k => by simp [alGet, saOf], fun k v h => by simp [alGet] at h, hne, fun k cb h => by simp [alGet] at h, fun k k' cb h => by simp [alGet] at h, fun k k' cb cb' h => by simp [alGet] at h, ?_, ⟨.inl rfl, .inr (.inl rfl), .inr (.inr rfl), fun k cb h => by simp [alGet] at h⟩, ?_⟩
  · intro k i _; simp [alGet, saOf]
  · rintro j (rfl | rfl | rfl)
    · exact hb_lt hc
    · exact hb_lt h1
    · exact hb_lt h2
set_option maxRecDepth 100000 in
theorem New_bad (x : Int) (w : World) (hx : x < 0 ∨ 16 < x) (hx1 : -9223372036854775808 ≤ x) (hx2 : x ≤ 9223372036854775807) :
    Calls Try.prog 35 #[.int .i64 x] w fun e w' => e = .returned (.tuple #[.pointer none, .int .i64 1]) ∧ w = w' := by
  rcases hx with h | h
  · go_enter Try.func35, Try.ntmps35
    go_wp2
    go_ret2
    exact ⟨rfl, rfl⟩
  · have h' : ¬ x < 0 := by omega
    go_enter Try.func35, Try.ntmps35
    go_wp2
    go_ret2
    exact ⟨rfl, rfl⟩
def NewPost (log : Nat) (w : World) (e : Ending) (w' : World) : Prop :=
  ∃ sb F, e = .returned (.tuple #[.pointer (some ⟨sb, 0, none⟩), .int .i64 0]) ∧ StoreL w' sb log [] F ∧ (∀ j, F j → w.heap.size ≤ j) ∧ Below w.heap.size w w'
set_option maxRecDepth 100000 in
theorem New_good (log : Nat) (w : World) (hl : log ≤ 16) :
    Calls Try.prog 35 #[.int .i64 (log : Int)] w (NewPost log w) := by
  have hmm := @run_makeMap Try.prog
  have h1 : ¬ (log : Int) < 0 := by omega
  have h2 : ¬ (16 : Int) < log := by omega
  go_enter Try.func35, Try.ntmps35
  go_wp2_with fail
  go_ret2
  refine ⟨w.heap.size + 1 + 1, fun j => j = w.heap.size + 1 + 1 ∨ j = w.heap.size ∨ j = w.heap.size + 1, rfl, ?_, ?_, ?_⟩
  · refine StoreAt.fresh hl ?_ (hb_alloc (hb_alloc (hb_new _ _) _) _) ?_ (by omega)
    · have := hb_new ((w.alloc (.map #[] 0)).alloc (.map #[] 0)) (.cells #[.int .i64 log, .int .u64 0, .int .u64 0, .map (some w.heap.size), .map (some (w.heap.size + 1))] 80)
      unfold StoreCells
      simpa using this
    · have := hb_alloc (hb_new (w.alloc (.map #[] 0)) (.map #[] 0)) (.cells #[.int .i64 log, .int .u64 0, .int .u64 0, .map (some w.heap.size), .map (some (w.heap.size + 1))] 80)
      simpa using this
  · rintro j (rfl | rfl | rfl) <;> omega
  · exact (((Below.refl _ w).alloc (Nat.le_refl _) _).alloc (by simp) _).alloc (by simp; omega) _
/-- The chunks in which a node lives. -/
def liveAt (L : List NL) (p : Nat) : Bool := ((L[p]?).bind (·.1)).isSome
theorem StoreRep.key_iff {w : World} {sb log : Nat} {L : List NL} {F : Nat → Prop} {cm pm : Nat} {M Ps : List (U64 × Nat)} {NS : U64 → List ND} {NB : U64 → Nat} (S : StoreRep w sb (saOf log L) F cm pm M Ps NS NB) (k : U64) :
    k ∈ M.map (·.1) ↔ ∃ i, i < 2 ^ log ∧ liveAt L (k.1 * 2 ^ log + i) = true := by
  have hv : ∀ i, i < 2 ^ log → (L[k.1 * 2 ^ log + i]?).bind (·.1) = (alGet M k).bind fun _ => ((NS k)[i]?).join := fun i hi => S.val k i hi
  constructor
  · intro hk
    cases hm : alGet M k with
    | none => exact absurd hk ((alGet_not_mem M k).1 hm)
    | some cb =>
      obtain ⟨_, c2, c3⟩ := S.chunk k cb hm
      have : ∃ x ∈ NS k, x.isSome = true := by
        unfold liveN at c2
        obtain ⟨x, hx⟩ := List.exists_mem_of_length_pos c2
        exact ⟨x, (List.mem_filter.1 hx).1, (List.mem_filter.1 hx).2⟩
      obtain ⟨x, hx, hs⟩ := this
      obtain ⟨i, hi⟩ := List.getElem?_of_mem hx
      have hil := (List.getElem?_eq_some_iff.1 hi).1
      have hlt : i < 2 ^ log := Nat.lt_of_lt_of_le hil c3
      refine ⟨i, hlt, ?_⟩
      unfold liveAt
      rw [hv i hlt, hm, Option.bind_some, hi]
      cases x with
      | none => simp at hs
      | some y => rfl
  · rintro ⟨i, hi, hl⟩
    unfold liveAt at hl
    rw [hv i hi] at hl
    cases hm : alGet M k with
    | none => rw [hm] at hl; simp at hl
    | some cb =>
      exact Classical.byContradiction fun hn => by rw [(alGet_not_mem M k).2 hn] at hm; cases hm
section
variable {w : World} {sb log : Nat} {L : List NL} {F : Nat → Prop}
theorem Chunks_any (h : StoreL w sb log L F) : Calls Try.prog 30 #[.pointer (some ⟨sb, 0, none⟩)] w fun e w' =>
    (∃ ks : List Nat, e = .returned (.int .i64 (ks.length : Int)) ∧ ks.Nodup ∧ ∀ k, k < 18446744073709551616 → (k ∈ ks ↔ ∃ i, i < 2 ^ log ∧ liveAt L (k * 2 ^ log + i) = true)) ∧ w = w' := by
  obtain ⟨cm, pm, M, Ps, NS, NB, S⟩ := h
  have c1 : w.cell? ⟨sb, 3, none⟩ = some (.map (some cm)) := cell_of S.cells
  have hlen := MapIs.len Try.underlying77 S.map 3
  have HS := Lib.hid S; clear S
  go_enter Try.func30, Try.ntmps30
  go_wp2
  go_ret
  refine ⟨⟨M.map (fun x => x.1.1), by simp, ?_, fun k hk => ?_⟩, rfl⟩
  · obtain ⟨_, _, _, _, _, _, hn⟩ := HS.out.map
    have : M.map (fun x => x.1.1) = (M.map (·.1)).map Subtype.val := by simp [Function.comp_def]
    rw [this]
    exact List.Pairwise.map _ (fun a b (hab : a ≠ b) e => hab (Subtype.ext e)) hn
  · rw [← HS.out.key_iff ⟨k, hk⟩]
    constructor
    · intro hm
      obtain ⟨x, hx, e⟩ := List.mem_map.1 hm
      exact List.mem_map.2 ⟨x, hx, Subtype.ext e⟩
    · intro hm
      obtain ⟨x, hx, e⟩ := List.mem_map.1 hm
      exact List.mem_map.2 ⟨x, hx, congrArg Subtype.val e⟩
end
end Go.Proofs.Ytoigddekipjkcaa
