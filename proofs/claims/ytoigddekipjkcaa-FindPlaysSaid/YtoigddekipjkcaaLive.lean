/- What lives in a store, in the order of the places: from the list, and from the chunks. -/
import Derived.Test.YtoigddekipjkcaaNew
namespace Go.Proofs.Ytoigddekipjkcaa
set_option linter.all false
open Go Go.RowKit Go.Proofs

abbrev PH := U64 × HB
def mk64 (p : Nat) : U64 := ⟨p % 18446744073709551616, Nat.mod_lt _ (by omega)⟩
theorem mk64_val {p : Nat} (h : p < 18446744073709551616) : (mk64 p).1 = p := Nat.mod_eq_of_lt h
def livePart (L : List NL) (p : Nat) : Option PH := ((L[p]?).bind (·.1)).map fun h => (mk64 p, h)
/-- All that lives, rising. -/
def liveL (L : List NL) : List PH := (List.range L.length).filterMap (livePart L)
def ndPart (log k : Nat) (x : ND × Nat) : Option PH := x.1.map fun h => (mk64 (k * 2 ^ log + x.2), h)
/-- What lives in the first nodes of a chunk. -/
def chunkOf (log k : Nat) (ns : List ND) (upto : Nat) : List PH := (ns.take upto).zipIdx.filterMap (ndPart log k)
/-- What lives in the first chunks. -/
def allOf (log : Nat) (ks : List U64) (NS : U64 → List ND) (upto : Nat) : List PH := (ks.take upto).flatMap fun k => chunkOf log k.1 (NS k) (NS k).length
theorem chunkOf_zero (log k : Nat) (ns : List ND) : chunkOf log k ns 0 = [] := by simp [chunkOf]
theorem chunkOf_succ (log k : Nat) (ns : List ND) (i : Nat) (x : ND) (h : ns[i]? = some x) : chunkOf log k ns (i + 1) = chunkOf log k ns i ++ (x.map fun h => (mk64 (k * 2 ^ log + i), h)).toList := by
  have hl := (List.getElem?_eq_some_iff.1 h).1
  have e : ns.take (i + 1) = ns.take i ++ [x] := by rw [List.take_add_one, h]; rfl
  unfold chunkOf
  rw [e, List.zipIdx_append, List.filterMap_append]
  congr 1
  have : (ns.take i).length = i := by simp; omega
  simp only [List.zipIdx_cons, List.zipIdx_nil, this, Nat.zero_add, List.filterMap_cons, List.filterMap_nil, ndPart]
  cases x <;> rfl
theorem chunkOf_live (log k : Nat) (ns : List ND) (i : Nat) (x : HB) (h : ns[i]? = some (some x)) : chunkOf log k ns (i + 1) = chunkOf log k ns i ++ [(mk64 (k * 2 ^ log + i), x)] := chunkOf_succ log k ns i _ h
theorem chunkOf_dead (log k : Nat) (ns : List ND) (i : Nat) (h : ns[i]? = some none) : chunkOf log k ns (i + 1) = chunkOf log k ns i := by rw [chunkOf_succ log k ns i _ h]; simp
theorem allOf_zero (log : Nat) (ks : List U64) (NS : U64 → List ND) : allOf log ks NS 0 = [] := by simp [allOf]
theorem allOf_succ (log : Nat) (ks : List U64) (NS : U64 → List ND) (i : Nat) (k : U64) (h : ks[i]? = some k) : allOf log ks NS (i + 1) = allOf log ks NS i ++ chunkOf log k.1 (NS k) (NS k).length := by
  unfold allOf
  rw [List.take_add_one, h]; simp
theorem take_prefix_filterMap {α β : Type} (f : α → Option β) (l : List α) (n m : Nat) (h : n ≤ m) : (l.take n).filterMap f <+: (l.take m).filterMap f := by
  have : l.take m = l.take n ++ (l.take m).drop n := by
    have e : l.take n = (l.take m).take n := by rw [List.take_take, Nat.min_eq_left h]
    rw [e, List.take_append_drop]
  rw [this, List.filterMap_append]; exact List.prefix_append _ _
theorem chunkOf_prefix (log k : Nat) (ns : List ND) {i j : Nat} (h : i ≤ j) : chunkOf log k ns i <+: chunkOf log k ns j := by
  have e : ns.take j = ns.take i ++ (ns.take j).drop i := by
    have e : ns.take i = (ns.take j).take i := by rw [List.take_take, Nat.min_eq_left h]
    rw [e, List.take_append_drop]
  unfold chunkOf
  rw [e, List.zipIdx_append, List.filterMap_append]; exact List.prefix_append _ _
theorem allOf_prefix (log : Nat) (ks : List U64) (NS : U64 → List ND) {i j : Nat} (h : i ≤ j) : allOf log ks NS i <+: allOf log ks NS j := by
  unfold allOf
  have : ks.take j = ks.take i ++ (ks.take j).drop i := by
    have e : ks.take i = (ks.take j).take i := by rw [List.take_take, Nat.min_eq_left h]
    rw [e, List.take_append_drop]
  rw [this, List.flatMap_append]; exact List.prefix_append _ _
/-- A part of the walk is a first part of the whole. -/
theorem part_prefix (log : Nat) (ks : List U64) (NS : U64 → List ND) (i j : Nat) (k : U64) (h : ks[i]? = some k) : allOf log ks NS i ++ chunkOf log k.1 (NS k) j <+: allOf log ks NS ks.length := by
  have hl := (List.getElem?_eq_some_iff.1 h).1
  have h2 : allOf log ks NS i ++ chunkOf log k.1 (NS k) j <+: allOf log ks NS (i + 1) := by
    rw [allOf_succ log ks NS i k h]
    refine (List.prefix_append_right_inj _).2 ?_
    by_cases hj : j ≤ (NS k).length
    · exact chunkOf_prefix _ _ _ hj
    · have e : chunkOf log k.1 (NS k) j = chunkOf log k.1 (NS k) (NS k).length := by unfold chunkOf; rw [List.take_of_length_le (by omega), List.take_of_length_le (Nat.le_refl _)]
      rw [e]; exact List.prefix_refl _
  exact h2.trans (allOf_prefix log ks NS hl)
theorem sorted_ext : ∀ {a b : List PH}, a.Pairwise (fun x y => x.1.1 < y.1.1) → b.Pairwise (fun x y => x.1.1 < y.1.1) → (∀ x, x ∈ a ↔ x ∈ b) → a = b
  | [], [], _, _, _ => rfl
  | [], y :: b, _, _, h => by have := (h y).2 (by simp); cases this
  | x :: a, [], _, _, h => by have := (h x).1 (by simp); cases this
  | x :: a, y :: b, ha, hb, h => by
    rw [List.pairwise_cons] at ha hb
    have hxy : x = y := by
      rcases List.mem_cons.1 ((h x).1 (by simp)) with e | hx
      · exact e
      rcases List.mem_cons.1 ((h y).2 (by simp)) with e | hy
      · exact e.symm
      have h1 := ha.1 y hy
      have h2 := hb.1 x hx
      omega
    subst hxy
    congr 1
    refine sorted_ext ha.2 hb.2 fun z => ⟨fun hz => ?_, fun hz => ?_⟩
    · rcases List.mem_cons.1 ((h z).1 (by simp [hz])) with e | hz'
      · subst e; have := ha.1 z hz; omega
      · exact hz'
    · rcases List.mem_cons.1 ((h z).2 (by simp [hz])) with e | hz'
      · subst e; have := hb.1 z hz; omega
      · exact hz'
theorem mem_liveL {L : List NL} {x : PH} : x ∈ liveL L ↔ ∃ p, (L[p]?).bind (·.1) = some x.2 ∧ x.1 = mk64 p := by
  unfold liveL livePart
  simp only [List.mem_filterMap, List.mem_range, Option.map_eq_some_iff]
  constructor
  · rintro ⟨p, hp, h, h1, rfl⟩; exact ⟨p, h1, rfl⟩
  · rintro ⟨p, h1, h2⟩
    refine ⟨p, ?_, x.2, h1, by rw [← h2]⟩
    by_cases hp : p < L.length
    · exact hp
    · rw [List.getElem?_eq_none (by omega)] at h1; simp at h1
theorem sorted_liveL {L : List NL} (hL : L.length ≤ 18446744073709551616) : (liveL L).Pairwise (fun x y => x.1.1 < y.1.1) := by
  unfold liveL
  rw [List.pairwise_filterMap]
  refine List.Pairwise.imp_of_mem ?_ List.pairwise_lt_range
  intro a b ha hb hab x hx y hy
  simp only [livePart, Option.mem_def, Option.map_eq_some_iff] at hx hy
  obtain ⟨h, _, rfl⟩ := hx
  obtain ⟨h', _, rfl⟩ := hy
  rw [List.mem_range] at ha hb
  simp only
  rw [mk64_val (by omega), mk64_val (by omega)]; exact hab
theorem mem_chunkOf {log k : Nat} {ns : List ND} {x : PH} : x ∈ chunkOf log k ns ns.length ↔ ∃ i, ns[i]? = some (some x.2) ∧ x.1 = mk64 (k * 2 ^ log + i) := by
  unfold chunkOf ndPart
  rw [List.take_length]
  simp only [List.mem_filterMap, Option.map_eq_some_iff]
  constructor
  · rintro ⟨⟨a, i⟩, hm, h, rfl, rfl⟩
    rw [List.mem_zipIdx_iff_getElem?] at hm
    exact ⟨i, hm, rfl⟩
  · rintro ⟨i, h1, h2⟩
    exact ⟨(some x.2, i), List.mem_zipIdx_iff_getElem?.2 h1, x.2, rfl, by rw [← h2]⟩
section
variable {w : World} {sb log : Nat} {L : List NL} {F : Nat → Prop} {cm pm : Nat} {M Ps : List (U64 × Nat)} {NS : U64 → List ND} {NB : U64 → Nat}
theorem StoreRep.live_iff (S : StoreRep w sb (saOf log L) F cm pm M Ps NS NB) {k : U64} {cb : Nat} (hk : alGet M k = some cb) (i : Nat) (h : HB) :
    (NS k)[i]? = some (some h) ↔ i < 2 ^ log ∧ (L[k.1 * 2 ^ log + i]?).bind (·.1) = some h := by
  obtain ⟨_, _, c3⟩ := S.chunk k cb hk
  have hv : ∀ i, i < 2 ^ log → (L[k.1 * 2 ^ log + i]?).bind (·.1) = ((NS k)[i]?).join := fun i hi => by
    have := S.val k i hi
    rw [hk] at this; exact this
  constructor
  · intro hi
    have hlt : i < 2 ^ log := Nat.lt_of_lt_of_le (List.getElem?_eq_some_iff.1 hi).1 c3
    exact ⟨hlt, by rw [hv i hlt, hi]; rfl⟩
  · rintro ⟨hlt, hl⟩
    rw [hv i hlt] at hl
    cases hx : (NS k)[i]? with
    | none => rw [hx] at hl; simp at hl
    | some x => rw [hx] at hl; simp at hl; rw [hl]
theorem live_lt {L : List NL} {p : Nat} {h : HB} (hl : (L[p]?).bind (·.1) = some h) : p < L.length := by
  by_cases hp : p < L.length
  · exact hp
  · rw [List.getElem?_eq_none (by omega)] at hl; simp at hl
theorem StoreRep.all_eq (S : StoreRep w sb (saOf log L) F cm pm M Ps NS NB) (hL : L.length ≤ 4611686018427387904) {ks : List U64} (hp : ks.Perm (M.map (·.1))) (hs : ks.Pairwise (fun x y => x.1 < y.1)) :
    allOf log ks NS ks.length = liveL L := by
  have hmem : ∀ k ∈ ks, ∃ cb, alGet M k = some cb := fun k hk => by
    have := hp.mem_iff.1 hk
    cases hg : alGet M k with
    | none => exact absurd this ((alGet_not_mem M k).1 hg)
    | some cb => exact ⟨cb, rfl⟩
  refine sorted_ext ?_ (sorted_liveL (by omega)) fun x => ?_
  · unfold allOf
    rw [List.take_length, List.pairwise_flatMap]
    refine ⟨fun k hk => ?_, ?_⟩
    · obtain ⟨cb, hcb⟩ := hmem k hk
      unfold chunkOf
      rw [List.take_length, List.pairwise_filterMap, List.pairwise_iff_getElem]
      intro i j hi hj hij a ha b hb
      simp only [List.length_zipIdx] at hi hj
      simp only [List.getElem_zipIdx, Nat.zero_add, ndPart, Option.mem_def, Option.map_eq_some_iff] at ha hb
      obtain ⟨h, h1, rfl⟩ := ha
      obtain ⟨h', h1', rfl⟩ := hb
      have a1 := live_lt ((S.live_iff hcb i h).1 (by rw [List.getElem?_eq_getElem hi, h1])).2
      have b1 := live_lt ((S.live_iff hcb j h').1 (by rw [List.getElem?_eq_getElem hj, h1'])).2
      simp only
      rw [mk64_val (by omega), mk64_val (by omega)]; omega
    · refine List.Pairwise.imp_of_mem ?_ hs
      intro k k' hk hk' hlt x hx y hy
      obtain ⟨cb, hcb⟩ := hmem k hk
      obtain ⟨cb', hcb'⟩ := hmem k' hk'
      obtain ⟨i, hi, ei⟩ := mem_chunkOf.1 hx
      obtain ⟨j, hj, ej⟩ := mem_chunkOf.1 hy
      obtain ⟨i1, i2⟩ := (S.live_iff hcb i _).1 hi
      obtain ⟨j1, j2⟩ := (S.live_iff hcb' j _).1 hj
      have a1 := live_lt i2
      have b1 := live_lt j2
      rw [ei, ej, mk64_val (by omega), mk64_val (by omega)]
      have : (k.1 + 1) * 2 ^ log ≤ k'.1 * 2 ^ log := Nat.mul_le_mul_right _ hlt
      rw [Nat.add_mul, Nat.one_mul] at this
      omega
  · rw [mem_liveL]
    unfold allOf
    rw [List.take_length, List.mem_flatMap]
    constructor
    · rintro ⟨k, hk, hx⟩
      obtain ⟨cb, hcb⟩ := hmem k hk
      obtain ⟨i, hi, ei⟩ := mem_chunkOf.1 hx
      exact ⟨_, ((S.live_iff hcb i _).1 hi).2, ei⟩
    · rintro ⟨p, h1, h2⟩
      have hlt := live_lt h1
      have hdv : p / 2 ^ log ≤ p := Nat.div_le_self _ _
      have hkp : p / 2 ^ log * 2 ^ log + p % 2 ^ log = p := by
        have := Nat.div_add_mod p (2 ^ log); rw [Nat.mul_comm] at this; exact this
      have hml : p % 2 ^ log < 2 ^ log := Nat.mod_lt _ (pow_pos_16 log)
      obtain ⟨k, hk⟩ : ∃ k : U64, k.1 = p / 2 ^ log := ⟨⟨p / 2 ^ log, by omega⟩, rfl⟩
      rw [← hk] at hkp
      have hkm : k ∈ M.map (·.1) := (S.key_iff k).2 ⟨p % 2 ^ log, hml, by unfold liveAt; rw [hkp, h1]; rfl⟩
      have hks := hp.mem_iff.2 hkm
      obtain ⟨cb, hcb⟩ := hmem k hks
      refine ⟨k, hks, mem_chunkOf.2 ⟨p % 2 ^ log, (S.live_iff hcb _ _).2 ⟨hml, by rw [hkp]; exact h1⟩, by rw [hkp]; exact h2⟩⟩
end
end Go.Proofs.Ytoigddekipjkcaa
