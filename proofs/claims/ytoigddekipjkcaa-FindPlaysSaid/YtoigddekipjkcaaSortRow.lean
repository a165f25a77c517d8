/- slices.SortFunc at a row of keys, in this text's words; slices.SortedFunc. -/
import Derived.Test.YtoigddekipjkcaaSorted
namespace Go.Proofs.Ytoigddekipjkcaa
set_option linter.all false
open Go Go.RowKit Go.Proofs Go.Maps Go.Shelf
open Go.ChangeMaps (setBlock)

section
variable {α : Type} [Inhabited α]
theorem sortWorldK_other (enc : α → List Value) (k : Nat) (w : World) (g off n : Nat) (d : Array α) (os : Array Obj) (j : Nat) (hj : j < w.heap.size) (hne : j ≠ g) : (sortWorldK enc k w g off n d os).heap[j]? = w.heap[j]? := by
  unfold sortWorldK Go.Sort.grow Go.Sort.putRowK Go.Sort.putRow Go.Sort.mapBlock
  simp only
  rw [Array.getElem?_append_left (by simpa using hj), Array.getElem?_modify, if_neg (fun e => hne e.symm)]
  rfl
theorem sortWorldK_size (enc : α → List Value) (k : Nat) (w : World) (g off n : Nat) (d : Array α) (os : Array Obj) : w.heap.size ≤ (sortWorldK enc k w g off n d os).heap.size := by
  unfold sortWorldK Go.Sort.grow Go.Sort.putRowK Go.Sort.putRow Go.Sort.mapBlock
  simp
theorem sortWorldK_block (enc : α → List Value) (k : Nat) (w : World) (g n : Nat) (d : Array α) (os : Array Obj) {cur : Array Value} {e : TypeId} {f : Nat × Nat} (h : w.heap[g]? = some (.cells cur e f)) :
    ∃ cur', (sortWorldK enc k w g 0 n d os).heap[g]? = some (.cells cur' e f) ∧ cur'.size = cur.size ∧ ∀ i, i < d.size * k → i < cur.size → cur'[i]? = some ((enc d[i / k]!)[i % k]!) := by
  refine ⟨Go.Sort.putCells id 0 (Go.Sort.flatK enc k d) cur, ?_, by simp [Go.Sort.putCells], ?_⟩
  · unfold sortWorldK Go.Sort.grow Go.Sort.putRowK Go.Sort.putRow Go.Sort.mapBlock
    simp only
    have hg := hb_lt h
    rw [Array.getElem?_append_left (by simpa using hg), Array.getElem?_modify, if_pos rfl]
    show Option.map _ (w.heap[g]?) = _
    rw [h]; rfl
  · intro i hi hc
    unfold Go.Sort.putCells
    rw [Array.getElem?_mapIdx, Array.getElem?_eq_getElem hc]
    simp only [Option.map_some, Option.some.injEq]
    rw [if_pos (by simpa using hi)]
    simp only [Nat.sub_zero, id]
    exact Go.Sort.get_flatK enc k d i hi
end
def encU (k : U64) : List Value := [.int .u64 (k.1 : Int)]
/-- A slice whose row holds these keys. -/
def KeyRow (w : World) (base : Nat) (v : Value) (ks : List U64) : Prop :=
  v = .slice none 0 0 ∧ ks = [] ∨ ∃ (g cap : Nat) (cur : Array Value), v = .slice (some ⟨g, 0, none⟩) ks.length cap ∧ base ≤ g ∧ w.heap[g]? = some (.cells cur 102 (0, 0)) ∧ ∀ (i : Nat) (k : U64), ks[i]? = some k → cur[i]? = some (.int .u64 (k.1 : Int))
theorem keyRow_of_owns {w : World} {base : Nat} {v : Value} {ks : List U64} (h : w.ownsRow base 102 1 v ks.length (keyCells ks)) : KeyRow w base v ks := by
  obtain ⟨h1, ⟨rfl, h2⟩ | ⟨g, cap, cur, rfl, h3, h4, h5, h6, h7, h8⟩⟩ := h
  · exact .inl ⟨rfl, List.length_eq_zero_iff.1 h2⟩
  · refine .inr ⟨g, cap, cur, rfl, h3, h4, fun i k hk => ?_⟩
    have hl := (List.getElem?_eq_some_iff.1 hk).1
    have e : (keyCells ks)[i]? = some (.int .u64 (k.1 : Int)) := by unfold keyCells; rw [List.getElem?_map, hk]; rfl
    rw [← h8, List.getElem?_take, if_pos (by omega)] at e
    simpa using e
theorem sortKeys_any {w : World} {base : Nat} {v : Value} {ks : List U64} (h : KeyRow w base v ks) (hb : base ≤ w.heap.size) (hl : ks.length ≤ 1000000) (hnd : ks.Nodup) :
    Calls Try.prog 83 #[v, .func (.func 69) #[] #[]] w fun e w' =>
      e = .returned (.tuple #[]) ∧ ∃ ks', ks'.Perm ks ∧ ks'.Pairwise (fun x y => x.1 < y.1) ∧ KeyRow w' base v ks' ∧ Below base w w' := by
  rcases h with ⟨rfl, rfl⟩ | ⟨g, cap, cur, rfl, hg, hc, hk⟩
  · refine (sortNil _ _).mono ?_
    rintro e w' ⟨rfl, rfl⟩
    exact ⟨rfl, [], List.Perm.refl _, List.Pairwise.nil, .inl ⟨rfl, rfl⟩, Below.refl _ _⟩
  · have eg : ∀ args w, (callFunc 69 args).run Try.prog w = .ok (.enter 69 args) w := enters_of Try.func69 (by kernel_rfl) rfl
    have hH : Go.Sort.HoldsK encU 1 w g 0 ks.toArray := by
      intro j hj
      rw [Go.Sort.size_flatK] at hj
      simp at hj
      have := hk j ks[j] (List.getElem?_eq_getElem hj)
      rw [Go.Sort.get_flatK encU 1 _ j (by simpa using hj)]
      refine ⟨?_, ?_⟩
      · rw [show (0 + j) = j by omega]
        have h2 := (cell_of (i := j) hc).trans this
        rw [h2]
        simp [encU, hj, Nat.mod_one]
      · rw [show (0 + j) = j by omega]; exact frozen_of hc
    have hcon := AnyQ.slices_SortFunc Try.sortKey 1 Try.isAgg102 Try.sizeOf102 encU (fun _ => rfl) (fun x v hv => by simp [encU] at hv; subst hv; rfl) cfK swoK 69 #[] g 0 cap ks.toArray w eg
      (fun _ _ _ _ x y => cmpKey_any x y _) hH (hb_lt hc) (by simp; omega)
    change Calls Try.prog 83 _ _ _ at hcon
    simp only [List.size_toArray] at hcon
    refine hcon.mono ?_
    rintro e w' ⟨rfl, d', n, os, ⟨p1, _, p3⟩, hs, rfl⟩
    simp only [List.size_toArray] at p1 p3 hs
    have hp : d'.toList.Perm ks := by
      have e1 : d'.extract 0 ks.length = d' := by rw [← p1]; exact Array.extract_size
      have e2 : ks.toArray.extract 0 ks.length = ks.toArray := by rw [show ks.length = ks.toArray.size by simp]; exact Array.extract_size
      rw [e1, e2] at p3
      simpa using p3
    have hnd' : d'.toList.Nodup := hp.nodup_iff.2 hnd
    obtain ⟨cur', b1, b2, b3⟩ := sortWorldK_block encU 1 w g n d' os hc
    refine ⟨rfl, d'.toList, hp, ?_, ?_, ?_⟩
    · rw [List.pairwise_iff_getElem]
      intro i j hi hj hij
      simp only [Array.length_toList] at hi hj
      have h1 := hs i j (Nat.zero_le _) hij (by omega)
      rw [lt_cfK, getElem!_pos d' j (by omega), getElem!_pos d' i (by omega)] at h1
      simp only [decide_eq_false_iff_not, Nat.not_lt] at h1
      simp only [Array.getElem_toList]
      have hne : d'[i] ≠ d'[j] := by
        rw [List.nodup_iff_pairwise_ne, List.pairwise_iff_getElem] at hnd'
        have := hnd' i j (by simpa using hi) (by simpa using hj) hij
        simpa using this
      have : d'[i].1 ≠ d'[j].1 := fun e => hne (Subtype.ext e)
      omega
    · refine .inr ⟨g, cap, cur', by simp [p1], hg, b1, fun i k hik => ?_⟩
      have hi := (List.getElem?_eq_some_iff.1 hik).1
      simp only [Array.length_toList] at hi
      have hcs : i < cur.size := by
        have := hk i ks[i] (List.getElem?_eq_getElem (by omega))
        exact (Array.getElem?_eq_some_iff.1 this).1
      rw [b3 i (by omega) hcs]
      have hki : d'[i]? = some k := by simpa using hik
      have : d'[i]! = k := by rw [getElem!_pos d' i hi]; rw [Array.getElem?_eq_getElem hi] at hki; exact Option.some.inj hki
      simp [encU, Nat.mod_one, this]
    · exact ⟨by rfl, by rfl, by rfl, sortWorldK_size _ _ _ _ _ _ _ _, fun j hj => sortWorldK_other _ _ _ _ _ _ _ _ j (by omega) (by omega)⟩
/-! ### maps.Keys, slices.Collect, slices.SortedFunc -/
theorem Keys_any (b : Nat) (w : World) : Calls Try.prog 68 #[.map (some b)] w fun e w' =>
    e = .returned (.func (.func 84) #[] #[.pointer (some ⟨w.heap.size, 0, none⟩)]) ∧ w' = w.alloc (.cells #[.map (some b)] 77) := by
  go_enter Try.func68, Try.ntmps68
  go_wp2
  go_ret
  exact ⟨rfl, rfl⟩
def KeysPost (M : List (U64 × Nat)) (w : World) (e : Ending) (w' : World) : Prop :=
  ∃ v ks, e = .returned v ∧ ks.Perm (M.map (·.1)) ∧ KeyRow w' w.heap.size v ks ∧ Below w.heap.size w w'
theorem Collect_any (Bm b : Nat) (M : List (U64 × Nat)) (hlen : M.length ≤ 1000000) (w : World) (hBm : Bm < w.heap.size) (hm : w.cell? ⟨Bm, 0, none⟩ = some (.map (some b))) (hM : MapIs ekK evP w b M) :
    Calls Try.prog 82 #[.func (.func 84) #[] #[.pointer (some ⟨Bm, 0, none⟩)]] w (KeysPost M w) := by
  have ha := callsIn_wide.1 (append_in Fence.wide 3 trivial trivial rfl (by omega) Bm b M hlen w hBm hm hM)
  go_enter Try.func82, Try.ntmps82
  go_wp2_with fail
  refine ha.mono ?_
  rintro e w1 ⟨v, ks, rfl, h1, h2, h3⟩
  have H := Lib.hid (show KeysPost M w (.returned v) w1 from ⟨v, ks, rfl, h1, keyRow_of_owns h2, h3⟩)
  clear h1 h2 h3
  go_wp2_with fail
  go_ret
  exact H.out
def SortedPost (M : List (U64 × Nat)) (w : World) (e : Ending) (w' : World) : Prop :=
  ∃ v ks, e = .returned v ∧ ks.Perm (M.map (·.1)) ∧ ks.Pairwise (fun x y => x.1 < y.1) ∧ KeyRow w' w.heap.size v ks ∧ Below w.heap.size w w'
theorem SortedFunc_any (Bm b : Nat) (M : List (U64 × Nat)) (hlen : M.length ≤ 1000000) (w : World) (hBm : Bm < w.heap.size) (hm : w.cell? ⟨Bm, 0, none⟩ = some (.map (some b))) (hM : MapIs ekK evP w b M) :
    Calls Try.prog 67 #[.func (.func 84) #[] #[.pointer (some ⟨Bm, 0, none⟩)], .func (.func 69) #[] #[]] w (SortedPost M w) := by
  have hnd := hM.nodup
  have HC := Collect_any Bm b M hlen w hBm hm hM
  go_enter Try.func67, Try.ntmps67
  go_wp2_with fail
  refine HC.mono ?_
  rintro e w1 ⟨v, ks, rfl, hp, hrow, hB⟩
  have HR := Lib.hid hrow; clear hrow
  have hlk : ks.length ≤ 1000000 := by have := hp.length_eq; simp at this; omega
  have hnk : ks.Nodup := hp.nodup_iff.2 hnd
  have HP := Lib.hid hp; clear hp
  go_wp2_with fail
  refine (sortKeys_any HR.out hB.size hlk hnk).mono ?_
  rintro e w2 ⟨rfl, ks', hp', hs', hr', hB'⟩
  have H := Lib.hid (show SortedPost M w (.returned v) w2 from ⟨v, ks', rfl, hp'.trans HP.out, hs', hr', hB.trans hB'⟩)
  clear hp' hs' hr'
  go_wp2_with fail
  go_ret
  exact H.out
end Go.Proofs.Ytoigddekipjkcaa
