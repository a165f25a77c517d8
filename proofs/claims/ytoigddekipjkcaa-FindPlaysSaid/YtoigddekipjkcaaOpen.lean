/- Arguments that came in: slices of hashes. -/
import Derived.Test.YtoigddekipjkcaaFill
import Derived.ProofKit
import Derived.OpenShut
import Derived.Deep.Slices
namespace Go.Proofs.Ytoigddekipjkcaa
set_option linter.all false
open Go Go.RowKit Go.Proofs Go.ChangeShapes Go.WideShapes Go.Deep

theorem cells30 : Try.prog.cellsOf 30 = 32 := by kernel_rfl
theorem cells5 : Try.prog.cellsOf 5 = 1 := by kernel_rfl
section
variable {H : Type} {enc : TypeId × Value → H} {w : World} {base : Nat} {spare : Nat → Bool} {held : Bool}
theorem rowAt_of_cells {a : Addr} {n : Nat} {cs : Array Value} (hn : 0 < n) (hl : cs.size = n) (h : ∀ j, j < n → w.cell? (a.add j) = cs[j]?) : a.spot = none ∧ rowAt w a n = some cs := by
  obtain ⟨b, o, sp⟩ := a
  have h0 := h 0 hn
  have e0 : (⟨b, o, sp⟩ : Addr).add 0 = ⟨b, o, sp⟩ := by simp [Addr.add]
  rw [e0, Array.getElem?_eq_getElem (by omega)] at h0
  cases sp with
  | some s =>
    unfold World.cell? at h0
    cases hb : w.heap[b]? with
    | none => simp [hb] at h0
    | some ob => cases ob <;> simp [hb] at h0
  | none =>
    refine ⟨rfl, ?_⟩
    have h' : ∀ j, j < n → w.cell? ⟨b, o + j, none⟩ = cs[j]? := fun j hj => by have := h j hj; rwa [Addr.add_lit] at this
    obtain ⟨c, t, f, hb, _⟩ := Go.Sort.cells_of_cell? h0
    have hc : ∀ j, j < n → c[o + j]? = cs[j]? := fun j hj => by rw [← h' j hj]; exact (cell_of hb).symm
    have hlast := hc (n - 1) (by omega)
    rw [Array.getElem?_eq_getElem (show n - 1 < cs.size by omega)] at hlast
    have hsz := (Array.getElem?_eq_some_iff.1 hlast).1
    rw [rowAt_of hb (by omega)]
    congr 1
    apply Array.ext
    · simp; omega
    · intro j h1 h2
      have := hc j (by omega)
      rw [Array.getElem?_eq_getElem (by omega), Array.getElem?_eq_getElem h2] at this
      simp only [Array.getElem_extract]
      exact Option.some.inj this
set_option maxRecDepth 100000 in
/-- An array of 32 bytes. -/
theorem open_hash {fuel : Nat} {cs : List Value} {x : DataW H × List MemPlace} (h : DataW.trod enc Try.prog w base spare held fuel 30 cs = some x) : ∃ hh : HB, cs.toArray = encH hh := by
  obtain ⟨xs, m, rfl, rfl, hl, hx, hall⟩ := DataW.trod_array Try.underlying30 h
  rw [cells30] at hl
  have hb : ∀ i, i < 32 → ∃ b : UInt8, cs[i]? = some (Value.int .u8 (b.toNat : Int)) := by
    intro i hi
    have h1 := hall i hi
    rw [cells5, Nat.mul_one, List.getElem?_eq_getElem (by omega)] at h1
    obtain ⟨n, hc, _, hw⟩ := DataW.trod_int Try.underlying5 h1
    have e : cs[i]? = some (Value.int .u8 n) := by
      have h2 : ((cs.drop i).take 1)[0]? = some (Value.int .u8 n) := by rw [hc]; rfl
      rw [List.getElem?_take, if_pos (by omega), List.getElem?_drop] at h2
      simpa using h2
    have hr : 0 ≤ n ∧ n < 256 := by
      have := bounds_u8 hw
      omega
    refine ⟨UInt8.ofNat n.toNat, ?_⟩
    rw [e]
    congr 2
    rw [UInt8.toNat_ofNat']
    omega
  obtain ⟨f, hf⟩ := choose_lt hb
  refine ⟨⟨(List.range 32).map f, by simp⟩, ?_⟩
  apply Array.ext'
  apply List.ext_getElem?
  intro i
  by_cases hi : i < 32
  · have e1 : (encH ⟨(List.range 32).map f, by simp⟩).toList = ((List.range 32).map f).map fun b => Value.int .u8 (b.toNat : Int) := rfl
    rw [e1, List.getElem?_map, List.getElem?_map, List.getElem?_range hi]
    exact hf i hi
  · rw [List.getElem?_eq_none (by simp; omega), List.getElem?_eq_none (by simp [encH]; omega)]
theorem open_hashes {ad : Option Addr} {len cap fuel : Nat} {x : DataW H × List MemPlace} (h : DataW.trod enc Try.prog w base spare held fuel 26 [.slice ad len cap] = some x) :
    ∃ hs : List HB, hs.length = len ∧ len ≤ maxLen ∧ HashRow w (.slice ad len cap) hs := by
  rcases open_slice Try.underlying26 h with ⟨hcs, _⟩ | ⟨a, l, c, m, n, D, Pl, hcs, hb, hl, hm, hmm, hx, hel⟩
  · simp at hcs
    obtain ⟨rfl, rfl, rfl⟩ := hcs
    exact ⟨[], rfl, Nat.zero_le _, none, 0, rfl, fun i h hi => by simp at hi⟩
  · simp at hcs
    obtain ⟨rfl, rfl, rfl⟩ := hcs
    have hle : len ≤ m := by rw [hmm]; split <;> omega
    have each : ∀ i, i < len → ∃ hh : HB, (a.add (i * 32)).spot = none ∧ rowAt w (a.add (i * 32)) 32 = some (encH hh) := by
      intro i hi
      obtain ⟨cs', h1, h2⟩ := hel i (by omega)
      rw [cells30] at h1
      obtain ⟨hh, e⟩ := open_hash h2
      obtain ⟨_, hlen, hcell⟩ := World.cells?_some h1
      have hr := rowAt_of_cells (w := w) (a := a.add (i * 32)) (n := 32) (cs := cs'.toArray) (by omega) (by simpa using hlen) (fun j hj => by rw [hcell j hj]; simp)
      exact ⟨hh, hr.1, by rw [← e]; exact hr.2⟩
    haveI : Inhabited HB := ⟨zH⟩
    obtain ⟨f, hf⟩ := choose_lt each
    refine ⟨(List.range len).map f, by simp, by omega, some a, cap, by simp, fun i h hi => ?_⟩
    have hil : i < len := by have := (List.getElem?_eq_some_iff.1 hi).1; simpa using this
    have e : f i = h := by simpa [hil] using hi
    have s1 := (hf 0 (by omega)).1
    have s2 := (hf i hil).2
    obtain ⟨b, o, sp⟩ := a
    have s3 : sp = none := by simpa [Addr.add] using s1
    subst s3
    rw [Addr.add_lit] at s2
    exact ⟨b, o, rfl, by rw [← e]; exact s2⟩
end
end Go.Proofs.Ytoigddekipjkcaa
