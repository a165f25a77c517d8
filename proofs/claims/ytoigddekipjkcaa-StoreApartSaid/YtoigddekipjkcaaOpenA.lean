/- Arguments that came in: slices of acts. -/
import Derived.SizedLaws
import Derived.Test.YtoigddekipjkcaaPlays
import Derived.Test.YtoigddekipjkcaaOpen
import Derived.Test.YtoigddekipjkcaaSweepsLaw
namespace Go.Proofs.Ytoigddekipjkcaa
set_option linter.all false
open Go Go.RowKit Go.Proofs Go.ChangeShapes Go.WideShapes Go.Deep
theorem cellsAct : Try.prog.cellsOf 65 = 35 := by kernel_rfl
theorem cellsInt : Try.prog.cellsOf 3 = 1 := by kernel_rfl
theorem cellsNums : Try.prog.cellsOf 36 = 1 := by kernel_rfl
theorem bytesU64 : Try.prog.bytesOf 31 = 8 := by kernel_rfl
theorem weightsAll_mem' {H : Type} {P : Program} {e : TypeId} : ∀ {l : List (DataW H)} {d : DataW H}, d ∈ l → ∀ n ∈ d.weights P e, n ∈ DataW.weightsAll P e l
  | d' :: r, d, hd, n, hn => by
    simp only [DataW.weightsAll, List.mem_append]
    rcases List.mem_cons.1 hd with rfl | h
    · exact Or.inl hn
    · exact Or.inr (weightsAll_mem' h n hn)
section
variable {H : Type} {enc : TypeId × Value → H} {w : World} {base : Nat} {spare : Nat → Bool} {held : Bool}
/-- A slice of uint64s, and what it weighs. -/
theorem open_nums2 {v : Value} {fuel : Nat} {x : DataW H × List MemPlace} (h : DataW.trod enc Try.prog w base spare held fuel 36 [v] = some x) :
    ∃ ks : List U64, NumRow w v ks ∧ (ks.length = 0 ∨ ∃ n ∈ x.1.weights Try.prog 36, ks.length * 8 ≤ n) := by
  rcases open_ints Try.underlying36 Try.underlying31 cellsU64b h with ⟨hcs, rfl⟩ | ⟨a, l, c, zs, hcs, hb, hl, hm, hz, rfl, hel, hwf⟩
  · simp at hcs
    subst hcs
    exact ⟨[], ⟨none, 0, rfl, fun i k hi => by simp at hi⟩, .inl rfl⟩
  · simp at hcs
    subst hcs
    obtain ⟨ks, h1, h2, h3⟩ := open_nums h
    have hle : l ≤ zs.length := by rw [hz]; split <;> omega
    refine ⟨ks, h3, .inr ⟨((lits IntKind.u64 (zs.take l) : List (DataW H)).length + (lits IntKind.u64 (zs.drop l) : List (DataW H)).length) * Try.prog.bytesOf 31, ?_, ?_⟩⟩
    · simp only [DataW.weights, Try.underlying36]
      exact List.mem_cons_self
    · rw [bytesU64, h1]
      have e1 : (lits IntKind.u64 (zs.take l) : List (DataW H)).length = l := by simp [lits]; omega
      rw [e1]
      exact Nat.mul_le_mul_right _ (Nat.le_add_right _ _)
set_option maxRecDepth 100000 in
theorem open_act {fuel : Nat} {cs : List Value} {x : DataW H × List MemPlace} (h : DataW.trod enc Try.prog w base spare held fuel 65 cs = some x) :
    ∃ a : ActL, cs.toArray = encA a ∧ NumRow w a.kv a.ks ∧ (a.ks.length = 0 ∨ ∃ n ∈ x.1.weights Try.prog 65, a.ks.length * 8 ≤ n) ∧ -9223372036854775808 ≤ a.what ∧ a.what ≤ 9223372036854775807 := by
  obtain ⟨xs, m, rfl, rfl, hlen, hxl, hf⟩ := DataW.trod_struct Try.underlying65 h
  rw [cellsAct] at hlen
  have f0 : DataW.trod enc Try.prog w base spare held m 3 ((cs.drop 0).take (Try.prog.cellsOf 3)) = xs[0]? := hf 0 _ rfl
  have f1 : DataW.trod enc Try.prog w base spare held m 31 ((cs.drop 1).take (Try.prog.cellsOf 31)) = xs[1]? := hf 1 _ rfl
  have f2 : DataW.trod enc Try.prog w base spare held m 30 ((cs.drop 2).take (Try.prog.cellsOf 30)) = xs[2]? := hf 2 _ rfl
  have f3 : DataW.trod enc Try.prog w base spare held m 36 ((cs.drop 34).take (Try.prog.cellsOf 36)) = xs[3]? := hf 3 _ rfl
  rw [cellsInt] at f0
  rw [cellsU64b] at f1
  rw [cells30] at f2
  rw [cellsNums] at f3
  have hx4 : xs.length = 4 := by rw [hxl]; rfl
  obtain ⟨x0, x1, x2, x3, rfl⟩ : ∃ x0 x1 x2 x3, xs = [x0, x1, x2, x3] := by
    match xs, hx4 with
    | [a, b, c, d], _ => exact ⟨a, b, c, d, rfl⟩
  simp only [List.getElem?_cons_zero, List.getElem?_cons_succ] at f0 f1 f2 f3
  obtain ⟨n0, c0, _, w0⟩ := DataW.trod_int Try.underlying3 f0
  obtain ⟨n1, c1, _, w1⟩ := DataW.trod_int Try.underlying31 f1
  obtain ⟨hh, c2⟩ := open_hash f2
  have b0 := bounds_i64 w0
  have b1 := bounds_u64 w1
  obtain ⟨kv, c3⟩ : ∃ kv, (cs.drop 34).take 1 = [kv] := ⟨cs[34], by rw [List.drop_eq_getElem_cons (by omega)]; rfl⟩
  rw [c3] at f3
  obtain ⟨ks, hk1, hk2⟩ := open_nums2 f3
  refine ⟨⟨n0, ⟨n1.toNat, by omega⟩, hh, kv, ks⟩, ?_, hk1, ?_, by show _ ≤ n0; omega, by show n0 ≤ _; omega⟩
  · have e1 : cs = (cs.drop 0).take 1 ++ (cs.drop 1).take 1 ++ (cs.drop 2).take 32 ++ (cs.drop 34).take 1 := by
      have d2 : cs.drop 1 = (cs.drop 1).take 1 ++ cs.drop 2 := by conv => lhs; rw [← List.take_append_drop 1 (cs.drop 1), List.drop_drop]
      have d3 : cs.drop 2 = (cs.drop 2).take 32 ++ cs.drop 34 := by conv => lhs; rw [← List.take_append_drop 32 (cs.drop 2), List.drop_drop]
      have d4 : cs.drop 34 = (cs.drop 34).take 1 := (List.take_of_length_le (by simp; omega)).symm
      rw [List.append_assoc, List.append_assoc, ← d4, ← d3, ← d2, List.drop_zero, List.take_append_drop]
    have e2 : (cs.drop 2).take 32 = (encH hh).toList := by rw [← c2]
    rw [e1, c0, c1, c3, e2]
    unfold encA
    apply Array.ext'
    simp
    omega
  · rcases hk2 with hk2 | ⟨n, hn, hle⟩
    · exact .inl hk2
    · refine .inr ⟨n, ?_, hle⟩
      simp only [DataW.weights, Try.underlying65]
      exact DataW.weights_mem_each (j := 3) rfl rfl n hn
theorem open_acts {ad : Option Addr} {len cap fuel : Nat} {x : DataW H × List MemPlace} (h : DataW.trod enc Try.prog w base spare held fuel 56 [.slice ad len cap] = some x) (hsz : ∀ n ∈ x.1.weights Try.prog 56, n ≤ 140737488351232) :
    ∃ al : List ActL, al.length = len ∧ len ≤ maxLen ∧ ActRow w (.slice ad len cap) al := by
  rcases open_slice Try.underlying56 h with ⟨hcs, _⟩ | ⟨a, l, c, m, n, D, Pl, hcs, hb, hl, hm, hmm, rfl, hel⟩
  · simp at hcs
    obtain ⟨rfl, rfl, rfl⟩ := hcs
    exact ⟨[], rfl, Nat.zero_le _, none, 0, rfl, fun i h hi => by simp at hi⟩
  · simp at hcs
    obtain ⟨rfl, rfl, rfl⟩ := hcs
    have hle : len ≤ m := by rw [hmm]; split <;> omega
    have each : ∀ i, i < len → ∃ al : ActL, (a.add (i * 35)).spot = none ∧ rowAt w (a.add (i * 35)) 35 = some (encA al) ∧ NumRow w al.kv al.ks ∧ al.ks.length ≤ 20000000000000 ∧ -9223372036854775808 ≤ al.what ∧ al.what ≤ 9223372036854775807 := by
      intro i hi
      obtain ⟨cs', h1, h2⟩ := hel i (by omega)
      rw [cellsAct] at h1
      obtain ⟨al, e, hn, hw, hb1, hb2⟩ := open_act h2
      obtain ⟨_, hlen, hcell⟩ := World.cells?_some h1
      have hr := rowAt_of_cells (w := w) (a := a.add (i * 35)) (n := 35) (cs := cs'.toArray) (by omega) (by simpa using hlen) (fun j hj => by rw [hcell j hj]; simp)
      refine ⟨al, hr.1, by rw [← e]; exact hr.2, hn, ?_, hb1, hb2⟩
      rcases hw with hw | ⟨q, hq, hle2⟩
      · omega
      · have := hsz q (by
          simp only [DataW.weights, Try.underlying56, List.mem_cons, List.mem_append]
          exact .inr (.inl (weightsAll_mem' (List.mem_map.2 ⟨i, List.mem_range.2 hi, rfl⟩) q hq)))
        omega
    haveI : Inhabited ActL := ⟨⟨0, mk64 0, zH, .slice none 0 0, []⟩⟩
    obtain ⟨f, hf⟩ := choose_lt each
    refine ⟨(List.range len).map f, by simp, by omega, some a, cap, by simp, fun i h hi => ?_⟩
    have hil : i < len := by have := (List.getElem?_eq_some_iff.1 hi).1; simpa using this
    have e : f i = h := by simpa [hil] using hi
    have s1 := (hf 0 (by omega)).1
    have s2 := (hf i hil).2
    obtain ⟨b, o, sp⟩ := a
    have s3 : sp = none := by simpa [Addr.add] using s1
    subst s3
    rw [Addr.add_lit, e] at s2
    exact ⟨b, o, rfl, s2⟩
end
end Go.Proofs.Ytoigddekipjkcaa
