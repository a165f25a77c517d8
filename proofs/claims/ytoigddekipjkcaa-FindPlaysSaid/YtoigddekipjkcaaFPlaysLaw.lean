/- The statement FindPlays. (The frame after the kit's shell for a law.) -/
import Derived.Test.YtoigddekipjkcaaRows
import Derived.Test.YtoigddekipjkcaaFPlays
import Derived.Test.YtoigddekipjkcaaOpen
import Derived.ShutString
import Derived.ChangeOld
import Derived.Below
namespace Go.Proofs.Ytoigddekipjkcaa.findPlays
set_option linter.all false
open Go Go.ChangeShapes Go.WideShapes Go.ChangeAt Go.RowKit Go.Deep
open Go.ChangeMaps (open_string shut_string)
set_option linter.unusedVariables false

theorem own : ownKnob Try.prog.godebug = none := by kernel_rfl

theorem cellsFAct : Try.prog.cellsOf 33 = 34 := by kernel_rfl
theorem cellsFInt : Try.prog.cellsOf 3 = 1 := by kernel_rfl
section
variable {H : Type} {enc : TypeId × Value → H} {w : World} {base : Nat} {spare : Nat → Bool} {held : Bool}
set_option maxRecDepth 100000 in
theorem open_fact {fuel : Nat} {cs : List Value} {x : DataW H × List MemPlace} (h : DataW.trod enc Try.prog w base spare held fuel 33 cs = some x) :
    ∃ a : FAct, cs.toArray = encF a ∧ -9223372036854775808 ≤ a.what ∧ a.what ≤ 9223372036854775807 := by
  obtain ⟨xs, m, rfl, rfl, hlen, hxl, hf⟩ := DataW.trod_struct Try.underlying33 h
  rw [cellsFAct] at hlen
  have f0 : DataW.trod enc Try.prog w base spare held m 3 ((cs.drop 0).take (Try.prog.cellsOf 3)) = xs[0]? := hf 0 _ rfl
  have f1 : DataW.trod enc Try.prog w base spare held m 30 ((cs.drop 1).take (Try.prog.cellsOf 30)) = xs[1]? := hf 1 _ rfl
  have f2 : DataW.trod enc Try.prog w base spare held m 31 ((cs.drop 33).take (Try.prog.cellsOf 31)) = xs[2]? := hf 2 _ rfl
  rw [cellsFInt] at f0
  rw [cellsU64] at f2
  rw [cells30] at f1
  have hx3 : xs.length = 3 := by rw [hxl]; rfl
  obtain ⟨x0, x1, x2, rfl⟩ : ∃ x0 x1 x2, xs = [x0, x1, x2] := by
    match xs, hx3 with
    | [a, b, c], _ => exact ⟨a, b, c, rfl⟩
  simp only [List.getElem?_cons_zero, List.getElem?_cons_succ] at f0 f1 f2
  obtain ⟨n0, c0, _, w0⟩ := DataW.trod_int Try.underlying3 f0
  obtain ⟨n2, c2, _, w2⟩ := DataW.trod_int Try.underlying31 f2
  obtain ⟨hh, c1⟩ := open_hash f1
  have b0 := bounds_i64 w0
  have b2 := bounds_u64 w2
  refine ⟨⟨n0, hh, ⟨n2.toNat, by omega⟩⟩, ?_, by show _ ≤ n0; omega, by show n0 ≤ _; omega⟩
  have e1 : cs = (cs.drop 0).take 1 ++ (cs.drop 1).take 32 ++ (cs.drop 33).take 1 := by
    have d2 : cs.drop 1 = (cs.drop 1).take 32 ++ cs.drop 33 := by conv => lhs; rw [← List.take_append_drop 32 (cs.drop 1), List.drop_drop]
    have d4 : cs.drop 33 = (cs.drop 33).take 1 := (List.take_of_length_le (by simp; omega)).symm
    rw [List.append_assoc, ← d4, ← d2, List.drop_zero, List.take_append_drop]
  have e2 : (cs.drop 1).take 32 = (encH hh).toList := by rw [← c1]
  rw [e1, c0, c2, e2]
  unfold encF
  apply Array.ext'
  simp
  omega
theorem open_facts {ad : Option Addr} {len cap fuel : Nat} {x : DataW H × List MemPlace} (h : DataW.trod enc Try.prog w base spare held fuel 22 [.slice ad len cap] = some x) :
    ∃ al : List FAct, al.length = len ∧ len ≤ maxLen ∧ FActRow w (.slice ad len cap) al := by
  rcases open_slice Try.underlying22 h with ⟨hcs, _⟩ | ⟨a, l, c, m, n, D, Pl, hcs, hb, hl, hm, hmm, hx, hel⟩
  · simp at hcs
    obtain ⟨rfl, rfl, rfl⟩ := hcs
    exact ⟨[], rfl, Nat.zero_le _, none, 0, rfl, fun i h hi => by simp at hi⟩
  · simp at hcs
    obtain ⟨rfl, rfl, rfl⟩ := hcs
    have hle : len ≤ m := by rw [hmm]; split <;> omega
    have each : ∀ i, i < len → ∃ hh : FAct, (a.add (i * 34)).spot = none ∧ rowAt w (a.add (i * 34)) 34 = some (encF hh) ∧ -9223372036854775808 ≤ hh.what ∧ hh.what ≤ 9223372036854775807 := by
      intro i hi
      obtain ⟨cs', h1, h2⟩ := hel i (by omega)
      rw [cellsFAct] at h1
      obtain ⟨hh, e, hb1, hb2⟩ := open_fact h2
      obtain ⟨_, hlen, hcell⟩ := World.cells?_some h1
      have hr := rowAt_of_cells (w := w) (a := a.add (i * 34)) (n := 34) (cs := cs'.toArray) (by omega) (by simpa using hlen) (fun j hj => by rw [hcell j hj]; simp)
      exact ⟨hh, hr.1, by rw [← e]; exact hr.2, hb1, hb2⟩
    haveI : Inhabited FAct := ⟨zF⟩
    obtain ⟨f, hf⟩ := choose_lt each
    refine ⟨(List.range len).map f, by simp, by omega, some a, cap, by simp, fun i h hi => ?_⟩
    have hil : i < len := by have := (List.getElem?_eq_some_iff.1 hi).1; simpa using this
    have e : f i = h := by simpa [hil] using hi
    have s1 := (hf 0 (by omega)).1
    obtain ⟨_, s2, s3, s4⟩ := hf i hil
    obtain ⟨b, o, sp⟩ := a
    have s5 : sp = none := by simpa [Addr.add] using s1
    subst s5
    rw [Addr.add_lit] at s2
    exact ⟨b, o, rfl, by rw [← e]; exact s2, by rw [← e]; exact s3, by rw [← e]; exact s4⟩
end
theorem walk (ad : Option Addr) (len cap : Nat) (w : World) (al : List FAct) (hlen : al.length = len) (hmax : len ≤ maxLen) (hr : FActRow w (.slice ad len cap) al) :
    Calls Try.prog 3 #[.slice ad len cap] w fun e w' => e = .returned (.bool true) ∧ Below w.heap.size w w' :=
  FindPlays_good _ al w hr (by omega)

set_option maxRecDepth 100000 in
theorem lifted (os : Os) (started : os.Started) (H : Type) (enc : TypeId × Value → H) :
    ReturnsInHanded {} Try.checked os 3 .any (Rows.findPlaysSpec.pre6 enc Try.prog Try.f3 Rows.findPlaysRow.domain false) (Rows.findPlaysSpec.post enc Try.prog Try.f3 false true false false) := by
  refine returnsInHanded_of_change (C := Try.checked) own started (by kernel_rfl) Try.func3
    (ChangeSpec.witness6 (enc := enc) (C := Try.checked) false ⟨#[], #[.slice none 0 0], []⟩ 8 (by kernel_rfl) (by kernel_rfl) (by kernel_rfl) (by kernel_rfl)) ?_
  intro W base args ds gs before hval0 hW hcnd _
  have hval : ∀ (j : Nat) t v, Try.f3.params[j]? = some t → args[j]? = some v → Value.okWide Try.prog W .any base t v := hval0
  have hW' := hW
  obtain ⟨p, q, hA0, hV, rfl, hfz, hnd⟩ := hW
  have hA : DataW.TrodAll enc Try.prog W 0 (fun _ => true) true Try.f3.params.toList args.toList ds p := hA0
  rw [Try.params3] at hA hval
  obtain ⟨v0, vs0, d0, ds0, p0, q0, hargs, rfl, rfl, h0, r0⟩ := trodAll_cons hA
  obtain ⟨rfl, rfl, rfl⟩ := trodAll_nil r0
  obtain rfl : args = #[v0] := by cases args; simp_all
  obtain ⟨rfl, rfl⟩ := trodVars_none hV
  obtain ⟨ad, len, cap, rfl⟩ := okWide_slice Try.underlying22 (hval 0 22 v0 rfl rfl)
  have k0 := h0
  have lt0 : ∀ x ∈ p0, x.block < W.heap.size := by obtain ⟨m, hm⟩ := k0; exact DataW.trod_lt m _ _ _ hm
  obtain ⟨al, hlen, hmax, hrow⟩ : ∃ al : List FAct, al.length = len ∧ len ≤ maxLen ∧ FActRow W (.slice ad len cap) al := by
    obtain ⟨fuel, hf⟩ := h0
    exact open_facts (by simpa [Value.cells] using hf)
  clear hA0 hval0
  refine (walk ad len cap W al hlen hmax hrow).mono fun e W' ⟨he, bel⟩ => ?_
  subst he
  exact ⟨_, rfl, _, _, _, [], _, [], hW', trodAll_mk1 (shut_bool Try.underlying4 _), (trodAll_cons_mk (Below.trod laidOut (by kernel_rfl) (of_decide_eq_true (by kernel_rfl)) k0 bel lt0) trodAll_mk0), rfl, bel.frame _, fun h => by cases h⟩

theorem over : Rows.findPlaysRow.holds Try.pinned (OpenSpec.ofChange Rows.findPlaysSpec) :=
  OpenClaim.holds_of_wide 3 Try.f3 rfl rfl rfl rfl rfl rfl rfl ⟨rfl, rfl, rfl, rfl, rfl⟩ rfl rfl rfl rfl rfl (by kernel_rfl) Try.func3 (by kernel_rfl)
    (of_decide_eq_true (by kernel_rfl)) (by unfold Func.isWrapper; first | (rw [if_pos (by decide +kernel)]; kernel_rfl) | (rw [if_neg (by decide +kernel)]; exact ⟨rfl, rfl⟩))
    (fun os started H enc _ => lifted os started H enc)

theorem proved : Rows.FindPlaysSaid := over
#print axioms proved
end Go.Proofs.Ytoigddekipjkcaa.findPlays
