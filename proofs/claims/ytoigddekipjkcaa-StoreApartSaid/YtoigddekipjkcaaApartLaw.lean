/- The statement StoreApart: what is done to one store says nothing of another, for every input. (The frame after the kit's shell for a law.) -/
import Derived.Deep.Grids
import Derived.Test.YtoigddekipjkcaaRows
import Derived.Test.YtoigddekipjkcaaApart
import Derived.ShutString
import Derived.ChangeOld
import Derived.Below
namespace Go.Proofs.Ytoigddekipjkcaa
set_option linter.all false
open Go Go.RowKit Go.Proofs Go.ChangeShapes Go.WideShapes Go.Deep
theorem cellsBool : Try.prog.cellsOf 4 = 1 := by kernel_rfl
theorem open_boolRow {H : Type} {enc : TypeId × Value → H} {w : World} {base : Nat} {held : Bool} {ad : Option Addr} {len cap fuel : Nat} {x : DataW H × List MemPlace} (h : DataW.trod enc Try.prog w base (fun _ => true) held fuel 68 [.slice ad len cap] = some x) :
    ∃ bs : List Bool, bs.length = len ∧ len ≤ maxLen ∧ BoolRow w (.slice ad len cap) bs := by
  rcases open_bools Try.underlying68 Try.underlying4 cellsBool h with ⟨hcs, _⟩ | ⟨a, l, c, B, hcs, hb, hl, hm, hx, hel⟩
  · simp at hcs
    obtain ⟨rfl, rfl, rfl⟩ := hcs
    exact ⟨[], rfl, Nat.zero_le _, none, 0, rfl, fun i k hi => by simp at hi⟩
  · simp at hcs
    obtain ⟨rfl, rfl, rfl⟩ := hcs
    refine ⟨(List.range len).map B, by simp, by omega, some a, cap, by simp, fun i k hi => ?_⟩
    have hil : i < len := by have := (List.getElem?_eq_some_iff.1 hi).1; simpa using this
    have e : B i = k := by simpa [hil] using hi
    have h2 := hel i (by omega)
    have h0 := hel 0 (by omega)
    obtain ⟨b, o, sp⟩ := a
    have s3 : sp = none := by
      cases sp with
      | none => rfl
      | some s =>
        exfalso
        rw [show (⟨b, o, some s⟩ : Addr).add 0 = ⟨b, o, some s⟩ by simp [Addr.add]] at h0
        unfold World.cell? at h0
        cases hb' : w.heap[b]? with
        | none => simp [hb'] at h0
        | some ob => cases ob <;> simp [hb'] at h0
    subst s3
    refine ⟨b, o, rfl, ?_⟩
    rw [Addr.add_lit] at h2
    rw [h2, e]
namespace storeApart
open Go.ChangeAt
open Go.ChangeMaps (open_string shut_string)
set_option linter.unusedVariables false

theorem own : ownKnob Try.prog.godebug = none := by kernel_rfl

theorem walk (x y : Int) (ad : Option Addr) (len cap : Nat) (adb : Option Addr) (lb cb : Nat) (w : World) (al : List ActL) (bs : List Bool) (hlen : al.length = len) (hmax : len ≤ maxLen) (hr : ActRow w (.slice ad len cap) al) (hlb : bs.length = lb) (hmb : lb ≤ maxLen) (hrb : BoolRow w (.slice adb lb cb) bs) (wx : (Lit.int .i64 x).wf = true) (wy : (Lit.int .i64 y).wf = true) :
    Calls Try.prog 8 #[.int .i64 x, .int .i64 y, .slice ad len cap, .slice adb lb cb] w fun e w' => e = .returned (.bool true) ∧ Below w.heap.size w w' := by
  have bx := bounds_i64 wx
  have bY := bounds_i64 wy
  exact StoreApart_good x y _ _ al bs w hr (by omega) hrb (by omega) (by omega) (by omega) (by omega) (by omega)

set_option maxRecDepth 100000 in
theorem lifted (os : Os) (started : os.Started) (H : Type) (enc : TypeId × Value → H) :
    ReturnsInHanded {} Try.checked os 8 .any (Rows.storeApartSpec.pre6 enc Try.prog Try.f8 Rows.storeApartRow.domain false) (Rows.storeApartSpec.post enc Try.prog Try.f8 false true false false) := by
  refine returnsInHanded_of_change_sized (C := Try.checked) own started (by kernel_rfl) Try.func8
    (ChangeSpec.witness6 (enc := enc) (C := Try.checked) false ⟨#[], #[.int .i64 0, .int .i64 0, .slice none 0 0, .slice none 0 0], []⟩ 8 (by kernel_rfl) (by kernel_rfl) (by kernel_rfl) (by kernel_rfl)) ?_
  intro W base args ds gs before hval0 hW hcnd hsz0 _
  have hsz : (DataW.weightsEach Try.prog (Try.f8.params.toList ++ Rows.storeApartSpec.plain.varTypes Try.prog) (ds ++ gs)).all (· ≤ reachBytes) = true := hsz0
  clear hsz0
  have hval : ∀ (j : Nat) t v, Try.f8.params[j]? = some t → args[j]? = some v → Value.okWide Try.prog W .any base t v := hval0
  have hW' := hW
  obtain ⟨p, q, hA0, hV, rfl, hfz, hnd⟩ := hW
  have hA : DataW.TrodAll enc Try.prog W 0 (fun _ => true) true Try.f8.params.toList args.toList ds p := hA0
  rw [Try.params8] at hA hval hsz
  obtain ⟨v0, vs0, d0, ds0, p0, q0, hargs, rfl, rfl, h0, r0⟩ := trodAll_cons hA
  obtain ⟨v1, vs1, d1, ds1, p1, q1, rfl, rfl, rfl, h1, r1⟩ := trodAll_cons r0
  obtain ⟨v2, vs2, d2, ds2, p2, q2, rfl, rfl, rfl, h2, r2⟩ := trodAll_cons r1
  obtain ⟨v3, vs3, d3, ds3, p3, q3, rfl, rfl, rfl, h3, r3⟩ := trodAll_cons r2
  obtain ⟨rfl, rfl, rfl⟩ := trodAll_nil r3
  obtain rfl : args = #[v0, v1, v2, v3] := by cases args; simp_all
  obtain ⟨rfl, rfl⟩ := trodVars_none hV
  obtain ⟨a0, rfl, rfl, rfl, w0⟩ := open_int Try.underlying3 (hval 0 3 v0 rfl rfl) h0
  obtain ⟨a1, rfl, rfl, rfl, w1⟩ := open_int Try.underlying3 (hval 1 3 v1 rfl rfl) h1
  obtain ⟨ad, len, cap, rfl⟩ := okWide_slice Try.underlying56 (hval 2 56 v2 rfl rfl)
  have k2 := h2
  have lt2 : ∀ x ∈ p2, x.block < W.heap.size := by obtain ⟨m, hm⟩ := k2; exact DataW.trod_lt m _ _ _ hm
  have hsz2 : ∀ n ∈ d2.weights Try.prog 56, n ≤ 140737488351232 := fun n hn =>
    of_decide_eq_true (List.all_eq_true.1 hsz n (DataW.weights_mem_each (j := 2) rfl rfl n hn))
  obtain ⟨al, hlen, hmax, hrow⟩ : ∃ al : List ActL, al.length = len ∧ len ≤ maxLen ∧ ActRow W (.slice ad len cap) al := by
    obtain ⟨fuel, hf⟩ := h2
    exact open_acts (by simpa [Value.cells] using hf) hsz2
  obtain ⟨adb, lb, cb, rfl⟩ := okWide_slice Try.underlying68 (hval 3 68 v3 rfl rfl)
  have k3 := h3
  have lt3 : ∀ x ∈ p3, x.block < W.heap.size := by obtain ⟨m, hm⟩ := k3; exact DataW.trod_lt m _ _ _ hm
  obtain ⟨bs, hlb, hmb, hrb⟩ : ∃ bs : List Bool, bs.length = lb ∧ lb ≤ maxLen ∧ BoolRow W (.slice adb lb cb) bs := by
    obtain ⟨fuel, hf⟩ := h3
    exact open_boolRow (by simpa [Value.cells] using hf)
  clear hA0 hval0
  refine (walk a0 a1 ad len cap adb lb cb W al bs hlen hmax hrow hlb hmb hrb w0 w1).mono fun e W' ⟨he, bel⟩ => ?_
  subst he
  exact ⟨_, rfl, _, _, _, [], _, [], hW', trodAll_mk1 (shut_bool Try.underlying4 _), (trodAll_cons_mk (shut_int Try.underlying3 w0) (trodAll_cons_mk (shut_int Try.underlying3 w1) (trodAll_cons_mk (Below.trod laidOut (by kernel_rfl) (of_decide_eq_true (by kernel_rfl)) k2 bel lt2) (trodAll_cons_mk (Below.trod laidOut (by kernel_rfl) (of_decide_eq_true (by kernel_rfl)) k3 bel lt3) trodAll_mk0)))), rfl, bel.frame _, fun h => by cases h⟩

theorem over : Rows.storeApartRow.holds Try.pinned (OpenSpec.ofChange Rows.storeApartSpec) :=
  OpenClaim.holds_of_wide 8 Try.f8 rfl rfl rfl rfl rfl rfl rfl ⟨rfl, rfl, rfl, rfl, rfl⟩ rfl rfl rfl rfl rfl (by kernel_rfl) Try.func8 (by kernel_rfl)
    (of_decide_eq_true (by kernel_rfl)) (by unfold Func.isWrapper; first | (rw [if_pos (by decide +kernel)]; kernel_rfl) | (rw [if_neg (by decide +kernel)]; exact ⟨rfl, rfl⟩))
    (fun os started H enc _ => lifted os started H enc)

theorem proved : Rows.StoreApartSaid := over
#print axioms proved
end storeApart
end Go.Proofs.Ytoigddekipjkcaa
