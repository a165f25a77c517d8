/- The statement StoreSweeps: behind a sweep of a store just the nodes of the list and the pinned ones live, for every input. (The frame after the kit's shell for a law.) -/
import Derived.Test.YtoigddekipjkcaaRows
import Derived.Test.YtoigddekipjkcaaLawSweeps
import Derived.Test.YtoigddekipjkcaaOpen
import Derived.ShutString
import Derived.ChangeOld
import Derived.Below
namespace Go.Proofs.Ytoigddekipjkcaa
set_option linter.all false
open Go Go.ChangeShapes Go.WideShapes Go.RowKit
theorem cellsU64b : Try.prog.cellsOf 31 = 1 := by kernel_rfl
/-- A slice of uint64s that came in. -/
theorem open_nums {H : Type} {enc : TypeId × Value → H} {w : World} {base : Nat} {spare : Nat → Bool} {held : Bool} {ad : Option Addr} {len cap fuel : Nat} {x : DataW H × List MemPlace} (h : DataW.trod enc Try.prog w base spare held fuel 36 [.slice ad len cap] = some x) :
    ∃ ks : List U64, ks.length = len ∧ len ≤ maxLen ∧ NumRow w (.slice ad len cap) ks := by
  rcases open_ints Try.underlying36 Try.underlying31 cellsU64b h with ⟨hcs, _⟩ | ⟨a, l, c, zs, hcs, hb, hl, hm, hz, hx, hel, hwf⟩
  · simp at hcs
    obtain ⟨rfl, rfl, rfl⟩ := hcs
    exact ⟨[], rfl, Nat.zero_le _, none, 0, rfl, fun i k hi => by simp at hi⟩
  · simp at hcs
    obtain ⟨rfl, rfl, rfl⟩ := hcs
    have hle : len ≤ zs.length := by rw [hz]; split <;> omega
    have hr : ∀ i, i < len → 0 ≤ zs.getD i 0 ∧ zs.getD i 0 < 18446744073709551616 := fun i hi => by
      have h1 : zs.getD i 0 ∈ zs := by
        rw [List.getD_eq_getElem?_getD, List.getElem?_eq_getElem (by omega)]; exact List.getElem_mem _
      have := bounds_u64 (hwf _ h1)
      omega
    refine ⟨(List.range len).map fun i => mk64 (zs.getD i 0).toNat, by simp, by omega, some a, cap, by simp, fun i k hi => ?_⟩
    have hil : i < len := by have := (List.getElem?_eq_some_iff.1 hi).1; simpa using this
    have e : mk64 (zs.getD i 0).toNat = k := by simpa [hil] using hi
    have h2 := hel i (by omega)
    have h3 := hr i hil
    have h0 := hel 0 (by omega)
    obtain ⟨b, o, sp⟩ := a
    have s3 : sp = none := by
      cases sp with
      | none => rfl
      | some s =>
        exfalso
        rw [show (⟨b, o, some s⟩ : Addr).add 0 = ⟨b, o, some s⟩ by simp [Addr.add]] at h0
        unfold World.cell? at h0
        cases hb' : w.heap[b]? with
        | none => simp [hb'] at h0
        | some ob => cases ob <;> simp [hb'] at h0
    subst s3
    refine ⟨b, o, rfl, ?_⟩
    rw [Addr.add_lit] at h2
    rw [h2, ← e, mk64_val (by omega)]
    congr 2
    omega
namespace storeSweeps
open Go.ChangeAt
open Go.ChangeMaps (open_string shut_string)
set_option linter.unusedVariables false

theorem own : ownKnob Try.prog.godebug = none := by kernel_rfl

theorem walk (x : Int) (ad : Option Addr) (len cap : Nat) (adp : Option Addr) (lp cp : Nat) (adk : Option Addr) (lk ck : Nat) (w : World) (hs : List HB) (ps ks : List U64) (hlen : hs.length = len) (hmax : len ≤ maxLen) (hr : HashRow w (.slice ad len cap) hs)
    (hlp : ps.length = lp) (hmp : lp ≤ maxLen) (hrp : NumRow w (.slice adp lp cp) ps) (hlk : ks.length = lk) (hmk : lk ≤ maxLen) (hrk : NumRow w (.slice adk lk ck) ks) (wx : (Lit.int .i64 x).wf = true) :
    Calls Try.prog 5 #[.int .i64 x, .slice ad len cap, .slice adp lp cp, .slice adk lk ck] w fun e w' => e = .returned (.bool true) ∧ Below w.heap.size w w' := by
  have bx := bounds_i64 wx
  unfold maxLen at hmax hmp hmk
  by_cases h : x < 0 ∨ 16 < x ∨ 200 < len ∨ 200 < lp ∨ 200 < lk
  · refine (StoreSweeps_out x ad adp adk len cap lp cp lk ck w h (by omega) (by omega) (by omega) (by omega) (by omega)).mono fun e w' ⟨he, hw⟩ => ⟨he, by rw [hw]; exact Below.refl _ _⟩
  · obtain ⟨log, rfl⟩ : ∃ log : Nat, x = (log : Int) := ⟨x.toNat, by omega⟩
    exact StoreSweeps_good log _ _ _ hs ps ks w (by omega) hr (by omega) hrp (by omega) hrk (by omega)

set_option maxRecDepth 100000 in
theorem lifted (os : Os) (started : os.Started) (H : Type) (enc : TypeId × Value → H) :
    ReturnsInHanded {} Try.checked os 5 .any (Rows.storeSweepsSpec.pre6 enc Try.prog Try.f5 Rows.storeSweepsRow.domain false) (Rows.storeSweepsSpec.post enc Try.prog Try.f5 false true false false) := by
  refine returnsInHanded_of_change (C := Try.checked) own started (by kernel_rfl) Try.func5
    (ChangeSpec.witness6 (enc := enc) (C := Try.checked) false ⟨#[], #[.int .i64 0, .slice none 0 0, .slice none 0 0, .slice none 0 0], []⟩ 8 (by kernel_rfl) (by kernel_rfl) (by kernel_rfl) (by kernel_rfl)) ?_
  intro W base args ds gs before hval0 hW hcnd _
  have hval : ∀ (j : Nat) t v, Try.f5.params[j]? = some t → args[j]? = some v → Value.okWide Try.prog W .any base t v := hval0
  have hW' := hW
  obtain ⟨p, q, hA0, hV, rfl, hfz, hnd⟩ := hW
  have hA : DataW.TrodAll enc Try.prog W 0 (fun _ => true) true Try.f5.params.toList args.toList ds p := hA0
  rw [Try.params5] at hA hval
  obtain ⟨v0, vs0, d0, ds0, p0, q0, hargs, rfl, rfl, h0, r0⟩ := trodAll_cons hA
  obtain ⟨v1, vs1, d1, ds1, p1, q1, rfl, rfl, rfl, h1, r1⟩ := trodAll_cons r0
  obtain ⟨v2, vs2, d2, ds2, p2, q2, rfl, rfl, rfl, h2, r2⟩ := trodAll_cons r1
  obtain ⟨v3, vs3, d3, ds3, p3, q3, rfl, rfl, rfl, h3, r3⟩ := trodAll_cons r2
  obtain ⟨rfl, rfl, rfl⟩ := trodAll_nil r3
  obtain rfl : args = #[v0, v1, v2, v3] := by cases args; simp_all
  obtain ⟨rfl, rfl⟩ := trodVars_none hV
  obtain ⟨a0, rfl, rfl, rfl, w0⟩ := open_int Try.underlying3 (hval 0 3 v0 rfl rfl) h0
  obtain ⟨ad, len, cap, rfl⟩ := okWide_slice Try.underlying26 (hval 1 26 v1 rfl rfl)
  have k1 := h1
  have lt1 : ∀ x ∈ p1, x.block < W.heap.size := by obtain ⟨m, hm⟩ := k1; exact DataW.trod_lt m _ _ _ hm
  obtain ⟨hs, hlen, hmax, hrow⟩ : ∃ hs : List HB, hs.length = len ∧ len ≤ maxLen ∧ HashRow W (.slice ad len cap) hs := by
    obtain ⟨fuel, hf⟩ := h1
    exact open_hashes (by simpa [Value.cells] using hf)
  obtain ⟨adp, lp, cp, rfl⟩ := okWide_slice Try.underlying36 (hval 2 36 v2 rfl rfl)
  have k2 := h2
  have lt2 : ∀ x ∈ p2, x.block < W.heap.size := by obtain ⟨m, hm⟩ := k2; exact DataW.trod_lt m _ _ _ hm
  obtain ⟨ps, hlp, hmp, hrp⟩ : ∃ ks : List U64, ks.length = lp ∧ lp ≤ maxLen ∧ NumRow W (.slice adp lp cp) ks := by
    obtain ⟨fuel, hf⟩ := h2
    exact open_nums (by simpa [Value.cells] using hf)
  obtain ⟨adk, lk, ck, rfl⟩ := okWide_slice Try.underlying36 (hval 3 36 v3 rfl rfl)
  have k3 := h3
  have lt3 : ∀ x ∈ p3, x.block < W.heap.size := by obtain ⟨m, hm⟩ := k3; exact DataW.trod_lt m _ _ _ hm
  obtain ⟨ks, hlk, hmk, hrk⟩ : ∃ ks : List U64, ks.length = lk ∧ lk ≤ maxLen ∧ NumRow W (.slice adk lk ck) ks := by
    obtain ⟨fuel, hf⟩ := h3
    exact open_nums (by simpa [Value.cells] using hf)
  clear hA0 hval0
  refine (walk a0 ad len cap adp lp cp adk lk ck W hs ps ks hlen hmax hrow hlp hmp hrp hlk hmk hrk w0).mono fun e W' ⟨he, bel⟩ => ?_
  subst he
  exact ⟨_, rfl, _, _, _, [], _, [], hW', trodAll_mk1 (shut_bool Try.underlying4 _), (trodAll_cons_mk (shut_int Try.underlying3 w0) (trodAll_cons_mk (Below.trod laidOut (by kernel_rfl) (of_decide_eq_true (by kernel_rfl)) k1 bel lt1) (trodAll_cons_mk (Below.trod laidOut (by kernel_rfl) (of_decide_eq_true (by kernel_rfl)) k2 bel lt2) (trodAll_cons_mk (Below.trod laidOut (by kernel_rfl) (of_decide_eq_true (by kernel_rfl)) k3 bel lt3) trodAll_mk0)))), rfl, bel.frame _, fun h => by cases h⟩

theorem over : Rows.storeSweepsRow.holds Try.pinned (OpenSpec.ofChange Rows.storeSweepsSpec) :=
  OpenClaim.holds_of_wide 5 Try.f5 rfl rfl rfl rfl rfl rfl rfl ⟨rfl, rfl, rfl, rfl, rfl⟩ rfl rfl rfl rfl rfl (by kernel_rfl) Try.func5 (by kernel_rfl)
    (of_decide_eq_true (by kernel_rfl)) (by unfold Func.isWrapper; first | (rw [if_pos (by decide +kernel)]; kernel_rfl) | (rw [if_neg (by decide +kernel)]; exact ⟨rfl, rfl⟩))
    (fun os started H enc _ => lifted os started H enc)

theorem proved : Rows.StoreSweepsSaid := over
#print axioms proved
end storeSweeps
end Go.Proofs.Ytoigddekipjkcaa
