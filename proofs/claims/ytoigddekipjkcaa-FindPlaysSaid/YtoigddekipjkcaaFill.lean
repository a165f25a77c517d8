/- massiflaw5.fill. -/
import Derived.Test.YtoigddekipjkcaaAwake
import Derived.Test.YtoigddekipjkcaaCut
namespace Go.Proofs.Ytoigddekipjkcaa
set_option linter.all false
open Go Go.RowKit Go.Proofs Go.Maps

/-- A slice of hashes, wherever it lies. -/
def HashRow (w : World) (v : Value) (hs : List HB) : Prop :=
  ∃ ad cap, v = .slice ad hs.length cap ∧ ∀ (i : Nat) (h : HB), hs[i]? = some h → ∃ b o, ad = some ⟨b, o, none⟩ ∧ rowAt w ⟨b, o + i * 32, none⟩ 32 = some (encH h)
theorem rowAt_lt {w : World} {a : Addr} {n : Nat} {c : Array Value} (h : rowAt w a n = some c) : a.block < w.heap.size := by
  unfold rowAt at h
  cases hb : w.heap[a.block]? with
  | none => rw [hb] at h; simp at h
  | some o => exact hb_lt hb
theorem HashRow.below {w w' : World} {v : Value} {hs : List HB} (h : HashRow w v hs) (hb : Below w.heap.size w w') : HashRow w' v hs := by
  obtain ⟨ad, cap, e, hr⟩ := h
  refine ⟨ad, cap, e, fun i h hi => ?_⟩
  obtain ⟨b, o, e2, hrow⟩ := hr i h hi
  exact ⟨b, o, e2, (rowAt_block (a := ⟨b, o + i * 32, none⟩) (hb.block b (rowAt_lt hrow)) 32).trans hrow⟩
/-- The store's list behind so many pushes. -/
def fullL (hs : List HB) : List NL := hs.map fun h => (some h, 0)
theorem fullL_snoc (hs : List HB) (h : HB) : fullL (hs ++ [h]) = fullL hs ++ [(some h, 0)] := by simp [fullL]
def FillPost (log : Nat) (hs : List HB) (w : World) (e : Ending) (w' : World) : Prop :=
  ∃ sb F, e = .returned (.tuple #[.pointer (some ⟨sb, 0, none⟩), .bool true]) ∧ StoreL w' sb log (fullL hs) F ∧ (∀ j, F j → w.heap.size ≤ j) ∧ Below w.heap.size w w'
set_option maxRecDepth 100000 in
theorem fill_any (log : Nat) (v : Value) (hs : List HB) (w : World) (hl : log ≤ 16) (hr : HashRow w v hs) (hn : hs.length ≤ 1000000) :
    Calls Try.prog 23 #[.int .i64 (log : Int), v] w (FillPost log hs w) := by
  obtain ⟨ad, cap, rfl, hrow⟩ := hr
  have HR : Hid (HashRow w (.slice ad hs.length cap) hs) := ⟨ad, cap, rfl, hrow⟩
  clear hrow
  go_enter Try.func23, Try.ntmps23
  go_wp2_with fail
  refine (New_good log w hl).mono ?_
  rintro e w1 ⟨sb, F, rfl, hS, hF, hb⟩
  have HS := Lib.hid hS; clear hS
  have HF := Lib.hid hF; clear hF
  go_wp2_with fail
  go_loopg [8] (hs.length) (fun g vi wr => ∃ i F', vi = .int .i64 (i : Nat) ∧ g + i = hs.length ∧ StoreL wr sb log (fullL (hs.take i)) F' ∧ (∀ j, F' j → w.heap.size ≤ j) ∧ Below w.heap.size w wr)
  case atStart => exact ⟨0, F, rfl, by simp, HS.out, HF.out, hb⟩
  case round =>
    obtain ⟨i, F', rfl, hg, hS', hF', hb'⟩ := hrel
    have HG := Lib.hid hg; clear hg
    have HS' := Lib.hid hS'; clear hS'
    have HF' := Lib.hid hF'; clear hF'
    by_cases hi : i < hs.length
    · have hi' : (i : Int) < (hs.length : Int) := by omega
      obtain ⟨h, hh⟩ : ∃ h, hs[i]? = some h := ⟨hs[i], List.getElem?_eq_getElem hi⟩
      obtain ⟨ad2, cap2, e2, hrow⟩ := HR.out.below hb'
      obtain ⟨b, o, e3, hrw⟩ := hrow i h hh
      obtain ⟨rfl, rfl⟩ : ad2 = ad ∧ cap2 = cap := by simp at e2; exact ⟨e2.1.symm, e2.2.symm⟩
      have HH := Lib.hid hh; clear hh hrow e2
      subst e3
      have hlen : (fullL (hs.take i)).length = i := by simp [fullL]; omega
      have hwi : IntKind.u64.wrap (i : Int) = (i : Int) := by simp only [IntKind.wrap_u64]; omega
      go_wp2_with fail
      refine (Push_any HS'.out h (by rw [hlen]; omega)).mono ?_
      rintro e w2 ⟨rfl, F2, hS2, hT2⟩
      have HF2 : Hid (∀ j, F2 j → w.heap.size ≤ j) := fun j hj => (hT2.1 j hj).elim (HF'.out j) (fun h => Nat.le_trans hb'.size h)
      have hb2 : Below w.heap.size w w2 := hb'.trans (hT2.2.toBelow HF'.out hb'.size)
      have HS2 := Lib.hid hS2; clear hS2 hT2
      rw [hlen]
      go_wp2_with fail
      go_roundg (gk - 1)
      case measure => have := HG.out; omega
      case rel =>
        refine ⟨i + 1, F2, by simp, by have := HG.out; omega, ?_, HF2.out, hb2⟩
        have e : hs.take (i + 1) = hs.take i ++ [h] := by rw [List.take_add_one, HH.out]; rfl
        rw [e, fullL_snoc]; exact HS2.out
    · have hi' : ¬ (i : Int) < (hs.length : Int) := by omega
      have e : i = hs.length := by have := HG.out; omega
      go_wp2_with fail
      go_ret2
      refine ⟨sb, F', rfl, ?_, HF'.out, hb'⟩
      have := HS'.out
      rw [e, List.take_length] at this; exact this
end Go.Proofs.Ytoigddekipjkcaa
