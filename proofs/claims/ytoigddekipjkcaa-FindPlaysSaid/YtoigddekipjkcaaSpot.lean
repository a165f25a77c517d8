/- The walks of store.spot and store.find. -/
import Derived.Test.YtoigddekipjkcaaDefs
import Derived.RegionTactic
import Derived.ChangeAlike
import Derived.Outline
import Derived.Deep.QuietTactic
import Derived.BigQuiet
import Derived.StillTailTactics
import Derived.Lib.Hide
namespace Go.Proofs.Ytoigddekipjkcaa
set_option linter.all false
open Go Go.RowKit Go.Proofs
open Go.ChangeMaps (setBlock)

theorem spot_any (sb log p k at_ : Nat) (w : World) (h0 : w.cell? ⟨sb, 0, none⟩ = some (.int .i64 log)) (hl : log ≤ 16) (hp : p < 18446744073709551616) (hs : sb < w.heap.size)
    (hk : Hid (p / 2 ^ log = k)) (ha : Hid (p % 2 ^ log = at_)) :
    Calls Try.prog 70 #[.pointer (some ⟨sb, 0, none⟩), .int .u64 p] w fun e w' =>
      e = .returned (.tuple #[.agg #[.int .u64 (k : Int)], .int .i64 (at_ : Int)]) ∧ Below w.heap.size w w' := by
  go_enter Try.func70, Try.ntmps70
  go_wp2
  go_region
  go_wp2
  refine bodyPost_ret (v := .tuple #[.agg #[.int .u64 (k : Int)], .int .i64 (at_ : Int)]) ?_ rfl ⟨rfl, ?_⟩
  · simp [results, Try.results70, go_sem]
    rw [and_mask hl hp, ← hk.out, ← ha.out]; simp
  · exact ((Below.refl _ _).alloc (Nat.le_refl _) _).drew

/-- What the store's own block and the search for a chunk say. -/
theorem find_none (sb cm log p k at_ : Nat) (w : World) (h0 : w.cell? ⟨sb, 0, none⟩ = some (.int .i64 log)) (h3 : w.cell? ⟨sb, 3, none⟩ = some (.map (some cm)))
    (hl : log ≤ 16) (hp : p < 18446744073709551616) (hs : sb < w.heap.size) (hcm : cm < w.heap.size)
    (hk : Hid (p / 2 ^ log = k)) (ha : Hid (p % 2 ^ log = at_))
    (Hlk : Hid (∀ W : World, W.heap[cm]? = w.heap[cm]? → (Instr.lookup 77 (.map (some cm)) (.agg #[.int .u64 (k : Int)]) false).run Try.prog W = .ok (.pointer none) W)) :
    Calls Try.prog 47 #[.pointer (some ⟨sb, 0, none⟩), .int .u64 p] w fun e w' => e = .returned (.pointer none) ∧ Below w.heap.size w w' := by
  go_enter Try.func47, Try.ntmps47
  go_wp2_with (go_at_call 70; refine (spot_any _ _ _ k at_ _ h0 hl hp hs hk ha).mono ?_; rintro e w1 ⟨rfl, hb1⟩)
  have hbz : ∀ n, (Instr.lookup 77 (.map (some cm)) (.agg #[.int .u64 (k : Int)]) false).run Try.prog ((w1.alloc (Obj.cells #[.int .u64 (k : Int)] 102)).drewN n) = .ok (.pointer none) _ :=
    fun n => Hlk.out _ ((Below.heap_alloc w1 _ cm (Nat.lt_of_lt_of_le hcm hb1.size)).trans (hb1.block cm hcm))
  have g3 := (hb1.cell (p := ⟨sb, 3, none⟩) hs).trans h3
  have gs := Nat.lt_of_lt_of_le hs hb1.size
  go_quiet (fail)
  clear hbz
  go_wp2
  go_ret
  exact ⟨rfl, (below_drewN (hb1.alloc (by exact hb1.size) _) _)⟩

def findRes (at_ len nb : Nat) (live : Bool) : Value := if at_ < len ∧ live = true then .pointer (some ⟨nb, at_ * 33, none⟩) else .pointer none
theorem find_some (sb cm log p k at_ cb nb len cap : Nat) (live : Bool) (w : World) (h0 : w.cell? ⟨sb, 0, none⟩ = some (.int .i64 log)) (h3 : w.cell? ⟨sb, 3, none⟩ = some (.map (some cm)))
    (hl : log ≤ 16) (hp : p < 18446744073709551616) (hs : sb < w.heap.size) (hcm : cm < w.heap.size) (hcb : cb < w.heap.size) (hnb : nb < w.heap.size)
    (hk : Hid (p / 2 ^ log = k)) (ha : Hid (p % 2 ^ log = at_)) (_hlen : len ≤ 1048576)
    (Hlk : Hid (∀ W : World, W.heap[cm]? = w.heap[cm]? → (Instr.lookup 77 (.map (some cm)) (.agg #[.int .u64 (k : Int)]) false).run Try.prog W = .ok (.pointer (some ⟨cb, 0, none⟩)) W))
    (hc : w.cell? ⟨cb, 0, none⟩ = some (.slice (some ⟨nb, 0, none⟩) len cap)) (hat : at_ < len → w.cell? ⟨nb, at_ * 33 + 32, none⟩ = some (.bool live)) :
    Calls Try.prog 47 #[.pointer (some ⟨sb, 0, none⟩), .int .u64 p] w fun e w' =>
      e = .returned (findRes at_ len nb live) ∧ Below w.heap.size w w' := by
  go_enter Try.func47, Try.ntmps47
  go_wp2_with (go_at_call 70; refine (spot_any _ _ _ k at_ _ h0 hl hp hs hk ha).mono ?_; rintro e w1 ⟨rfl, hb1⟩)
  have hbz : ∀ n, (Instr.lookup 77 (.map (some cm)) (.agg #[.int .u64 (k : Int)]) false).run Try.prog ((w1.alloc (Obj.cells #[.int .u64 (k : Int)] 102)).drewN n) = .ok (.pointer (some ⟨cb, 0, none⟩)) _ :=
    fun n => Hlk.out _ ((Below.heap_alloc w1 _ cm (Nat.lt_of_lt_of_le hcm hb1.size)).trans (hb1.block cm hcm))
  have g3 := (hb1.cell (p := ⟨sb, 3, none⟩) hs).trans h3
  have gs := Nat.lt_of_lt_of_le hs hb1.size
  go_quiet (fail)
  clear hbz
  have gc := (hb1.cell (p := ⟨cb, 0, none⟩) hcb).trans hc
  have gcb := Nat.lt_of_lt_of_le hcb hb1.size
  have gnb := Nat.lt_of_lt_of_le hnb hb1.size
  by_cases hlt : at_ < len
  · have gat := (hb1.cell (p := ⟨nb, at_ * 33 + 32, none⟩) hnb).trans (hat hlt)
    clear hat
    cases live
    · go_wp2
      go_ret
      exact ⟨by simp [findRes], (below_drewN (hb1.alloc (by exact hb1.size) _) _)⟩
    · go_wp2
      go_ret
      exact ⟨by simp [findRes, hlt], (below_drewN (hb1.alloc (by exact hb1.size) _) _)⟩
  · clear hat
    go_wp2
    go_ret
    exact ⟨by simp [findRes, hlt], (below_drewN (hb1.alloc (by exact hb1.size) _) _)⟩
end Go.Proofs.Ytoigddekipjkcaa
