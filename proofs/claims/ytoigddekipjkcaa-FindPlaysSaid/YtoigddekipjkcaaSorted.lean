/- slices.SortedFunc over maps.Keys: the chunks' keys, rising. -/
import Derived.Test.YtoigddekipjkcaaAppend
import Derived.Test.YtoigddekipjkcaaShelf
namespace Go.Proofs.Ytoigddekipjkcaa
set_option linter.all false
open Go Go.RowKit Go.Proofs Go.Maps Go.Shelf
open Go.ChangeMaps (setBlock)

def cfK (x y : U64) : Int := if x.1 < y.1 then -1 else 1
instance : Inhabited U64 := ⟨⟨0, by omega⟩⟩
theorem lt_cfK (x y : U64) : ltOf cfK x y = decide (x.1 < y.1) := by
  unfold ltOf cfK
  by_cases h : x.1 < y.1 <;> simp [h]
theorem swoK : Go.Sort.SWO (ltOf cfK) where
  irrefl x := by rw [lt_cfK]; simp
  trans x y z h1 h2 := by rw [lt_cfK] at *; simp at *; omega
  ntrans x y z h1 h2 := by rw [lt_cfK] at *; simp at *; omega
theorem cmpKey_any (x y : U64) (W : World) : Calls Try.prog 69 #[.agg #[.int .u64 (x.1 : Int)], .agg #[.int .u64 (y.1 : Int)]] W fun e w' =>
    e = .returned (.int .i64 (cfK x y)) ∧ ∃ q os', w' = Go.Sort.grow (W.drewN q) os' := by
  unfold cfK
  by_cases h : x.1 < y.1
  · have h' : (x.1 : Int) < (y.1 : Int) := by omega
    go_enter Try.func69, Try.ntmps69
    go_wp2
    go_ret
    exact ⟨by simp [h], 0, _, by rw [Go.Sort.alloc_eq_grow, Go.Sort.alloc_eq_grow, Go.Sort.grow_grow]; rfl⟩
  · have h' : ¬ (x.1 : Int) < (y.1 : Int) := by omega
    go_enter Try.func69, Try.ntmps69
    go_wp2
    go_ret
    exact ⟨by simp [h], 0, _, by rw [Go.Sort.alloc_eq_grow, Go.Sort.alloc_eq_grow, Go.Sort.grow_grow]; rfl⟩
/-! ### The empty slice -/
theorem insNil (fv : Value) (w : World) : Calls Try.prog 102 #[.slice none 0 0, .int .i64 0, .int .i64 0, fv] w fun e w' => e = .returned (.tuple #[]) ∧ w = w' := by
  go_enter Try.func102, Try.ntmps102
  go_wp2
  go_loopg [8] 0 (fun k v wr => v = .int .i64 1 ∧ wr = w)
  case atStart => exact ⟨rfl, rfl⟩
  case round =>
    obtain ⟨rfl, rfl⟩ := hrel
    go_wp2
    go_end0
    exact ⟨rfl, rfl⟩
set_option maxRecDepth 100000 in
theorem pdqNil (fv : Value) (w : World) : Calls Try.prog 96 #[.slice none 0 0, .int .i64 0, .int .i64 0, .int .i64 0, fv] w fun e w' => e = .returned (.tuple #[]) ∧ w = w' := by
  go_enter Try.func96, Try.ntmps96
  go_wp2
  go_loopg [1, 2] 0 (fun k v1 v2 wr => v1 = .int .i64 0 ∧ v2 = .int .i64 0 ∧ wr = w)
  case atStart => exact ⟨rfl, rfl, rfl⟩
  case round =>
    obtain ⟨rfl, rfl, rfl⟩ := hrel
    go_wp2_with fail
    refine (insNil _ _).mono ?_
    rintro e w' ⟨rfl, rfl⟩
    go_wp2_with fail
    refine bodyPost_ret (results_none rfl _ _ _) rfl ?_
    exact ⟨rfl, rfl⟩
theorem sortNil (fv : Value) (w : World) : Calls Try.prog 83 #[.slice none 0 0, fv] w fun e w' => e = .returned (.tuple #[]) ∧ w = w' := by
  have hl := Any.bits_Len (SlLaysF0.n15.bits (P := Try.prog) (ρ := Try.sortKey_ren) { Try.sortKey with }) 0 w (by omega) (by omega)
  change Calls Try.prog 80 _ _ _ at hl
  go_enter Try.func83, Try.ntmps83
  go_wp2_with fail
  refine hl.mono ?_
  rintro e w' ⟨rfl, rfl⟩
  go_wp2_with fail
  refine (pdqNil _ _).mono ?_
  rintro e w' ⟨rfl, rfl⟩
  go_wp2_with fail
  go_end0
  exact ⟨rfl, rfl⟩
end Go.Proofs.Ytoigddekipjkcaa
