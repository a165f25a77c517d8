/- Whole numbers of 64 bits. -/
import Derived.WalkKit
import Derived.ProofKit
import Derived.Laws.Bits64b
namespace Go.Proofs.Ytoigddekipjkcaa
set_option linter.all false
open Go Go.RowKit

theorem pow_le_16 {log : Nat} (hl : log ≤ 16) : 2 ^ log ≤ 65536 := by
  calc 2 ^ log ≤ 2 ^ 16 := Nat.pow_le_pow_right (by decide) hl
    _ = 65536 := by decide
theorem pow_pos_16 (log : Nat) : 0 < 2 ^ log := Nat.pow_pos (by decide)
theorem cast_pow (log : Nat) : ((2 : Int) ^ log) = ((2 ^ log : Nat) : Int) := by simp
theorem and_mask {log p : Nat} (hl : log ≤ 16) (hp : p < 18446744073709551616) :
    wrap64 (bits BinOp.and IntKind.u64 (p : Int) (IntKind.u64.wrap (IntKind.u64.wrap (2 ^ log) - 1))) = ((p % 2 ^ log : Nat) : Int) := by
  have h1 := pow_le_16 hl
  have h2 := pow_pos_16 log
  have e1 : IntKind.u64.wrap (IntKind.u64.wrap (2 ^ log) - 1) = ((2 ^ log - 1 : Nat) : Int) := by
    rw [cast_pow]; simp only [IntKind.wrap_u64]; omega
  rw [e1, bits_and_u64_nat p (2 ^ log - 1) hp (by omega), Nat.and_two_pow_sub_one_eq_mod]
  have := Nat.mod_lt p h2
  unfold wrap64; omega
end Go.Proofs.Ytoigddekipjkcaa
