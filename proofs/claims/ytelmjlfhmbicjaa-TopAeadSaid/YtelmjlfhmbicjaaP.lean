/- poly: the products (Mul64), as two numbers below 2^64. -/
import Derived.Test.YtelmjlfhmbicjaaO
namespace Go.Proofs.Ytelmjlfhmbicjaa
open Go.RowKit
set_option linter.unusedVariables false

def mT (a b : Int) : Int := IntKind.u64.wrap (a / 4294967296 * bits .and .u64 b 4294967295) + IntKind.u64.wrap (bits .and .u64 a 4294967295 * bits .and .u64 b 4294967295) / 4294967296
def mHi (a b : Int) : Int := IntKind.u64.wrap (IntKind.u64.wrap (IntKind.u64.wrap (a / 4294967296 * (b / 4294967296)) + IntKind.u64.wrap (mT a b) / 4294967296) +
  IntKind.u64.wrap (bits .and .u64 (IntKind.u64.wrap (mT a b)) 4294967295 + IntKind.u64.wrap (bits .and .u64 a 4294967295 * (b / 4294967296))) / 4294967296)
theorem wrap_nat (x : Int) : ∃ n : Nat, n < 18446744073709551616 ∧ IntKind.u64.wrap x = n := by
  refine ⟨(IntKind.u64.wrap x).toNat, ?_, ?_⟩ <;> rw [IntKind.wrap_u64] <;> omega

set_option maxHeartbeats 400000 in
theorem mul64_any (a b : Int) : ∃ hi lo : Nat, hi < 18446744073709551616 ∧ lo < 18446744073709551616 ∧ ∀ w : World, Calls Try.prog 37 #[.int .u64 a, .int .u64 b] w fun e w' => e = .returned (.tuple #[.int .u64 hi, .int .u64 lo]) ∧ w' = w := by
  obtain ⟨hi, h1, h2⟩ := wrap_nat (IntKind.u64.wrap (IntKind.u64.wrap (a / 4294967296 * (b / 4294967296)) + IntKind.u64.wrap (mT a b) / 4294967296) +
  IntKind.u64.wrap (bits .and .u64 (IntKind.u64.wrap (mT a b)) 4294967295 + IntKind.u64.wrap (bits .and .u64 a 4294967295 * (b / 4294967296))) / 4294967296)
  obtain ⟨lo, h3, h4⟩ := wrap_nat (a * b)
  refine ⟨hi, lo, h1, h3, fun w => ?_⟩
  rw [← h2, ← h4]
  clear h1 h2 h3 h4
  go_enter Try.func37, Try.ntmps37
  go_wp2
  go_ret2
  exact ⟨rfl, rfl⟩
end Go.Proofs.Ytelmjlfhmbicjaa
