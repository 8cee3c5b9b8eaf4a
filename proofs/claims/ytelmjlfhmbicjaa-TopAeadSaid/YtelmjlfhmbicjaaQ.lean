/- poly: times. -/
import Derived.Test.YtelmjlfhmbicjaaP
namespace Go.Proofs.Ytelmjlfhmbicjaa
open Go.RowKit
set_option linter.unusedVariables false

set_option maxHeartbeats 400000 in
theorem times_any (a b : Int) : ∃ lo hi : Nat, lo < 18446744073709551616 ∧ hi < 18446744073709551616 ∧ ∀ w : World, Calls Try.prog 32 #[.int .u64 a, .int .u64 b] w fun e w' => e = .returned (.agg #[.int .u64 lo, .int .u64 hi]) ∧ Touch (fun _ => False) w w' := by
  obtain ⟨hi, lo, h1, h2, h3⟩ := mul64_any a b
  refine ⟨lo, hi, h2, h1, fun w => ?_⟩
  have H := Lib.hid h3
  clear h1 h2 h3
  go_enter Try.func32, Try.ntmps32
  go_wp2_with fail
  refine (H.out _).mono ?_
  rintro e w2 ⟨rfl, rfl⟩
  go_wp2
  have hb := Blk.new w 55 #[.int .u64 lo, .int .u64 hi]
  have f0 := hb.cell 0
  have f1 := hb.cell 1
  simp only [List.getElem?_toArray, List.getElem?_cons_zero, List.getElem?_cons_succ] at f0 f1
  refine bodyPost_ret (v := .agg #[.int .u64 lo, .int .u64 hi]) (by simp only [results, Try.results32]; simp [go_sem, f0, f1]) rfl ⟨rfl, ?_⟩
  exact (Touch.refl _ w).alloc _
end Go.Proofs.Ytelmjlfhmbicjaa
