/- poly: plus. -/
import Derived.Test.YtelmjlfhmbicjaaN
namespace Go.Proofs.Ytelmjlfhmbicjaa
open Go.RowKit
set_option linter.unusedVariables false

abbrev M64 : Nat := 18446744073709551616
set_option maxHeartbeats 400000 in
theorem plus_any (w : World) (a b c d : Nat) (ha : a < 18446744073709551616) (hc : c < 18446744073709551616) : Calls Try.prog 25 #[.agg #[.int .u64 a, .int .u64 b], .agg #[.int .u64 c, .int .u64 d]] w fun e w' =>
    e = .returned (.agg #[.int .u64 (((a + c) % 18446744073709551616 : Nat) : Int), .int .u64 (((b + d + (a + c) / 18446744073709551616) % 18446744073709551616 : Nat) : Int)]) ∧ Touch (fun _ => False) w w' := by
  have e1 : ∀ W, (callFunc 31 #[.int .u64 a, .int .u64 c, .int .u64 0]).run Try.prog W = .ok (.value (.tuple #[.int .u64 (((a + c) % 18446744073709551616 : Nat) : Int), .int .u64 (((a + c) / 18446744073709551616 : Nat) : Int)])) W := fun W => add64_eq a c 0 (by omega) W
  obtain ⟨k, hk⟩ : ∃ k, k = (a + c) / 18446744073709551616 := ⟨_, rfl⟩
  obtain ⟨lo, hlo⟩ : ∃ lo, lo = (a + c) % 18446744073709551616 := ⟨_, rfl⟩
  have hk1 : k ≤ 1 := by omega
  rw [← hk, ← hlo] at e1 ⊢
  have e2 := fun W => add64_eq b d k hk1 W
  obtain ⟨hi, hhi⟩ : ∃ hi, hi = (b + d + k) % 18446744073709551616 := ⟨_, rfl⟩
  obtain ⟨k2, hk2⟩ : ∃ k2, k2 = (b + d + k) / 18446744073709551616 := ⟨_, rfl⟩
  rw [← hhi] at e2 ⊢
  rw [← hk2] at e2
  clear hk hlo hhi hk2 hk1
  go_enter Try.func25, Try.ntmps25
  go_wp2_with fail
  have hb : Blk (((w.alloc (.cells #[.int .u64 a, .int .u64 b] 55)).alloc (.cells #[.int .u64 c, .int .u64 d] 55)).alloc (.cells #[.int .u64 lo, .int .u64 hi] 55)) (w.heap.size + 1 + 1) 55 #[.int .u64 lo, .int .u64 hi] := by
    have := Blk.new ((w.alloc (.cells #[.int .u64 a, .int .u64 b] 55)).alloc (.cells #[.int .u64 c, .int .u64 d] 55)) 55 #[.int .u64 lo, .int .u64 hi]
    rw [World.size_alloc, World.size_alloc] at this
    exact this
  have f0 := hb.cell 0
  have f1 := hb.cell 1
  simp only [List.getElem?_toArray, List.getElem?_cons_zero, List.getElem?_cons_succ] at f0 f1
  refine bodyPost_ret (v := .agg #[.int .u64 lo, .int .u64 hi]) (by simp only [results, Try.results25]; simp [go_sem, f0, f1]) rfl ⟨rfl, ?_⟩
  exact (((Touch.refl _ w).alloc _).alloc _).alloc _
end Go.Proofs.Ytelmjlfhmbicjaa
