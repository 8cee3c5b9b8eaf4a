/- New and awake. -/
import Derived.Test.YtmhdjedegkekeaaF
namespace Go.Proofs.Ytmhdjedegkekeaa
open Go.RowKit

theorem Try.info33 : (Try.prog.info? 33).map (fun i => (i.zero, i.size, i.bytes)) = some (some (.agg #[.int .i64 0, .int .i64 0, .int .i64 0]), 3, 24) := by kernel_rfl

theorem make_done (n : Nat) (hn : n ≤ 32) : ∃ cs : Array Value, cs.size = 3 * n ∧ ∀ w : World, (Instr.makeSlice 48 (.int .i64 n) (.int .i64 n)).run Try.prog w = .ok (.slice (some ⟨w.heap.size, 0, none⟩) n n) (w.alloc (.cells cs 33)) := by
  obtain ⟨i0, hi, hz0, hz1, hz2⟩ := info_parts Try.info33
  refine ⟨madeCells (Value.agg #[.int .i64 0, .int .i64 0, .int .i64 0]).cells (n * 3), by rw [size_madeCells]; omega, fun w => ?_⟩
  have h := run_make (P := Try.prog) w 48 33 i0 _ Try.underlying48 hi hz0 .i64 .i64 n n (by omega) (by omega) (by rw [hz2]; omega) (by omega)
  rw [hz1] at h
  simpa using h

theorem new_yes (w : World) (n : Nat) (h1 : 1 ≤ n) (h2 : n ≤ 32) :
    Calls Try.prog 7 #[.int .i64 n] w fun e w' => e = .returned (.tuple #[.pointer (some ⟨w.heap.size + 1, 0, none⟩), .int .i64 0]) ∧ Ring w' (w.heap.size + 1) w.heap.size n 0 [] ∧ Touch (fun _ => False) w w' := by
  obtain ⟨cs, hcs, hmk⟩ := make_done n h2
  have HC := Lib.hid hcs
  clear hcs
  go_enter Try.func7, Try.ntmps7
  go_wp2
  go_ret2
  refine ⟨rfl, ⟨0, cs, ?_, (Blk.new w 33 cs).alloc _, HC.out, h2, by omega, by simp, by simp⟩, ((Touch.refl _ w).alloc _).alloc _⟩
  have := Blk.new (w.alloc (.cells cs 33)) 50 #[.slice (some ⟨w.heap.size, 0, none⟩) n n, .int .i64 0, .int .i64 0, .int .i64 0]
  rw [World.size_alloc] at this
  exact this

theorem new_no (w : World) (n : Int) (h : n < 1 ∨ 32 < n) :
    Calls Try.prog 7 #[.int .i64 n] w fun e w' => e = .returned (.tuple #[.pointer none, .int .i64 1]) ∧ w = w' := by
  rcases h with h | h
  · go_enter Try.func7, Try.ntmps7
    go_wp2
    go_ret2
    exact ⟨rfl, rfl⟩
  · have h' : ¬ n < 1 := by omega
    go_enter Try.func7, Try.ntmps7
    go_wp2
    go_ret2
    exact ⟨rfl, rfl⟩

theorem awake_any (w : World) : Calls Try.prog 8 #[] w fun e w' => e = .returned (.bool true) ∧ Touch (fun _ => False) w w' := by
  go_enter Try.func8, Try.ntmps8
  go_wp2_with fail
  refine (new_yes _ 1 (by omega) (by omega)).mono ?_
  rintro e w1 ⟨rfl, hR1, hT1⟩
  go_wp2_with fail
  refine (keep_yes _ _ _ _ _ _ hR1 (by simp)).mono ?_
  rintro e w2 ⟨rfl, hR2, hT2⟩
  go_wp2_with fail
  refine (keep_no _ _ _ _ _ _ hR2 (by simp)).mono ?_
  rintro e w3 ⟨rfl, hR3, hT3⟩
  go_wp2_with fail
  refine (push_yes _ _ _ _ _ _ _ _ _ hR3 (by omega)).mono ?_
  rintro e w4 ⟨rfl, hR4, hT4⟩
  go_wp2_with fail
  refine (pop_yes _ _ _ _ _ _ _ _ _ hR4).mono ?_
  rintro e w5 ⟨rfl, hR5, hT5⟩
  go_wp2_with fail
  have hA := (Touch.refl (fun _ => False) w5).alloc (.cells #[.int .i64 3, .int .i64 0, .int .i64 0] 33)
  refine (keep_yes _ _ _ _ _ _ (hR5.touch hA (by simp) (by simp)) (by simp)).mono ?_
  rintro e w6 ⟨rfl, hR6, hT6⟩
  go_wp2
  go_ret
  refine ⟨rfl, ?_⟩
  have hz := hT1.size
  exact (((((hT1.trans hT2 (fun b hb h => by rcases h with h | h <;> omega)).trans hT3 (fun b hb h => by rcases h with h | h <;> omega)).trans hT4 (fun b hb h => by rcases h with h | h <;> omega)).trans hT5 (fun b hb h => by rcases h with h | h <;> omega)).trans hA (fun _ _ h => h)).trans hT6 (fun b hb h => by rcases h with h | h <;> omega)
end Go.Proofs.Ytmhdjedegkekeaa
