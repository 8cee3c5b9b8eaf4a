/- PutLittle, PutBig; sha: Start, New, Out. -/
import Derived.Test.YtelmjlfhmbicjaaE
import Derived.Laws.CopyOwn
namespace Go.Proofs.Ytelmjlfhmbicjaa
open Go.RowKit
set_option linter.unusedVariables false

def leL (x : Int) (n : Nat) : List Int := (List.range n).map (leF x)
theorem leL_len (x : Int) (n : Nat) : (leL x n).length = n := by simp [leL]
theorem enter30 (g : Nat) (j : Int) (w : World) : (callFunc 23 (#[.int .i64 j] ++ #[.pointer (some ⟨g, 0, none⟩)])).run Try.prog w = .ok (.enter 23 (#[.int .i64 j] ++ #[.pointer (some ⟨g, 0, none⟩)])) w := by kernel_rfl

theorem little_any (w : World) (x : Int) (n : Nat) (hn : n ≤ 8) :
    Calls Try.prog 8 #[.int .u64 x, .int .i64 n] w fun e w' => e = .returned (.slice (some ⟨w.heap.size + 1, 0, none⟩) n n) ∧ Blk w' (w.heap.size + 1) 5 (U8A (leL x n)) ∧ Touch (fun _ => False) w w' := by
  have hb := Blk.new w 38 #[.int .u64 x]
  have hT : Touch (fun _ => False) w (w.alloc (.cells #[.int .u64 x] 38)) := (Touch.refl _ w).alloc _
  have HP := Lib.hid (puts_any (w.alloc (.cells #[.int .u64 x] 38)) n 23 #[.pointer (some ⟨w.heap.size, 0, none⟩)] (leL x n) (by omega) (leL_len x n) (fun j w => enter30 _ j w)
    (fun j w' hj hT' => by
      have := le_any w' w.heap.size j x (by omega) (hb.touch hT' (by simp))
      rw [show (leL x n).getD j 0 = leF x j from by simp [leL, List.getD, hj]]
      exact this.mono (fun e w'' h => ⟨h.1, by rw [h.2]; exact Touch.refl _ _⟩)))
  go_enter Try.func8, Try.ntmps8
  go_wp2_with fail
  refine HP.out.mono ?_
  rintro e w2 ⟨rfl, hb2, hT2⟩
  rw [World.size_alloc] at hb2 ⊢
  go_wp2
  go_ret
  exact ⟨rfl, hb2, hT.trans hT2 (by simp)⟩

end Go.Proofs.Ytelmjlfhmbicjaa
