/- PutLittle, PutBig; sha: Start, New, Out. -/
import Derived.Test.YtelmjlfhmbicjaaDoorE
import Derived.Laws.CopyOwn
namespace Go.Proofs.YtelmjlfhmbicjaaDoor
open Go.RowKit
set_option linter.unusedVariables false

def leL (x : Int) (n : Nat) : List Int := (List.range n).map (leF x)
theorem leL_len (x : Int) (n : Nat) : (leL x n).length = n := by simp [leL]
theorem enter30 (g : Nat) (j : Int) (w : World) : (callFunc 30 (#[.int .i64 j] ++ #[.pointer (some ⟨g, 0, none⟩)])).run Tryd.prog w = .ok (.enter 30 (#[.int .i64 j] ++ #[.pointer (some ⟨g, 0, none⟩)])) w := by kernel_rfl

theorem little_any (w : World) (x : Int) (n : Nat) (hn : n ≤ 8) :
    Calls Tryd.prog 24 #[.int .u64 x, .int .i64 n] w fun e w' => e = .returned (.slice (some ⟨w.heap.size + 1, 0, none⟩) n n) ∧ Blk w' (w.heap.size + 1) 5 (U8A (leL x n)) ∧ Touch (fun _ => False) w w' := by
  have hb := Blk.new w 42 #[.int .u64 x]
  have hT : Touch (fun _ => False) w (w.alloc (.cells #[.int .u64 x] 42)) := (Touch.refl _ w).alloc _
  have HP := Lib.hid (puts_any (w.alloc (.cells #[.int .u64 x] 42)) n 30 #[.pointer (some ⟨w.heap.size, 0, none⟩)] (leL x n) (by omega) (leL_len x n) (fun j w => enter30 _ j w)
    (fun j w' hj hT' => by
      have := le_any w' w.heap.size j x (by omega) (hb.touch hT' (by simp))
      rw [show (leL x n).getD j 0 = leF x j from by simp [leL, List.getD, hj]]
      exact this.mono (fun e w'' h => ⟨h.1, by rw [h.2]; exact Touch.refl _ _⟩)))
  go_enter Tryd.func24, Tryd.ntmps24
  go_wp2_with fail
  refine HP.out.mono ?_
  rintro e w2 ⟨rfl, hb2, hT2⟩
  rw [World.size_alloc] at hb2 ⊢
  go_wp2
  go_ret
  exact ⟨rfl, hb2, hT.trans hT2 (by simp)⟩

def beL (x : Int) (n : Nat) : List Int := revF n (leL x n)
theorem beL_len (x : Int) (n : Nat) : (beL x n).length = n := by rw [beL, revF_len, leL_len]
theorem big_put (w : World) (x : Int) (n : Nat) (hn : n ≤ 8) (h1 : 1 ≤ n) :
    Calls Tryd.prog 19 #[.int .u64 x, .int .i64 n] w fun e w' => e = .returned (.slice (some ⟨w.heap.size + 1, 0, none⟩) n n) ∧ Blk w' (w.heap.size + 1) 5 (U8A (beL x n)) ∧ Touch (fun _ => False) w w' := by
  go_enter Tryd.func19, Tryd.ntmps19
  go_wp2_with fail
  refine (little_any _ _ _ hn).mono ?_
  rintro e w2 ⟨rfl, hb2, hT2⟩
  go_wp2_with fail
  refine (rev_any _ _ _ _ _ _ (by omega) h1 (leL_len x n) hb2).mono ?_
  rintro e w3 ⟨rfl, hb3, hT3⟩
  go_wp2
  go_ret
  exact ⟨rfl, hb3, hT2.trans hT3 (by intro b hb e; omega)⟩

def start : List Int := [1779033703, 3144134277, 1013904242, 2773480762, 1359893119, 2600822924, 528734635, 1541459225]
theorem start_any (w : World) : Calls Tryd.prog 9 #[] w fun e w' => e = .returned (.agg #[.int .u32 1779033703, .int .u32 3144134277, .int .u32 1013904242, .int .u32 2773480762, .int .u32 1359893119, .int .u32 2600822924, .int .u32 528734635, .int .u32 1541459225]) ∧ Touch (fun _ => False) w w' := by
  go_enter Tryd.func9, Tryd.ntmps9
  go_wp2
  have hb := Blk.new w 33 #[.int .u32 1779033703, .int .u32 3144134277, .int .u32 1013904242, .int .u32 2773480762, .int .u32 1359893119, .int .u32 2600822924, .int .u32 528734635, .int .u32 1541459225]
  refine bodyPost_ret (v := .agg #[.int .u32 1779033703, .int .u32 3144134277, .int .u32 1013904242, .int .u32 2773480762, .int .u32 1359893119, .int .u32 2600822924, .int .u32 528734635, .int .u32 1541459225]) (results_cell_row (P := Tryd.prog) rfl _ _ w.heap.size 33 _ (0, 0) (.array 8 32) rfl hb (by kernel_rfl) rfl (by kernel_rfl)) rfl ⟨rfl, ?_⟩
  exact (Touch.refl _ w).alloc _

/-- A state's cells. -/
def shaA (hs : List Int) (v : Value) (N : Int) : Array Value := (hs.map (Value.int .u32) ++ [v, .int .i64 N]).toArray

theorem new_any (w : World) : Calls Tryd.prog 4 #[] w fun e w' => ∃ sb, w.heap.size ≤ sb ∧ e = .returned (.pointer (some ⟨sb, 0, none⟩)) ∧ Blk w' sb 36 (shaA start (.slice none 0 0) 0) ∧ Touch (fun _ => False) w w' := by
  go_enter Tryd.func4, Tryd.ntmps4
  go_wp2_with fail
  refine (start_any _).mono ?_
  rintro e w2 ⟨rfl, hT2⟩
  go_wp2
  go_ret
  exact ⟨w2.heap.size, hT2.size, rfl, Blk.new _ _ _, hT2.alloc _⟩
end Go.Proofs.YtelmjlfhmbicjaaDoor
