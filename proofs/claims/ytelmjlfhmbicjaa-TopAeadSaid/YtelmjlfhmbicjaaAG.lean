/- TopAead's walk. -/
import Derived.Test.YtelmjlfhmbicjaaAF
import Derived.Laws.BytesArg
namespace Go.Proofs.Ytelmjlfhmbicjaa
open Go.RowKit
set_option linter.unusedVariables false

theorem conv_inb (w : World) (A : Option Addr) (n c : Nat) (xs : List Int) (hl : xs.length = n) (h : Inb w A xs) : (convert 26 9 (.slice A n c)).run Try.prog w = .ok (.string (strOfNums xs)) w := by
  have h26 : Try.prog.underlying 26 = some (.slice 5) := by kernel_rfl
  have h5 : Try.prog.underlying 5 = some (.int .u8) := by kernel_rfl
  have h9 : Try.prog.underlying 9 = some .string := by kernel_rfl
  subst hl
  rcases h with rfl | ⟨g, off, rfl, h⟩
  · cases A with
    | none => exact run_convert_bytes_nil w 26 5 h26 h5 0 c 9 h9
    | some a => exact run_convert_bytes_back w 26 9 5 a c [] h26 h5 h9 (fun j hj => by simp at hj)
  · exact run_convert_bytes_arg w 26 5 h26 h5 g off xs.length c xs rfl h 9 h9

theorem awake_any (w : World) : Calls Try.prog 11 #[] w fun e w' => e = .returned (.bool true) ∧ Touch (fun _ => False) w w' := by
  have hb : Byt (w.alloc (.cells #[.int .u8 1, .int .u8 2] 5)) w.heap.size 0 [1, 2] := fun i hi => by
    rw [(Blk.new w 5 #[.int .u8 1, .int .u8 2]).cell]
    match i, hi with
    | 0, _ => rfl
    | 1, _ => rfl
  go_enter Try.func11, Try.ntmps11
  go_wp2_with fail
  refine (big_any _ _ _ _ _ [1, 2] rfl (by simp) hb).mono ?_
  rintro e w2 ⟨rfl, rfl⟩
  have hv : bigF [1, 2] = 258 := by decide +kernel
  rw [hv]
  go_wp2
  go_ret
  exact ⟨rfl, (Touch.refl _ w).alloc _⟩

/-- What the law's first test lets by. -/
def Fits (aad b : List Int) : Prop := b.length ≤ 96 ∧ aad.length ≤ 96 ∧ b.length % 16 = 0 ∧ aad.length % 16 = 0

theorem law_out (w : World) (cs : Array Value) (aad b : List Int) (A1 A2 : Option Addr) (c1 c2 : Nat) (la : aad.length ≤ 9223372036854775807) (lb : b.length ≤ 9223372036854775807) (h : ¬ Fits aad b) :
    Calls Try.prog 3 #[.agg cs, .slice A1 aad.length c1, .slice A2 b.length c2] w fun e w' => e = .returned (.bool true) ∧ Below w.heap.size w w' := by
  by_cases h1 : b.length ≤ 96
  · have g1 : ¬ (96 : Int) < b.length := by omega
    by_cases h2 : aad.length ≤ 96
    · have g2 : ¬ (96 : Int) < aad.length := by omega
      by_cases h3 : b.length % 16 = 0
      · have g3 : (b.length : Int) % 16 = 0 := by omega
        have h4 : ¬ aad.length % 16 = 0 := fun h4 => h ⟨h1, h2, h3, h4⟩
        have g4 : ¬ (aad.length : Int) % 16 = 0 := by omega
        clear h h1 h2 h3 h4
        go_enter Try.func3, Try.ntmps3
        go_wp2
        go_ret
        exact ⟨rfl, ((Touch.refl (fun _ => False) w).alloc _).below _ (Nat.le_refl _) (by simp)⟩
      · have g3 : ¬ (b.length : Int) % 16 = 0 := by omega
        clear h h1 h2 h3
        go_enter Try.func3, Try.ntmps3
        go_wp2
        go_ret
        exact ⟨rfl, ((Touch.refl (fun _ => False) w).alloc _).below _ (Nat.le_refl _) (by simp)⟩
    · have g2 : (96 : Int) < aad.length := by omega
      clear h h1 h2
      go_enter Try.func3, Try.ntmps3
      go_wp2
      go_ret
      exact ⟨rfl, ((Touch.refl (fun _ => False) w).alloc _).below _ (Nat.le_refl _) (by simp)⟩
  · have g1 : (96 : Int) < b.length := by omega
    clear h h1
    go_enter Try.func3, Try.ntmps3
    go_wp2
    go_ret
    exact ⟨rfl, ((Touch.refl (fun _ => False) w).alloc _).below _ (Nat.le_refl _) (by simp)⟩
end Go.Proofs.Ytelmjlfhmbicjaa
