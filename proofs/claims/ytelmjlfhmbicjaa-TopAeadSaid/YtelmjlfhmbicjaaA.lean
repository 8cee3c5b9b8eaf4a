/- bits: Left, turned, Big. -/
import Derived.Test.YtelmjlfhmbicjaaReg
import Derived.Test.YtelmjlfhmbicjaaRows
namespace Go.Proofs.Ytelmjlfhmbicjaa
open Go.RowKit
set_option linter.unusedVariables false

theorem and_u64 (x y : Int) : 0 ≤ bits .and .u64 x y := by
  unfold bits
  simp [IntKind.wrap, IntKind.bits, IntKind.signed]
  try omega

/-- What a turn to the left yields. -/
def rotF (x n : Int) : Int := bits .or .u32 (x * 2 ^ min (bits .and .u64 (IntKind.u64.wrap n) 31).toNat 32 % 4294967296) (x / 2 ^ min (IntKind.u64.wrap (32 - bits .and .u64 (IntKind.u64.wrap n) 31)).toNat 32)

theorem rot_any (x n : Int) (w : World) : Calls Try.prog 36 #[.int .u32 x, .int .i64 n] w fun e w' => e = .returned (.int .u32 (rotF x n)) ∧ w' = w := by
  have h1 := and_u64 (IntKind.u64.wrap n) 31
  go_enter Try.func36, Try.ntmps36
  go_wp2
  go_ret
  exact ⟨rfl, rfl⟩
theorem left_any (x n : Int) (w : World) : Calls Try.prog 30 #[.int .u32 x, .int .i64 n] w fun e w' => e = .returned (.int .u32 (rotF x n)) ∧ w' = w := by
  go_enter Try.func30, Try.ntmps30
  go_wp2_with fail
  refine (rot_any _ _ _).mono ?_
  rintro e w1 ⟨rfl, rfl⟩
  go_wp2
  go_ret
  exact ⟨rfl, rfl⟩

/-- These bytes lie in block g from off on. -/
def Byt (w : World) (g off : Nat) (xs : List Int) : Prop := ∀ i, i < xs.length → w.cell? ⟨g, off + i, none⟩ = some (.int .u8 (xs.getD i 0))

/-- Bytes as a number. -/
def bigF (xs : List Int) : Int := xs.foldl (fun a x => bits .or .u64 (IntKind.u64.wrap (a * 256)) (IntKind.u64.wrap x)) 0
theorem bigF_step (xs : List Int) (j : Nat) (hj : j < xs.length) : bigF (xs.take (j + 1)) = bits .or .u64 (IntKind.u64.wrap (bigF (xs.take j) * 256)) (IntKind.u64.wrap (xs.getD j 0)) := by
  unfold bigF
  rw [List.take_add_one, List.foldl_append]
  simp [List.getElem?_eq_getElem hj, List.getD]

set_option maxHeartbeats 1000000 in
theorem big_any (w : World) (g off n c : Nat) (xs : List Int) (hn : xs.length = n) (hn2 : n ≤ 4611686018427387904) (h : Byt w g off xs) :
    Calls Try.prog 28 #[.slice (some ⟨g, off, none⟩) n c] w fun e w' => e = .returned (.int .u64 (bigF xs)) ∧ w' = w := by
  have H := Lib.hid h
  have HN := Lib.hid hn
  clear h hn
  go_enter Try.func28, Try.ntmps28
  go_wp2_with fail
  go_loopw [3, 8] (fun a i wr => ∃ j : Nat, j ≤ n ∧ i = .int .i64 j ∧ a = .int .u64 (bigF (xs.take j)) ∧ wr = w) (fun _ i _ => n - (intOf i).toNat)
  case atStart => exact ⟨0, by omega, rfl, rfl, rfl⟩
  case round =>
    obtain ⟨j, hj, rfl, rfl, rfl⟩ := hrel
    by_cases hjn : j < n
    · have hx := H.out j (by have := HN.out; omega)
      obtain ⟨x, hxx⟩ : ∃ x, x = xs.getD j 0 := ⟨_, rfl⟩
      rw [← hxx] at hx
      have HX := Lib.hid hxx
      clear hxx
      go_wp2
      refine ⟨⟨j + 1, by omega, by go_num, ?_, trivial⟩, by simp [intOf]; omega⟩
      rw [bigF_step xs j (by have := HN.out; omega), HX.out]
    · go_wp2
      go_ret
      refine ⟨?_, rfl⟩
      rw [List.take_of_length_le (by have := HN.out; omega)]
      rfl

end Go.Proofs.Ytelmjlfhmbicjaa
