/- chacha: Quarter. -/
import Derived.Test.YtelmjlfhmbicjaaH
import Derived.Test.YtelmjlfhmbicjaaF
namespace Go.Proofs.Ytelmjlfhmbicjaa
open Go.RowKit
set_option linter.unusedVariables false

/-- Half a quarter round. -/
def qA (a b : Int) : Int := (a + b) % 4294967296
def qD (a b d : Int) (t : Int) : Int := rotF (bits .xor .u32 d (qA a b)) t
def qC (a b c d : Int) (t : Int) : Int := (c + qD a b d t) % 4294967296
def qB (a b c d : Int) (t u : Int) : Int := rotF (bits .xor .u32 b (qC a b c d t)) u
def q1 (a b c d t u : Int) : Int × Int × Int × Int := (qA a b, qB a b c d t u, qC a b c d t, qD a b d t)
def quarterF (a b c d : Int) : Int × Int × Int × Int :=
  let s := q1 a b c d 16 12
  q1 s.1 s.2.1 s.2.2.1 s.2.2.2 8 7

theorem ix70a (W : World) : (Instr.index 70 (.agg #[.int .i64 16, .int .i64 12, .int .i64 8, .int .i64 7]) (.int .i64 0)).run Try.prog W = .ok (.agg #[.int .i64 16, .int .i64 12]) W := by kernel_rfl
theorem ix70b (W : World) : (Instr.index 70 (.agg #[.int .i64 16, .int .i64 12, .int .i64 8, .int .i64 7]) (.int .i64 1)).run Try.prog W = .ok (.agg #[.int .i64 8, .int .i64 7]) W := by kernel_rfl

set_option maxHeartbeats 1000000 in
theorem quarter_any (w : World) (a b c d : Int) : Calls Try.prog 17 #[.int .u32 a, .int .u32 b, .int .u32 c, .int .u32 d] w fun e w' =>
    e = .returned (.tuple #[.int .u32 (quarterF a b c d).1, .int .u32 (quarterF a b c d).2.1, .int .u32 (quarterF a b c d).2.2.1, .int .u32 (quarterF a b c d).2.2.2]) ∧ Touch (fun _ => False) w w' := by
  go_enter Try.func17, Try.ntmps17
  go_wp2_with fail
  go_loopw [0, 1, 2, 3, 17] (fun s0 s1 s2 s3 i wr => Touch (fun _ => False) w wr ∧ ((i = .int .i64 0 ∧ s0 = .int .u32 a ∧ s1 = .int .u32 b ∧ s2 = .int .u32 c ∧ s3 = .int .u32 d) ∨
    (i = .int .i64 1 ∧ s0 = .int .u32 (q1 a b c d 16 12).1 ∧ s1 = .int .u32 (q1 a b c d 16 12).2.1 ∧ s2 = .int .u32 (q1 a b c d 16 12).2.2.1 ∧ s3 = .int .u32 (q1 a b c d 16 12).2.2.2) ∨
    (i = .int .i64 2 ∧ s0 = .int .u32 (quarterF a b c d).1 ∧ s1 = .int .u32 (quarterF a b c d).2.1 ∧ s2 = .int .u32 (quarterF a b c d).2.2.1 ∧ s3 = .int .u32 (quarterF a b c d).2.2.2))) (fun _ _ _ _ i _ => 2 - (intOf i).toNat)
  case atStart => exact ⟨Touch.refl _ _, .inl ⟨rfl, rfl, rfl, rfl, rfl⟩⟩
  case round =>
    obtain ⟨hT, ⟨rfl, rfl, rfl, rfl, rfl⟩ | ⟨rfl, rfl, rfl, rfl, rfl⟩ | ⟨rfl, rfl, rfl, rfl, rfl⟩⟩ := hrel
    · have hix := ix70a wr
      go_wp2_with fail
      refine (left_any _ _ _).mono ?_
      rintro e w2 ⟨rfl, rfl⟩
      go_wp2_with fail
      refine (left_any _ _ _).mono ?_
      rintro e w3 ⟨rfl, rfl⟩
      go_wp2
      go_roundw
      case rel => exact ⟨hT.alloc _, .inr (.inl ⟨rfl, rfl, rfl, rfl, rfl⟩)⟩
      case measure => simp [intOf]
    · obtain ⟨a2, b2, c2, d2, hq⟩ : ∃ a2 b2 c2 d2, q1 a b c d 16 12 = (a2, b2, c2, d2) := ⟨_, _, _, _, rfl⟩
      have HQ := Lib.hid hq
      rw [hq]
      clear hq
      have hix := ix70b wr
      go_wp2_with fail
      refine (left_any _ _ _).mono ?_
      rintro e w2 ⟨rfl, rfl⟩
      go_wp2_with fail
      refine (left_any _ _ _).mono ?_
      rintro e w3 ⟨rfl, rfl⟩
      go_wp2
      go_roundw
      case rel =>
        refine ⟨hT.alloc _, .inr (.inr ⟨rfl, ?_, ?_, ?_, ?_⟩)⟩ <;> (unfold quarterF; rw [HQ.out]; rfl)
      case measure => simp [intOf]
    · go_wp2
      refine bodyPost_ret (by simp only [results, Try.results17]; simp [go_sem]) rfl ⟨rfl, hT⟩
end Go.Proofs.Ytelmjlfhmbicjaa
