/- The document's Meet. -/
import Derived.Test.YtgoeocfgajbldaaP
namespace Go.Proofs.Ytgoeocfgajbldaa
open Go.RowKit
set_option linter.unusedVariables false

def mtI (s t : SI) : Bool := meetsB (toSp s) (toSp t)
theorem smI_iff {s : SI} (h : smI s = true) : 0 ≤ s.1 ∧ s.1 < 2147483648 ∧ 0 ≤ s.2 ∧ s.2 < 2147483648 := by
  unfold smI at h
  simpa [Bool.and_eq_true, and_assoc] using h

theorem meets28_any (w : World) (s t : SI) (hs : smI s = true) (ht : smI t = true) :
    Calls Try.prog 28 #[.agg #[.int .i64 s.1, .int .i64 s.2], .agg #[.int .i64 t.1, .int .i64 t.2]] w fun e w' => e = .returned (.bool (mtI s t)) ∧ Touch (fun _ => False) w w' := by
  obtain ⟨R, hR⟩ : ∃ R, R = mtI s t := ⟨_, rfl⟩
  rw [← hR]
  have s1 := smI_iff hs
  have t1 := smI_iff ht
  obtain ⟨a, n⟩ := s
  obtain ⟨b, m⟩ := t
  have hRe : R = (decide (0 < n) && decide (0 < m) && decide (a < b + m) && decide (b < a + n)) := by
    rw [hR]
    unfold mtI meetsB toSp
    dsimp only at s1 t1 ⊢
    rw [Bool.eq_iff_iff]
    simp only [Bool.and_eq_true, decide_eq_true_eq]
    omega
  clear hR hs ht
  dsimp only at s1 t1 ⊢
  obtain ⟨W, hW⟩ : ∃ W, W = (w.alloc (.cells #[.int .i64 a, .int .i64 n] 25)).alloc (.cells #[.int .i64 b, .int .i64 m] 25) := ⟨_, rfl⟩
  have hT : Touch (fun _ => False) w W := by rw [hW]; exact ((Touch.refl _ w).alloc _).alloc _
  have hb1 : Blk W w.heap.size 25 #[.int .i64 a, .int .i64 n] := by rw [hW]; exact (Blk.new _ _ _).alloc _
  have hb2 : Blk W (w.heap.size + 1) 25 #[.int .i64 b, .int .i64 m] := by
    have := Blk.new (w.alloc (.cells #[.int .i64 a, .int .i64 n] 25)) 25 #[.int .i64 b, .int .i64 m]
    rw [World.size_alloc] at this
    rw [hW]; exact this
  have a0 := hb1.cell 0
  have a1 := hb1.cell 1
  have b0 := hb2.cell 0
  have b1 := hb2.cell 1
  simp only [List.getElem?_toArray, List.getElem?_cons_zero, List.getElem?_cons_succ] at a0 a1 b0 b1
  have w1 : wrap64 (a + n) = a + n := by unfold wrap64; omega
  have w2 : wrap64 (b + m) = b + m := by unfold wrap64; omega
  have H := Lib.hid (And.intro hT hRe)
  clear hT hRe hb1 hb2
  go_enter Try.func28, Try.ntmps28
  go_upto_region 1 with fail
  refine Eq.mp (congrArg (fun x => Code.wp _ _ _ _ x) hW) ?_
  clear hW
  by_cases h1 : n ≤ 0
  · have hf : R = false := by rw [H.out.2, decide_eq_false (show ¬ 0 < n by omega)]; rfl
    subst hf
    go_wp2
    go_ret
    exact ⟨rfl, H.out.1⟩
  · by_cases h2 : m ≤ 0
    · have hf : R = false := by rw [H.out.2, decide_eq_false (show ¬ 0 < m by omega)]; simp
      subst hf
      go_wp2
      go_ret
      exact ⟨rfl, H.out.1⟩
    · by_cases h3 : a ≤ b
      · have hf : R = decide (b < a + n) := by
          rw [H.out.2, decide_eq_true (show 0 < n by omega), decide_eq_true (show 0 < m by omega), decide_eq_true (show a < b + m by omega)]; rfl
        have HF := Lib.hid hf
        clear hf
        go_wp2
        go_ret
        exact ⟨by rw [HF.out]; rfl, H.out.1⟩
      · have hf : R = decide (a < b + m) := by
          rw [H.out.2, decide_eq_true (show 0 < n by omega), decide_eq_true (show 0 < m by omega), decide_eq_true (show b < a + n by omega)]; simp
        have HF := Lib.hid hf
        clear hf
        go_wp2
        go_ret
        exact ⟨by rw [HF.out]; rfl, H.out.1⟩
end Go.Proofs.Ytgoeocfgajbldaa
