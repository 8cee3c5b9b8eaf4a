/- Add refused; slices.Delete. -/
import Derived.Test.YtijdjcmdmppgaaaG
namespace Go.Proofs.Ytijdjcmdmppgaaa
open Go.RowKit
set_option linter.unusedVariables false

theorem add_neg (w : World) (S : Nat → Prop) (q o C k bt nx M : Nat) (L : Nat → List (Nat × Jb)) (id cl cls b : Int) (h : Que w S q o C k bt nx M L) (hcl : cl < 0) :
    Calls Try.prog 11 #[.pointer (some ⟨q, 0, none⟩), .agg #[.int .i64 id, .int .i64 cl, .int .i64 cls, .int .i64 b]] w fun e w' => e = .returned (.int .i64 1) ∧ Touch (fun _ => False) w w' := by
  have hx := Blk.new w 34 #[.int .i64 id, .int .i64 cl, .int .i64 cls, .int .i64 b]
  have j1 := hx.cell 1
  simp at j1
  have g1 : decide (cl < 0) = true := by simpa using hcl
  clear h hcl hx
  go_enter Try.func11, Try.ntmps11
  go_wp2
  refine wp_region_qall (by kernel_rfl) (by kernel_rfl) ?_
  repeat (first | go_big_quiet_skip | (go_big_quiet_want; go_big_quiet_op; go_big_quiet_on))
  refine wpQuiet_nil ?_
  go_wp2
  go_ret
  exact ⟨rfl, ((Touch.refl _ w).alloc _).drew⟩
theorem add_big (w : World) (S : Nat → Prop) (q o C k bt nx M : Nat) (L : Nat → List (Nat × Jb)) (id cl cls b : Int) (h : Que w S q o C k bt nx M L) (h0 : 0 ≤ cl) (hcl : (C : Int) ≤ cl) :
    Calls Try.prog 11 #[.pointer (some ⟨q, 0, none⟩), .agg #[.int .i64 id, .int .i64 cl, .int .i64 cls, .int .i64 b]] w fun e w' => e = .returned (.int .i64 1) ∧ Touch (fun _ => False) w w' := by
  obtain ⟨A, cp, h⟩ := h
  have hx := Blk.new w 34 #[.int .i64 id, .int .i64 cl, .int .i64 cls, .int .i64 b]
  have j1 := hx.cell 1
  have c0 := (h.hq.alloc (.cells #[.int .i64 id, .int .i64 cl, .int .i64 cls, .int .i64 b] 34)).cell 0
  simp at j1 c0
  have g1 : decide (cl < 0) = false := by simp; omega
  have g2 : decide ((C : Int) ≤ cl) = true := by simpa using hcl
  clear h hcl hx
  go_enter Try.func11, Try.ntmps11
  go_wp2
  refine wp_region_qall (by kernel_rfl) (by kernel_rfl) ?_
  repeat (first | go_big_quiet_skip | (go_big_quiet_want; go_big_quiet_op; go_big_quiet_on))
  refine wpQuiet_nil ?_
  go_wp2
  go_ret
  exact ⟨rfl, ((Touch.refl _ w).alloc _).drew⟩
theorem add_less (w : World) (S : Nat → Prop) (q o C k bt nx M : Nat) (L : Nat → List (Nat × Jb)) (id cl cls b : Int) (h : Que w S q o C k bt nx M L) (h0 : 0 ≤ cl) (hcl : cl < (C : Int)) (hb : b < 0) :
    Calls Try.prog 11 #[.pointer (some ⟨q, 0, none⟩), .agg #[.int .i64 id, .int .i64 cl, .int .i64 cls, .int .i64 b]] w fun e w' => e = .returned (.int .i64 1) ∧ Touch (fun _ => False) w w' := by
  obtain ⟨A, cp, h⟩ := h
  have hx := Blk.new w 34 #[.int .i64 id, .int .i64 cl, .int .i64 cls, .int .i64 b]
  have j1 := hx.cell 1
  have j3 := hx.cell 3
  have c0 := (h.hq.alloc (.cells #[.int .i64 id, .int .i64 cl, .int .i64 cls, .int .i64 b] 34)).cell 0
  simp at j1 j3 c0
  have g1 : decide (cl < 0) = false := by simp; omega
  have g2 : decide ((C : Int) ≤ cl) = false := by simp; omega
  have g3 : decide (b < 0) = true := by simpa using hb
  clear h hcl hx
  go_enter Try.func11, Try.ntmps11
  go_wp2
  refine wp_region_qall (by kernel_rfl) (by kernel_rfl) ?_
  repeat (first | go_big_quiet_skip | (go_big_quiet_want; go_big_quiet_op; go_big_quiet_on))
  refine wpQuiet_nil ?_
  go_wp2
  go_ret
  exact ⟨rfl, ((Touch.refl _ w).alloc _).drew⟩
theorem add_nil (w : World) (id cl cls b : Int) :
    Calls Try.prog 11 #[.pointer none, .agg #[.int .i64 id, .int .i64 cl, .int .i64 cls, .int .i64 b]] w fun e w' => e = .returned (.int .i64 1) ∧ Touch (fun _ => False) w w' := by
  go_enter Try.func11, Try.ntmps11
  go_wp2
  refine wp_region_qall (by kernel_rfl) (by kernel_rfl) ?_
  repeat (first | go_big_quiet_skip | (go_big_quiet_want; go_big_quiet_op; go_big_quiet_on))
  refine wpQuiet_nil ?_
  go_wp2
  go_ret
  exact ⟨rfl, ((Touch.refl _ w).alloc _).drew⟩
theorem add_dup (w : World) (S : Nat → Prop) (q o C k bt nx M c : Nat) (L : Nat → List (Nat × Jb)) (j : Jb) (h : Que w S q o C k bt nx M L) (hM : M ≤ 10000) (hcC : c < C) (hcl : j.client = c) (hyes : ∃ d p, d < C ∧ p ∈ L d ∧ p.2.id = j.id) :
    Calls Try.prog 11 #[.pointer (some ⟨q, 0, none⟩), .agg #[.int .i64 j.id, .int .i64 c, .int .i64 j.cls, .int .i64 j.bytes]] w fun e w' => e = .returned (.int .i64 1) ∧ Touch (fun _ => False) w w' := by
  obtain ⟨A, cp, h⟩ := h
  have hC := h.hC
  obtain ⟨w1, hw1⟩ : ∃ w1, w1 = w.alloc (.cells #[.int .i64 j.id, .int .i64 c, .int .i64 j.cls, .int .i64 j.bytes] 34) := ⟨_, rfl⟩
  have hT1 : Touch (fun _ => False) w w1 := by rw [hw1]; exact (Touch.refl _ w).alloc _
  have hj1 : Blk w1 w.heap.size 34 (jc j) := by rw [hw1]; unfold jc; rw [hcl]; exact Blk.new _ _ _
  have h1 := h.touch hT1 (fun _ _ h => h)
  have c0 := h1.hq.cell 0
  have j0 := hj1.cell 0
  have j1 := hj1.cell 1
  have j3 := hj1.cell 3
  simp [jc, hcl] at c0 j0 j1 j3
  have g1 : decide ((c : Int) < 0) = false := by simp
  have g2 : decide (C ≤ c) = false := by simp; omega
  have g3 : decide ((j.bytes : Int) < 0) = false := by simp
  have HQ := Lib.hid h1
  have HW := Lib.hid hw1
  have HY := Lib.hid hyes
  clear h h1 hw1 hcl hyes
  go_enter Try.func11, Try.ntmps11
  go_wp2
  rw [← HW.out]
  clear HW
  refine wp_region_qall (by kernel_rfl) (by kernel_rfl) ?_
  repeat (first | go_big_quiet_skip | (go_big_quiet_want; go_big_quiet_op; go_big_quiet_on))
  refine wpQuiet_nil ?_
  go_wp2_with fail
  have hQd : Que w1.drew S q o C k bt nx M L := Que.touch ⟨A, cp, HQ.out⟩ (Touch.refl (fun _ => False) w1).drew (fun _ _ h => h)
  refine (find_any _ S q o C k bt nx M L j.id hQd (by omega)).mono ?_
  rintro e w2 ⟨hT2, (⟨c', i, p, hcC', hi, hid, rfl⟩ | ⟨hall, rfl⟩)⟩
  · have HI := Lib.hid (And.intro hi hid)
    clear hi hid
    go_wp2
    go_ret
    exact ⟨rfl, (hT1.trans (Touch.refl _ w1).drew (fun _ _ h => h)).trans hT2 (fun _ _ h => h)⟩
  · obtain ⟨d, p, hd, hp, he⟩ := HY.out
    exact absurd he (hall d hd p hp)
end Go.Proofs.Ytijdjcmdmppgaaa
