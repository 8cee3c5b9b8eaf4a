/- awake. -/
import Derived.Test.YtijdjcmdmppgaaaT
namespace Go.Proofs.Ytijdjcmdmppgaaa
open Go.RowKit
set_option linter.unusedVariables false

theorem rw_new (w : World) (xs : List Int) : Rw (w.alloc (.cells (iv xs).toArray 3)) 3 (some ⟨w.heap.size, 0, none⟩) xs.length (iv xs) ∨ ¬ xs.length ≤ 9223372036854775807 := by
  by_cases h : xs.length ≤ 9223372036854775807
  · exact .inl (.inr ⟨w.heap.size, _, rfl, Blk.new w 3 _, by simp [iv], h, by simp [iv], fun i hi => by simp⟩)
  · exact .inr h

theorem tickD (w : World) (S : Nat → Prop) (q C k bt nx M : Nat) (P P' : Nat → List Jb) (B D : List Jb) (n1 n2 nx' : Nat) (h : Qm w S q C k bt nx M P) (hM : M ≤ 10000) (hB : B = batchP P C nx bt) (hD : D = doneP k B) (hP : P' = hitsP k P B) (hn : nx' = nextP C nx B) (h1 : B.length = n1) (h2 : D.length = n2) :
    Calls Try.prog 13 #[.pointer (some ⟨q, 0, none⟩)] w fun e w' => ∃ (A1 : Option Addr) (c1 : Nat) (A2 : Option Addr) (c2 : Nat), e = .returned (.tuple #[.slice A1 n1 c1, .slice A2 n2 c2]) ∧ Rw w' 3 A1 c1 (iv (B.map (·.id))) ∧ Rw w' 3 A2 c2 (iv (D.map (·.id))) ∧
      (∀ a, A1 = some a → w.heap.size ≤ a.block) ∧ (∀ a, A2 = some a → w.heap.size ≤ a.block) ∧ Qm w' S q C k bt nx' M P' ∧ Touch S w w' := by
  refine (tickP w S q C k bt nx M P h hM B hB).mono ?_
  rintro e w' ⟨A1, c1, A2, c2, rfl, r1, r2, f1, f2, hq, ht⟩
  subst hD hP hn h1 h2
  exact ⟨A1, c1, A2, c2, rfl, by rw [← iv_ids]; exact r1, by rw [← iv_ids]; exact r2, f1, f2, hq, ht⟩

theorem awake_any (w : World) : Calls Try.prog 9 #[] w fun e w' => e = .returned (.bool true) ∧ Touch (fun _ => False) w w' := by
  go_enter Try.func9, Try.ntmps9
  go_wp2_with fail
  refine (newP _ 2 4 2 (by omega) (by omega) (by omega) (by omega) (by omega) (by omega)).mono ?_
  rintro e w1 ⟨S1, q, rfl, hQ1, hT1, hF1⟩
  go_wp2_with fail
  refine (addP _ S1 q 2 4 2 0 0 _ ⟨1, 0, 0, 5⟩ hQ1 (by omega) (by decide) (by decide) (by intro c hc j hj; simp at hj)).mono ?_
  rintro e w2 ⟨S2, rfl, hQ2, hT2, hF2⟩
  go_wp2_with fail
  refine (addP _ S2 q 2 4 2 0 1 _ ⟨2, 1, 0, 5⟩ hQ2 (by omega) (by decide) (by decide) (by
    intro c hc j hj
    by_cases h : c = 0
    · subst h
      rw [upd_same] at hj
      simp at hj; subst hj; decide
    · rw [upd_ne _ _ h] at hj; simp at hj)).mono ?_
  rintro e w3 ⟨S3, rfl, hQ3, hT3, hF3⟩
  go_wp2_with fail
  refine (tickD _ S3 q 2 4 2 0 2 _ _ [⟨1, 0, 0, 5⟩, ⟨2, 1, 0, 5⟩] [] 2 0 1 hQ3 (by omega) (by kernel_rfl) (by kernel_rfl) rfl (by kernel_rfl) rfl rfl).mono ?_
  rintro e w4 ⟨A1, c1, A2, c2, rfl, r1, r2, f1, f2, hQ4, hT4⟩
  go_wp2_with fail
  refine (tickD _ S3 q 2 4 2 1 2 _ _ [⟨2, 1, 0, 1⟩, ⟨1, 0, 0, 1⟩] [⟨2, 1, 0, 1⟩, ⟨1, 0, 0, 1⟩] 2 2 0 hQ4 (by omega) (by kernel_rfl) (by kernel_rfl) rfl (by kernel_rfl) rfl rfl).mono ?_
  rintro e w5 ⟨A3, c3, A4, c4, rfl, r3, r4, f3, f4, hQ5, hT5⟩
  have hz1 := hT1.size
  have hz2 := hT2.size
  have hz3 := hT3.size
  have hz4 := hT4.size
  have hS3 : ∀ b, S3 b → b < w3.heap.size := hQ3.lt
  have hw5 : Touch S3 w3 w5 := hT4.trans hT5 (fun _ _ h => h)
  have r1' := r1.touch hT5 (fun a ha hs => by have := hS3 _ hs; have := f1 a ha; omega)
  have hfr : ∀ b, S3 b → w.heap.size ≤ b := fun b hb => by
    rcases hF3 b hb with h | h
    · rcases hF2 b h with h | h
      · exact hF1 b h
      · omega
    · omega
  have hall : Touch (fun _ => False) w w5 := ((hT1.trans hT2 (fun b hb h => by have := hF1 b h; omega)).trans hT3 (fun b hb h => by
    rcases hF2 b h with h | h
    · have := hF1 b h; omega
    · omega)).trans hw5 (fun b hb h => by have := hfr b h; omega)
  clear hQ1 hQ2 hQ3 hQ4 hQ5 hT1 hT2 hT3 hT4 hT5 hw5 r1 hS3 hfr r2 r3 hF1 hF2 hF3 f1 f2 f3 f4
  have hn1 : Rw (w5.alloc (.cells #[.int .i64 1, .int .i64 2] 3)) 3 (some ⟨w5.heap.size, 0, none⟩) 2 (iv [1, 2]) := .inr ⟨w5.heap.size, _, rfl, Blk.new _ _ _, by decide, by decide, by decide, fun i hi => by simp [iv]⟩
  have hr1 := r1'.touch ((Touch.refl (fun _ => False) w5).alloc (.cells #[.int .i64 1, .int .i64 2] 3)) (fun _ _ h => h)
  go_wp2_with fail
  refine (num_yes _ _ _ _ _ 2 [1, 2] rfl hr1 hn1 (by omega)).mono ?_
  rintro e w6 ⟨rfl, hT6⟩
  have hT56 : Touch (fun _ => False) w5 w6 := ((Touch.refl _ w5).alloc _).trans hT6 (fun _ _ h => h)
  have hn2 : Rw (w6.alloc (.cells #[.int .i64 2, .int .i64 1] 3)) 3 (some ⟨w6.heap.size, 0, none⟩) 2 (iv [2, 1]) := .inr ⟨w6.heap.size, _, rfl, Blk.new _ _ _, by decide, by decide, by decide, fun i hi => by simp [iv]⟩
  have hr2 := (r4.touch hT56 (fun _ _ h => h)).touch ((Touch.refl (fun _ => False) w6).alloc (.cells #[.int .i64 2, .int .i64 1] 3)) (fun _ _ h => h)
  clear hn1 hr1 r1' r4
  go_wp2_with fail
  refine (num_yes _ _ _ _ _ 2 [2, 1] rfl hr2 hn2 (by omega)).mono ?_
  rintro e w7 ⟨rfl, hT7⟩
  go_wp2
  go_ret
  exact ⟨rfl, ((hall.trans hT56 (fun _ _ h => h)).alloc _).trans hT7 (fun _ _ h => h)⟩
end Go.Proofs.Ytijdjcmdmppgaaa
