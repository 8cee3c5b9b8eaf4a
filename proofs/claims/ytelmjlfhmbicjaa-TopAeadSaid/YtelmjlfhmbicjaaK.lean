/- bits.Little. -/
import Derived.Test.YtelmjlfhmbicjaaJ
namespace Go.Proofs.Ytelmjlfhmbicjaa
open Go.RowKit
set_option linter.unusedVariables false

set_option maxHeartbeats 400000 in
theorem clone_any (w : World) (g off n c : Nat) (xs : List Int) (hx : xs.length = n) (hn : n ≤ 4096) (h : Byt w g off xs) :
    Calls Try.prog 34 #[.slice (some ⟨g, off, none⟩) n c] w fun e w' => ∃ A cap, e = .returned (.slice A n cap) ∧ Rest w' A cap xs ∧ Touch (fun _ => False) w w' ∧ ∀ a, A = some a → w.heap.size ≤ a.block := by
  subst hx
  have hnil : (binOp .eql 26 (.slice (some ⟨g, off, none⟩) xs.length c) (.slice none 0 0)).run Try.prog w = .ok (.bool false) w := by kernel_rfl
  have hbase : Rest (w.alloc (.cells #[] 5)) (some ⟨w.heap.size, 0, none⟩) 0 [] := .inr ⟨w.heap.size, 0, #[], rfl, Blk.new _ _ _, Nat.le_refl _, by omega, by simp, fun i hi => by simp at hi⟩
  have hT : Touch (fun _ => False) w (w.alloc (.cells #[] 5)) := (Touch.refl _ w).alloc _
  have hin : Inb (w.alloc (.cells #[] 5)) (some ⟨g, off, none⟩) xs := Inb.touch (.inr ⟨g, off, rfl, h⟩) hT (by simp)
  have H := Lib.hid (And.intro hbase (And.intro hin hT))
  clear hbase hin hT h
  go_enter Try.func34, Try.ntmps34
  go_wp2_with (at_builtin; refine wpList_rest_append rfl (.tmp 5) (.tmp 6) rfl (some ⟨w.heap.size, 0, none⟩) 0 [] rfl (some ⟨g, off, none⟩) c xs rfl H.out.1 H.out.2.1 (by simp; omega) ?_; intro A2 cap2 w2 hr2 hT2 hf2; have HR2 := Lib.hid (And.intro hr2 (And.intro hT2 hf2)); clear hr2 hT2 hf2)
  go_ret
  obtain ⟨hr2, hT2, hf2⟩ := HR2.out
  refine ⟨A2, cap2, by simp, by simpa using hr2, H.out.2.2.trans hT2 (fun b hb ⟨a, ha, e⟩ => by injection ha with ha; subst ha; simp at e; omega), fun a ha => ?_⟩
  rcases hf2 a ha with ⟨a0, h1, h2⟩ | h
  · injection h1 with h1; subst h1; simp at h2; omega
  · simp at h; omega

def littleF (xs : List Int) : Int := bigF (revF xs.length xs)
set_option maxHeartbeats 400000 in
theorem little_read (w : World) (g off n c : Nat) (xs : List Int) (hx : xs.length = n) (h1 : 1 ≤ n) (h8 : n ≤ 8) (hc : n ≤ c) (h : Byt w g off xs) :
    Calls Try.prog 29 #[.slice (some ⟨g, off, none⟩) n c] w fun e w' => e = .returned (.int .u64 (littleF xs)) ∧ Touch (fun _ => False) w w' := by
  have hmin : min (n : Int) 8 = n := by omega
  have hc0 : ¬ c = 0 := by omega
  have hci : (n : Int) ≤ c := by omega
  have H := Lib.hid (And.intro hx h)
  clear hx h
  go_enter Try.func29, Try.ntmps29
  go_wp2_with fail
  refine (clone_any w g off n c xs H.out.1 (by omega) H.out.2).mono ?_
  rintro e w2 ⟨A, cap, rfl, hr2, hT2, hn2⟩
  rcases hr2 with ⟨_, _, hx0⟩ | ⟨g2, o2, cur, rfl, hb2, hle2, _, hfit2, hat2⟩
  · have := H.out.1; rw [hx0] at this; simp at this; omega
  · have HA := Lib.hid (And.intro hb2 (And.intro hat2 (And.intro hT2 hn2)))
    clear hb2 hat2 hT2 hn2 hle2 hfit2
    go_wp2_with fail
    refine (rev_row w2 g2 o2 n cap 5 cur xs (by omega) h1 H.out.1 HA.out.1 HA.out.2.1).mono ?_
    rintro e w3 ⟨rfl, ⟨cur3, hb3, _, hat3⟩, hT3⟩
    have hl3 : (revF n xs).length = n := by rw [revF_len, H.out.1]
    have hby : Byt w3 g2 o2 (revF n xs) := fun i hi => by rw [hb3.cell, hat3 i hi]
    have hT03 : Touch (fun _ => False) w w3 := HA.out.2.2.1.trans hT3 (fun b hb e => by have := HA.out.2.2.2 _ rfl; simp at this; omega)
    have HB := Lib.hid (And.intro hl3 (And.intro hby hT03))
    clear hb3 hat3 hT3 hl3 hby hT03
    go_wp2_with fail
    refine (big_any w3 g2 o2 n cap (revF n xs) HB.out.1 (by omega) HB.out.2.1).mono ?_
    rintro e w4 ⟨rfl, rfl⟩
    go_wp2
    go_ret
    exact ⟨by rw [littleF, H.out.1]; rfl, HB.out.2.2⟩
end Go.Proofs.Ytelmjlfhmbicjaa
