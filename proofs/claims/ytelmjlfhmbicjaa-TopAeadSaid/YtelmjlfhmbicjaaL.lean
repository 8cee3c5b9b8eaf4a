/- bits.Xor at any length. -/
import Derived.Test.YtelmjlfhmbicjaaK
namespace Go.Proofs.Ytelmjlfhmbicjaa
open Go.RowKit
set_option linter.unusedVariables false

theorem xorc_any (w : World) (p1 p2 g1 g2 o1 o2 n j c1 c2 : Nat) (x y : Int) (hj : j < n) (h1 : Blk w p1 26 #[.slice (some ⟨g1, o1, none⟩) n c1]) (h2 : Blk w p2 26 #[.slice (some ⟨g2, o2, none⟩) n c2])
    (hx : w.cell? ⟨g1, o1 + j, none⟩ = some (.int .u8 x)) (hy : w.cell? ⟨g2, o2 + j, none⟩ = some (.int .u8 y)) :
    Calls Try.prog 33 #[.int .i64 j, .pointer (some ⟨p1, 0, none⟩), .pointer (some ⟨p2, 0, none⟩)] w fun e w' => e = .returned (.int .u8 (bits .xor .u8 x y)) ∧ w' = w.drew := by
  have e1 := h1.drew.cell 0
  have e2 := h2.drew.cell 0
  simp only [List.getElem?_toArray, List.getElem?_cons_zero] at e1 e2
  have hj' : (j : Int) < n := by omega
  have hx' : w.drew.cell? ⟨g1, o1 + j, none⟩ = some (.int .u8 x) := hx
  have hy' : w.drew.cell? ⟨g2, o2 + j, none⟩ = some (.int .u8 y) := hy
  go_enter Try.func33, Try.ntmps33
  go_wp2_with fail
  refine wp_region_qall (by kernel_rfl) (by kernel_rfl) ?_
  repeat (first | go_big_quiet_skip | (go_big_quiet_want; go_big_quiet_op; go_big_quiet_on))
  refine wpQuiet_nil ?_
  go_wp2
  go_ret
  exact ⟨rfl, rfl⟩

def xorF (xs ys : List Int) : List Int := (List.range xs.length).map fun i => bits .xor .u8 (xs.getD i 0) (ys.getD i 0)
theorem xorF_len (xs ys : List Int) : (xorF xs ys).length = xs.length := by simp [xorF]
theorem enter33 (a b : Nat) (j : Int) (w : World) : (callFunc 33 (#[.int .i64 j] ++ #[.pointer (some ⟨a, 0, none⟩), .pointer (some ⟨b, 0, none⟩)])).run Try.prog w = .ok (.enter 33 (#[.int .i64 j] ++ #[.pointer (some ⟨a, 0, none⟩), .pointer (some ⟨b, 0, none⟩)])) w := by kernel_rfl

set_option maxHeartbeats 400000 in
theorem xor_any (w : World) (g1 g2 o1 o2 n c1 c2 : Nat) (xs ys : List Int) (hx : xs.length = n) (hy : ys.length = n) (hn : n ≤ 4096) (h1 : Byt w g1 o1 xs) (h2 : Byt w g2 o2 ys) :
    Calls Try.prog 26 #[.slice (some ⟨g1, o1, none⟩) n c1, .slice (some ⟨g2, o2, none⟩) n c2] w fun e w' => e = .returned (.slice (some ⟨w.heap.size + 2, 0, none⟩) n n) ∧ Blk w' (w.heap.size + 2) 5 (U8A (xorF xs ys)) ∧ Touch (fun _ => False) w w' := by
  obtain ⟨w1, hw1⟩ : ∃ w1, w1 = (w.alloc (.cells #[.slice (some ⟨g1, o1, none⟩) n c1] 26)).alloc (.cells #[.slice (some ⟨g2, o2, none⟩) n c2] 26) := ⟨_, rfl⟩
  have hT1 : Touch (fun _ => False) w w1 := by rw [hw1]; exact ((Touch.refl _ w).alloc _).alloc _
  have hp1 : Blk w1 w.heap.size 26 #[.slice (some ⟨g1, o1, none⟩) n c1] := by rw [hw1]; exact (Blk.new _ _ _).alloc _
  have hp2 : Blk w1 (w.heap.size + 1) 26 #[.slice (some ⟨g2, o2, none⟩) n c2] := by
    rw [hw1]
    have := Blk.new (w.alloc (.cells #[.slice (some ⟨g1, o1, none⟩) n c1] 26)) 26 #[.slice (some ⟨g2, o2, none⟩) n c2]
    rw [World.size_alloc] at this
    exact this
  have hs1 : w1.heap.size = w.heap.size + 2 := by rw [hw1]; simp
  have hc : ∀ w', Touch (fun _ => False) w w' → ∀ g i u, w.cell? ⟨g, i, none⟩ = some u → w'.cell? ⟨g, i, none⟩ = some u := fun w' ht g i u hu => by
    have hlt := block_lt_of_cell hu
    have : w'.cell? ⟨g, i, none⟩ = w.cell? ⟨g, i, none⟩ := by unfold World.cell?; rw [ht.block g hlt (by simp)]
    rw [this]; exact hu
  have HP := Lib.hid (puts_any w1 n 33 #[.pointer (some ⟨w.heap.size, 0, none⟩), .pointer (some ⟨w.heap.size + 1, 0, none⟩)] (xorF xs ys) hn (by rw [xorF_len, hx]) (fun j w => enter33 _ _ j w)
    (fun j w' hj hT' => by
      have ht := hT1.trans hT' (by simp)
      have := xorc_any w' w.heap.size (w.heap.size + 1) g1 g2 o1 o2 n j c1 c2 (xs.getD j 0) (ys.getD j 0) hj (hp1.touch hT' (by simp)) (hp2.touch hT' (by simp)) (hc w' ht _ _ _ (h1 j (by omega))) (hc w' ht _ _ _ (h2 j (by omega)))
      have hjx : j < xs.length := by omega
      rw [show (xorF xs ys).getD j 0 = bits .xor .u8 (xs.getD j 0) (ys.getD j 0) from by simp [xorF, List.getD, hjx]]
      exact this.mono (fun e w'' h => ⟨h.1, by rw [h.2]; exact (Touch.refl _ _).drew⟩)))
  have HW := Lib.hid hw1
  have HZ := Lib.hid hs1
  have HT := Lib.hid hT1
  clear hw1 hs1 hT1 hp1 hp2 hc h1 h2 hx hy
  go_enter Try.func26, Try.ntmps26
  go_wp2_with fail
  rw [← HW.out]
  refine HP.out.mono ?_
  rintro e w2 ⟨rfl, hb2, hT2⟩
  rw [HZ.out] at hb2 ⊢
  go_wp2
  go_ret
  exact ⟨rfl, hb2, HT.out.trans hT2 (by simp)⟩
end Go.Proofs.Ytelmjlfhmbicjaa
