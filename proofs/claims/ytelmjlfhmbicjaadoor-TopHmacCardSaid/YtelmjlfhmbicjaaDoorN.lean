/- bits.Xor of 64 bytes. -/
import Derived.Test.YtelmjlfhmbicjaaDoorM
namespace Go.Proofs.YtelmjlfhmbicjaaDoor
open Go.RowKit
set_option linter.unusedVariables false

theorem xorc_any (w : World) (p1 p2 g1 g2 o1 o2 j c1 c2 : Nat) (x y : Int) (hj : j < 64) (h1 : Blk w p1 23 #[.slice (some ⟨g1, o1, none⟩) 64 c1]) (h2 : Blk w p2 23 #[.slice (some ⟨g2, o2, none⟩) 64 c2])
    (hx : w.cell? ⟨g1, o1 + j, none⟩ = some (.int .u8 x)) (hy : w.cell? ⟨g2, o2 + j, none⟩ = some (.int .u8 y)) :
    Calls Tryd.prog 31 #[.int .i64 j, .pointer (some ⟨p1, 0, none⟩), .pointer (some ⟨p2, 0, none⟩)] w fun e w' => e = .returned (.int .u8 (bits .xor .u8 x y)) ∧ w' = w.drew := by
  have e1 := h1.drew.cell 0
  have e2 := h2.drew.cell 0
  simp only [List.getElem?_toArray, List.getElem?_cons_zero] at e1 e2
  have hj' : (j : Int) < 64 := by omega
  have hx' : w.drew.cell? ⟨g1, o1 + j, none⟩ = some (.int .u8 x) := hx
  have hy' : w.drew.cell? ⟨g2, o2 + j, none⟩ = some (.int .u8 y) := hy
  go_enter Tryd.func31, Tryd.ntmps31
  go_wp2_with fail
  refine wp_region_qall (by kernel_rfl) (by kernel_rfl) ?_
  repeat (first | go_big_quiet_skip | (go_big_quiet_want; go_big_quiet_op; go_big_quiet_on))
  refine wpQuiet_nil ?_
  go_wp2
  go_ret
  exact ⟨rfl, rfl⟩

def xorL (ks : List Int) (x : Int) : List Int := ks.map fun k => bits .xor .u8 k x
theorem xorL_len (ks : List Int) (x : Int) : (xorL ks x).length = ks.length := by simp [xorL]
theorem enter31 (a b : Nat) (j : Int) (w : World) : (callFunc 31 (#[.int .i64 j] ++ #[.pointer (some ⟨a, 0, none⟩), .pointer (some ⟨b, 0, none⟩)])).run Tryd.prog w = .ok (.enter 31 (#[.int .i64 j] ++ #[.pointer (some ⟨a, 0, none⟩), .pointer (some ⟨b, 0, none⟩)])) w := by kernel_rfl

set_option maxHeartbeats 400000 in
theorem xor_any (w : World) (g1 g2 o1 c1 c2 : Nat) (x : Int) (ks : List Int) (hk : ks.length = 64) (h1 : Byt w g1 o1 ks) (h2 : ∀ i, i < 64 → w.cell? ⟨g2, i, none⟩ = some (.int .u8 x)) :
    Calls Tryd.prog 26 #[.slice (some ⟨g1, o1, none⟩) 64 c1, .slice (some ⟨g2, 0, none⟩) 64 c2] w fun e w' => e = .returned (.slice (some ⟨w.heap.size + 2, 0, none⟩) 64 64) ∧ Blk w' (w.heap.size + 2) 5 (U8A (xorL ks x)) ∧ Touch (fun _ => False) w w' := by
  obtain ⟨w1, hw1⟩ : ∃ w1, w1 = (w.alloc (.cells #[.slice (some ⟨g1, o1, none⟩) 64 c1] 23)).alloc (.cells #[.slice (some ⟨g2, 0, none⟩) 64 c2] 23) := ⟨_, rfl⟩
  have hT1 : Touch (fun _ => False) w w1 := by rw [hw1]; exact ((Touch.refl _ w).alloc _).alloc _
  have hp1 : Blk w1 w.heap.size 23 #[.slice (some ⟨g1, o1, none⟩) 64 c1] := by rw [hw1]; exact (Blk.new _ _ _).alloc _
  have hp2 : Blk w1 (w.heap.size + 1) 23 #[.slice (some ⟨g2, 0, none⟩) 64 c2] := by
    rw [hw1]
    have := Blk.new (w.alloc (.cells #[.slice (some ⟨g1, o1, none⟩) 64 c1] 23)) 23 #[.slice (some ⟨g2, 0, none⟩) 64 c2]
    rw [World.size_alloc] at this
    exact this
  have hs1 : w1.heap.size = w.heap.size + 2 := by rw [hw1]; simp
  have hc : ∀ w', Touch (fun _ => False) w w' → ∀ g i u, w.cell? ⟨g, i, none⟩ = some u → w'.cell? ⟨g, i, none⟩ = some u := fun w' ht g i u hu => by
    have hlt := block_lt_of_cell hu
    have : w'.cell? ⟨g, i, none⟩ = w.cell? ⟨g, i, none⟩ := by unfold World.cell?; rw [ht.block g hlt (by simp)]
    rw [this]; exact hu
  have HP := Lib.hid (puts_any w1 64 31 #[.pointer (some ⟨w.heap.size, 0, none⟩), .pointer (some ⟨w.heap.size + 1, 0, none⟩)] (xorL ks x) (by omega) (by rw [xorL_len, hk]) (fun j w => enter31 _ _ j w)
    (fun j w' hj hT' => by
      have ht := hT1.trans hT' (by simp)
      have := xorc_any w' w.heap.size (w.heap.size + 1) g1 g2 o1 0 j c1 c2 (ks.getD j 0) x hj (hp1.touch hT' (by simp)) (hp2.touch hT' (by simp)) (hc w' ht _ _ _ (h1 j (by omega))) (by rw [Nat.zero_add]; exact hc w' ht _ _ _ (h2 j hj))
      rw [show (xorL ks x).getD j 0 = bits .xor .u8 (ks.getD j 0) x from by simp [xorL, List.getD, List.getElem?_eq_getElem (show j < ks.length by omega)]]
      exact this.mono (fun e w'' h => ⟨h.1, by rw [h.2]; exact (Touch.refl _ _).drew⟩)))
  have HW := Lib.hid hw1
  have HZ := Lib.hid hs1
  have HT := Lib.hid hT1
  clear hw1 hs1 hT1 hp1 hp2 hc h1 h2 hk
  go_enter Tryd.func26, Tryd.ntmps26
  go_wp2_with fail
  rw [← HW.out]
  refine HP.out.mono ?_
  rintro e w2 ⟨rfl, hb2, hT2⟩
  rw [HZ.out] at hb2 ⊢
  go_wp2
  go_ret
  exact ⟨rfl, hb2, HT.out.trans hT2 (by simp)⟩
end Go.Proofs.YtelmjlfhmbicjaaDoor
