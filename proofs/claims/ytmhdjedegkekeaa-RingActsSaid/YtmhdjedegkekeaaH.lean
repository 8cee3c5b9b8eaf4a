/- The acts that came in; RingOrders' walk. -/
import Derived.Test.YtmhdjedegkekeaaG
namespace Go.Proofs.Ytmhdjedegkekeaa
open Go.RowKit

/-- Element i of the acts that came in: its cells. -/
def ActAt (w : World) (b off i : Nat) : Prop := ∃ (what : Nat) (x y z : Int), what < 256 ∧ w.cell? ⟨b, off + i * 4, none⟩ = some (.int .u8 what) ∧ w.cell? ⟨b, off + i * 4 + 1, none⟩ = some (.int .i64 x) ∧
  w.cell? ⟨b, off + i * 4 + 2, none⟩ = some (.int .i64 y) ∧ w.cell? ⟨b, off + i * 4 + 3, none⟩ = some (.int .i64 z)

/-- The acts that came in. -/
def Acts (w : World) (A : Option Addr) (n : Nat) : Prop := 0 < n → ∃ b off, A = some ⟨b, off, none⟩ ∧ b < w.heap.size ∧ ∀ i, i < n → ActAt w b off i

/-- What RingOrders keeps: what is in the ring was pushed in that order. -/
def Rowed (L : List Dn) (pushed popped : Nat) : Prop := popped ≤ pushed ∧ L.length = pushed - popped ∧ ∀ j d, L[j]? = some d → d.1 = ((popped + j : Nat) : Int) ∧ d.2.1 = 1

theorem Rowed.push {L : List Dn} {pu po : Nat} (h : Rowed L pu po) (j : Nat) : Rowed (L ++ [((pu : Int), 1, (j : Int))]) (pu + 1) po := by
  obtain ⟨h1, h2, h3⟩ := h
  refine ⟨by omega, by simp; omega, fun i d hi => ?_⟩
  by_cases hlt : i < L.length
  · rw [List.getElem?_append_left hlt] at hi
    exact h3 i d hi
  · rw [List.getElem?_append_right (by omega)] at hi
    obtain rfl : i = L.length := by
      rcases Nat.lt_or_ge 0 (i - L.length) with h0 | h0
      · rw [List.getElem?_eq_none (by simp; omega)] at hi; cases hi
      · omega
    simp at hi
    subst hi
    exact ⟨by simp; omega, rfl⟩

theorem Rowed.pop {L : List Dn} {d0 : Dn} {pu po : Nat} (h : Rowed (d0 :: L) pu po) : Rowed L pu (po + 1) := by
  obtain ⟨h1, h2, h3⟩ := h
  simp at h2
  refine ⟨by omega, by omega, fun i d hi => ?_⟩
  obtain ⟨e1, e2⟩ := h3 (i + 1) d (by simpa using hi)
  exact ⟨by rw [e1]; congr 1; omega, e2⟩

set_option maxHeartbeats 4000000 in
theorem orders_walk (w : World) (room : Nat) (A : Option Addr) (n c : Nat) (hroom : room < 256) (hA : Acts w A n) (hn : n ≤ 9223372036854775807) :
    Calls Try.prog 4 #[.int .u8 room, .slice A n c] w fun e w' => e = .returned (.bool true) ∧ Below w.heap.size w w' := by
  by_cases h300 : n ≤ 300
  · have HA := Lib.hid hA
    clear hA
    obtain ⟨m, hm⟩ : ∃ m : Nat, m = room % 32 + 1 := ⟨_, rfl⟩
    have hmi : (room : Int) % 32 + 1 = (m : Int) := by omega
    have hm1 : 1 ≤ m := by omega
    have hm2 : m ≤ 32 := by omega
    clear hm
    go_enter Try.func4, Try.ntmps4
    go_wp2_with fail
    refine (new_yes _ m hm1 hm2).mono ?_
    rintro e w1 ⟨rfl, hR1, hT1⟩
    go_wp2_with fail
    have hB1 := hT1.below w.heap.size (Nat.le_refl _) (by simp)
    have hlt1 := hR1.lt
    go_loopw [7, 8, 9] (fun u v i wr => ∃ (j pu po k : Nat) (L : List Dn), j ≤ n ∧ i = .int .i64 j ∧ u = .int .i64 pu ∧ v = .int .i64 po ∧ pu ≤ j ∧ Ring wr (w.heap.size + 1) w.heap.size m k L ∧ Rowed L pu po ∧ Below w.heap.size w wr) (fun _ _ i _ => n - (intOf i).toNat)
    case atStart => exact ⟨0, 0, 0, 0, [], by omega, rfl, rfl, rfl, by omega, hR1, ⟨by omega, rfl, by simp⟩, hB1⟩
    case round =>
      obtain ⟨j, pu, po, k, L, hj, rfl, rfl, rfl, hpj, hR, hrow, hB⟩ := hrel
      by_cases hjn : j < n
      · obtain ⟨b, off, rfl, hb, hact⟩ := HA.out (by omega)
        obtain ⟨what, x, y, z, h256, c0, c1, c2, c3⟩ := hact j hjn
        rw [← hB.cell (by exact hb)] at c0 c1 c2 c3
        clear hact
        obtain ⟨w2, hw2⟩ : ∃ w2, w2 = wr.alloc (.cells #[.int .u8 what, .int .i64 pu, .int .i64 1, .int .i64 j] 37) := ⟨_, rfl⟩
        have hT2 : Touch (fun _ => False) wr w2 := by rw [hw2]; exact (Touch.refl _ wr).alloc _
        have hx2 : Blk w2 wr.heap.size 37 #[.int .u8 what, .int .i64 pu, .int .i64 1, .int .i64 j] := by rw [hw2]; exact Blk.new _ _ _
        have hR2 := hR.touch hT2 (by simp) (by simp)
        have hlt := hR.lt
        have HW := Lib.hid hw2
        have Hrow := Lib.hid hrow
        clear hrow
        have h4 : what % 4 < 4 := Nat.mod_lt _ (by omega)
        have hc4 : what % 4 = 0 ∨ what % 4 = 1 ∨ what % 4 = 2 ∨ what % 4 = 3 := by omega
        clear h4
        obtain ⟨r1, r2, r3⟩ := Hrow.out
        have r2a : L.length + po ≤ pu := by omega
        have r2b : pu ≤ L.length + po := by omega
        have hsz : w.heap.size ≤ wr.heap.size := hB.size
        have H3 := Lib.hid r3
        clear r3 r2 hw2
        rcases hc4 with hm4 | hm4 | hm4 | hm4
        · by_cases hlt0 : L.length + k < m
          · have hmi4 : (what : Int) % 4 = 0 := by omega
            go_wp2_with fail
            rw [← HW.out]
            refine (do_keep_yes _ _ _ _ _ _ _ _ _ _ hR2 hlt0 hm4 h256).mono ?_
            rintro e w3 ⟨rfl, hL⟩
            have hx3 := hx2.touch hL.2 (by unfold Own2; omega)
            have cx := (hx3.alloc (.cells #[.int .i64 0, .int .i64 0, .int .i64 0] 33)).cell 0
            simp only [List.getElem?_toArray, List.getElem?_cons_zero] at cx
            have hA := (Touch.refl (fun _ => False) w3).alloc (.cells #[.int .i64 0, .int .i64 0, .int .i64 0] 33)
            have hR4 := hL.1.touch hA (by simp) (by simp)
            have HL := Lib.hid hL
            clear hL
            go_wp2_with fail
            refine (f11_any _ _ _ _ _ _ hR4).mono ?_
            rintro e w4 ⟨rfl, rfl⟩
            go_wp2
            go_roundw
            case rel => exact ⟨j + 1, pu, po, k + 1, L, by omega, by go_num, rfl, rfl, by omega, hR4, Hrow.out, (hB.trans (hT2.below _ hsz (by simp))).trans ((HL.out.2.trans hA (by simp)).below _ (Nat.le_trans hsz hT2.size) (by unfold Own2; omega))⟩
            case measure => simp [intOf]; omega
          · have hmi4 : (what : Int) % 4 = 0 := by omega
            go_wp2_with fail
            rw [← HW.out]
            refine (do_keep_no _ _ _ _ _ _ _ _ _ _ hR2 hlt0 hm4 h256).mono ?_
            rintro e w3 ⟨rfl, hL⟩
            have hx3 := hx2.touch hL.2 (by unfold Own2; omega)
            have cx := (hx3.alloc (.cells #[.int .i64 0, .int .i64 0, .int .i64 0] 33)).cell 0
            simp only [List.getElem?_toArray, List.getElem?_cons_zero] at cx
            have hA := (Touch.refl (fun _ => False) w3).alloc (.cells #[.int .i64 0, .int .i64 0, .int .i64 0] 33)
            have hR4 := hL.1.touch hA (by simp) (by simp)
            have HL := Lib.hid hL
            clear hL
            go_wp2_with fail
            refine (f11_any _ _ _ _ _ _ hR4).mono ?_
            rintro e w4 ⟨rfl, rfl⟩
            go_wp2
            go_roundw
            case rel => exact ⟨j + 1, pu, po, k, L, by omega, by go_num, rfl, rfl, by omega, hR4, Hrow.out, (hB.trans (hT2.below _ hsz (by simp))).trans ((HL.out.2.trans hA (by simp)).below _ (Nat.le_trans hsz hT2.size) (by unfold Own2; omega))⟩
            case measure => simp [intOf]; omega
        · rcases Nat.eq_zero_or_pos k with hk | hk
          · subst hk
            have hmi4 : (what : Int) % 4 = 1 := by omega
            go_wp2_with fail
            rw [← HW.out]
            refine (do_drop_no _ _ _ _ _ _ _ _ _ hR2 hm4 h256).mono ?_
            rintro e w3 ⟨rfl, hL⟩
            have hx3 := hx2.touch hL.2 (by unfold Own2; omega)
            have cx := (hx3.alloc (.cells #[.int .i64 0, .int .i64 0, .int .i64 0] 33)).cell 0
            simp only [List.getElem?_toArray, List.getElem?_cons_zero] at cx
            have hA := (Touch.refl (fun _ => False) w3).alloc (.cells #[.int .i64 0, .int .i64 0, .int .i64 0] 33)
            have hR4 := hL.1.touch hA (by simp) (by simp)
            have HL := Lib.hid hL
            clear hL
            go_wp2_with fail
            refine (f11_any _ _ _ _ _ _ hR4).mono ?_
            rintro e w4 ⟨rfl, rfl⟩
            go_wp2
            go_roundw
            case rel => exact ⟨j + 1, pu, po, 0, L, by omega, by go_num, rfl, rfl, by omega, hR4, Hrow.out, (hB.trans (hT2.below _ hsz (by simp))).trans ((HL.out.2.trans hA (by simp)).below _ (Nat.le_trans hsz hT2.size) (by unfold Own2; omega))⟩
            case measure => simp [intOf]; omega
          · have hmi4 : (what : Int) % 4 = 1 := by omega
            go_wp2_with fail
            rw [← HW.out]
            refine (do_drop_yes _ _ _ _ _ _ _ _ _ _ hR2 hk hm4 h256).mono ?_
            rintro e w3 ⟨rfl, hL⟩
            have hx3 := hx2.touch hL.2 (by unfold Own2; omega)
            have cx := (hx3.alloc (.cells #[.int .i64 0, .int .i64 0, .int .i64 0] 33)).cell 0
            simp only [List.getElem?_toArray, List.getElem?_cons_zero] at cx
            have hA := (Touch.refl (fun _ => False) w3).alloc (.cells #[.int .i64 0, .int .i64 0, .int .i64 0] 33)
            have hR4 := hL.1.touch hA (by simp) (by simp)
            have HL := Lib.hid hL
            clear hL
            go_wp2_with fail
            refine (f11_any _ _ _ _ _ _ hR4).mono ?_
            rintro e w4 ⟨rfl, rfl⟩
            go_wp2
            go_roundw
            case rel => exact ⟨j + 1, pu, po, k - 1, L, by omega, by go_num, rfl, rfl, by omega, hR4, Hrow.out, (hB.trans (hT2.below _ hsz (by simp))).trans ((HL.out.2.trans hA (by simp)).below _ (Nat.le_trans hsz hT2.size) (by unfold Own2; omega))⟩
            case measure => simp [intOf]; omega
        · rcases Nat.eq_zero_or_pos k with hk | hk
          · subst hk
            have hmi4 : (what : Int) % 4 = 2 := by omega
            go_wp2_with fail
            rw [← HW.out]
            refine (do_push_no _ _ _ _ _ _ _ _ _ hR2 hm4 h256).mono ?_
            rintro e w3 ⟨rfl, hL⟩
            have hx3 := hx2.touch hL.2 (by unfold Own2; omega)
            have cx := (hx3.alloc (.cells #[.int .i64 0, .int .i64 0, .int .i64 0] 33)).cell 0
            simp only [List.getElem?_toArray, List.getElem?_cons_zero] at cx
            have hA := (Touch.refl (fun _ => False) w3).alloc (.cells #[.int .i64 0, .int .i64 0, .int .i64 0] 33)
            have hR4 := hL.1.touch hA (by simp) (by simp)
            have HL := Lib.hid hL
            clear hL
            go_wp2_with fail
            refine (f11_any _ _ _ _ _ _ hR4).mono ?_
            rintro e w4 ⟨rfl, rfl⟩
            go_wp2
            go_roundw
            case rel => exact ⟨j + 1, pu, po, 0, L, by omega, by go_num, rfl, rfl, by omega, hR4, Hrow.out, (hB.trans (hT2.below _ hsz (by simp))).trans ((HL.out.2.trans hA (by simp)).below _ (Nat.le_trans hsz hT2.size) (by unfold Own2; omega))⟩
            case measure => simp [intOf]; omega
          · have hmi4 : (what : Int) % 4 = 2 := by omega
            go_wp2_with fail
            rw [← HW.out]
            refine (do_push_yes _ _ _ _ _ _ _ _ _ _ hR2 hk hm4 h256).mono ?_
            rintro e w3 ⟨rfl, hL⟩
            have hx3 := hx2.touch hL.2 (by unfold Own2; omega)
            have cx := (hx3.alloc (.cells #[.int .i64 0, .int .i64 0, .int .i64 0] 33)).cell 0
            simp only [List.getElem?_toArray, List.getElem?_cons_zero] at cx
            have hA := (Touch.refl (fun _ => False) w3).alloc (.cells #[.int .i64 0, .int .i64 0, .int .i64 0] 33)
            have hR4 := hL.1.touch hA (by simp) (by simp)
            have HL := Lib.hid hL
            clear hL
            go_wp2_with fail
            refine (f11_any _ _ _ _ _ _ hR4).mono ?_
            rintro e w4 ⟨rfl, rfl⟩
            go_wp2
            go_roundw
            case rel => exact ⟨j + 1, pu + 1, po, k - 1, L ++ [((pu : Int), 1, (j : Int))], by omega, by go_num, by go_num, rfl, by omega, hR4, Hrow.out.push j, (hB.trans (hT2.below _ hsz (by simp))).trans ((HL.out.2.trans hA (by simp)).below _ (Nat.le_trans hsz hT2.size) (by unfold Own2; omega))⟩
            case measure => simp [intOf]; omega
        · rcases L with _ | ⟨⟨dx, dy, dz⟩, L⟩
          · simp only [List.length_nil, Nat.zero_add] at r2a r2b
            have hmi4 : (what : Int) % 4 = 3 := by omega
            go_wp2_with fail
            rw [← HW.out]
            refine (do_pop_no _ _ _ _ _ _ _ _ _ hR2 hm4 h256).mono ?_
            rintro e w3 ⟨rfl, hL⟩
            have hx3 := hx2.touch hL.2 (by unfold Own2; omega)
            have cx := (hx3.alloc (.cells #[.int .i64 0, .int .i64 0, .int .i64 0] 33)).cell 0
            simp only [List.getElem?_toArray, List.getElem?_cons_zero] at cx
            have hA := (Touch.refl (fun _ => False) w3).alloc (.cells #[.int .i64 0, .int .i64 0, .int .i64 0] 33)
            have hR4 := hL.1.touch hA (by simp) (by simp)
            have HL := Lib.hid hL
            clear hL
            go_wp2_with fail
            refine (f11_any _ _ _ _ _ _ hR4).mono ?_
            rintro e w4 ⟨rfl, rfl⟩
            go_wp2
            go_roundw
            case rel => exact ⟨j + 1, pu, po, k, [], by omega, by go_num, rfl, rfl, by omega, hR4, Hrow.out, (hB.trans (hT2.below _ hsz (by simp))).trans ((HL.out.2.trans hA (by simp)).below _ (Nat.le_trans hsz hT2.size) (by unfold Own2; omega))⟩
            case measure => simp [intOf]; omega
          · have hdx := (H3.out 0 (dx, dy, dz) rfl).1
            have hdy := (H3.out 0 (dx, dy, dz) rfl).2
            simp at hdx hdy r2a r2b
            subst hdx
            subst hdy
            have hmi4 : (what : Int) % 4 = 3 := by omega
            go_wp2_with fail
            rw [← HW.out]
            refine (do_pop_yes _ _ _ _ _ _ _ _ _ _ _ _ _ hR2 hm4 h256).mono ?_
            rintro e w3 ⟨rfl, hL⟩
            have hx3 := hx2.touch hL.2 (by unfold Own2; omega)
            have cx := (hx3.alloc (.cells #[.int .i64 po, .int .i64 1, .int .i64 dz] 33)).cell 0
            simp only [List.getElem?_toArray, List.getElem?_cons_zero] at cx
            have hA := (Touch.refl (fun _ => False) w3).alloc (.cells #[.int .i64 po, .int .i64 1, .int .i64 dz] 33)
            have hR4 := hL.1.touch hA (by simp) (by simp)
            have HL := Lib.hid hL
            clear hL
            go_wp2_with fail
            refine (f11_any _ _ _ _ _ _ hR4).mono ?_
            rintro e w4 ⟨rfl, rfl⟩
            go_wp2
            go_roundw
            case rel => exact ⟨j + 1, pu, po + 1, k, L, by omega, by go_num, rfl, by go_num, by omega, hR4, Hrow.out.pop, (hB.trans (hT2.below _ hsz (by simp))).trans ((HL.out.2.trans hA (by simp)).below _ (Nat.le_trans hsz hT2.size) (by unfold Own2; omega))⟩
            case measure => simp [intOf]; omega
      · go_wp2_with fail
        refine (awake_any _).mono ?_
        rintro e w3 ⟨rfl, hT3⟩
        go_wp2
        go_ret
        exact ⟨rfl, hB.trans (hT3.below _ hB.size (by simp))⟩
  · go_enter Try.func4, Try.ntmps4
    go_wp2
    go_ret
    exact ⟨rfl, Below.refl _ _⟩
end Go.Proofs.Ytmhdjedegkekeaa
