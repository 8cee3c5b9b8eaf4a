/- RingKept's walk: a place that was kept is there for a completion. -/
import Derived.Test.YtmhdjedegkekeaaI
namespace Go.Proofs.Ytmhdjedegkekeaa
open Go.RowKit

set_option maxHeartbeats 4000000 in
theorem kept_walk (w : World) (room : Nat) (A : Option Addr) (n c : Nat) (hroom : room < 256) (hA : Acts w A n) (hn : n ≤ 9223372036854775807) :
    Calls Try.prog 5 #[.int .u8 room, .slice A n c] w fun e w' => e = .returned (.bool true) ∧ Below w.heap.size w w' := by
  by_cases h300 : n ≤ 300
  · have HA := Lib.hid hA
    clear hA
    obtain ⟨m, hm⟩ : ∃ m : Nat, m = room % 32 + 1 := ⟨_, rfl⟩
    have hmi : (room : Int) % 32 + 1 = (m : Int) := by omega
    have hm1 : 1 ≤ m := by omega
    have hm2 : m ≤ 32 := by omega
    clear hm
    go_enter Try.func5, Try.ntmps5
    go_wp2_with fail
    refine (new_yes _ m hm1 hm2).mono ?_
    rintro e w1 ⟨rfl, hR1, hT1⟩
    have hlt1 := hR1.lt
    go_wp2_with fail
    refine (keep_yes _ _ _ _ _ _ hR1 (by simp; omega)).mono ?_
    rintro e w2 ⟨rfl, hR2, hT2⟩
    have hB2 : Below w.heap.size w w2 := (hT1.below w.heap.size (Nat.le_refl _) (by simp)).trans (hT2.below _ hT1.size (by unfold Own2; omega))
    clear hT1 hT2 hR1
    go_wp2_with fail
    go_loopw [8] (fun i wr => ∃ (j k : Nat) (L : List Dn), j ≤ n ∧ i = .int .i64 j ∧ 1 ≤ k ∧ Ring wr (w.heap.size + 1) w.heap.size m k L ∧ Below w.heap.size w wr) (fun i _ => n - (intOf i).toNat)
    case atStart => exact ⟨0, 1, [], by omega, rfl, by omega, hR2, hB2⟩
    case round =>
      obtain ⟨j, k, L, hj, rfl, hk1, hR, hB⟩ := hrel
      have hsz : w.heap.size ≤ wr.heap.size := hB.size
      by_cases hjn : j < n
      · obtain ⟨b, off, rfl, hb, hact⟩ := HA.out (by omega)
        obtain ⟨what, x, y, z, h256, c0, c1, c2, c3⟩ := hact j hjn
        rw [← hB.cell (by exact hb)] at c0 c1 c2 c3
        clear hact
        have hlt := hR.lt
        have hc4 : what % 4 = 0 ∨ what % 4 = 1 ∨ what % 4 = 2 ∨ what % 4 = 3 := by omega
        rcases hc4 with hm4 | hm4 | hm4 | hm4
        · by_cases hlt0 : L.length + k < m
          · have hmi4 : (what : Int) % 4 = 0 := by omega
            go_wp2_with fail
            refine (do_keep_yes _ _ _ _ _ _ _ _ _ _ hR hlt0 hm4 h256).mono ?_
            rintro e w3 ⟨rfl, hR4, hT4⟩
            have hf := hR4.fits
            have hf1 := hf.1
            go_wp2_with fail
            refine (f12_any _ _ _ _ _ _ hR4).mono ?_
            rintro e w4 ⟨rfl, rfl⟩
            go_wp2_with fail
            refine (f11_any _ _ _ _ _ _ hR4).mono ?_
            rintro e w5 ⟨rfl, rfl⟩
            go_wp2_with fail
            refine (f12_any _ _ _ _ _ _ hR4).mono ?_
            rintro e w6 ⟨rfl, rfl⟩
            go_wp2
            go_roundw
            case rel => exact ⟨j + 1, k + 1, L, by omega, by go_num, by omega, hR4, hB.trans (hT4.below _ hsz (by unfold Own2; omega))⟩
            case measure => simp [intOf]; omega
          · have hmi4 : (what : Int) % 4 = 0 := by omega
            go_wp2_with fail
            refine (do_keep_no _ _ _ _ _ _ _ _ _ _ hR hlt0 hm4 h256).mono ?_
            rintro e w3 ⟨rfl, hR4, hT4⟩
            have hf := hR4.fits
            have hf1 := hf.1
            go_wp2_with fail
            refine (f12_any _ _ _ _ _ _ hR4).mono ?_
            rintro e w4 ⟨rfl, rfl⟩
            go_wp2_with fail
            refine (f11_any _ _ _ _ _ _ hR4).mono ?_
            rintro e w5 ⟨rfl, rfl⟩
            go_wp2_with fail
            refine (f12_any _ _ _ _ _ _ hR4).mono ?_
            rintro e w6 ⟨rfl, rfl⟩
            go_wp2
            go_roundw
            case rel => exact ⟨j + 1, k, L, by omega, by go_num, by omega, hR4, hB.trans (hT4.below _ hsz (by unfold Own2; omega))⟩
            case measure => simp [intOf]; omega
        · by_cases hk2 : k < 2
          · have hmi4 : (what : Int) % 4 = 1 := by omega
            go_wp2_with fail
            refine (f12_any _ _ _ _ _ _ hR).mono ?_
            rintro e w4 ⟨rfl, rfl⟩
            go_wp2
            go_roundw
            case rel => exact ⟨j + 1, k, L, by omega, by go_num, by omega, hR, hB⟩
            case measure => simp [intOf]; omega
          · have hmi4 : (what : Int) % 4 = 1 := by omega
            go_wp2_with fail
            refine (f12_any _ _ _ _ _ _ hR).mono ?_
            rintro e w4 ⟨rfl, rfl⟩
            go_wp2_with fail
            refine (do_drop_yes _ _ _ _ _ _ _ _ _ _ hR (by omega) hm4 h256).mono ?_
            rintro e w3 ⟨rfl, hR4, hT4⟩
            have hf := hR4.fits
            have hf1 := hf.1
            go_wp2_with fail
            refine (f12_any _ _ _ _ _ _ hR4).mono ?_
            rintro e w4 ⟨rfl, rfl⟩
            go_wp2_with fail
            refine (f11_any _ _ _ _ _ _ hR4).mono ?_
            rintro e w5 ⟨rfl, rfl⟩
            go_wp2_with fail
            refine (f12_any _ _ _ _ _ _ hR4).mono ?_
            rintro e w6 ⟨rfl, rfl⟩
            go_wp2
            go_roundw
            case rel => exact ⟨j + 1, k - 1, L, by omega, by go_num, by omega, hR4, hB.trans (hT4.below _ hsz (by unfold Own2; omega))⟩
            case measure => simp [intOf]; omega
        · by_cases hk2 : k < 2
          · have hmi4 : (what : Int) % 4 = 2 := by omega
            go_wp2_with fail
            refine (f12_any _ _ _ _ _ _ hR).mono ?_
            rintro e w4 ⟨rfl, rfl⟩
            go_wp2
            go_roundw
            case rel => exact ⟨j + 1, k, L, by omega, by go_num, by omega, hR, hB⟩
            case measure => simp [intOf]; omega
          · have hmi4 : (what : Int) % 4 = 2 := by omega
            go_wp2_with fail
            refine (f12_any _ _ _ _ _ _ hR).mono ?_
            rintro e w4 ⟨rfl, rfl⟩
            go_wp2_with fail
            refine (do_push_yes _ _ _ _ _ _ _ _ _ _ hR (by omega) hm4 h256).mono ?_
            rintro e w3 ⟨rfl, hR4, hT4⟩
            have hf := hR4.fits
            have hf1 := hf.1
            have hf2 : L.length + 1 + (k - 1) ≤ m := by simpa using hf1
            go_wp2_with fail
            refine (f12_any _ _ _ _ _ _ hR4).mono ?_
            rintro e w4 ⟨rfl, rfl⟩
            go_wp2_with fail
            refine (f11_any _ _ _ _ _ _ hR4).mono ?_
            rintro e w5 ⟨rfl, rfl⟩
            go_wp2_with fail
            refine (f12_any _ _ _ _ _ _ hR4).mono ?_
            rintro e w6 ⟨rfl, rfl⟩
            go_wp2
            go_roundw
            case rel => exact ⟨j + 1, k - 1, L ++ [(x, y, z)], by omega, by go_num, by omega, hR4, hB.trans (hT4.below _ hsz (by unfold Own2; omega))⟩
            case measure => simp [intOf]; omega
        · rcases L with _ | ⟨⟨dx, dy, dz⟩, L⟩
          · have hmi4 : (what : Int) % 4 = 3 := by omega
            go_wp2_with fail
            refine (do_pop_no _ _ _ _ _ _ _ _ _ hR hm4 h256).mono ?_
            rintro e w3 ⟨rfl, hR4, hT4⟩
            have hf := hR4.fits
            have hf1 := hf.1
            go_wp2_with fail
            refine (f12_any _ _ _ _ _ _ hR4).mono ?_
            rintro e w4 ⟨rfl, rfl⟩
            go_wp2_with fail
            refine (f11_any _ _ _ _ _ _ hR4).mono ?_
            rintro e w5 ⟨rfl, rfl⟩
            go_wp2_with fail
            refine (f12_any _ _ _ _ _ _ hR4).mono ?_
            rintro e w6 ⟨rfl, rfl⟩
            go_wp2
            go_roundw
            case rel => exact ⟨j + 1, k, [], by omega, by go_num, by omega, hR4, hB.trans (hT4.below _ hsz (by unfold Own2; omega))⟩
            case measure => simp [intOf]; omega
          · have hmi4 : (what : Int) % 4 = 3 := by omega
            go_wp2_with fail
            refine (do_pop_yes _ _ _ _ _ _ _ _ _ _ _ _ _ hR hm4 h256).mono ?_
            rintro e w3 ⟨rfl, hR4, hT4⟩
            have hf := hR4.fits
            have hf1 := hf.1
            go_wp2_with fail
            refine (f12_any _ _ _ _ _ _ hR4).mono ?_
            rintro e w4 ⟨rfl, rfl⟩
            go_wp2_with fail
            refine (f11_any _ _ _ _ _ _ hR4).mono ?_
            rintro e w5 ⟨rfl, rfl⟩
            go_wp2_with fail
            refine (f12_any _ _ _ _ _ _ hR4).mono ?_
            rintro e w6 ⟨rfl, rfl⟩
            go_wp2
            go_roundw
            case rel => exact ⟨j + 1, k, L, by omega, by go_num, by omega, hR4, hB.trans (hT4.below _ hsz (by unfold Own2; omega))⟩
            case measure => simp [intOf]; omega
      · go_wp2_with fail
        refine (push_yes _ _ _ _ _ _ _ _ _ hR (by omega)).mono ?_
        rintro e w3 ⟨rfl, hR3, hT3⟩
        go_wp2_with fail
        refine (awake_any _).mono ?_
        rintro e w4 ⟨rfl, hT4⟩
        go_wp2
        go_ret
        have hlt := hR.lt
        exact ⟨rfl, (hB.trans (hT3.below _ hsz (by unfold Own2; omega))).trans (hT4.below _ (Nat.le_trans hsz hT3.size) (by simp))⟩
  · go_enter Try.func5, Try.ntmps5
    go_wp2
    go_ret
    exact ⟨rfl, Below.refl _ _⟩
end Go.Proofs.Ytmhdjedegkekeaa
