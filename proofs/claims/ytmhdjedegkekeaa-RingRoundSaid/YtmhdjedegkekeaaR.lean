/- RingRound: for every room and every number of rounds the law's call returns true. No condition. -/
import Derived.Test.YtmhdjedegkekeaaG
import Derived.Test.YtmhdjedegkekeaaRows
import Derived.ProofKit
import Derived.OpenShut
namespace Go.Proofs.Ytmhdjedegkekeaa
open Go.RowKit

/-- c completions from s on, of round i, their numbers from x on. -/
def sq (x i s c : Nat) : List Dn := (List.range c).map fun q => (((x + s + q : Nat) : Int), ((i : Nat) : Int), ((s + q : Nat) : Int))
theorem sq_len (x i s c : Nat) : (sq x i s c).length = c := by simp [sq]
theorem sq_snoc (x i s c : Nat) : sq x i s (c + 1) = sq x i s c ++ [(((x + s + c : Nat) : Int), ((i : Nat) : Int), ((s + c : Nat) : Int))] := by
  simp [sq, List.range_succ]
theorem sq_cons (x i s c : Nat) : sq x i s (c + 1) = (((x + s : Nat) : Int), ((i : Nat) : Int), ((s : Nat) : Int)) :: sq x i (s + 1) c := by
  simp only [sq, List.range_succ_eq_map, List.map_cons, List.map_map, Nat.add_zero]
  congr 1
  apply List.map_congr_left
  intro q _
  simp only [Function.comp, Nat.succ_eq_add_one]
  rw [show x + s + (q + 1) = x + (s + 1) + q from by omega, show s + (q + 1) = s + 1 + q from by omega]

set_option maxRecDepth 100000 in
set_option maxHeartbeats 4000000 in
theorem round_walk (w : World) (room times : Nat) (hroom : room < 256) (htimes : times < 256) :
    Calls Try.prog 6 #[.int .u8 room, .int .u8 times] w fun e w' => e = .returned (.bool true) ∧ Below w.heap.size w w' := by
  obtain ⟨m, hm⟩ : ∃ m : Nat, m = room % 32 + 1 := ⟨_, rfl⟩
  have hmi : (room : Int) % 32 + 1 = (m : Int) := by omega
  have hm1 : 1 ≤ m := by omega
  have hm2 : m ≤ 32 := by omega
  obtain ⟨t, ht⟩ : ∃ t : Nat, t = times % 100 := ⟨_, rfl⟩
  have hti : (times : Int) % 100 = (t : Int) := by omega
  have ht1 : t < 100 := by omega
  have HT := Lib.hid hti
  clear hm ht hti
  go_enter Try.func6, Try.ntmps6
  go_wp2_with fail
  refine (new_yes _ m hm1 hm2).mono ?_
  rintro e w1 ⟨rfl, hR1, hT1⟩
  have hlt1 := hR1.lt
  have hB1 := hT1.below w.heap.size (Nat.le_refl _) (by simp)
  go_wp2_with fail
  go_loopw [8, 9] (fun u v wr => ∃ (i X : Nat), i ≤ t ∧ X ≤ 32 * i ∧ u = .int .i64 X ∧ v = .int .i64 i ∧ Ring wr (w.heap.size + 1) w.heap.size m 0 [] ∧ Below w.heap.size w wr) (fun _ i _ => t - (intOf i).toNat)
  case atStart => exact ⟨0, 0, by omega, by omega, rfl, rfl, hR1, hB1⟩
  case round =>
    obtain ⟨i, X, hi, hX, rfl, rfl, hR, hB⟩ := hrel
    obtain ⟨wo, rfl⟩ : ∃ wo : World, wo = wr := ⟨_, rfl⟩
    have hsz : w.heap.size ≤ wo.heap.size := hB.size
    have hlt := hR.lt
    by_cases hit : i < t
    · have hit2 : (i : Int) < (times : Int) % 100 := by have := HT.out; omega
      go_wp2_with fail
      go_loopw [8, 11] (fun u v wr => ∃ k : Nat, k ≤ m ∧ u = .int .i64 (X + k : Nat) ∧ v = .int .i64 k ∧ Ring wr (w.heap.size + 1) w.heap.size m 0 (sq X i 0 k) ∧ Below w.heap.size w wr) (fun _ k _ => m - (intOf k).toNat)
      case atStart => exact ⟨0, by omega, by simp, rfl, hR, hB⟩
      case round =>
        obtain ⟨k, hk, rfl, rfl, hR2, hB2⟩ := hrel
        have hsz2 : w.heap.size ≤ wr.heap.size := hB2.size
        have hlt2 := hR2.lt
        by_cases hkm : k < m
        · go_wp2_with fail
          refine (keep_yes _ _ _ _ _ _ hR2 (by rw [sq_len]; omega)).mono ?_
          rintro e w3 ⟨rfl, hR3, hT3⟩
          go_wp2_with fail
          refine (push_yes _ _ _ _ _ _ _ _ _ hR3 (by omega)).mono ?_
          rintro e w4 ⟨rfl, hR4, hT4⟩
          go_wp2
          go_roundw
          case rel => exact ⟨k + 1, by omega, by go_num, by go_num, by rw [sq_snoc]; simpa using hR4, (hB2.trans (hT3.below _ hsz2 (by unfold Own2; omega))).trans (hT4.below _ (Nat.le_trans hsz2 hT3.size) (by unfold Own2; omega))⟩
          case measure => simp [intOf]; omega
        · obtain rfl : k = m := by omega
          go_wp2_with fail
          refine (keep_no _ _ _ _ _ _ hR2 (by rw [sq_len]; omega)).mono ?_
          rintro e w3 ⟨rfl, hR3, hT3⟩
          go_wp2_with fail
          refine (push_no _ _ _ _ _ _ _ _ hR3).mono ?_
          rintro e w4 ⟨rfl, hR4, hT4⟩
          go_wp2_with fail
          refine (drop_no _ _ _ _ _ hR4).mono ?_
          rintro e w5 ⟨rfl, hR5, hT5⟩
          have hB5 : Below w.heap.size w w5 := ((hB2.trans (hT3.below _ hsz2 (by unfold Own2; omega))).trans (hT4.below _ (Nat.le_trans hsz2 hT3.size) (by unfold Own2; omega))).trans (hT5.below _ (Nat.le_trans hsz2 (Nat.le_trans hT3.size hT4.size)) (by unfold Own2; omega))
          clear hT3 hT4 hT5 hR3 hR4 hB2 hlt2 hsz2 hR2
          go_wp2_with fail
          go_loopw [12] (fun u wr => ∃ q : Nat, q ≤ k ∧ u = .int .i64 q ∧ Ring wr (w.heap.size + 1) w.heap.size k 0 (sq X i q (k - q)) ∧ Below w.heap.size w wr) (fun q _ => k - (intOf q).toNat)
          case atStart => exact ⟨0, by omega, rfl, by simpa using hR5, hB5⟩
          case round =>
            obtain ⟨q, hq, rfl, hR6, hB6⟩ := hrel
            have hsz6 := hB6.size
            have hlt6 := hR6.lt
            by_cases hqk : q < k
            · rw [show k - q = (k - (q + 1)) + 1 from by omega, sq_cons] at hR6
              go_wp2_with fail
              refine (pop_yes _ _ _ _ _ _ _ _ _ hR6).mono ?_
              rintro e w7 ⟨rfl, hR7, hT7⟩
              go_wp2
              go_roundw
              case rel => exact ⟨q + 1, by omega, by go_num, hR7.touch ((Touch.refl (fun _ => False) w7).alloc _) (by simp) (by simp), (hB6.trans (hT7.below _ hsz6 (by unfold Own2; omega))).alloc (Nat.le_trans hsz6 hT7.size) _⟩
              case measure => simp [intOf]; omega
            · obtain rfl : q = k := by omega
              rw [Nat.sub_self] at hR6
              go_wp2
              go_roundw
              case rel => exact ⟨i + 1, X + q, by omega, by omega, by go_num, by go_num, hR6, hB6⟩
              case measure => simp [intOf]; omega
    · have hit2 : ¬ (i : Int) < (times : Int) % 100 := by have := HT.out; omega
      go_wp2_with fail
      refine (pop_no _ _ _ _ _ hR).mono ?_
      rintro e w3 ⟨rfl, hR3, hT3⟩
      go_wp2_with fail
      refine (awake_any _).mono ?_
      rintro e w4 ⟨rfl, hT4⟩
      go_wp2
      go_ret
      exact ⟨rfl, ((hB.trans (hT3.below _ hsz (by unfold Own2; omega))).alloc (Nat.le_trans hsz hT3.size) _).trans (hT4.below _ (Nat.le_trans hsz (Nat.le_trans hT3.size (by simp))) (by simp))⟩
end Go.Proofs.Ytmhdjedegkekeaa
