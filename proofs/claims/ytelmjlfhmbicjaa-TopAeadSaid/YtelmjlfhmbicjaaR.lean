/- poly: half. -/
import Derived.Test.YtelmjlfhmbicjaaQ
namespace Go.Proofs.Ytelmjlfhmbicjaa
open Go.RowKit
set_option linter.unusedVariables false

set_option maxHeartbeats 400000 in
theorem half_any (w : World) (g off n c : Nat) (xs : List Int) (hx : xs.length = n) (h16 : 16 ≤ n) (hc : n ≤ c) (h : Byt w g off xs) :
    Calls Try.prog 19 #[.slice (some ⟨g, off, none⟩) n c] w fun e w' => e = .returned (.agg #[.int .u64 (littleF (xs.take 8)), .int .u64 (littleF ((xs.drop 8).take 8))]) ∧ Touch (fun _ => False) w w' := by
  have hcz : ¬ c = 0 := by omega
  have h8 : (8 : Int) ≤ c := by omega
  have h16i : (16 : Int) ≤ c := by omega
  have hT1 : Touch (fun _ => False) w (w.alloc (.cells #[.int .u64 0, .int .u64 0] 55)) := (Touch.refl _ w).alloc _
  have hb1 := Blk.new w 55 #[.int .u64 0, .int .u64 0]
  have H := Lib.hid (And.intro hx (And.intro h (And.intro hT1 hb1)))
  clear hx h hT1 hb1
  go_enter Try.func19, Try.ntmps19
  go_wp2_with fail
  generalize hw1 : World.alloc w _ = w1
  rw [hw1] at H
  have hcz8 : ¬ c = 8 := by omega
  obtain ⟨S, HS⟩ : ∃ S : World → Prop, Hid (∀ w', S w') := ⟨fun _ => True, fun _ => trivial⟩
  refine wp_region_gr S 7 [(0, false), (1, false), (3, false), (4, false), (2, true), (5, true), (6, false), (7, true)] (by kernel_rfl) (by kernel_rfl) (HS.out _) (fun hne => ?_)
  simp only [withOps, List.filterMap_cons, List.filterMap_nil, Option.map_some, List.getElem?_cons_zero, List.getElem?_cons_succ]
  repeat (refine wpGr_q ?_; (first | go_big_quiet_skip | (go_big_quiet_want; go_big_quiet_op; go_big_quiet_on)); refine wpQuiet_nil ?_)
  refine wpGr_eff rfl (fun K1 hK1 => ?_)
  go_wp2_with fail
  have hbytes : ∀ (w' : World) (k : Nat), Touch (fun _ => False) w w' → k + 8 ≤ n → Byt w' g (off + k) ((xs.drop k).take 8) := fun w' k ht hk i hi => by
    have hi8 : i < 8 := by simp at hi; omega
    have hu := H.out.2.1 (k + i) (by rw [H.out.1]; omega)
    have hlt := block_lt_of_cell hu
    have e : w'.cell? ⟨g, off + (k + i), none⟩ = w.cell? ⟨g, off + (k + i), none⟩ := by unfold World.cell?; rw [ht.block g hlt (by simp)]
    rw [show off + k + i = off + (k + i) from by omega, e, hu]
    simp [List.getD, hi8]
  have hT1 : Touch (fun _ => False) w w1.drew := H.out.2.2.1.drew
  refine (little_read w1.drew g off 8 c (xs.take 8) (by rw [List.length_take, H.out.1]; omega) (by omega) (by omega) (by omega) (by simpa using hbytes w1.drew 0 hT1 (by omega))).mono ?_
  rintro e w2 ⟨rfl, hT2⟩
  refine hK1 _ _ ⟨.inr (HS.out _), ?_⟩
  refine wpGr_eff rfl (fun K2 hK2 => ?_)
  have HBY := Lib.hid hbytes
  clear hbytes
  go_wp2_with fail
  refine (little_read w2 g (off + 8) 8 (c - 8) ((xs.drop 8).take 8) (by rw [List.length_take, List.length_drop, H.out.1]; omega) (by omega) (by omega) (by omega) (HBY.out w2 8 (hT1.trans hT2 (by simp)) (by omega))).mono ?_
  rintro e w3 ⟨rfl, hT3⟩
  refine hK2 _ _ ⟨.inr (HS.out _), ?_⟩
  repeat (refine wpGr_q ?_; (first | go_big_quiet_skip | (go_big_quiet_want; go_big_quiet_op; go_big_quiet_on)); refine wpQuiet_nil ?_)
  refine wpGr_eff rfl (fun K3 hK3 => ?_)
  have hb3 := (H.out.2.2.2.drew.touch hT2 (by simp)).touch hT3 (by simp)
  have c0 := hb3.cell 0
  have c1 := hb3.cell 1
  simp only [List.getElem?_toArray, List.getElem?_cons_zero, List.getElem?_cons_succ] at c0 c1
  have hf := hb3.frozen
  have hT03 := (hT1.trans hT2 (by simp)).trans hT3 (by simp)
  go_wp2_with fail
  refine wpGr_nil ?_
  go_wp2
  have hb4 := (hb3.set_ 0 (.int .u64 (littleF (xs.take 8)))).set_ 1 (.int .u64 (littleF ((xs.drop 8).take 8)))
  have f0 := hb4.cell 0
  have f1 := hb4.cell 1
  simp only [List.setIfInBounds_toArray, List.set_cons_zero, List.set_cons_succ, List.getElem?_toArray, List.getElem?_cons_zero, List.getElem?_cons_succ] at f0 f1
  refine bodyPost_ret (v := .agg #[.int .u64 (littleF (xs.take 8)), .int .u64 (littleF ((xs.drop 8).take 8))]) (by simp only [results, Try.results19]; simp [go_sem, f0, f1]) rfl ⟨rfl, ?_⟩
  exact (hT03.setCell (p := ⟨w.heap.size, 0, none⟩) (.inl (Nat.le_refl _)) _).setCell (p := ⟨w.heap.size, 1, none⟩) (.inl (Nat.le_refl _)) _
end Go.Proofs.Ytelmjlfhmbicjaa
