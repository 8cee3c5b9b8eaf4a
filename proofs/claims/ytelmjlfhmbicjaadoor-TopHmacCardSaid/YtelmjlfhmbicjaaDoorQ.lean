/- hmac: Sum. -/
import Derived.Test.YtelmjlfhmbicjaaDoorP
namespace Go.Proofs.YtelmjlfhmbicjaaDoor
open Go.RowKit
set_option linter.unusedVariables false

set_option maxHeartbeats 400000 in
set_option maxRecDepth 100000 in
theorem hsum_any (K : List Int) (w : World) (hb sb : Nat) (ks xs : List Int) (N : Nat) (hk : ks.length = 64) (hh : Blk w hb 51 (hmA ks (.pointer (some ⟨sb, 0, none⟩)))) (h : Sha K w sb xs N) (hK0 : Tab K w) (hx : xs.length ≤ 10000) (hN : N ≤ 10000) :
    Calls Tryd.prog 15 #[.pointer (some ⟨hb, 0, none⟩)] w fun e w' => e = .returned (.agg (U8A (digest K (xorL ks 92 ++ digest K xs N) (64 + 32)))) ∧ Touch (fun _ => False) w w' := by
  have hp : w.cell? ⟨hb, 64, none⟩ = some (.pointer (some ⟨sb, 0, none⟩)) := by rw [hh.cell, ← hk, hmA_ptr]
  obtain ⟨w1, hw1⟩ : ∃ w1, w1 = w.alloc (.cells (U8A (List.replicate 32 0)) 27) := ⟨_, rfl⟩
  have hT1 : Touch (fun _ => False) w w1 := by rw [hw1]; exact (Touch.refl _ w).alloc _
  have hr1 : Blk w1 w.heap.size 27 (U8A (List.replicate 32 0)) := by rw [hw1]; exact Blk.new _ _ _
  have hh1 := hh.touch hT1 (by simp)
  have hp1 : w1.cell? ⟨hb, 64, none⟩ = some (.pointer (some ⟨sb, 0, none⟩)) := by rw [hh1.cell, ← hk, hmA_ptr]
  have hsha1 := h.touch hT1 (by simp)
  have htab1 := hK0.touch hT1 (by simp)
  have H := Lib.hid (And.intro hk (And.intro hh1 (And.intro hsha1 (And.intro htab1 (And.intro hT1 hr1)))))
  have HW1 := Lib.hid hw1
  clear hw1 hT1 hr1 hh1 hsha1 htab1 hk hh h hK0 hp
  go_enter Tryd.func15, Tryd.ntmps15
  go_upto_region 1 with (fail)
  rw [show (w.alloc (.cells #[.int .u8 0, .int .u8 0, .int .u8 0, .int .u8 0, .int .u8 0, .int .u8 0, .int .u8 0, .int .u8 0, .int .u8 0, .int .u8 0, .int .u8 0, .int .u8 0, .int .u8 0, .int .u8 0, .int .u8 0, .int .u8 0, .int .u8 0, .int .u8 0, .int .u8 0, .int .u8 0, .int .u8 0, .int .u8 0, .int .u8 0, .int .u8 0, .int .u8 0, .int .u8 0, .int .u8 0, .int .u8 0, .int .u8 0, .int .u8 0, .int .u8 0, .int .u8 0] 27)) = w1 from HW1.out.symm]
  go_wp2_with fail
  refine (sum_any K w1 sb xs N H.out.2.2.1 H.out.2.2.2.1 hx hN).mono ?_
  rintro e w2 ⟨rfl, hT2⟩
  obtain ⟨ds, hds⟩ : ∃ ds, ds = digest K xs N := ⟨_, rfl⟩
  have hdl : ds.length = 32 := by rw [hds]; exact outS_iter _ 8 (by omega)
  rw [← hds]
  have HD := Lib.hid (And.intro hds hdl)
  have hi27 : (Tryd.prog.info? 27).map (·.size) = some (U8A ds).size := by rw [U8A_size, hdl]; kernel_rfl
  have hsz27 : (U8A (List.replicate 32 0)).size = (U8A ds).size := by rw [U8A_size, U8A_size, hdl]; rfl
  have hb2 := Blk.new w2 27 (U8A (List.replicate 32 0))
  have HI := Lib.hid (And.intro hi27 hsz27)
  clear hds hdl hi27 hsz27
  go_wp2_with (refine wpList_store_row rfl 27 (.tmp 3) (.tmp 12) rfl w2.heap.size (U8A ds) rfl rfl 27 _ hb2 HI.out.1 HI.out.2 (U8A_one _) ?_)
  dsimp only [Act.put]
  generalize hw3 : World.setRow _ _ _ = w3
  have hT23 : Touch (fun _ => False) w2 w3 := by rw [← hw3]; exact ((Touch.refl _ w2).alloc _).row (.inl (Nat.le_refl _)) _
  have hd3 : Blk w3 w2.heap.size 27 (U8A ds) := by rw [← hw3]; exact hb2.row _
  have hT13 := hT2.trans hT23 (by simp)
  have hs3 : w3.heap.size = w2.heap.size + 1 := by rw [← hw3]; simp
  have hh3 := H.out.2.1.touch hT13 (by simp)
  have htab3 := H.out.2.2.2.1.touch hT13 (by simp)
  have hr3 := H.out.2.2.2.2.2.touch hT13 (by simp)
  have H3 := Lib.hid (And.intro hd3 (And.intro hT13 (And.intro hh3 (And.intro htab3 (And.intro hr3 hs3)))))
  clear hw3 hT23 hd3 hT13 hh3 htab3 hr3 hb2 hT2 hs3
  obtain ⟨S, HS⟩ : ∃ S : World → Prop, Hid (∀ w', S w') := ⟨fun _ => True, fun _ => trivial⟩
  refine wp_region_gr S 5 [(0, false), (2, false), (1, true), (3, true), (4, true), (5, true)] (by kernel_rfl) (by kernel_rfl) (HS.out _) (fun hne => ?_)
  simp only [withOps, List.filterMap_cons, List.filterMap_nil, Option.map_some, List.getElem?_cons_zero, List.getElem?_cons_succ]
  repeat (refine wpGr_q ?_; (first | go_big_quiet_skip | (go_big_quiet_want; go_big_quiet_op; go_big_quiet_on)); refine wpQuiet_nil ?_)
  refine wpGr_eff rfl (fun K1 hK1 => ?_)
  go_wp2_with fail
  refine (hpad_any w3.drew hb ks (.pointer (some ⟨sb, 0, none⟩)) 92 H.out.1 H3.out.2.2.1.drew).mono ?_
  rintro e w4 ⟨r, hr, rfl, hr4, hT4⟩
  have hT34 : Touch (fun _ => False) w3 w4 := ((Touch.refl _ w3).drew).trans hT4 (by simp)
  have hxl : (xorL ks 92).length = 64 := by rw [xorL_len, H.out.1]
  have hrest4 : Rest w4 (some ⟨r, 0, none⟩) 64 (xorL ks 92) := .inr ⟨r, 0, _, rfl, hr4, by omega, by omega, by rw [U8A_size]; omega, fun i hi => by rw [Nat.zero_add, U8A_get hi]⟩
  have hin4 : Inb w4 (some ⟨w2.heap.size, 0, none⟩) ds := .inr ⟨_, 0, rfl, fun i hi => by rw [(H3.out.1.touch hT34 (by simp)).cell, Nat.zero_add, U8A_get hi]⟩
  refine hK1 _ _ ⟨.inr (HS.out _), ?_⟩
  refine wpGr_eff rfl (fun K2 hK2 => ?_)
  refine wp_rest_append (.tmp 14) (.tmp 15) rfl (some ⟨r, 0, none⟩) 64 (xorL ks 92) (by rw [hxl]; rfl) (some ⟨w2.heap.size, 0, none⟩) 32 ds (by rw [HD.out.2]; rfl) hrest4 hin4 (by rw [hxl, HD.out.2]; omega) ?_
  intro A5 cap5 w5 hr5 hT5 hf5
  rw [hxl, HD.out.2]
  dsimp only [Act.put]
  simp only [List.setIfInBounds_toArray, List.set_cons_succ, List.set_cons_zero]
  have hr' : w3.heap.size ≤ r := hr
  have hT35 : Touch (fun _ => False) w3 w5 := hT34.trans hT5 (fun b hb ⟨a, ha, e⟩ => by injection ha with ha; subst ha; simp at e; omega)
  have hl5 : (xorL ks 92 ++ ds).length = 64 + 32 := by rw [List.length_append, hxl, HD.out.2]
  have HSum := shasum_any K w5 A5 cap5 (xorL ks 92 ++ ds) hr5.inb (H3.out.2.2.2.1.touch hT35 (by simp)) (by rw [hl5]; omega)
  rw [hl5] at HSum
  have HS2 := Lib.hid HSum
  have H5 := Lib.hid (And.intro hT35 (H3.out.2.2.2.2.1.touch hT35 (by simp)))
  clear HSum hl5 hr5 hT5 hf5 hT34 hrest4 hin4 hr4 hT4 hT35 hxl
  refine hK2 _ _ ⟨.inr (HS.out _), ?_⟩
  refine wpGr_eff rfl (fun K3 hK3 => ?_)
  go_wp2_with fail
  refine HS2.out.mono ?_
  rintro e w6 ⟨he, hT6⟩
  obtain ⟨es, hes⟩ : ∃ es, es = digest K (xorL ks 92 ++ ds) (64 + 32) := ⟨_, rfl⟩
  rw [← hes] at he
  have hel : es.length = 32 := by rw [hes]; exact outS_iter _ 8 (by omega)
  have hi6 : (Tryd.prog.info? 27).map (·.size) = some (U8A es).size := by rw [U8A_size, hel]; kernel_rfl
  have hsz6 : (U8A (List.replicate 32 0)).size = (U8A es).size := by rw [U8A_size, U8A_size, hel]; rfl
  have HE := Lib.hid (And.intro hes (And.intro hi6 hsz6))
  have hr6 := H5.out.2.touch hT6 (by simp)
  clear hes hel hi6 hsz6
  subst he
  refine hK3 _ _ ⟨.inr (HS.out _), ?_⟩
  refine wpGr_eff rfl (fun K4 hK4 => ?_)
  refine wp_store_row 27 (.tmp 2) (.tmp 17) rfl w.heap.size (U8A es) rfl rfl 27 _ hr6 HE.out.2.1 HE.out.2.2 (U8A_one _) ?_
  refine hK4 _ _ ⟨by simp, wpGr_nil ?_⟩
  dsimp only [Act.put]
  go_wp2
  refine bodyPost_ret (v := .agg (U8A es)) (results_cell_row (P := Tryd.prog) rfl _ _ w.heap.size 27 _ (0, 0) (.array 32 5) rfl (hr6.row _) (by kernel_rfl) rfl HE.out.2.1) rfl ⟨?_, ?_⟩
  · rw [HE.out.1, HD.out.1]
  · exact ((H.out.2.2.2.2.1.trans H3.out.2.1 (by simp)).trans (H5.out.1.trans hT6 (by simp)) (by simp)).row (.inl (Nat.le_refl _)) _
end Go.Proofs.YtelmjlfhmbicjaaDoor
