/- hmac.Sum. -/
import Derived.Test.YtelmjlfhmbicjaaDoorQ
namespace Go.Proofs.YtelmjlfhmbicjaaDoor
open Go.RowKit
set_option linter.unusedVariables false

def hmacF (K ks ys : List Int) : List Int := digest K (xorL ks 92 ++ digest K (xorL ks 54 ++ ys) (64 + ys.length)) (64 + 32)
theorem hmacF_len (K ks ys : List Int) : (hmacF K ks ys).length = 32 := outS_iter _ 8 (by omega)

set_option maxHeartbeats 400000 in
set_option maxRecDepth 100000 in
theorem hmac_any (K : List Int) (w : World) (g c cb : Nat) (ks ys : List Int) (B : Option Addr) (hk : ks.length = 64) (h : Byt w g 0 ks) (hs : Inb w B ys) (hT : Tab K w) (hy : ys.length ≤ 5000) :
    Calls Tryd.prog 7 #[.slice (some ⟨g, 0, none⟩) 64 c, .slice B ys.length cb] w fun e w' => e = .returned (.agg (U8A (hmacF K ks ys))) ∧ Touch (fun _ => False) w w' := by
  obtain ⟨w1, hw1⟩ : ∃ w1, w1 = w.alloc (.cells (U8A (List.replicate 32 0)) 27) := ⟨_, rfl⟩
  have hT1 : Touch (fun _ => False) w w1 := by rw [hw1]; exact (Touch.refl _ w).alloc _
  have hr1 : Blk w1 w.heap.size 27 (U8A (List.replicate 32 0)) := by rw [hw1]; exact Blk.new _ _ _
  have hb1 : Byt w1 g 0 ks := fun i hi => by
    have hu := h i hi
    have hlt := block_lt_of_cell hu
    have : w1.cell? ⟨g, 0 + i, none⟩ = w.cell? ⟨g, 0 + i, none⟩ := by unfold World.cell?; rw [hT1.block g hlt (by simp)]
    rw [this]; exact hu
  have H := Lib.hid (And.intro hk (And.intro hb1 (And.intro hs (And.intro (hT.touch hT1 (by simp)) (And.intro hT1 hr1)))))
  have hpos : 0 < w.heap.size := hT.1
  have HW1 := Lib.hid hw1
  clear hw1 hT1 hr1 hb1 hk h hs hT
  go_enter Tryd.func7, Tryd.ntmps7
  go_upto_region 1 with (fail)
  generalize hwg : World.alloc w _ = wg
  obtain rfl : wg = w1 := by rw [← hwg, HW1.out]; rfl
  clear hwg
  go_wp2_with fail
  refine (hnew_any K wg g c ks H.out.1 H.out.2.1 H.out.2.2.2.1).mono ?_
  rintro e w2 ⟨sb, hsb, rfl, hh2, hsha2, hT2, hn2⟩
  go_wp2_with fail
  have hlt1 : w.heap.size < wg.heap.size := H.out.2.2.2.2.2.lt
  have hT02 := H.out.2.2.2.2.1.trans hT2 (by simp)
  have hxl : (xorL ks 54).length = 64 := by rw [xorL_len, H.out.1]
  refine (hwrite_any K w2 wg.heap.size sb ks (xorL ks 54) ys B cb 64 H.out.1 hh2 hsha2 (H.out.2.2.1.touch hT02 (by simp)) (fun a ha hy ho => by have h1 := H.out.2.2.1.lt hy ha; have h2 := hn2 _ ho; omega) (H.out.2.2.2.1.touch hT2 (by simp)) (fun ho => by have h2 := hn2 _ ho; omega) (by rw [hxl]; omega) (by omega)).mono ?_
  rintro e w3 ⟨rfl, hsha3, hT3, hf3⟩
  have hh3 := hh2.touch hT3 (fun ho => by have h2 := hn2 _ ho; omega)
  have hT03 : Touch (fun _ => False) w w3 := hT02.trans hT3 (fun b hb ho => by have h2 := hn2 _ ho; omega)
  have hT13 : Touch (fun _ => False) wg w3 := hT2.trans hT3 (fun b hb ho => by have h2 := hn2 _ ho; omega)
  have htab3 : Tab K w3 := H.out.2.2.2.1.touch hT13 (by simp)
  have hr3 := H.out.2.2.2.2.2.touch hT13 (by simp)
  have H3 := Lib.hid (And.intro hh3 (And.intro hsha3 (And.intro hT03 (And.intro htab3 (And.intro hr3 hxl)))))
  clear hh3 hsha3 hT03 hT13 htab3 hr3 hT3 hf3 hh2 hsha2 hT2 hn2 hT02 hxl
  go_wp2_with fail
  refine (hsum_any K w3 wg.heap.size sb ks (xorL ks 54 ++ ys) (64 + ys.length) H.out.1 H3.out.1 H3.out.2.1 H3.out.2.2.2.1 (by rw [List.length_append, H3.out.2.2.2.2.2]; omega) (by omega)).mono ?_
  rintro e w4 ⟨he, hT4⟩
  obtain ⟨es, hes⟩ : ∃ es, es = hmacF K ks ys := ⟨_, rfl⟩
  have he' : e = .returned (.agg (U8A es)) := by rw [he, hes, hmacF]
  have hel : es.length = 32 := by rw [hes, hmacF_len]
  have hi6 : (Tryd.prog.info? 27).map (·.size) = some (U8A es).size := by rw [U8A_size, hel]; kernel_rfl
  have hsz6 : (U8A (List.replicate 32 0)).size = (U8A es).size := by rw [U8A_size, U8A_size, hel]; rfl
  have HE := Lib.hid (And.intro hes (And.intro hi6 hsz6))
  have hr4 := H3.out.2.2.2.2.1.touch hT4 (by simp)
  clear hes hel hi6 hsz6 he
  subst he'
  go_wp2_with (refine wpList_store_row rfl 27 (.tmp 4) (.tmp 12) rfl w.heap.size (U8A es) rfl rfl 27 _ hr4 HE.out.2.1 HE.out.2.2 (U8A_one _) ?_)
  refine bodyPost_ret (v := .agg (U8A es)) (results_cell_row (P := Tryd.prog) rfl _ _ w.heap.size 27 _ (0, 0) (.array 32 5) rfl (hr4.row _) (by kernel_rfl) rfl HE.out.2.1) rfl ⟨by rw [HE.out.1], ?_⟩
  exact (H3.out.2.2.1.trans hT4 (by simp)).row (.inl (Nat.le_refl _)) _

theorem awake_any (w : World) : Calls Tryd.prog 8 #[] w fun e w' => e = .returned (.bool true) ∧ Touch (fun _ => False) w w' := by
  have hb : Byt (w.alloc (.cells #[.int .u8 1, .int .u8 2] 5)) w.heap.size 0 [1, 2] := fun i hi => by
    rw [(Blk.new w 5 #[.int .u8 1, .int .u8 2]).cell]
    match i, hi with
    | 0, _ => rfl
    | 1, _ => rfl
  go_enter Tryd.func8, Tryd.ntmps8
  go_wp2_with fail
  refine (big_any _ _ _ _ _ [1, 2] rfl (by simp) hb).mono ?_
  rintro e w2 ⟨rfl, rfl⟩
  have hv : bigF [1, 2] = 258 := by decide +kernel
  rw [hv]
  go_wp2
  go_ret
  exact ⟨rfl, (Touch.refl _ w).alloc _⟩
end Go.Proofs.YtelmjlfhmbicjaaDoor
