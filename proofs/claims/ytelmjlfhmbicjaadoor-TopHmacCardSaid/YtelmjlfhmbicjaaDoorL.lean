/- sha.Sum; hmac's pieces. -/
import Derived.Test.YtelmjlfhmbicjaaDoorK
namespace Go.Proofs.YtelmjlfhmbicjaaDoor
open Go.RowKit
set_option linter.unusedVariables false

theorem sha_new {K : List Int} {w : World} {sb : Nat} (h : Blk w sb 36 (shaA start (.slice none 0 0) 0)) : Sha K w sb [] 0 :=
  ⟨Nat.le_refl _, none, 0, h, .inl ⟨rfl, rfl, rfl⟩, fun a ha => by cases ha⟩
theorem own_new {w : World} {sb : Nat} (h : Blk w sb 36 (shaA start (.slice none 0 0) 0)) {b : Nat} (ho : OwnS w sb b) : b = sb := by
  rcases (OwnS.of (hs := start) h rfl).1 ho with h | ⟨a, ha, _⟩
  · exact h
  · cases ha

set_option maxHeartbeats 400000 in
theorem shasum_any (K : List Int) (w : World) (B : Option Addr) (c : Nat) (ys : List Int) (h : Inb w B ys) (hK : Tab K w) (hb : ys.length ≤ 10000) :
    Calls Tryd.prog 20 #[.slice B ys.length c] w fun e w' => e = .returned (.agg (U8A (digest K ys ys.length))) ∧ Touch (fun _ => False) w w' := by
  have HI := Lib.hid h
  have HK := Lib.hid hK
  obtain ⟨w1, hw1⟩ : ∃ w1, w1 = w.alloc (.cells (U8A (List.replicate 32 0)) 27) := ⟨_, rfl⟩
  have hT1 : Touch (fun _ => False) w w1 := by rw [hw1]; exact (Touch.refl _ w).alloc _
  have hr1 : Blk w1 w.heap.size 27 (U8A (List.replicate 32 0)) := by rw [hw1]; exact Blk.new _ _ _
  have HW1 := Lib.hid hw1
  have HT1 := Lib.hid hT1
  have HR1 := Lib.hid hr1
  clear h hK hw1 hT1 hr1
  go_enter Tryd.func20, Tryd.ntmps20
  go_upto_region 1 with (fail)
  rw [show (w.alloc (.cells #[.int .u8 0, .int .u8 0, .int .u8 0, .int .u8 0, .int .u8 0, .int .u8 0, .int .u8 0, .int .u8 0, .int .u8 0, .int .u8 0, .int .u8 0, .int .u8 0, .int .u8 0, .int .u8 0, .int .u8 0, .int .u8 0, .int .u8 0, .int .u8 0, .int .u8 0, .int .u8 0, .int .u8 0, .int .u8 0, .int .u8 0, .int .u8 0, .int .u8 0, .int .u8 0, .int .u8 0, .int .u8 0, .int .u8 0, .int .u8 0, .int .u8 0, .int .u8 0] 27)) = w1 from HW1.out.symm]
  go_wp2_with fail
  refine (new_any w1).mono ?_
  rintro e w2 ⟨sb, hsb, rfl, hb2, hT2⟩
  go_wp2_with fail
  have hsz1 : w.heap.size < w1.heap.size := HR1.out.lt
  have hT02 := HT1.out.trans hT2 (by simp)
  have hin2 : Inb w2 B ys := HI.out.touch hT02 (by simp)
  refine (write_any K w2 sb [] ys B c 0 (sha_new hb2) hin2 (fun a ha hy ho => by have h1 := HI.out.lt hy ha; have h2 := own_new hb2 ho; omega) (HK.out.touch hT02 (by simp)) (fun ho => by have h2 := own_new hb2 ho; omega) (by simp; omega) (by omega)).mono ?_
  rintro e w3 ⟨rfl, hsha3, hT3, hf3⟩
  simp only [List.nil_append, Nat.zero_add] at hsha3
  have hT03 : Touch (fun _ => False) w w3 := hT02.trans hT3 (fun b hb ho => by have h2 := own_new hb2 ho; omega)
  have hr3 : Blk w3 w.heap.size 27 (U8A (List.replicate 32 0)) := (HR1.out.touch hT2 (by simp)).touch hT3 (fun ho => by have h2 := own_new hb2 ho; omega)
  go_wp2_with fail
  refine (sum_any K w3 sb ys ys.length hsha3 (HK.out.touch hT03 (by simp)) hb hb).mono ?_
  rintro e w4 ⟨rfl, hT4⟩
  have hdl : (digest K ys ys.length).length = 32 := outS_iter _ 8 (by omega)
  have hr4 := hr3.touch hT4 (by simp)
  have hi : (Tryd.prog.info? 27).map (·.size) = some (U8A (digest K ys ys.length)).size := by rw [U8A_size, hdl]; kernel_rfl
  have hsz : (U8A (List.replicate 32 0)).size = (U8A (digest K ys ys.length)).size := by rw [U8A_size, U8A_size, hdl]; rfl
  have HI2 := Lib.hid (And.intro hi (And.intro hsz (hT03.trans hT4 (by simp))))
  clear hi hsz hdl hsha3 hT3 hf3 hb2 hT2 hin2
  go_wp2_with (refine wpList_store_row rfl 27 (.tmp 2) (.tmp 9) rfl w.heap.size (U8A (digest K ys ys.length)) rfl rfl 27 _ hr4 HI2.out.1 HI2.out.2.1 (U8A_one _) ?_)
  refine bodyPost_ret (v := .agg (U8A (digest K ys ys.length))) (results_cell_row (P := Tryd.prog) rfl _ _ w.heap.size 27 _ (0, 0) (.array 32 5) rfl (hr4.row _) (by kernel_rfl) rfl HI2.out.1) rfl ⟨rfl, ?_⟩
  exact HI2.out.2.2.row (.inl (Nat.le_refl _)) _
end Go.Proofs.YtelmjlfhmbicjaaDoor
