/- hmac: New, Write, Sum. -/
import Derived.Test.YtelmjlfhmbicjaaDoorO
namespace Go.Proofs.YtelmjlfhmbicjaaDoor
open Go.RowKit
set_option linter.unusedVariables false

theorem hmA_spl (zs ks : List Int) (p : Value) (h : zs.length = ks.length) : spl (hmA zs p) 0 (ks.map (Value.int .u8)) = hmA ks p := by
  simp [spl, hmA, h]

theorem zero51 (w : World) : (zeroValue 51).run Tryd.prog w = .ok (.agg (hmA (List.replicate 64 0) (.pointer none))) w := by
  have h : (Tryd.prog.info? 51).map (·.zero) = some (some (.agg (hmA (List.replicate 64 0) (.pointer none)))) := by kernel_rfl
  cases hq : Tryd.prog.info? 51 with
  | none => simp [hq] at h
  | some i => simp [hq] at h; simp [zeroValue, typeInfo, hq, h, Sem.run_bind]

set_option maxHeartbeats 800000 in
set_option maxRecDepth 100000 in
theorem hnew_any (K : List Int) (w : World) (g c : Nat) (ks : List Int) (hk : ks.length = 64) (h : Byt w g 0 ks) (hT : Tab K w) :
    Calls Tryd.prog 13 #[.slice (some ⟨g, 0, none⟩) 64 c] w fun e w' => ∃ sb, w.heap.size < sb ∧ e = .returned (.pointer (some ⟨w.heap.size, 0, none⟩)) ∧ Blk w' w.heap.size 51 (hmA ks (.pointer (some ⟨sb, 0, none⟩))) ∧ Sha K w' sb (xorL ks 54) 64 ∧ Touch (fun _ => False) w w' ∧ ∀ b, OwnS w' sb b → w.heap.size < b := by
  obtain ⟨w1, hw1⟩ : ∃ w1, w1 = w.alloc (.cells (hmA (List.replicate 64 0) (.pointer none)) 51) := ⟨_, rfl⟩
  have hb1 : Blk w1 w.heap.size 51 (hmA (List.replicate 64 0) (.pointer none)) := by rw [hw1]; exact Blk.new _ _ _
  have hT1 : Touch (fun _ => False) w w1 := by rw [hw1]; exact (Touch.refl _ w).alloc _
  have hs1 : w1.heap.size = w.heap.size + 1 := by rw [hw1]; simp
  have hz : (List.replicate 64 (0 : Int)).length = ks.length := by rw [hk]; simp
  obtain ⟨w2, hw2⟩ : ∃ w2, w2 = w1.setRow w.heap.size (spl (hmA (List.replicate 64 0) (.pointer none)) 0 (ks.map (Value.int .u8))) := ⟨_, rfl⟩
  have hg : g < w.heap.size := block_lt_of_cell (h 0 (by omega))
  have hcp : (Builtin.copy_ #[23, 23] 3 #[.slice (some ⟨w.heap.size, 0, none⟩) 64 64, .slice (some ⟨g, 0, none⟩) 64 c]).run Tryd.prog w1 = .ok (.int .i64 64) w2 := by
    rw [hw2]
    have := run_copy_row (P := Tryd.prog) w1 23 23 3 5 w.heap.size 0 64 64 ⟨g, 0, none⟩ 64 c (hmA (List.replicate 64 0) (.pointer none)) 51 (ks.map (Value.int .u8)) (by kernel_rfl) (by kernel_rfl) hb1 (by simp [hk]) (fun j u hu => by
      have hj : j < ks.length := by
        rcases Nat.lt_or_ge j ks.length with h | h
        · exact h
        · rw [List.getElem?_eq_none (by simpa using h)] at hu; cases hu
      have e : w1.cell? ⟨g, 0 + j, none⟩ = w.cell? ⟨g, 0 + j, none⟩ := by unfold World.cell?; rw [hT1.block g hg (by simp)]
      rw [Addr.add_mid, e, h j hj, ← hu, u8_get ks j hj]) (by simp [hmA, hk]) (by
      intro v hv
      simp at hv
      obtain ⟨x, _, rfl⟩ := hv
      rfl)
    rw [this]
    simp [goInt, spl, hk]
  have hb2 : Blk w2 w.heap.size 51 (hmA ks (.pointer none)) := by
    rw [hw2, hmA_spl _ _ _ hz]; exact hb1.row _
  have hT2 : Touch (fun _ => False) w w2 := by rw [hw2]; exact hT1.row (.inl (Nat.le_refl _)) _
  have hs2 : w2.heap.size = w.heap.size + 1 := by rw [hw2]; simp [hs1]
  have HW1 := Lib.hid hw1
  have H := Lib.hid (And.intro hk (And.intro hb2 (And.intro hT2 (And.intro hs2 hT))))
  clear hw1 hb1 hT1 hs1 hz hw2 hb2 hT2 hs2 hk h hT
  have hz51 := zero51 w
  go_enter Tryd.func13, Tryd.ntmps13
  go_upto_region 2 with (fail)
  generalize hwg : World.alloc w _ = wg
  obtain rfl : wg = w1 := by rw [← hwg, HW1.out]; rfl
  clear hwg
  go_wp2_with fail
  refine (reset_any K w2 w.heap.size ks (.pointer none) H.out.1 H.out.2.1 (H.out.2.2.2.2.touch H.out.2.2.1 (by simp)) (by omega)).mono ?_
  rintro e w3 ⟨sb, hsb, rfl, hh3, hsha3, hT3, hn3⟩
  have hs2 := H.out.2.2.2.1
  have hsb' : w.heap.size < sb := by omega
  have hT03 : Touch (fun _ => False) w w3 := H.out.2.2.1.trans hT3 (by intro b hb e; omega)
  have hn3' : ∀ b, OwnS w3 sb b → w.heap.size < b := fun b ho => by have := hn3 b ho; omega
  have H3 := Lib.hid (And.intro hh3 (And.intro hsha3 (And.intro hT03 hn3')))
  clear hs2 hh3 hsha3 hT3 hn3 hT03 hn3'
  go_wp2
  go_ret
  exact ⟨sb, hsb', rfl, H3.out.1, H3.out.2.1, H3.out.2.2.1, H3.out.2.2.2⟩

theorem hwrite_any (K : List Int) (w : World) (hb sb : Nat) (ks xs ys : List Int) (B : Option Addr) (c N : Nat) (hk : ks.length = 64) (hh : Blk w hb 51 (hmA ks (.pointer (some ⟨sb, 0, none⟩)))) (h : Sha K w sb xs N) (hs : Inb w B ys) (hB : ∀ a, B = some a → ys ≠ [] → ¬ OwnS w sb a.block) (hK0 : Tab K w) (h0 : ¬ OwnS w sb 0) (hb' : xs.length + ys.length ≤ 20000) (hN : N ≤ 20000) :
    Calls Tryd.prog 14 #[.pointer (some ⟨hb, 0, none⟩), .slice B ys.length c] w fun e w' => e = .returned (.tuple #[]) ∧ Sha K w' sb (xs ++ ys) (N + ys.length) ∧ Touch (OwnS w sb) w w' ∧ ∀ b, OwnS w' sb b → OwnS w sb b ∨ w.heap.size ≤ b := by
  have hp : w.cell? ⟨hb, 64, none⟩ = some (.pointer (some ⟨sb, 0, none⟩)) := by rw [hh.cell, ← hk, hmA_ptr]
  have HW := Lib.hid (write_any K w sb xs ys B c N h hs hB hK0 h0 hb' hN)
  clear h hs hB hK0 h0 hb' hN hk hh
  go_enter Tryd.func14, Tryd.ntmps14
  go_wp2_with fail
  refine HW.out.mono ?_
  rintro e w2 ⟨rfl, h2⟩
  have H2 := Lib.hid h2
  clear h2
  go_wp2
  go_end0
  exact ⟨rfl, H2.out⟩

end Go.Proofs.YtelmjlfhmbicjaaDoor
