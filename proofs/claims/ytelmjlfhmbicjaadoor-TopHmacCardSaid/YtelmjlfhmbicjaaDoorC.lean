/- Block. -/
import Derived.Test.YtelmjlfhmbicjaaDoorB
import Derived.Deep.DeepCutAuto
namespace Go.Proofs.YtelmjlfhmbicjaaDoor
open Go.RowKit
set_option linter.unusedVariables false

theorem ix44 (W : World) (cs : Array Value) (j : Nat) (u : Value) (hj : j < 64) (hc : cs.size = 64) (h : cs[j]? = some u) : (Instr.index 44 (.agg cs) (.int .i64 j)).run Tryd.prog W = .ok u W := by
  have h44 : Tryd.prog.underlying 44 = some (.array 64 32) := by kernel_rfl
  have hi : (Tryd.prog.info? 32).map (·.size) = some 1 := by kernel_rfl
  have hn : (0 : Int) ≤ j ∧ (j : Int) < 64 := by omega
  simp [Instr.index, run_underlying h44, asIntOf, hn, go_sem, hj, h]

/-- The rounds' numbers lie in the variable. -/
def Tab (K : List Int) (w : World) : Prop := 0 < w.heap.size ∧ ∀ i, i < 64 → w.cell? ⟨0, i, none⟩ = some (.int .u32 (K.getD i 0))
theorem Tab.touch {K : List Int} {S : Nat → Prop} {w w' : World} (h : Tab K w) (ht : Touch S w w') (hS : ¬ S 0) : Tab K w' := by
  refine ⟨by have := h.1; have := ht.size; omega, fun i hi => ?_⟩
  have : w'.cell? ⟨0, i, none⟩ = w.cell? ⟨0, i, none⟩ := by unfold World.cell?; rw [ht.block 0 h.1 hS]
  rw [this]; exact h.2 i hi

def tF (a4 a5 a6 a7 k w : Int) : Int := a7 + turF a4 6 11 25 + bits .xor .u32 (bits .and .u32 a4 a5) (bits .and .u32 (bits .xor .u32 IntKind.u32.max a4) a6) + k + w
def uF (a0 a1 a2 : Int) : Int := turF a0 2 13 22 + bits .xor .u32 (bits .xor .u32 (bits .and .u32 a0 a1) (bits .and .u32 a0 a2)) (bits .and .u32 a1 a2)
/-- A round. -/
def rnd (K ws : List Int) (i : Nat) (V : List Int) : List Int :=
  [(tF (V.getD 4 0) (V.getD 5 0) (V.getD 6 0) (V.getD 7 0) (K.getD i 0) (ws.getD i 0) + uF (V.getD 0 0) (V.getD 1 0) (V.getD 2 0)) % 4294967296, V.getD 0 0, V.getD 1 0, V.getD 2 0,
    (V.getD 3 0 + tF (V.getD 4 0) (V.getD 5 0) (V.getD 6 0) (V.getD 7 0) (K.getD i 0) (ws.getD i 0)) % 4294967296, V.getD 4 0, V.getD 5 0, V.getD 6 0]
theorem iter_len8 (f : Nat → List Int → List Int) (hf : ∀ i x, (f i x).length = 8) (x : List Int) (hx : x.length = 8) : ∀ n, (iter f n x).length = 8
  | 0 => hx
  | n + 1 => hf _ _
theorem list8 (V : List Int) (h : V.length = 8) : V = [V.getD 0 0, V.getD 1 0, V.getD 2 0, V.getD 3 0, V.getD 4 0, V.getD 5 0, V.getD 6 0, V.getD 7 0] := by
  match V, h with
  | [a, b, c, d, e, f, g, i], _ => rfl
/-- h goes on by v. -/
def add8 (v : List Int) (i : Nat) (h : List Int) : List Int := h.set i ((h.getD i 0 + v.getD i 0) % 4294967296)
/-- A block. -/
def blockF (K hs xs : List Int) : List Int := iter (add8 (iter (rnd K (spreadF xs)) 64 hs)) 8 hs
theorem blockF_len (K hs xs : List Int) (h : hs.length = 8) : (blockF K hs xs).length = 8 := by
  unfold blockF
  rw [iter_len _ (by intro i x; simp [add8])]
  exact h

set_option maxHeartbeats 1000000 in
set_option maxRecDepth 100000 in
theorem block_any (K : List Int) (w : World) (hs xs : List Int) (hh : hs.length = 8) (hx : xs.length = 64) (hK : Tab K w) :
    Calls Tryd.prog 10 #[.agg (U32A hs), .agg (U8A xs)] w fun e w' => e = .returned (.agg (U32A (blockF K hs xs))) ∧ Touch (fun _ => False) w w' := by
  have HX := Lib.hid hx
  have HH := Lib.hid hh
  have HK := Lib.hid hK
  clear hx hh hK
  have hi33 : (Tryd.prog.info? 33).map (·.size) = some (U32A hs).size := by rw [U32A_size, HH.out]; kernel_rfl
  have HI := Lib.hid hi33
  clear hi33
  go_enter Tryd.func10, Tryd.ntmps10
  go_upto_region 1 with (fail)
  generalize hw1 : World.alloc (World.alloc (World.alloc w _) _) _ = w1
  have hT1 : Touch (fun _ => False) w w1 := by rw [← hw1]; exact (((Touch.refl _ w).alloc _).alloc _).alloc _
  have hh1 : Blk w1 w.heap.size 33 (U32A hs) := by rw [← hw1]; exact ((Blk.new _ _ _).alloc _).alloc _
  have hx1 : Blk w1 (w.heap.size + 1) 22 (U8A xs) := by
    rw [← hw1]
    have := (Blk.new (w.alloc (.cells (U32A hs) 33)) 22 (U8A xs)).alloc (.cells (U32A (List.replicate 8 0)) 33)
    rw [World.size_alloc] at this
    exact this
  have hr1 : Blk w1 (w.heap.size + 2) 33 (U32A (List.replicate 8 0)) := by
    rw [← hw1]
    have := Blk.new ((w.alloc (.cells (U32A hs) 33)).alloc (.cells (U8A xs) 22)) 33 (U32A (List.replicate 8 0))
    rw [World.size_alloc, World.size_alloc] at this
    exact this
  have hs1 : w1.heap.size = w.heap.size + 3 := by rw [← hw1]; simp
  have HZ := Lib.hid hs1
  have h22 : (Tryd.prog.info? 22).map (·.size) = some (U8A xs).size := by rw [U8A_size, HX.out]; kernel_rfl
  have HJ := Lib.hid h22
  have hv0 := Blk.new w1 33 (U32A (List.replicate 8 0))
  have ho33 : (U32A (List.replicate 8 0)).size = (U32A hs).size := by rw [U32A_size, U32A_size, HH.out]; rfl
  have HO := Lib.hid ho33
  clear hw1 h22 hs1 ho33
  go_upto_region 2 with (first | (refine wpList_load_row rfl 33 (.tmp 2) rfl w.heap.size rfl 33 (U32A hs) (0, 0) (.array 8 32) hh1 (by kernel_rfl) rfl HI.out ?_) | (refine wpList_store_row rfl 33 (.tmp 5) (.tmp 13) rfl w1.heap.size (U32A hs) rfl rfl 33 _ hv0 HI.out HO.out (U32A_one _) ?_))
  have hT2 : Touch (fun _ => False) w ((w1.alloc (.cells (U32A (List.replicate 8 0)) 33)).setRow w1.heap.size (U32A hs)) := (hT1.alloc _).row (.inl (by have := hT1.size; omega)) _
  have hh2 := (hh1.alloc (.cells (U32A (List.replicate 8 0)) 33)).row_far (k := w1.heap.size) (by have := hh1.lt; omega) (U32A hs)
  have hx2 := (hx1.alloc (.cells (U32A (List.replicate 8 0)) 33)).row_far (k := w1.heap.size) (by have := hx1.lt; omega) (U32A hs)
  have hr2 := (hr1.alloc (.cells (U32A (List.replicate 8 0)) 33)).row_far (k := w1.heap.size) (by have := hr1.lt; omega) (U32A hs)
  have hv2 := hv0.row (U32A hs)
  obtain ⟨v, hv⟩ : ∃ v, v = w1.heap.size := ⟨_, rfl⟩
  have hvs : v = w.heap.size + 3 := by rw [hv]; exact HZ.out
  rw [← hv] at hT2 hh2 hx2 hr2 hv2 ⊢
  obtain ⟨w2, hw2⟩ : ∃ w2, w2 = ((w1.alloc (.cells (U32A (List.replicate 8 0)) 33)).setRow v (U32A hs)) := ⟨_, rfl⟩
  rw [← hw2] at hT2 hh2 hx2 hr2 hv2
  have HW := Lib.hid hw2
  have hw2' : (w1.alloc (.cells #[.int .u32 0, .int .u32 0, .int .u32 0, .int .u32 0, .int .u32 0, .int .u32 0, .int .u32 0, .int .u32 0] 33)).setRow v (U32A hs) = w2 := hw2.symm
  rw [hw2']
  have HV := Lib.hid hvs
  clear hw2 hw2' HW hv0 hh1 hx1 hr1 hT1 HZ hv hvs
  go_wp2_with (refine wpList_load_row rfl 22 (.tmp 3) rfl (w.heap.size + 1) rfl 22 (U8A xs) (0, 0) (.array 64 5) hx2 (by kernel_rfl) rfl HJ.out ?_)
  refine (spread_any _ _ HX.out).mono ?_
  rintro e w3 ⟨rfl, hT3⟩
  have hh3 := hh2.touch hT3 (by simp)
  have hr3 := hr2.touch hT3 (by simp)
  have hv3 := hv2.touch hT3 (by simp)
  have hT3' := hT2.trans hT3 (by simp)
  clear hx2 hr2 hv2 hh2 hT2 hT3
  go_wp2_with fail
  have hK3 : Tab K w3 := HK.out.touch hT3' (by simp)
  obtain ⟨ws, hws⟩ : ∃ ws, ws = spreadF xs := ⟨_, rfl⟩
  have hwl : ws.length = 64 := by rw [hws, spreadF_len]
  rw [← hws]
  have HWS := Lib.hid (And.intro hws hwl)
  clear hws hwl
  go_loopw [16] (fun i wr => ∃ j : Nat, j ≤ 64 ∧ i = .int .i64 j ∧ Blk wr v 33 (U32A (iter (rnd K ws) j hs)) ∧ Touch (fun b => b = v) w3 wr) (fun i _ => 64 - (intOf i).toNat)
  case atStart => exact ⟨0, by omega, rfl, hv3, Touch.refl _ _⟩
  case round =>
    obtain ⟨j, hj, rfl, hv, hT⟩ := hrel
    by_cases hj64 : j < 64
    · have hl : (iter (rnd K ws) j hs).length = 8 := by exact iter_len8 _ (by intro i x; rfl) _ HH.out _
      obtain ⟨V, hV⟩ : ∃ V, V = iter (rnd K ws) j hs := ⟨_, rfl⟩
      rw [← hV] at hl hv
      have hwj : (U32A ws)[j]? = some (.int .u32 (ws.getD j 0)) := U32A_get (by rw [HWS.out.2]; exact hj64)
      have hk := (hK3.touch hT (by have := HV.out; omega)).2 j hj64
      have c0 := hv.cell 0
      have c1 := hv.cell 1
      have c2 := hv.cell 2
      have c3 := hv.cell 3
      have c4 := hv.cell 4
      have c5 := hv.cell 5
      have c6 := hv.cell 6
      have c7 := hv.cell 7
      rw [U32A_get (by omega)] at c0 c1 c2 c3 c4 c5 c6 c7
      obtain ⟨a0, h0⟩ : ∃ x, x = V.getD 0 0 := ⟨_, rfl⟩
      obtain ⟨a1, h1⟩ : ∃ x, x = V.getD 1 0 := ⟨_, rfl⟩
      obtain ⟨a2, h2⟩ : ∃ x, x = V.getD 2 0 := ⟨_, rfl⟩
      obtain ⟨a3, h3⟩ : ∃ x, x = V.getD 3 0 := ⟨_, rfl⟩
      obtain ⟨a4, h4⟩ : ∃ x, x = V.getD 4 0 := ⟨_, rfl⟩
      obtain ⟨a5, h5⟩ : ∃ x, x = V.getD 5 0 := ⟨_, rfl⟩
      obtain ⟨a6, h6⟩ : ∃ x, x = V.getD 6 0 := ⟨_, rfl⟩
      obtain ⟨a7, h7⟩ : ∃ x, x = V.getD 7 0 := ⟨_, rfl⟩
      obtain ⟨wj, hwj'⟩ : ∃ x, x = ws.getD j 0 := ⟨_, rfl⟩
      obtain ⟨kj, hkj⟩ : ∃ x, x = K.getD j 0 := ⟨_, rfl⟩
      rw [← h0] at c0
      rw [← h1] at c1
      rw [← h2] at c2
      rw [← h3] at c3
      rw [← h4] at c4
      rw [← h5] at c5
      rw [← h6] at c6
      rw [← h7] at c7
      rw [← hwj'] at hwj
      rw [← hkj] at hk
      have HA := Lib.hid (And.intro h0 (And.intro h1 (And.intro h2 (And.intro h3 (And.intro h4 (And.intro h5 (And.intro h6 (And.intro h7 (And.intro hV (And.intro hl (And.intro hwj' hkj)))))))))))
      have hf := hv.frozen
      clear h0 h1 h2 h3 h4 h5 h6 h7 hV hl hwj' hkj hK3
      have hix := ix44 wr _ j _ hj64 (by rw [U32A_size, HWS.out.2]) hwj
      clear hwj
      go_wp2_with fail
      refine wp_region_qall (by kernel_rfl) (by kernel_rfl) ?_
      repeat (first | go_big_quiet_skip | (go_big_quiet_want; go_big_quiet_op; go_big_quiet_on))
      go_big_quiet_want
      go_big_quiet_op
      refine ⟨_, turned_any _ 6 11 25 (by omega) (by omega) (by omega) _, ?_⟩
      go_big_quiet_on
      repeat (first | go_big_quiet_skip | (go_big_quiet_want; go_big_quiet_op; go_big_quiet_on))
      refine wpQuiet_nil ?_
      go_wp2_with fail
      refine (turned_any _ 2 13 22 (by omega) (by omega) (by omega) _).mono ?_
      rintro e w4 ⟨rfl, rfl⟩
      go_wp2_with fail
      go_roundw
      case rel =>
        obtain ⟨h0, h1, h2, h3, h4, h5, h6, h7, hV, hl, hwj', hkj⟩ := HA.out
        refine ⟨j + 1, by omega, by go_num, ?_, ?_⟩
        · have := (((((((((hv.set_ 0 (.int .u32 ((tF a4 a5 a6 a7 kj wj + uF a0 a1 a2) % 4294967296))).set_ 1 (.int .u32 a0)).set_ 2 (.int .u32 a1)).set_ 3 (.int .u32 a2)).set_ 4 (.int .u32 ((a3 + tF a4 a5 a6 a7 kj wj) % 4294967296))).set_ 5 (.int .u32 a4)).set_ 6 (.int .u32 a5)).set_ 7 (.int .u32 a6)).drew)
          rw [U32A_set, U32A_set, U32A_set, U32A_set, U32A_set, U32A_set, U32A_set, U32A_set] at this
          have e : (((((((V.set 0 ((tF a4 a5 a6 a7 kj wj + uF a0 a1 a2) % 4294967296)).set 1 a0).set 2 a1).set 3 a2).set 4 ((a3 + tF a4 a5 a6 a7 kj wj) % 4294967296)).set 5 a4).set 6 a5).set 7 a6 = iter (rnd K ws) (j + 1) hs := by
            rw [iter, ← hV, rnd, ← h0, ← h1, ← h2, ← h3, ← h4, ← h5, ← h6, ← h7, ← hwj', ← hkj]
            rw [list8 V hl]
            rfl
          rw [e] at this
          exact this
        · exact ((((((((hT.setCell (.inr rfl) _).setCell (.inr rfl) _).setCell (.inr rfl) _).setCell (.inr rfl) _).setCell (.inr rfl) _).setCell (.inr rfl) _).setCell (.inr rfl) _).setCell (.inr rfl) _).drew
      case measure => simp [intOf]; omega
    · have hj' : j = 64 := by omega
      rw [hj'] at hv
      have hl : (iter (rnd K ws) 64 hs).length = 8 := iter_len8 _ (by intro i x; rfl) _ HH.out _
      obtain ⟨V, hV⟩ : ∃ V, V = iter (rnd K ws) 64 hs := ⟨_, rfl⟩
      rw [← hV] at hl hv
      have HV2 := Lib.hid (And.intro hV hl)
      have hh := hh3.touch hT (by have := HV.out; omega)
      have hr := hr3.touch hT (by have := HV.out; omega)
      have hTw : Touch (fun _ => False) w wr := hT3'.trans hT (by intro b hb e; have := HV.out; omega)
      clear hj hj' hV hl hK3
      go_wp2_with fail
      go_loopw [89] (fun i wq => ∃ j : Nat, j ≤ 8 ∧ i = .int .i64 j ∧ Blk wq v 33 (U32A V) ∧ Blk wq w.heap.size 33 (U32A (iter (add8 V) j hs)) ∧ Touch (fun b => b = w.heap.size) wr wq) (fun i _ => 8 - (intOf i).toNat)
      case atStart => exact ⟨0, by omega, rfl, hv, hh, Touch.refl _ _⟩
      case round =>
        clear hv hh
        obtain ⟨j, hj, rfl, hv, hh, hT⟩ := hrel
        by_cases hj8 : j < 8
        · have hl : (iter (add8 V) j hs).length = 8 := by rw [iter_len _ (by intro i x; simp [add8])]; exact HH.out
          obtain ⟨Z, hZ⟩ : ∃ Z, Z = iter (add8 V) j hs := ⟨_, rfl⟩
          rw [← hZ] at hl hh
          have cv := hv.cell j
          rw [U32A_get (by rw [HV2.out.2]; exact hj8)] at cv
          have ch := hh.cell j
          rw [U32A_get (by omega)] at ch
          obtain ⟨a, ha⟩ : ∃ x, x = V.getD j 0 := ⟨_, rfl⟩
          obtain ⟨b, hb⟩ : ∃ x, x = Z.getD j 0 := ⟨_, rfl⟩
          rw [← ha] at cv
          rw [← hb] at ch
          have hf := hh.frozen
          have HA := Lib.hid (And.intro ha (And.intro hb (And.intro hZ hl)))
          clear ha hb hZ hl
          go_wp2_with fail
          refine wp_region_qtail 8 (by kernel_rfl) (by kernel_rfl) ?_
          simp only [List.take_succ_cons, List.take_zero, List.drop_succ_cons, List.drop_zero]
          repeat (first | go_big_quiet_skip | (go_big_quiet_want; go_big_quiet_op; go_big_quiet_on))
          refine wpQuiet_nil ?_
          go_wp2
          go_roundw
          case rel =>
            obtain ⟨ha, hb, hZ, hl⟩ := HA.out
            have hne : ¬ v = w.heap.size := by have := HV.out; omega
            refine ⟨j + 1, by omega, by go_num, (hv.far (p := ⟨w.heap.size, j, none⟩) hne _).drew, ?_, (hT.setCell (p := ⟨w.heap.size, j, none⟩) (.inr rfl) _).drew⟩
            have := (hh.set_ j (.int .u32 ((b + a) % 4294967296))).drew
            rw [U32A_set] at this
            have e : Z.set j ((b + a) % 4294967296) = iter (add8 V) (j + 1) hs := by rw [iter, ← hZ, add8, ← ha, ← hb]
            rw [e] at this
            exact this
          case measure => simp [intOf]; omega
        · have hj' : j = 8 := by omega
          rw [hj', HV2.out.1, HWS.out.1] at hh
          have hb : Blk wr w.heap.size 33 (U32A (blockF K hs xs)) := hh
          have hr5 := hr.touch hT (by omega)
          have hi : (Tryd.prog.info? 33).map (·.size) = some (U32A (blockF K hs xs)).size := by rw [U32A_size, blockF_len K hs xs HH.out]; kernel_rfl
          have hsz : (U32A (List.replicate 8 0)).size = (U32A (blockF K hs xs)).size := by rw [U32A_size, U32A_size, blockF_len K hs xs HH.out]; rfl
          have HI2 := Lib.hid (And.intro hi hsz)
          clear hj' hh hi hsz hv hr
          go_wp2_with (first | (refine wpList_load_row rfl 33 (.tmp 2) rfl w.heap.size rfl 33 (U32A (blockF K hs xs)) (0, 0) (.array 8 32) hb (by kernel_rfl) rfl HI2.out.1 ?_) | (refine wpList_store_row rfl 33 (.tmp 4) (.tmp 101) rfl (w.heap.size + 1 + 1) (U32A (blockF K hs xs)) rfl rfl 33 _ hr5 HI2.out.1 HI2.out.2 (U32A_one _) ?_))
          refine bodyPost_ret (v := .agg (U32A (blockF K hs xs))) (results_cell_row (P := Tryd.prog) rfl _ _ (w.heap.size + 2) 33 _ (0, 0) (.array 8 32) rfl (hr5.row _) (by kernel_rfl) rfl HI2.out.1) rfl ⟨rfl, ?_⟩
          exact (hTw.trans hT (by intro b hb e; omega)).row (.inl (by omega)) _
end Go.Proofs.YtelmjlfhmbicjaaDoor
