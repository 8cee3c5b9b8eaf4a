/- TopAead's walk, where its test lets by. -/
import Derived.Test.YtelmjlfhmbicjaaAG
namespace Go.Proofs.Ytelmjlfhmbicjaa
open Go.RowKit
set_option linter.unusedVariables false

theorem sl27a (W : World) (g : Nat) : (Instr.sliceAt 27 (.pointer (some ⟨g, 0, none⟩)) none none none).run Try.prog W = .ok (.slice (some ⟨g, 0, none⟩) 12 12) W := by
  have hl : Try.prog.arrayLen 27 = 12 := by kernel_rfl
  have he : Try.prog.elem 27 = 5 := by kernel_rfl
  rw [run_sliceAt_array_all W 27 ⟨g, 0, none⟩ (by kernel_rfl), he, sz5, hl]
  simp only [slicedAt, Result.andThen_ok, Nat.zero_mul, Nat.sub_zero]
  rw [if_neg (by omega), Addr.add_mid]
theorem sl22a (W : World) (g : Nat) : (Instr.sliceAt 22 (.pointer (some ⟨g, 0, none⟩)) none none none).run Try.prog W = .ok (.slice (some ⟨g, 0, none⟩) 32 32) W := by
  have hl : Try.prog.arrayLen 22 = 32 := by kernel_rfl
  have he : Try.prog.elem 22 = 5 := by kernel_rfl
  rw [run_sliceAt_array_all W 22 ⟨g, 0, none⟩ (by kernel_rfl), he, sz5, hl]
  simp only [slicedAt, Result.andThen_ok, Nat.zero_mul, Nat.sub_zero]
  rw [if_neg (by omega), Addr.add_mid]

set_option maxRecDepth 100000 in
set_option maxHeartbeats 4000000 in
theorem law_in (w : World) (cs : Array Value) (kl nl aad b : List Int) (A1 A2 : Option Addr) (c1 c2 : Nat) (hk : kl.length = 32) (hn : nl.length = 12)
    (hck : ∀ i, i < 32 → cs[i]? = some (.int .u8 (kl.getD i 0))) (hcn : ∀ i, i < 12 → cs[33 + i]? = some (.int .u8 (nl.getD i 0)))
    (h1 : Inb w A1 aad) (h2 : Inb w A2 b) (hf : Fits aad b) :
    Calls Try.prog 3 #[.agg cs, .slice A1 aad.length c1, .slice A2 b.length c2] w fun e w' => e = .returned (.bool true) ∧ Below w.heap.size w w' := by
  obtain ⟨f1, f2, f3, f4⟩ := hf
  obtain ⟨F, hF⟩ := mul_ex (kr0 ((blockF kl nl 0).take 32)) (kr1 ((blockF kl nl 0).take 32))
  have g1 : ¬ (96 : Int) < b.length := by omega
  have g2 : ¬ (96 : Int) < aad.length := by omega
  have g3 : (b.length : Int) % 16 = 0 := by omega
  have g4 : (aad.length : Int) % 16 = 0 := by omega
  obtain ⟨W, hW⟩ : ∃ W, W = ((w.alloc (Obj.cells cs 25)).alloc (Obj.cells (U8A (List.replicate 12 0)) 27)) := ⟨_, rfl⟩
  have hTW : Touch (fun _ => False) w W := by rw [hW]; exact ((Touch.refl _ w).alloc _).alloc _
  have hbZ : Blk W w.heap.size 25 cs := by rw [hW]; exact (Blk.new w 25 _).alloc _
  have hbN : Blk W (w.heap.size + 1) 27 (U8A (List.replicate 12 0)) := by
    have := Blk.new (w.alloc (Obj.cells cs 25)) 27 (U8A (List.replicate 12 0))
    rw [World.size_alloc] at this
    rw [hW]; exact this
  obtain ⟨z, hz⟩ : ∃ z, z = w.heap.size := ⟨_, rfl⟩
  rw [← hz] at hbZ hbN
  have H := Lib.hid (And.intro hk (And.intro hn (And.intro hck (And.intro hcn (And.intro h1 (And.intro h2 (And.intro f1 (And.intro f2 (And.intro f3 (And.intro f4 hF))))))))))
  have HW := Lib.hid (And.intro hTW (And.intro hbZ (And.intro hbN hz)))
  clear hk hn hck hcn h1 h2 f1 f2 f3 f4 hF hTW hbZ hbN
  go_enter Try.func3, Try.ntmps3
  go_upto_region 4 with fail
  refine Eq.mp (congrArg (fun x => Code.wp _ _ _ _ x) hW) ?_
  rw [← hz]
  clear hW hz g1 g2 g3 g4
  go_wp2_with fail
  go_loopw [8] (fun x wr => ∃ j : Nat, j ≤ 12 ∧ x = .int .i64 j ∧ Blk wr (z + 1) 27 (U8A (iter (putF nl) j (List.replicate 12 0))) ∧ Touch (fun y => y = z + 1) W wr) (fun x _ => 12 - (intOf x).toNat)
  case atStart => exact ⟨0, by omega, rfl, HW.out.2.2.1, Touch.refl _ _⟩
  case round =>
    obtain ⟨j, hj, rfl, hb, hT⟩ := hrel
    have hl : (iter (putF nl) j (List.replicate 12 0)).length = 12 := by rw [iter_len _ (by intro i x; simp [putF])]; simp
    by_cases hj12 : j < 12
    · obtain ⟨X, hX⟩ : ∃ X, X = iter (putF nl) j (List.replicate 12 0) := ⟨_, rfl⟩
      rw [← hX] at hl hb
      have hbZ := HW.out.2.1.touch hT (by omega)
      have cz := hbZ.cell (33 + j)
      rw [H.out.2.2.2.1 j hj12] at cz
      obtain ⟨x, hx⟩ : ∃ x, x = nl.getD j 0 := ⟨_, rfl⟩
      rw [← hx] at cz
      have cn := hb.cell j
      rw [U8A_get (by omega)] at cn
      have fn := hb.frozen
      have HI := Lib.hid (And.intro hb (And.intro hT (And.intro hx hX)))
      clear hb hT hx hX hl hbZ
      go_wp2
      go_roundw
      case rel =>
        refine ⟨j + 1, by omega, by go_num, ?_, HI.out.2.1.setCell (p := ⟨z + 1, j, none⟩) (.inr rfl) _⟩
        have := HI.out.1.set_ j (.int .u8 x)
        rw [U8A_set] at this
        rw [iter, ← HI.out.2.2.2, putF, ← HI.out.2.2.1]
        exact this
      case measure => simp [intOf]; omega
    · have hj' : j = 12 := by omega
      have e : iter (putF nl) 12 (List.replicate 12 0) = nl := by
        rw [putF_iter nl 12 _ (by rw [H.out.2.1]; omega) (by rw [H.out.2.1]; simp), List.take_of_length_le (by rw [H.out.2.1]; omega)]
        simp
      rw [hj', e] at hb
      have hbyN : Byt wr (z + 1) 0 nl := by have := hb.byt 0 12; rwa [List.drop_zero, List.take_of_length_le (by rw [H.out.2.1]; omega)] at this
      have hbyK : Byt wr z 0 kl := fun i hi => by
        rw [(HW.out.2.1.touch hT (by omega)).cell, Nat.zero_add, H.out.2.2.1 i (by rw [H.out.1] at hi; exact hi)]
      have hTw : Touch (fun _ => False) w wr := HW.out.1.trans hT (fun y hy e => by have := HW.out.2.2.2; omega)
      have H1 := Lib.hid (And.intro hb (And.intro hbyN (And.intro hbyK hTw)))
      obtain ⟨wr1, hwr1⟩ : ∃ z, z = wr := ⟨_, rfl⟩
      rw [← hwr1] at H1 ⊢
      clear hwr1
      clear hj' e hb hbyN hbyK hT hTw hl
      go_upto_region 8 with fail
      obtain ⟨S, HS⟩ : ∃ S : World → Prop, Hid (∀ w', S w') := ⟨fun _ => True, fun _ => trivial⟩
      refine wp_region_tr S (.q 0 (.q 1 (.q 2 (.q 3 (.q 4 (.e 5 (.q 6 (.q 7 (.q 8 (.e 9 (.e 10 .nil))))))))))) (by kernel_rfl) (by kernel_rfl) (HS.out _) (fun hne => ?_)
      have z0 : ∀ x : SW S, (Instr.sliceAt 22 (.pointer (some ⟨z, 0, none⟩)) none none none).run Try.prog x.w = .ok (.slice (some ⟨z, 0, none⟩) 32 32) x.w := fun x => sl22a x.w z
      have z1 : ∀ x : SW S, (Instr.sliceAt 27 (.pointer (some ⟨z + 1, 0, none⟩)) none none none).run Try.prog x.w = .ok (.slice (some ⟨z + 1, 0, none⟩) 12 12) x.w := fun x => sl27a x.w (z + 1)
      repeat (refine wpTr_q (by simp only [List.getElem?_toArray, List.getElem?_cons_zero, List.getElem?_cons_succ]; rfl) ?_; (first | go_big_quiet_skip | (go_big_quiet_want; go_big_quiet_op; go_big_quiet_on)); refine wpQuiet_nil ?_)
      clear z0 z1
      refine wpTr_e (by simp only [List.getElem?_toArray, List.getElem?_cons_zero, List.getElem?_cons_succ]; rfl) (fun K1 hK1 => ?_)
      go_wp2_with fail
      have hTd : Touch (fun _ => False) wr1 wr1.drew := (Touch.refl _ wr1).drew
      refine (seal_any F wr1.drew kl nl aad b H.out.1 H.out.2.1 z 0 (z + 1) 0 A1 A2 c1 c2 H.out.2.2.2.2.2.2.2.2.2.2 (H1.out.2.2.1.touch hTd (fun h => h)) (H1.out.2.1.touch hTd (fun h => h)) ((H.out.2.2.2.2.1.touch H1.out.2.2.2 (fun _ _ _ _ h => h)).touch hTd (fun _ _ _ _ h => h)) ((H.out.2.2.2.2.2.1.touch H1.out.2.2.2 (fun _ _ _ _ h => h)).touch hTd (fun _ _ _ _ h => h)) H.out.2.2.2.2.2.2.2.2.2.1 H.out.2.2.2.2.2.2.2.2.1 (by have := H.out.2.2.2.2.2.2.2.1; omega) (by have := H.out.2.2.2.2.2.2.1; omega)).mono ?_
      rintro e w1 ⟨A, cap, rfl, hR, hT1, hA⟩
      obtain ⟨C, hC⟩ : ∃ C, C = cryptF kl nl 1 b := ⟨_, rfl⟩
      obtain ⟨G, hG⟩ : ∃ G, G = tagF F ((blockF kl nl 0).take 32) aad C := ⟨_, rfl⟩
      have hCl : C.length = b.length := by rw [hC]; exact cryptF_len _ _ _ _
      have hGl : G.length = 16 := by rw [hG]; exact tagF_len _ _ _ _
      have hsl : sealedF F kl nl aad b = C ++ G := by rw [sealedF, ← hC, ← hG]
      rw [hsl] at hR
      rcases hR with ⟨_, _, hx⟩ | ⟨g, off, cur, rfl, hcur, hle, hmx, hfit, hat⟩
      · have := congrArg List.length hx; rw [List.length_append, hGl] at this; simp at this
      · rw [List.length_append, hCl, hGl] at hle
        have hby : Byt w1 g off (C ++ G) := fun i hi => by rw [hcur.cell]; exact hat i hi
        have hbyC : Byt w1 g off C := fun i hi => by
          rw [hby i (by simp; omega)]
          simp [List.getD, List.getElem?_append_left hi]
        have hbyG : Byt w1 g (off + b.length) G := fun i hi => by
          have := hby (b.length + i) (by simp; omega)
          rw [show off + b.length + i = off + (b.length + i) from by omega, this]
          simp [List.getD, List.getElem?_append_right (show C.length ≤ b.length + i by omega), hCl]
        have hT01 : Touch (fun _ => False) wr1 w1 := hTd.trans hT1 (fun _ _ h => h)
        have hrK := byt_range (H1.out.2.2.1.touch hT01 (fun h => h))
        have hrN := H1.out.1.touch hT01 (fun h => h)
        have H2 := Lib.hid (And.intro hbyC (And.intro hbyG (And.intro hle (And.intro hC (And.intro hG (And.intro hCl (And.intro hGl (And.intro hT01 (And.intro hcur.lt hmx)))))))))
        clear hsl hat hby hbyC hbyG hC hG hCl hGl hT01 hT1 hTd hcur hle hfit hmx hA
        refine hK1 _ _ ⟨HS.out _, ?_⟩
        repeat (refine wpTr_q (by simp only [List.getElem?_toArray, List.getElem?_cons_zero, List.getElem?_cons_succ]; rfl) ?_; (first | go_big_quiet_skip | (go_big_quiet_want; go_big_quiet_op; go_big_quiet_on)); refine wpQuiet_nil ?_)
        refine wpTr_e (by simp only [List.getElem?_toArray, List.getElem?_cons_zero, List.getElem?_cons_succ]; rfl) (fun K2 hK2 => ?_)
        go_wp2_with fail
        try refine ⟨HS.out _, ?_⟩
        refine wpTr_e (by simp only [List.getElem?_toArray, List.getElem?_cons_zero, List.getElem?_cons_succ]; rfl) (fun K3 hK3 => ?_)
        go_wp2_with fail
        try refine ⟨HS.out _, wpTr_nil ?_⟩
        clear hne hK1
        have hi22 : (Try.prog.info? 22).map (·.size) = some ((kl.map (Value.int .u8))).length := by rw [List.length_map, H.out.1]; kernel_rfl
        have hi27 : (Try.prog.info? 27).map (·.size) = some (U8A nl).size := by rw [U8A_size, H.out.2.1]; kernel_rfl
        have HI := Lib.hid (And.intro hi22 hi27)
        clear hi22 hi27
        have hb96 := H.out.2.2.2.2.2.2.1
        have hw64 : wrap64 ((b.length : Int) + 16) = (b.length : Int) + 16 := by unfold wrap64; omega
        go_upto_region 11 with fail
        go_wp2_with (first | (refine wpList_load_mid rfl 22 (.tmp 65) rfl z 0 rfl (kl.map (Value.int .u8)) (.array 32 5) hrK (by kernel_rfl) rfl HI.out.1 ?_) | (refine wpList_load_row rfl 27 (.tmp 7) rfl (z + 1) rfl 27 (U8A nl) (0, 0) (.array 12 5) hrN (by kernel_rfl) rfl HI.out.2 ?_))
        rw [show (kl.map (Value.int .u8)).toArray = U8A kl from rfl]
        refine (block_any w1 kl nl 0 H.out.1 H.out.2.1).mono ?_
        rintro e w2 ⟨rfl, hT2⟩
        obtain ⟨B, hB⟩ : ∃ B, B = blockF kl nl 0 := ⟨_, rfl⟩
        rw [← hB]
        have hBl : B.length = 64 := by rw [hB]; exact blockF_len _ _ _
        have hl64 : (U8A (List.replicate 64 0)).size = (U8A B).size := by rw [U8A_size, U8A_size, hBl]; rfl
        have hi31 : (Try.prog.info? 31).map (·.size) = some (U8A B).size := by rw [U8A_size, hBl]; kernel_rfl
        have hs0 := Blk.new w2 31 (U8A (List.replicate 64 0))
        have HB := Lib.hid (And.intro hB (And.intro hBl (And.intro hi31 hl64)))
        clear hB hBl hl64 hi31 hrK hrN
        go_upto_region 12 with (refine wpList_store_row rfl 31 (.tmp 11) (.tmp 68) rfl w2.heap.size (U8A B) rfl rfl 31 _ hs0 HB.out.2.2.1 HB.out.2.2.2 (U8A_one _) ?_)
        obtain ⟨w3, hw3⟩ : ∃ w3, w3 = (w2.alloc (Obj.cells (U8A (List.replicate 64 0)) 31)).setRow w2.heap.size (U8A B) := ⟨_, rfl⟩
        have hT3 : Touch (fun _ => False) w1 w3 := by rw [hw3]; exact (hT2.alloc _).row (.inl hT2.size) _
        have hv3 : Blk w3 w2.heap.size 31 (U8A B) := by rw [hw3]; exact hs0.row _
        refine Eq.mp (congrArg (fun x => Code.wp _ _ _ _ x) hw3) ?_
        obtain ⟨v, hv⟩ : ∃ v, v = w2.heap.size := ⟨_, rfl⟩
        rw [← hv] at hv3 ⊢
        have HV3 := Lib.hid (And.intro hT3 hv3)
        clear hw3 hT3 hv3 hs0 hv hT2
        dsimp only [Act.put]
        go_wp2_with fail
        rw [show decide ((j : Int) < 12) = false from by simp; omega]
        have ho4 := Blk.new w3 22 (U8A (List.replicate 32 0))
        have hT4 : Touch (fun _ => False) w1 (w3.alloc (Obj.cells (U8A (List.replicate 32 0)) 22)) := HV3.out.1.alloc _
        have hv4 := HV3.out.2.alloc (Obj.cells (U8A (List.replicate 32 0)) 22)
        obtain ⟨w4, hw4⟩ : ∃ w4, w4 = w3.alloc (Obj.cells (U8A (List.replicate 32 0)) 22) := ⟨_, rfl⟩
        refine Eq.mp (congrArg (fun x => Code.wp _ _ _ _ x) hw4) ?_
        rw [← hw4] at ho4 hT4 hv4
        obtain ⟨o, ho⟩ : ∃ o, o = w3.heap.size := ⟨_, rfl⟩
        rw [← ho] at ho4 ⊢
        have hvo : v ≠ o := by have := HV3.out.2.lt; omega
        have hwo : w1.heap.size ≤ o := by have := HV3.out.1.size; omega
        have H4 := Lib.hid (And.intro ho4 (And.intro hT4 (And.intro hv4 (And.intro hvo hwo))))
        clear hw4 ho4 hT4 hv4 hvo hwo ho
        obtain ⟨kt, hkt⟩ : ∃ kt, kt = B.take 32 := ⟨_, rfl⟩
        have hktl : kt.length = 32 := by rw [hkt, List.length_take, HB.out.2.1]; rfl
        have HKT := Lib.hid (And.intro hkt hktl)
        clear hkt hktl
        go_loopw [13] (fun x wr => ∃ j : Nat, j ≤ 32 ∧ x = .int .i64 j ∧ Blk wr o 22 (U8A (iter (putF kt) j (List.replicate 32 0))) ∧ Touch (fun y => y = o) w4 wr) (fun x _ => 32 - (intOf x).toNat)
        case atStart => exact ⟨0, by omega, rfl, H4.out.1, Touch.refl _ _⟩
        case round =>
          obtain ⟨i, hi, rfl, hb, hT⟩ := hrel
          have hl : (iter (putF kt) i (List.replicate 32 0)).length = 32 := by rw [iter_len _ (by intro i x; simp [putF])]; simp
          by_cases hi32 : i < 32
          · obtain ⟨X, hX⟩ : ∃ X, X = iter (putF kt) i (List.replicate 32 0) := ⟨_, rfl⟩
            rw [← hX] at hl hb
            have hbv := H4.out.2.2.1.touch hT H4.out.2.2.2.1
            have cz := hbv.cell i
            rw [U8A_get (by rw [HB.out.2.1]; omega)] at cz
            have hxe : B.getD i 0 = kt.getD i 0 := by rw [HKT.out.1]; simp [List.getD, hi32]
            obtain ⟨x, hx⟩ : ∃ x, x = B.getD i 0 := ⟨_, rfl⟩
            rw [← hx] at cz hxe
            have cn := hb.cell i
            rw [U8A_get (by omega)] at cn
            have fn := hb.frozen
            have HI2 := Lib.hid (And.intro hb (And.intro hT (And.intro hxe hX)))
            clear hb hT hx hX hl hbv hxe
            go_wp2
            go_roundw
            case rel =>
              refine ⟨i + 1, by omega, by go_num, ?_, HI2.out.2.1.setCell (p := ⟨o, i, none⟩) (.inr rfl) _⟩
              have := HI2.out.1.set_ i (.int .u8 x)
              rw [U8A_set] at this
              rw [iter, ← HI2.out.2.2.2, putF, ← HI2.out.2.2.1]
              exact this
            case measure => simp [intOf]; omega
          · have hi' : i = 32 := by omega
            have e : iter (putF kt) 32 (List.replicate 32 0) = kt := by
              rw [putF_iter kt 32 _ (by rw [HKT.out.2]; omega) (by rw [HKT.out.2]; simp), List.take_of_length_le (by rw [HKT.out.2]; omega)]
              simp
            rw [hi', e] at hb
            have hTw : Touch (fun _ => False) w1 wr := H4.out.2.1.trans hT (fun y hy e => by have := H4.out.2.2.2.2; omega)
            have hi22 : (Try.prog.info? 22).map (·.size) = some (U8A kt).size := by rw [U8A_size, HKT.out.2]; kernel_rfl
            have H5 := Lib.hid (And.intro hTw hi22)
            clear hi' e hT hTw hi22 hl
            go_wp2_with (refine wpList_load_row rfl 22 (.tmp 12) rfl o rfl 22 (U8A kt) (0, 0) (.array 32 5) hb (by kernel_rfl) rfl H5.out.2 ?_)
            obtain ⟨B0, hB0⟩ : ∃ B0, B0 = wr.heap.size := ⟨_, rfl⟩
            refine (new_any wr B0 kt HKT.out.2 (by omega)).mono ?_
            rintro e w5 ⟨p, rfl, hp5, hT5⟩
            have H6 := Lib.hid (And.intro hp5 (And.intro (H5.out.1.trans hT5 (fun _ _ h => h)) (And.intro hB0 hT5.size)))
            clear hp5 hT5 hB0 hb
            go_wp2_with fail
            have hF : Mul (kr0 kt) (kr1 kt) F := by rw [HKT.out.1, HB.out.1]; exact H.out.2.2.2.2.2.2.2.2.2.2
            have hT05 : Touch (fun _ => False) w w5 := (H1.out.2.2.2.trans H2.out.2.2.2.2.2.2.2.1 (fun _ _ h => h)).trans H6.out.2.1 (fun _ _ h => h)
            have hB05 : w1.heap.size ≤ B0 := by have := H5.out.1.size; have := H6.out.2.2.1; omega
            have hB0w : w.heap.size ≤ B0 := by have := H1.out.2.2.2.size; have := H2.out.2.2.2.2.2.2.2.1.size; omega
            have hI5 : Inb w5 A1 aad := H.out.2.2.2.2.1.touch hT05 (fun _ _ _ _ h => h)
            have hwr := write_any F B0 _ _ _ _ hF w5 p _ [] aad A1 c1 H6.out.1 hI5 (by have := H.out.2.2.2.2.2.2.2.1; simp; omega) (by have := H6.out.2.2; omega)
            rw [List.nil_append, wrR_nil H.out.2.2.2.2.2.2.2.2.2.1] at hwr
            have H7 := Lib.hid (And.intro hwr (And.intro hF (And.intro hT05 (And.intro hB05 hB0w))))
            clear hwr hF hT05 hB05 hB0w hI5
            refine H7.out.1.mono ?_
            rintro e w6 ⟨rfl, hp6, hT6⟩
            have hC6 : Byt w6 g off C := (H2.out.1.touch H6.out.2.1 (fun h => h)).touch hT6 (by have := H2.out.2.2.2.2.2.2.2.2.1; have := H7.out.2.2.2.1; omega)
            have hwr := write_any F B0 _ _ _ _ H7.out.2.1 w6 p _ [] C (some ⟨g, off, none⟩) cap hp6 (.inr ⟨g, off, rfl, hC6⟩) (by have := H2.out.2.2.2.2.2.1; simp; omega) (by have := H6.out.2.2; have := hT6.size; omega)
            rw [List.nil_append, wrR_nil (by rw [H2.out.2.2.2.2.2.1]; exact H.out.2.2.2.2.2.2.2.2.1), H2.out.2.2.2.2.2.1] at hwr
            have H8 := Lib.hid (And.intro hwr hT6)
            have hcb : (b.length : Int) ≤ cap := by have := H2.out.2.2.1; omega
            clear hwr hT6 hC6 hp6
            go_wp2_with fail
            refine H8.out.1.mono ?_
            rintro e w7 ⟨rfl, hp7, hT7⟩
            have H9 := Lib.hid (And.intro hp7 (H8.out.2.trans hT7 (fun _ _ h => h)))
            clear hp7 hT7
            have hw1 : IntKind.u64.wrap (aad.length : Int) = aad.length := by have := H.out.2.2.2.2.2.2.2.1; rw [IntKind.wrap_u64]; omega
            have hw2 : IntKind.u64.wrap (b.length : Int) = b.length := by rw [IntKind.wrap_u64]; omega
            have HW1 := Lib.hid hw1
            have HW2 := Lib.hid hw2
            clear hw1 hw2
            go_wp2_with fail
            rw [HW1.out]
            refine (little_any w7 aad.length 8 (by omega)).mono ?_
            rintro e w8 ⟨rfl, hb8, hT8⟩
            obtain ⟨y1, hy1⟩ : ∃ y, y = leL (aad.length : Int) 8 := ⟨_, rfl⟩
            have hy1l : y1.length = 8 := by rw [hy1, leL_len]
            rw [← hy1] at hb8
            have hby : Byt w8 (w7.heap.size + 1) 0 y1 := by have := hb8.byt 0 8; rwa [List.drop_zero, List.take_of_length_le (by omega)] at this
            have hwr := write_any F B0 _ _ _ _ H7.out.2.1 w8 p _ [] y1 (some ⟨w7.heap.size + 1, 0, none⟩) 8 (H9.out.1.touch hT8) (.inr ⟨_, 0, rfl, hby⟩) (by simp; omega) (by have := H6.out.2.2; have := H9.out.2.size; have := hT8.size; omega)
            rw [hy1l, List.nil_append] at hwr
            have H10 := Lib.hid (And.intro hwr (And.intro (H9.out.2.trans hT8 (fun _ _ h => h.elim)) (And.intro hy1 hy1l)))
            clear hwr hb8 hT8 hby hy1 hy1l
            go_wp2_with fail
            refine H10.out.1.mono ?_
            rintro e w9 ⟨rfl, hp9, hT9⟩
            have H11 := Lib.hid (And.intro hp9 (H10.out.2.1.trans hT9 (fun _ _ h => h)))
            clear hp9 hT9
            go_wp2_with fail
            refine (little_any w9 b.length 8 (by omega)).mono ?_
            rintro e w10 ⟨rfl, hb10, hT10⟩
            obtain ⟨y2, hy2⟩ : ∃ y, y = leL (b.length : Int) 8 := ⟨_, rfl⟩
            have hy2l : y2.length = 8 := by rw [hy2, leL_len]
            rw [← hy2] at hb10
            have hby : Byt w10 (w9.heap.size + 1) 0 y2 := by have := hb10.byt 0 8; rwa [List.drop_zero, List.take_of_length_le (by omega)] at this
            have hr1 : wrR y1 = y1 := by unfold wrR; rw [H10.out.2.2.2]; rfl
            have hwr := write_any F B0 _ _ _ _ H7.out.2.1 w10 p _ (wrR y1) y2 (some ⟨w9.heap.size + 1, 0, none⟩) 8 (H11.out.1.touch hT10) (.inr ⟨_, 0, rfl, hby⟩) (by rw [hr1, H10.out.2.2.2]; omega) (by have := H6.out.2.2; have := H11.out.2.size; have := hT10.size; omega)
            have hz : wrR (wrR y1 ++ y2) = [] := wrR_nil (by rw [List.length_append, hr1, H10.out.2.2.2, hy2l])
            rw [hy2l, hz] at hwr
            have H12 := Lib.hid (And.intro hwr (And.intro (H11.out.2.trans hT10 (fun _ _ h => h.elim)) (And.intro hy2 hy2l)))
            clear hwr hb10 hT10 hby hy2 hy2l hr1 hz
            go_wp2_with fail
            refine H12.out.1.mono ?_
            rintro e w11 ⟨rfl, hp11, hT11⟩
            have H13 := Lib.hid (And.intro hp11 (H12.out.2.1.trans hT11 (fun _ _ h => h)))
            clear hp11 hT11
            go_wp2_with fail
            refine (sum_any w11 B0 _ _ (ks0 kt) (ks1 kt) p _ (leN_eq _).2 H13.out.1).mono ?_
            rintro e w12 ⟨rfl, hT12⟩
            have hG : sumF (wrH F (wrH F (wrH F (wrH F (0, 0, 0) aad) C) y1) (wrR y1 ++ y2)) (ks0 kt) (ks1 kt) = G := by
              rw [H2.out.2.2.2.2.1, tagF, H10.out.2.2.1, H12.out.2.2.1, HKT.out.1, HB.out.1, H2.out.2.2.2.2.2.1]
              rfl
            rw [hG]
            have hl16 : (U8A (List.replicate 16 0)).size = (U8A G).size := by rw [U8A_size, U8A_size, H2.out.2.2.2.2.2.2.1]; rfl
            have hi23 : (Try.prog.info? 23).map (·.size) = some (U8A G).size := by rw [U8A_size, H2.out.2.2.2.2.2.2.1]; kernel_rfl
            have hs0 := Blk.new w12 23 (U8A (List.replicate 16 0))
            have HG := Lib.hid (And.intro hi23 (And.intro hl16 hT12))
            clear hi23 hl16 hG hT12
            go_upto_region 23 with (refine wpList_store_row rfl 23 (.tmp 15) (.tmp 102) rfl w12.heap.size (U8A G) rfl rfl 23 _ hs0 HG.out.1 HG.out.2.1 (U8A_one _) ?_)
            obtain ⟨w13, hw13⟩ : ∃ z, z = (w12.alloc (Obj.cells (U8A (List.replicate 16 0)) 23)).setRow w12.heap.size (U8A G) := ⟨_, rfl⟩
            have hT13 : Touch (fun y => B0 ≤ y) w5 w13 := by rw [hw13]; exact ((H13.out.2.trans HG.out.2.2 (fun _ _ h => h.elim)).alloc _).row (.inl (by have := H13.out.2.size; have := HG.out.2.2.size; omega)) _
            have hv13 : Blk w13 w12.heap.size 23 (U8A G) := by rw [hw13]; exact hs0.row _
            refine Eq.mp (congrArg (fun x => Code.wp _ _ _ _ x) hw13) ?_
            obtain ⟨q, hq⟩ : ∃ q, q = w12.heap.size := ⟨_, rfl⟩
            rw [← hq] at hv13 ⊢
            have H14 := Lib.hid (And.intro hT13 hv13)
            clear hw13 hT13 hv13 hs0 hq
            dsimp only [Act.put]
            have hTall : ∀ w', Touch (fun _ => False) w13 w' → Touch (fun y => B0 ≤ y) w5 w' := fun w' ht => H14.out.1.trans ht (fun _ _ h => h.elim)
            obtain ⟨S, HS⟩ : ∃ S : World → Prop, Hid (∀ w', S w' ↔ (Byt w' g off C ∧ Byt w' g (off + b.length) G ∧ w'.rangeAt z 0 (kl.map (Value.int .u8)) ∧ w'.rangeAt (z + 1) 0 (nl.map (Value.int .u8)) ∧ Byt w' q 0 G)) := ⟨_, fun _ => Iff.rfl⟩
            have hSS : ∀ w', Touch (fun _ => False) w13 w' → S w' := fun w' ht => by
              have hgl : ¬ B0 ≤ g := by have := H2.out.2.2.2.2.2.2.2.2.1; have := H7.out.2.2.2.1; omega
              have hz2 : z + 1 < w1.heap.size := by have := H1.out.1.lt; have := H2.out.2.2.2.2.2.2.2.1.size; omega
              have hT15 : Touch (fun _ => False) w1 w5 := H6.out.2.1
              have hT1x : Touch (fun y => B0 ≤ y) w1 w' := (hT15.weaken (fun _ _ h => h.elim)).trans (hTall w' ht) (fun _ _ h => h)
              have hTwx : Touch (fun y => B0 ≤ y) wr1 w' := (H2.out.2.2.2.2.2.2.2.1.weaken (fun _ _ h => h.elim)).trans hT1x (fun _ _ h => h)
              have hB := H7.out.2.2.2.1
              refine (HS.out _).2 ⟨H2.out.1.touch hT1x hgl, H2.out.2.1.touch hT1x hgl, byt_range (H1.out.2.2.1.touch hTwx (by omega)), byt_range (H1.out.2.1.touch hTwx (by omega)), ?_⟩
              have := (H14.out.2.touch ht (fun h => h)).byt 0 16
              rwa [List.drop_zero, List.take_of_length_le (by rw [H2.out.2.2.2.2.2.2.1]; omega)] at this
            obtain ⟨SC, hSC⟩ : ∃ s, s = strOfNums C := ⟨_, rfl⟩
            obtain ⟨SG, hSG⟩ : ∃ s, s = strOfNums G := ⟨_, rfl⟩
            have hi22 : (Try.prog.info? 22).map (·.size) = some ((kl.map (Value.int .u8))).length := by rw [List.length_map, H.out.1]; kernel_rfl
            have hi27 : (Try.prog.info? 27).map (·.size) = some ((nl.map (Value.int .u8))).length := by rw [List.length_map, H.out.2.1]; kernel_rfl
            have HX := Lib.hid (And.intro hSC (And.intro hSG (And.intro hi22 (And.intro hi27 hTall))))
            have HSS := Lib.hid hSS
            refine wp_region_tr S (.q 0 (.q 1 (.q 2 (.q 3 (.q 4 (.q 5 (.q 6 (.q 7 (.q 8 (.e 9 (.e 10 (.q 11 (.q 12 (.q 13 (.q 14 (.q 15 (.q 16 (.q 17 (.q 18 (.q 19 (.q 20 (.q 21 (.q 22 (.g 23 (.q 24 (.e 25 .nil)))))))))))))))))))))))))) (by kernel_rfl) (by kernel_rfl) (hSS _ (Touch.refl _ _).drew) (fun hne => ?_)
            have hnc : ¬ cap = b.length := by have := H2.out.2.2.1; omega
            have v4 : ∀ x : SW S, (convert 26 9 (.slice (some ⟨g, off, none⟩) b.length cap)).run Try.prog x.w = .ok (.string SC) x.w := fun x => by rw [hSC]; exact conv_inb x.w _ _ _ C H2.out.2.2.2.2.2.1 (.inr ⟨g, off, rfl, ((HS.out _).1 x.ok).1⟩)
            have v17 : ∀ (x : SW S) (cc : Nat), (convert 26 9 (.slice (some ⟨g, off + b.length, none⟩) 16 cc)).run Try.prog x.w = .ok (.string SG) x.w := fun x cc => by rw [hSG]; exact conv_inb x.w _ _ _ G H2.out.2.2.2.2.2.2.1 (.inr ⟨g, _, rfl, ((HS.out _).1 x.ok).2.1⟩)
            have v19 : ∀ x : SW S, (convert 26 9 (.slice (some ⟨q, 0, none⟩) 16 16)).run Try.prog x.w = .ok (.string SG) x.w := fun x => by rw [hSG]; exact conv_inb x.w _ _ _ G H2.out.2.2.2.2.2.2.1 (.inr ⟨q, 0, rfl, ((HS.out _).1 x.ok).2.2.2.2⟩)
            have v18 : ∀ x : SW S, (Instr.sliceAt 23 (.pointer (some ⟨q, 0, none⟩)) none none none).run Try.prog x.w = .ok (.slice (some ⟨q, 0, none⟩) 16 16) x.w := fun x => sl23a x.w q
            clear hSS hTall hSC hSG hi22 hi27
            repeat (refine wpTr_q (by simp only [List.getElem?_toArray, List.getElem?_cons_zero, List.getElem?_cons_succ]; rfl) ?_; (first | go_big_quiet_skip | (go_big_quiet_want; go_big_quiet_op; go_big_quiet_on)); refine wpQuiet_nil ?_)
            refine wpTr_load (by simp only [List.getElem?_toArray, List.getElem?_cons_zero, List.getElem?_cons_succ]; rfl) rfl 22 (.tmp 108) rfl z 0 rfl (kl.map (Value.int .u8)) (.array 32 5) (fun y => ((HS.out _).1 y.ok).2.2.1) (by kernel_rfl) rfl HX.out.2.2.1 ?_
            rw [show (kl.map (Value.int .u8)).toArray = U8A kl from rfl]
            dsimp only [Act.put]
            simp only [List.setIfInBounds_toArray, List.set_cons_succ, List.set_cons_zero]
            refine wpTr_load (by simp only [List.getElem?_toArray, List.getElem?_cons_zero, List.getElem?_cons_succ]; rfl) rfl 27 (.tmp 7) rfl (z + 1) 0 rfl (nl.map (Value.int .u8)) (.array 12 5) (fun y => ((HS.out _).1 y.ok).2.2.2.1) (by kernel_rfl) rfl HX.out.2.2.2.1 ?_
            rw [show (nl.map (Value.int .u8)).toArray = U8A nl from rfl]
            dsimp only [Act.put]
            simp only [List.setIfInBounds_toArray, List.set_cons_succ, List.set_cons_zero]
            repeat (refine wpTr_q (by simp only [List.getElem?_toArray, List.getElem?_cons_zero, List.getElem?_cons_succ]; rfl) ?_; (first | go_big_quiet_skip | (go_big_quiet_want; go_big_quiet_op; go_big_quiet_on)); refine wpQuiet_nil ?_)
            refine wpTr_e (by simp only [List.getElem?_toArray, List.getElem?_cons_zero, List.getElem?_cons_succ]; rfl) (fun K4 hK4 => ?_)
            go_wp2_with fail
            have hTd : Touch (fun _ => False) w13 w13.drew := (Touch.refl _ w13).drew
            have hIb : Inb w13.drew A2 b := by
              refine ((H.out.2.2.2.2.2.1.touch H7.out.2.2.1 (fun _ _ _ _ h => h)).touch (HX.out.2.2.2.2 _ hTd) (fun a ha hx hlt hge => ?_))
              have := H.out.2.2.2.2.2.1.lt hx ha
              have := H7.out.2.2.2.2
              omega
            refine (crypt_any w13.drew kl nl 1 A2 b.length c2 b H.out.1 H.out.2.1 rfl (by omega) hIb).mono ?_
            rintro e w14 ⟨g2, rfl, hb14, hT14, hg14⟩
            rw [← H2.out.2.2.2.1] at hb14
            have hT13 : Touch (fun _ => False) w13 w14 := hTd.trans hT14 (fun _ _ h => h)
            refine hK4 _ _ ⟨HSS.out _ hT13, ?_⟩
            have v10 : (convert 26 9 (.slice (some ⟨g2, 0, none⟩) b.length b.length)).run Try.prog w14 = .ok (.string SC) w14 := by
              rw [HX.out.1]
              refine conv_inb w14 _ _ _ C H2.out.2.2.2.2.2.1 (.inr ⟨g2, 0, rfl, ?_⟩)
              have := hb14.byt 0 C.length
              rwa [List.drop_zero, List.take_of_length_le (Nat.le_refl _)] at this
            have H15 := Lib.hid hT13
            clear hTd hIb hb14 hT14 hg14 hT13
            refine wpTr_e (by simp only [List.getElem?_toArray, List.getElem?_cons_zero, List.getElem?_cons_succ]; rfl) (fun K5 hK5 => ?_)
            go_wp2_with fail
            try refine ⟨HSS.out _ H15.out, ?_⟩
            clear v10
            repeat (refine wpTr_q (by simp only [List.getElem?_toArray, List.getElem?_cons_zero, List.getElem?_cons_succ]; rfl) ?_; (first | go_big_quiet_skip | (go_big_quiet_want; go_big_quiet_op; go_big_quiet_on)); refine wpQuiet_nil ?_)
            refine wpTr_g (by simp only [List.getElem?_toArray, List.getElem?_cons_zero, List.getElem?_cons_succ]; rfl) (by first | rfl | decide | simp [Region.wanted]) (fun K6 hK6 => ?_)
            go_wp2_with fail
            refine (awake_any _).mono ?_
            rintro e w15 ⟨rfl, hT15⟩
            have H16 := Lib.hid (H15.out.trans hT15 (fun _ _ h => h))
            clear hT15
            refine hK6 _ _ ⟨HSS.out _ H16.out, ?_⟩
            repeat (refine wpTr_q (by simp only [List.getElem?_toArray, List.getElem?_cons_zero, List.getElem?_cons_succ]; rfl) ?_; (first | go_big_quiet_skip | (go_big_quiet_want; go_big_quiet_op; go_big_quiet_on)); refine wpQuiet_nil ?_)
            refine wpTr_e (by simp only [List.getElem?_toArray, List.getElem?_cons_zero, List.getElem?_cons_succ]; rfl) (fun K7 hK7 => ?_)
            go_wp2_with fail
            try refine ⟨HSS.out _ H16.out, wpTr_nil ?_⟩
            try go_wp2
            go_ret
            refine ⟨rfl, ?_⟩
            have hTe := HX.out.2.2.2.2 _ H16.out
            have hTf : Touch (fun _ => False) w w15 := H7.out.2.2.1.trans hTe (fun y hy h => by have := H7.out.2.2.2.2; omega)
            exact hTf.below _ (Nat.le_refl _) (by simp)
end Go.Proofs.Ytelmjlfhmbicjaa
