/- chacha: Block. -/
import Derived.Test.YtelmjlfhmbicjaaS
import Derived.Test.YtelmjlfhmbicjaaRegZ
import Derived.Deep.DeepCutAuto
namespace Go.Proofs.Ytelmjlfhmbicjaa
open Go.RowKit
set_option linter.unusedVariables false

/-- One quarter of a round; a round; two. -/
def qrF (a b c d : Nat) (s : List Int) : List Int :=
  let q := quarterF (s.getD a 0) (s.getD b 0) (s.getD c 0) (s.getD d 0)
  (((s.set a q.1).set b q.2.1).set c q.2.2.1).set d q.2.2.2
def qiF (k i : Nat) (s : List Int) : List Int := qrF i (4 + (i + k) % 4) (8 + (i + 2 * k) % 4) (12 + (i + 3 * k) % 4) s
def rndF (k : Nat) (s : List Int) : List Int := iter (qiF k) 4 s
def dblF (_ : Nat) (s : List Int) : List Int := iter rndF 2 s
theorem sl31 (W : World) (g l : Nat) (h1 : l < 64) : (Instr.sliceAt 31 (.pointer (some ⟨g, 0, none⟩)) (some (.int .i64 l)) none none).run Try.prog W = .ok (.slice (some ⟨g, l, none⟩) (64 - l) (64 - l)) W := by
  have hl : Try.prog.arrayLen 31 = 64 := by kernel_rfl
  have he : Try.prog.elem 31 = 5 := by kernel_rfl
  rw [run_sliceAt_array_l W 31 ⟨g, 0, none⟩ (by kernel_rfl) .i64 l (by omega) (by rw [hl]; omega), he, sz5, hl]
  simp only [Result.andThen_ok, slicedAt]
  have e2 : (l : Int).toNat = l := by omega
  rw [e2, if_neg (by omega), Addr.add_mid]
  simp
theorem qiF_len (k i : Nat) (s : List Int) : (qiF k i s).length = s.length := by simp [qiF, qrF]
theorem rndF_len (k : Nat) (s : List Int) : (rndF k s).length = s.length := iter_len _ (qiF_len k) _ _
theorem dblF_len (k : Nat) (s : List Int) : (dblF k s).length = s.length := iter_len _ rndF_len _ _
def outF (was s : List Int) (i : Nat) (o : List Int) : List Int := copyF o (4 * i) (leL ((s.getD i 0 + was.getD i 0) % 4294967296) 4)
def blockF (key nonce : List Int) (n : Int) : List Int := iter (outF (firstF key nonce n) (iter dblF 10 (firstF key nonce n))) 16 (List.replicate 64 0)

set_option maxRecDepth 100000 in
set_option maxHeartbeats 4000000 in
theorem block_any (w : World) (key nonce : List Int) (n : Int) (hk : key.length = 32) (hn : nonce.length = 12) :
    Calls Try.prog 5 #[.agg (U8A key), .agg (U8A nonce), .int .u32 n] w fun e w' => e = .returned (.agg (U8A (blockF key nonce n))) ∧ Touch (fun _ => False) w w' := by
  have h22 : (Try.prog.info? 22).map (·.size) = some (U8A key).size := by rw [U8A_size, hk]; kernel_rfl
  have h27 : (Try.prog.info? 27).map (·.size) = some (U8A nonce).size := by rw [U8A_size, hn]; kernel_rfl
  have H := Lib.hid (And.intro hk (And.intro hn (And.intro h22 h27)))
  clear hk hn h22 h27
  obtain ⟨W, hW⟩ : ∃ W, W = (((w.alloc (Obj.cells (U8A key) 22)).alloc (Obj.cells (U8A nonce) 27)).alloc (Obj.cells (U8A (List.replicate 64 0)) 31)) := ⟨_, rfl⟩
  have hTW : Touch (fun _ => False) w W := by rw [hW]; exact (((Touch.refl _ w).alloc _).alloc _).alloc _
  have hbK : Blk W w.heap.size 22 (U8A key) := by rw [hW]; exact ((Blk.new w 22 _).alloc _).alloc _
  have hbN : Blk W (w.heap.size + 1) 27 (U8A nonce) := by
    have := Blk.new (w.alloc (Obj.cells (U8A key) 22)) 27 (U8A nonce)
    rw [World.size_alloc] at this
    rw [hW]; exact this.alloc _
  have hbZ : Blk W (w.heap.size + 1 + 1) 31 (U8A (List.replicate 64 0)) := by
    have := Blk.new ((w.alloc (Obj.cells (U8A key) 22)).alloc (Obj.cells (U8A nonce) 27)) 31 (U8A (List.replicate 64 0))
    rw [World.size_alloc, World.size_alloc] at this
    rw [hW]; exact this
  go_enter Try.func5, Try.ntmps5
  go_upto_region 1 with fail
  refine Eq.mp (congrArg (fun x => Code.wp _ _ _ _ x) hW) ?_
  have HB := Lib.hid (And.intro hbZ hTW)
  clear hW hbZ hTW
  go_wp2_with (first | (refine wpList_load_row rfl 22 (.tmp 3) rfl w.heap.size rfl 22 (U8A key) (0, 0) (.array 32 5) hbK (by kernel_rfl) rfl H.out.2.2.1 ?_) | (refine wpList_load_row rfl 27 (.tmp 4) rfl (w.heap.size + 1) rfl 27 (U8A nonce) (0, 0) (.array 12 5) hbN (by kernel_rfl) rfl H.out.2.2.2 ?_))
  refine (first_any W key nonce n H.out.1 H.out.2.1).mono ?_
  rintro e w1 ⟨rfl, hT1⟩
  obtain ⟨F, hF⟩ : ∃ F, F = firstF key nonce n := ⟨_, rfl⟩
  rw [← hF]
  have hFl : F.length = 16 := by rw [hF]; exact firstF_len _ _ _
  have hi49 : (Try.prog.info? 49).map (·.size) = some (U32A F).size := by rw [U32A_size, hFl]; kernel_rfl
  have hsz : (U32A (List.replicate 16 0)).size = (U32A F).size := by rw [U32A_size, U32A_size, hFl]; rfl
  have HF := Lib.hid (And.intro hF (And.intro hFl (And.intro hi49 hsz)))
  have HT1 := Lib.hid hT1
  clear hF hFl hi49 hsz hbK hbN hT1
  have hv0 := Blk.new w1 49 (U32A (List.replicate 16 0))
  go_upto_region 2 with (refine wpList_store_row rfl 49 (.tmp 7) (.tmp 20) rfl w1.heap.size (U32A F) rfl rfl 49 _ hv0 HF.out.2.2.1 HF.out.2.2.2 (U32A_one _) ?_)
  obtain ⟨w2, hw2⟩ : ∃ w2, w2 = (w1.alloc (Obj.cells (U32A (List.replicate 16 0)) 49)).setRow w1.heap.size (U32A F) := ⟨_, rfl⟩
  have hT2 : Touch (fun _ => False) w1 w2 := by rw [hw2]; exact ((Touch.refl (fun _ => False) w1).alloc _).row (.inl (Nat.le_refl _)) _
  have hs2 : w2.heap.size = w1.heap.size + 1 := by rw [hw2]; simp
  have hv1 : Blk w2 w1.heap.size 49 (U32A F) := by rw [hw2]; exact hv0.row _
  refine Eq.mp (congrArg (fun x => Code.wp _ _ _ _ x) hw2) ?_
  have H2 := Lib.hid (And.intro hT2 (And.intro hs2 hv1))
  clear hw2 hT2 hs2 hv0
  have hu0 := Blk.new w2 49 (U32A (List.replicate 16 0))
  go_upto_region 3 with (first | (refine wpList_load_row rfl 49 (.tmp 7) rfl w1.heap.size rfl 49 (U32A F) (0, 0) (.array 16 33) hv1 (by kernel_rfl) rfl HF.out.2.2.1 ?_) | (refine wpList_store_row rfl 49 (.tmp 8) (.tmp 21) rfl w2.heap.size (U32A F) rfl rfl 49 _ hu0 HF.out.2.2.1 HF.out.2.2.2 (U32A_one _) ?_))
  obtain ⟨w3, hw3⟩ : ∃ w3, w3 = (w2.alloc (Obj.cells (U32A (List.replicate 16 0)) 49)).setRow w2.heap.size (U32A F) := ⟨_, rfl⟩
  have hT3 : Touch (fun _ => False) w2 w3 := by rw [hw3]; exact ((Touch.refl (fun _ => False) w2).alloc _).row (.inl (Nat.le_refl _)) _
  have hs3 : w3.heap.size = w2.heap.size + 1 := by rw [hw3]; simp
  have hu1 : Blk w3 w2.heap.size 49 (U32A F) := by rw [hw3]; exact hu0.row _
  refine Eq.mp (congrArg (fun x => Code.wp _ _ _ _ x) hw3) ?_
  have hsW := HB.out.1.lt
  have hsW1 := HT1.out.size
  obtain ⟨v, hv⟩ : ∃ v, v = w1.heap.size := ⟨_, rfl⟩
  obtain ⟨u, hu⟩ : ∃ u, u = w2.heap.size := ⟨_, rfl⟩
  rw [← hv, ← hu]
  have H3 : Hid (Blk w3 v 49 (U32A F) ∧ Blk w3 u 49 (U32A F) ∧ Blk w3 (w.heap.size + 1 + 1) 31 (U8A (List.replicate 64 0)) ∧ Touch (fun _ => False) w w3 ∧ v ≠ u ∧ w.heap.size + 1 + 1 < v ∧ w.heap.size + 1 + 1 < u ∧ w3.heap.size = u + 1) := by
    refine Lib.hid ⟨?_, ?_, ?_, ?_, ?_, ?_, ?_, ?_⟩
    · rw [hv]; exact H2.out.2.2.touch hT3 (fun h => h)
    · rw [hu]; exact hu1
    · exact ((HB.out.1.touch HT1.out (fun h => h)).touch H2.out.1 (fun h => h)).touch hT3 (fun h => h)
    · exact ((HB.out.2.trans HT1.out (fun _ _ h => h)).trans H2.out.1 (fun _ _ h => h)).trans hT3 (fun _ _ h => h)
    · have := H2.out.2.1; omega
    · omega
    · have := H2.out.2.1; omega
    · omega
  clear hw3 hT3 hs3 hu1 hu0 hv1 hv hu hsW hsW1 H2 HB HT1
  go_wp2_with fail
  go_loopw [22] (fun x wr => ∃ (j : Nat) (Z : List Int), j ≤ 10 ∧ x = .int .i64 j ∧ Hid (Z = iter dblF j F ∧ Z.length = 16) ∧ Blk wr u 49 (U32A Z) ∧ Touch (fun b => b = u) w3 wr) (fun x _ => 10 - (intOf x).toNat)
  case atStart => exact ⟨0, F, by omega, rfl, Lib.hid ⟨rfl, HF.out.2.1⟩, H3.out.2.1, Touch.refl _ _⟩
  case round =>
    obtain ⟨j, Z, hj, rfl, hZ, hb, hT⟩ := hrel
    by_cases hj10 : j < 10
    · have HJ := Lib.hid (And.intro hb hT)
      clear hb hT
      go_wp2_with fail
      rw [show decide ((j : Int) < 10) = true from by simp; omega]
      go_loopw [24] (fun x wr => ∃ (k : Nat) (Y : List Int), k ≤ 2 ∧ x = .int .i64 k ∧ Hid (Y = iter rndF k Z ∧ Y.length = 16) ∧ Blk wr u 49 (U32A Y) ∧ Touch (fun b => b = u) w3 wr) (fun x _ => 2 - (intOf x).toNat)
      case atStart => exact ⟨0, Z, by omega, rfl, Lib.hid ⟨rfl, hZ.out.2⟩, HJ.out.1, HJ.out.2⟩
      case round =>
        obtain ⟨k, Y, hk, rfl, hY, hb, hT⟩ := hrel
        by_cases hk2 : k < 2
        · have HK := Lib.hid (And.intro hb hT)
          clear hb hT
          go_wp2_with fail
          rw [show decide ((k : Int) < 2) = true from by simp; omega]
          go_loopw [27] (fun x wr => ∃ (i : Nat) (X : List Int), i ≤ 4 ∧ x = .int .i64 i ∧ Hid (X = iter (qiF k) i Y ∧ X.length = 16) ∧ Blk wr u 49 (U32A X) ∧ Touch (fun b => b = u) w3 wr) (fun x _ => 4 - (intOf x).toNat)
          case atStart => exact ⟨0, Y, by omega, rfl, Lib.hid ⟨rfl, hY.out.2⟩, HK.out.1, HK.out.2⟩
          case round =>
            obtain ⟨i, X, hi, rfl, hX, hb, hT⟩ := hrel
            by_cases hi4 : i < 4
            · have HI := Lib.hid (And.intro hb hT)
              clear hb hT
              go_wp2_with fail
              obtain ⟨pb, hpb⟩ : ∃ p : Nat, p = 4 + (i + k) % 4 := ⟨_, rfl⟩
              obtain ⟨pc, hpc⟩ : ∃ p : Nat, p = 8 + (i + 2 * k) % 4 := ⟨_, rfl⟩
              obtain ⟨pd, hpd⟩ : ∃ p : Nat, p = 12 + (i + 3 * k) % 4 := ⟨_, rfl⟩
              rw [show (4 + ((i : Int) + k) % 4) = (pb : Int) from by omega, show (8 + ((i : Int) + 2 * k) % 4) = (pc : Int) from by omega, show (12 + ((i : Int) + 3 * k) % 4) = (pd : Int) from by omega]
              have hb16 : pb < 16 := by omega
              have hc16 : pc < 16 := by omega
              have hd16 : pd < 16 := by omega
              have hi16 : i < 16 := by omega
              obtain ⟨x0, hx0⟩ : ∃ x, x = X.getD i 0 := ⟨_, rfl⟩
              obtain ⟨x1, hx1⟩ : ∃ x, x = X.getD pb 0 := ⟨_, rfl⟩
              obtain ⟨x2, hx2⟩ : ∃ x, x = X.getD pc 0 := ⟨_, rfl⟩
              obtain ⟨x3, hx3⟩ : ∃ x, x = X.getD pd 0 := ⟨_, rfl⟩
              have HX := Lib.hid (And.intro hpb (And.intro hpc (And.intro hpd (And.intro hx0 (And.intro hx1 (And.intro hx2 hx3))))))
              obtain ⟨S, HS⟩ : ∃ S : World → Prop, Hid (∀ w', S w' ↔ Blk w' u 49 (U32A X)) := ⟨_, fun _ => Iff.rfl⟩
              have s0 : ∀ x : SW S, x.w.cell? ⟨u, i, none⟩ = some (.int .u32 x0) := fun x => by rw [((HS.out _).1 x.ok).cell i, U32A_get (by rw [hX.out.2]; omega), HX.out.2.2.2.1]
              have s1 : ∀ x : SW S, x.w.cell? ⟨u, pb, none⟩ = some (.int .u32 x1) := fun x => by rw [((HS.out _).1 x.ok).cell pb, U32A_get (by rw [hX.out.2]; omega), HX.out.2.2.2.2.1]
              have s2 : ∀ x : SW S, x.w.cell? ⟨u, pc, none⟩ = some (.int .u32 x2) := fun x => by rw [((HS.out _).1 x.ok).cell pc, U32A_get (by rw [hX.out.2]; omega), HX.out.2.2.2.2.2.1]
              have s3 : ∀ x : SW S, x.w.cell? ⟨u, pd, none⟩ = some (.int .u32 x3) := fun x => by rw [((HS.out _).1 x.ok).cell pd, U32A_get (by rw [hX.out.2]; omega), HX.out.2.2.2.2.2.2]
              clear hpb hpc hpd hx0 hx1 hx2 hx3
              refine wp_region_two S (fun _ => True) [16, 17, 18, 19, 20, 21, 22, 23, 24, 25, 26, 27, 28, 29] [(0, false), (1, false), (2, false), (3, false), (4, true), (5, true), (6, true), (7, true), (8, true), (9, true), (10, true), (11, true), (12, true), (13, true), (14, true), (15, true)] [(16, true), (17, false), (18, false), (19, false), (20, false), (21, false), (22, false), (23, true), (24, false), (25, true), (26, false), (27, true), (28, false), (29, true)] (by kernel_rfl) (by kernel_rfl) ((HS.out _).2 HI.out.1.drew) trivial (fun hne hne2 => ?_)
              simp only [withOps, List.filterMap_cons, List.filterMap_nil, Option.map_some, List.getElem?_cons_zero, List.getElem?_cons_succ]
              repeat ((first | refine wpGrZ_q ?_ | refine wpGrZ_f ?_); (first | go_big_quiet_skip | (go_big_quiet_want; go_big_quiet_op; go_big_quiet_on)); refine wpQuiet_nil ?_)
              refine wpGrZ_nil ?_
              clear s0 s1 s2 s3
              refine wpGr_eff rfl (fun K1 hK1 => ?_)
              go_wp2_with fail
              refine (quarter_any _ _ _ _ _).mono ?_
              rintro e w4 ⟨rfl, hT4⟩
              obtain ⟨q0, q1, q2, q3, hq⟩ : ∃ a b c d, quarterF x0 x1 x2 x3 = (a, b, c, d) := ⟨_, _, _, _, rfl⟩
              rw [hq]
              have HQ := Lib.hid hq
              clear hq
              refine hK1 _ _ ⟨.inr trivial, ?_⟩
              clear hK1
              have hb4 : Blk w4 u 49 (U32A X) := HI.out.1.drew.touch hT4 (fun h => h)
              have hT4' : Touch (fun b => b = u) wr w4 := ((Touch.refl _ wr).drew).trans hT4 (fun _ _ h => h.elim)
              have HB4 := Lib.hid (And.intro hb4 (And.intro hT4' hX.out.2))
              clear hb4 hT4' hT4 hne
              repeat (refine wpGr_q ?_; (first | go_big_quiet_skip | (go_big_quiet_want; go_big_quiet_op; go_big_quiet_on)); refine wpQuiet_nil ?_)
              refine wpGr_eff rfl (fun K2 hK2 => ?_)
              have c0 := HB4.out.1.cell i
              rw [U32A_get (by rw [HB4.out.2.2]; omega)] at c0
              have f0 := HB4.out.1.frozen
              go_wp2_with fail
              try refine ⟨.inr trivial, ?_⟩
              have hb5 := HB4.out.1.set_ i (.int .u32 q0)
              rw [U32A_set] at hb5
              have ht5 := HB4.out.2.1.setCell (p := ⟨u, i, none⟩) (.inr rfl) (.int .u32 q0)
              obtain ⟨w5, hw5⟩ : ∃ z, z = w4.setCell ⟨u, i, none⟩ (.int .u32 q0) := ⟨_, rfl⟩
              rw [← hw5] at hb5 ht5 ⊢
              obtain ⟨X1, hX1⟩ : ∃ z, z = X.set i q0 := ⟨_, rfl⟩
              rw [← hX1] at hb5
              have hl5 : X1.length = 16 := by rw [hX1, List.length_set]; exact HB4.out.2.2
              have HB5 := Lib.hid (And.intro hb5 (And.intro ht5 hl5))
              have HX1 := Lib.hid hX1
              clear hw5 hX1 hb5 ht5 hl5 c0 f0
              repeat (refine wpGr_q ?_; (first | go_big_quiet_skip | (go_big_quiet_want; go_big_quiet_op; go_big_quiet_on)); refine wpQuiet_nil ?_)
              refine wpGr_eff rfl (fun K3 hK3 => ?_)
              have c1 := HB5.out.1.cell pb
              rw [U32A_get (by rw [HB5.out.2.2]; omega)] at c1
              have f1 := HB5.out.1.frozen
              go_wp2_with fail
              try refine ⟨.inr trivial, ?_⟩
              have hb6 := HB5.out.1.set_ pb (.int .u32 q1)
              rw [U32A_set] at hb6
              have ht6 := HB5.out.2.1.setCell (p := ⟨u, pb, none⟩) (.inr rfl) (.int .u32 q1)
              obtain ⟨w6, hw6⟩ : ∃ z, z = w5.setCell ⟨u, pb, none⟩ (.int .u32 q1) := ⟨_, rfl⟩
              rw [← hw6] at hb6 ht6 ⊢
              obtain ⟨X2, hX2⟩ : ∃ z, z = X1.set pb q1 := ⟨_, rfl⟩
              rw [← hX2] at hb6
              have hl6 : X2.length = 16 := by rw [hX2, List.length_set]; exact HB5.out.2.2
              have HB6 := Lib.hid (And.intro hb6 (And.intro ht6 hl6))
              have HX2 := Lib.hid hX2
              clear hw6 hX2 hb6 ht6 hl6 c1 f1
              repeat (refine wpGr_q ?_; (first | go_big_quiet_skip | (go_big_quiet_want; go_big_quiet_op; go_big_quiet_on)); refine wpQuiet_nil ?_)
              refine wpGr_eff rfl (fun K4 hK4 => ?_)
              have c2 := HB6.out.1.cell pc
              rw [U32A_get (by rw [HB6.out.2.2]; omega)] at c2
              have f2 := HB6.out.1.frozen
              go_wp2_with fail
              try refine ⟨.inr trivial, ?_⟩
              have hb7 := HB6.out.1.set_ pc (.int .u32 q2)
              rw [U32A_set] at hb7
              have ht7 := HB6.out.2.1.setCell (p := ⟨u, pc, none⟩) (.inr rfl) (.int .u32 q2)
              obtain ⟨w7, hw7⟩ : ∃ z, z = w6.setCell ⟨u, pc, none⟩ (.int .u32 q2) := ⟨_, rfl⟩
              rw [← hw7] at hb7 ht7 ⊢
              obtain ⟨X3, hX3⟩ : ∃ z, z = X2.set pc q2 := ⟨_, rfl⟩
              rw [← hX3] at hb7
              have hl7 : X3.length = 16 := by rw [hX3, List.length_set]; exact HB6.out.2.2
              have HB7 := Lib.hid (And.intro hb7 (And.intro ht7 hl7))
              have HX3 := Lib.hid hX3
              clear hw7 hX3 hb7 ht7 hl7 c2 f2
              repeat (refine wpGr_q ?_; (first | go_big_quiet_skip | (go_big_quiet_want; go_big_quiet_op; go_big_quiet_on)); refine wpQuiet_nil ?_)
              refine wpGr_eff rfl (fun K5 hK5 => ?_)
              have c3 := HB7.out.1.cell pd
              rw [U32A_get (by rw [HB7.out.2.2]; omega)] at c3
              have f3 := HB7.out.1.frozen
              go_wp2_with fail
              try refine ⟨.inr trivial, ?_⟩
              have hb8 := HB7.out.1.set_ pd (.int .u32 q3)
              rw [U32A_set] at hb8
              have ht8 := HB7.out.2.1.setCell (p := ⟨u, pd, none⟩) (.inr rfl) (.int .u32 q3)
              obtain ⟨w8, hw8⟩ : ∃ z, z = w7.setCell ⟨u, pd, none⟩ (.int .u32 q3) := ⟨_, rfl⟩
              rw [← hw8] at hb8 ht8 ⊢
              obtain ⟨X4, hX4⟩ : ∃ z, z = X3.set pd q3 := ⟨_, rfl⟩
              rw [← hX4] at hb8
              have hl8 : X4.length = 16 := by rw [hX4, List.length_set]; exact HB7.out.2.2
              have HB8 := Lib.hid (And.intro hb8 (And.intro ht8 hl8))
              have HX4 := Lib.hid hX4
              clear hw8 hX4 hb8 ht8 hl8 c3 f3
              refine wpGr_nil ?_
              go_wp2
              go_roundw
              case rel =>
                refine ⟨i + 1, X4, by omega, by go_num, Lib.hid ⟨?_, HB8.out.2.2⟩, HB8.out.1, HI.out.2.trans HB8.out.2.1 (fun _ _ h => h)⟩
                rw [iter, ← hX.out.1, qiF, qrF, ← HX.out.1, ← HX.out.2.1, ← HX.out.2.2.1, ← HX.out.2.2.2.1, ← HX.out.2.2.2.2.1, ← HX.out.2.2.2.2.2.1, ← HX.out.2.2.2.2.2.2, HQ.out, HX4.out, HX3.out, HX2.out, HX1.out]
              case measure => simp [intOf]; omega
            · have hi4' : i = 4 := by omega
              rw [hi4'] at hX
              have HI := Lib.hid (And.intro hb hT)
              clear hb hT hi4'
              go_wp2
              go_roundw
              case rel => exact ⟨k + 1, X, by omega, by go_num, Lib.hid ⟨by rw [iter, ← hY.out.1, rndF]; exact hX.out.1, hX.out.2⟩, HI.out.1, HI.out.2⟩
              case measure => simp [intOf]; omega
        · have hk2' : k = 2 := by omega
          rw [hk2'] at hY
          have HI := Lib.hid (And.intro hb hT)
          clear hb hT hk2'
          go_wp2
          go_roundw
          case rel => exact ⟨j + 1, Y, by omega, by go_num, Lib.hid ⟨by rw [iter, ← hZ.out.1, dblF]; exact hY.out.1, hY.out.2⟩, HI.out.1, HI.out.2⟩
          case measure => simp [intOf]; omega
    · have hj10' : j = 10 := by omega
      rw [hj10'] at hZ
      have HI := Lib.hid (And.intro hb hT)
      clear hb hT hj10'
      go_wp2_with fail
      obtain ⟨w4, hw4⟩ : ∃ w4, w4 = wr.alloc (Obj.cells (U8A (List.replicate 64 0)) 31) := ⟨_, rfl⟩
      have hT4 : Touch (fun b => b = u) w3 w4 := by rw [hw4]; exact HI.out.2.alloc _
      have hu4 : Blk w4 u 49 (U32A Z) := by rw [hw4]; exact HI.out.1.alloc _
      have hs4 : w4.heap.size = wr.heap.size + 1 := by rw [hw4]; simp
      have ho4 : Blk w4 wr.heap.size 31 (U8A (List.replicate 64 0)) := by rw [hw4]; exact Blk.new _ _ _
      obtain ⟨o, ho⟩ : ∃ o, o = wr.heap.size := ⟨_, rfl⟩
      rw [← ho] at ho4 hs4 ⊢
      have hv4 : Blk w4 v 49 (U32A F) := H3.out.1.touch hT4 H3.out.2.2.2.2.1
      have hr4 : Blk w4 (w.heap.size + 1 + 1) 31 (U8A (List.replicate 64 0)) := H3.out.2.2.1.touch hT4 (by have := H3.out.2.2.2.2.2.2.1; omega)
      have hou : u < o := by have := HI.out.1.lt; omega
      have hov : v < o := by have := H3.out.1.lt; have := HI.out.2.size; omega
      have hor : w.heap.size + 1 + 1 < u := H3.out.2.2.2.2.2.2.1
      have hws : w.heap.size ≤ u := by omega
      refine Eq.mp (congrArg (fun x => Code.wp _ _ _ _ x) hw4) ?_
      have H4 := Lib.hid (And.intro hT4 (And.intro hu4 (And.intro hs4 (And.intro ho4 (And.intro hv4 (And.intro hr4 (And.intro hou (And.intro hov hor))))))))
      clear hT4 hu4 hs4 ho4 hv4 hr4 hou hov hw4 ho hor
      go_loopw [77] (fun x wq => ∃ (i : Nat) (O : List Int), i ≤ 16 ∧ x = .int .i64 i ∧ Hid (O = iter (outF F Z) i (List.replicate 64 0) ∧ O.length = 64) ∧ Blk wq o 31 (U8A O) ∧ Touch (fun b => b = o) w4 wq) (fun x _ => 16 - (intOf x).toNat)
      case atStart => exact ⟨0, _, by omega, rfl, Lib.hid ⟨rfl, List.length_replicate ..⟩, H4.out.2.2.2.1, Touch.refl _ _⟩
      case round =>
        obtain ⟨i, O, hi, rfl, hO, hb, hT⟩ := hrel
        by_cases hi16 : i < 16
        · obtain ⟨x, hx⟩ : ∃ x, x = Z.getD i 0 := ⟨_, rfl⟩
          obtain ⟨y, hy⟩ : ∃ y, y = F.getD i 0 := ⟨_, rfl⟩
          have hu5 := H4.out.2.1.touch hT (by have := H4.out.2.2.2.2.2.2.1; omega)
          have hv5 := H4.out.2.2.2.2.1.touch hT (by have := H4.out.2.2.2.2.2.2.2.1; omega)
          obtain ⟨S, HS⟩ : ∃ S : World → Prop, Hid (∀ w', S w' ↔ (w'.cell? ⟨u, i, none⟩ = some (.int .u32 x) ∧ w'.cell? ⟨v, i, none⟩ = some (.int .u32 y))) := ⟨_, fun _ => Iff.rfl⟩
          have hS5 : ∀ w', Touch (fun b => b = o) wr w' → S w' := fun w' ht => by
            refine (HS.out _).2 ⟨?_, ?_⟩
            · rw [(hu5.touch ht (by have := H4.out.2.2.2.2.2.2.1; omega)).cell i, U32A_get (by rw [hZ.out.2]; omega), hx]
            · rw [(hv5.touch ht (by have := H4.out.2.2.2.2.2.2.2.1; omega)).cell i, U32A_get (by rw [HF.out.2.1]; omega), hy]
          have HI5 := Lib.hid (And.intro hS5 (And.intro hx (And.intro hy (And.intro hb hT))))
          clear hS5 hx hy hb hT hu5 hv5
          go_wp2_with fail
          refine wp_region_gr S 13 [(0, false), (1, false), (2, false), (3, false), (4, false), (5, false), (6, false), (7, false), (8, false), (9, false), (10, false), (11, true), (12, true)] (by kernel_rfl) (by kernel_rfl) (HI5.out.1 _ (Touch.refl _ _).drew) (fun hne => ?_)
          have s0 : ∀ z : SW S, z.w.cell? ⟨u, i, none⟩ = some (.int .u32 x) := fun z => ((HS.out _).1 z.ok).1
          have s1 : ∀ z : SW S, z.w.cell? ⟨v, i, none⟩ = some (.int .u32 y) := fun z => ((HS.out _).1 z.ok).2
          have hsl : ∀ z : SW S, (Instr.sliceAt 31 (.pointer (some ⟨o, 0, none⟩)) (some (.int .i64 (4 * (i : Int)))) none none).run Try.prog z.w = .ok (.slice (some ⟨o, 4 * i, none⟩) (64 - 4 * i) (64 - 4 * i)) z.w := fun z => by
            have := sl31 z.w o (4 * i) (by omega)
            rw [show ((4 * i : Nat) : Int) = 4 * (i : Int) from by omega] at this
            exact this
          simp only [withOps, List.filterMap_cons, List.filterMap_nil, Option.map_some, List.getElem?_cons_zero, List.getElem?_cons_succ]
          repeat (refine wpGr_q ?_; (first | go_big_quiet_skip | (go_big_quiet_want; go_big_quiet_op; go_big_quiet_on)); refine wpQuiet_nil ?_)
          refine wpGr_eff rfl (fun K1 hK1 => ?_)
          go_wp2_with fail
          refine (little_any _ _ 4 (by omega)).mono ?_
          rintro e w6 ⟨rfl, hb6, hT6⟩
          have hT06 : Touch (fun _ => False) wr w6 := ((Touch.refl _ wr).drew).trans hT6 (fun _ _ h => h)
          have ho6 := HI5.out.2.2.2.1.touch hT06 (fun h => h)
          refine hK1 _ _ ⟨.inr (HI5.out.1 _ (hT06.weaken (fun _ _ h => h.elim))), ?_⟩
          refine wpGr_eff rfl (fun K2 hK2 => ?_)
          obtain ⟨bs, hbs⟩ : ∃ bs, bs = leL ((x + y) % 4294967296) 4 := ⟨_, rfl⟩
          have hbl : bs.length = 4 := by rw [hbs, leL_len]
          rw [← hbs] at hb6
          have HBS := Lib.hid hbs
          clear hbs s0 s1 hsl
          refine wp_copy_u8 (.tmp 82) (.tmp 91) rfl o (4 * i) (64 - 4 * i) (64 - 4 * i) ⟨wr.drew.heap.size + 1, 0, none⟩ 4 4 rfl rfl 31 O bs ho6 (by rw [hbl]; show 4 = min 4 (64 - 4 * i); omega) (fun k q hq => ?_) (by rw [hbl, hO.out.2]; omega) ?_
          · have hk : k < bs.length := by
              rcases Nat.lt_or_ge k bs.length with h | h
              · exact h
              · rw [List.getElem?_eq_none (by simpa using h)] at hq; cases hq
            rw [Addr.add_mid, hb6.cell, Nat.zero_add, U8A_get hk, ← hq, u8_get bs k hk]
          · have hT7 : Touch (fun b => b = o) wr (w6.setRow o (U8A (copyF O (4 * i) bs))) := Touch.row (S := fun b => b = o) (hT06.weaken (fun _ _ h => h.elim)) (.inr rfl) _
            have ho7 := ho6.row (U8A (copyF O (4 * i) bs))
            refine hK2 _ _ ⟨.inr (HI5.out.1 _ hT7), wpGr_nil ?_⟩
            have H7 := Lib.hid (And.intro hT7 ho7)
            clear hT7 ho7 ho6 hb6 hT6 hT06
            generalize w6.setRow o (U8A (copyF O (4 * i) bs)) = w7 at H7 ⊢
            go_wp2
            go_roundw
            case rel =>
              refine ⟨i + 1, _, by omega, by go_num, Lib.hid ⟨?_, ?_⟩, H7.out.2, HI5.out.2.2.2.2.trans H7.out.1 (fun _ _ h => h)⟩
              · rw [iter, ← hO.out.1, outF, ← HI5.out.2.1, ← HI5.out.2.2.1, HBS.out]
              · rw [copyF_len _ _ _ (by rw [hbl, hO.out.2]; omega)]; exact hO.out.2
            case measure => simp [intOf]; omega
        · have hi16' : i = 16 := by omega
          rw [hi16'] at hO
          have hl64 : (U8A (List.replicate 64 0)).size = (U8A O).size := by rw [U8A_size, U8A_size, hO.out.2]; rfl
          have hi31 : (Try.prog.info? 31).map (·.size) = some (U8A O).size := by rw [U8A_size, hO.out.2]; kernel_rfl
          have hr5 := H4.out.2.2.2.2.2.1.touch hT (by have := H4.out.2.2.2.2.2.2.1; have := H4.out.2.2.2.2.2.2.2.2; omega)
          have hOB : O = blockF key nonce n := by rw [hO.out.1, blockF, ← HF.out.1, ← hZ.out.1]
          have HI6 := Lib.hid (And.intro hi31 (And.intro hl64 (And.intro hT hOB)))
          clear hi31 hl64 hT hOB hi16'
          go_wp2_with (first | (refine wpList_load_row rfl 31 (.tmp 15) rfl o rfl 31 (U8A O) (0, 0) (.array 64 5) hb (by kernel_rfl) rfl HI6.out.1 ?_) | (refine wpList_store_row rfl 31 (.tmp 6) (.tmp 94) rfl (w.heap.size + 1 + 1) (U8A O) rfl rfl 31 _ hr5 HI6.out.1 HI6.out.2.1 (U8A_one _) ?_))
          refine bodyPost_ret (v := .agg (U8A O)) (results_cell_row (P := Try.prog) rfl _ _ (w.heap.size + 1 + 1) 31 _ (0, 0) (.array 64 5) rfl (hr5.row _) (by kernel_rfl) rfl HI6.out.1) rfl ⟨by rw [HI6.out.2.2.2], ?_⟩
          refine ((H3.out.2.2.2.1.trans H4.out.1 ?_).trans HI6.out.2.2.1 ?_).row (.inl ?_) _
          · intro b hb e; omega
          · intro b hb e; have := H4.out.2.2.2.2.2.2.1; omega
          · omega
end Go.Proofs.Ytelmjlfhmbicjaa
