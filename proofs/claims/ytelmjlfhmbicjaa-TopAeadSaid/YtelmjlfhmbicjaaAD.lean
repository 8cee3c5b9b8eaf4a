/- aead: tag. -/
import Derived.Test.YtelmjlfhmbicjaaAC
namespace Go.Proofs.Ytelmjlfhmbicjaa
open Go.RowKit
set_option linter.unusedVariables false

theorem wrR_nil {zs : List Int} (h : zs.length % 16 = 0) : wrR zs = [] := by
  unfold wrR
  exact List.drop_eq_nil_of_le (by omega)
theorem wrH_nil (F : N3 → N3) (h : N3) : wrH F h [] = h := rfl
theorem ix68 (W : World) (cs : Array Value) (j : Nat) (u : Value) (hj : j < 2) (h : cs[j]? = some u) : (Instr.index 68 (.agg cs) (.int .i64 j)).run Try.prog W = .ok u W := by
  have h68 : Try.prog.underlying 68 = some (.array 2 26) := by kernel_rfl
  have hn : (0 : Int) ≤ j ∧ (j : Int) < 2 := by omega
  simp [Instr.index, run_underlying h68, asIntOf, hn, go_sem, hj, h]

theorem Pol.alloc {B0 r0 r1 : Nat} {x2 x3 : Value} {w : World} {p : Nat} {h : N3} {rz : List Int} (H : Pol B0 r0 r1 x2 x3 w p h rz) (o : Obj) : Pol B0 r0 r1 x2 x3 (w.alloc o) p h rz := H.touch ((Touch.refl _ w).alloc o)

/-- The numbers behind the texts. -/
def tagH (F : N3 → N3) (aad sealed : List Int) : Nat → N3
  | 0 => (0, 0, 0)
  | 1 => wrH F (0, 0, 0) aad
  | _ => wrH F (wrH F (0, 0, 0) aad) sealed
/-- The tag: k: the key of the sum; n, m: how long the texts are. -/
def tagF (F : N3 → N3) (k aad sealed : List Int) : List Int :=
  sumF (wrH F (wrH F (tagH F aad sealed 2) (leL aad.length 8)) (wrR (leL aad.length 8) ++ leL sealed.length 8)) (ks0 k) (ks1 k)

set_option maxRecDepth 100000 in
set_option maxHeartbeats 2000000 in
theorem tag_any (F : N3 → N3) (w : World) (key nonce aad sealed : List Int) (hk : key.length = 32) (hn : nonce.length = 12) (A1 A2 : Option Addr) (c1 c2 : Nat)
    (hF : Mul (kr0 ((blockF key nonce 0).take 32)) (kr1 ((blockF key nonce 0).take 32)) F) (h1 : Inb w A1 aad) (h2 : Inb w A2 sealed) (m1 : aad.length % 16 = 0) (m2 : sealed.length % 16 = 0) (b1 : aad.length ≤ 4096) (b2 : sealed.length ≤ 4096) :
    Calls Try.prog 15 #[.agg (U8A (key ++ nonce)), .slice A1 aad.length c1, .slice A2 sealed.length c2] w fun e w' => ∃ o, e = .returned (.slice (some ⟨o, 0, none⟩) 16 16) ∧
      Byt w' o 0 (tagF F ((blockF key nonce 0).take 32) aad sealed) ∧ Touch (fun _ => False) w w' := by
  have hb0 := Blk.new w 45 (U8A (key ++ nonce))
  have hT0 : Touch (fun _ => False) w (w.alloc (Obj.cells (U8A (key ++ nonce)) 45)) := (Touch.refl _ w).alloc _
  obtain ⟨W, hW⟩ : ∃ W, W = w.alloc (Obj.cells (U8A (key ++ nonce)) 45) := ⟨_, rfl⟩
  rw [← hW] at hb0 hT0
  obtain ⟨b, hb⟩ : ∃ b, b = w.heap.size := ⟨_, rfl⟩
  rw [← hb] at hb0
  have hi22 : (Try.prog.info? 22).map (·.size) = some ((key.map (Value.int .u8))).length := by rw [List.length_map, hk]; kernel_rfl
  have hi27 : (Try.prog.info? 27).map (·.size) = some ((nonce.map (Value.int .u8))).length := by rw [List.length_map, hn]; kernel_rfl
  have hr22 : W.rangeAt b 0 (key.map (Value.int .u8)) := byt_range (by have := hb0.byt 0 32; rwa [List.drop_zero, List.take_append_of_le_length (by omega), List.take_of_length_le (by omega)] at this)
  have hr27 : W.rangeAt b 32 (nonce.map (Value.int .u8)) := byt_range (by have := hb0.byt 32 12; rwa [List.drop_append_of_le_length (by omega), List.drop_eq_nil_of_le (by omega), List.nil_append, List.take_of_length_le (by omega)] at this)
  have H := Lib.hid (And.intro hk (And.intro hn (And.intro h1 (And.intro h2 (And.intro m1 (And.intro m2 (And.intro b1 (And.intro b2 (And.intro hT0 hF)))))))))
  go_enter Try.func15, Try.ntmps15
  go_upto_region 1 with fail
  refine Eq.mp (congrArg (fun x => Code.wp _ _ _ _ x) hW) ?_
  rw [← hb]
  clear hk hn h1 h2 m1 m2 b1 b2 hT0 hF hW hb hb0
  go_wp2_with (first | (refine wpList_load_mid rfl 22 (.tmp 12) rfl b 0 rfl (key.map (Value.int .u8)) (.array 32 5) hr22 (by kernel_rfl) rfl hi22 ?_) | (refine wpList_load_mid rfl 27 (.tmp 14) rfl b 32 rfl (nonce.map (Value.int .u8)) (.array 12 5) hr27 (by kernel_rfl) rfl hi27 ?_))
  rw [show (key.map (Value.int .u8)).toArray = U8A key from rfl, show (nonce.map (Value.int .u8)).toArray = U8A nonce from rfl]
  refine (block_any W key nonce 0 H.out.1 H.out.2.1).mono ?_
  rintro e w1 ⟨rfl, hT1⟩
  clear hr22 hr27 hi22 hi27
  obtain ⟨B, hB⟩ : ∃ B, B = blockF key nonce 0 := ⟨_, rfl⟩
  rw [← hB] at H ⊢
  have hBl : B.length = 64 := by rw [hB]; exact blockF_len _ _ _
  have hl64 : (U8A (List.replicate 64 0)).size = (U8A B).size := by rw [U8A_size, U8A_size, hBl]; rfl
  have hi31 : (Try.prog.info? 31).map (·.size) = some (U8A B).size := by rw [U8A_size, hBl]; kernel_rfl
  have hs0 := Blk.new w1 31 (U8A (List.replicate 64 0))
  have HI := Lib.hid (And.intro hi31 (And.intro hl64 (And.intro hBl hB)))
  clear hB hBl hl64 hi31
  go_upto_region 2 with (refine wpList_store_row rfl 31 (.tmp 7) (.tmp 16) rfl w1.heap.size (U8A B) rfl rfl 31 _ hs0 HI.out.1 HI.out.2.1 (U8A_one _) ?_)
  obtain ⟨w2, hw2⟩ : ∃ w2, w2 = (w1.alloc (Obj.cells (U8A (List.replicate 64 0)) 31)).setRow w1.heap.size (U8A B) := ⟨_, rfl⟩
  have hT2 : Touch (fun _ => False) w w2 := by rw [hw2]; exact ((H.out.2.2.2.2.2.2.2.2.1.trans hT1 (fun _ _ h => h)).alloc _).row (.inl (by have := H.out.2.2.2.2.2.2.2.2.1.size; have := hT1.size; omega)) _
  have hv2 : Blk w2 w1.heap.size 31 (U8A B) := by rw [hw2]; exact hs0.row _
  refine Eq.mp (congrArg (fun x => Code.wp _ _ _ _ x) hw2) ?_
  obtain ⟨v, hv⟩ : ∃ v, v = w1.heap.size := ⟨_, rfl⟩
  rw [← hv] at hv2 ⊢
  obtain ⟨kt, hkt⟩ : ∃ kt, kt = B.take 32 := ⟨_, rfl⟩
  rw [← hkt] at H
  have hktl : kt.length = 32 := by rw [hkt, List.length_take, HI.out.2.2.1]; rfl
  have HKT := Lib.hid (show kt = (blockF key nonce 0).take 32 by rw [hkt, HI.out.2.2.2])
  have hi22 : (Try.prog.info? 22).map (·.size) = some ((kt.map (Value.int .u8))).length := by rw [List.length_map, hktl]; kernel_rfl
  have hr22 : w2.rangeAt v 0 (kt.map (Value.int .u8)) := byt_range (by have := hv2.byt 0 32; rwa [List.drop_zero, ← hkt] at this)
  have har := arr22 w2 ⟨v, 0, none⟩ 32 64 (by omega)
  have H2 := Lib.hid (And.intro hT2 hktl)
  clear hw2 hT2 hv2 hs0 hv hkt hktl hT1 HI
  dsimp only [Act.put]
  go_wp2_with (refine wpList_load_mid rfl 22 (.tmp 18) rfl v 0 rfl (kt.map (Value.int .u8)) (.array 32 5) hr22 (by kernel_rfl) rfl hi22 ?_)
  rw [show (kt.map (Value.int .u8)).toArray = U8A kt from rfl]
  obtain ⟨B0, hB0⟩ : ∃ B0, B0 = w2.heap.size := ⟨_, rfl⟩
  refine (new_any w2 B0 kt H2.out.2 (by omega)).mono ?_
  rintro e w3 ⟨p, rfl, hp3, hT3⟩
  have hT23 : Touch (fun _ => False) w w3 := H2.out.1.trans hT3 (fun _ _ h => h)
  have H3 := Lib.hid (And.intro hp3 (And.intro hT23 (And.intro hB0 (show B0 ≤ w3.heap.size by have := hT3.size; omega))))
  clear hr22 har hi22 hp3 hT3 hT23 hB0
  go_wp2_with fail
  go_loopw [24] (fun x wr => ∃ i : Nat, i ≤ 2 ∧ x = .int .i64 i ∧ Pol B0 (kr0 kt) (kr1 kt) (.int .u64 (ks0 kt)) (.int .u64 (ks1 kt)) wr p (tagH F aad sealed i) [] ∧ Touch (fun z => B0 ≤ z) w3 wr) (fun x _ => 2 - (intOf x).toNat)
  case atStart => exact ⟨0, by omega, rfl, H3.out.1, Touch.refl _ _⟩
  case round =>
    obtain ⟨i, hi, rfl, hp, hT⟩ := hrel
    have hA : ∀ (A : Option Addr) (xs : List Int), Inb w A xs → Inb wr A xs := fun A xs h => by
      refine (h.touch H3.out.2.1 (fun _ _ _ _ h => h)).touch hT (fun a ha hx hlt hge => ?_)
      have h1 := h.lt hx ha
      have := H2.out.1.size
      have := H3.out.2.2.1
      omega
    have HJ := Lib.hid (And.intro hp (And.intro hT hA))
    clear hp hT hA
    by_cases hi2 : i < 2
    · obtain ⟨A, c, xs, hcase⟩ : ∃ (A : Option Addr) (c : Nat) (xs : List Int), (#[Value.slice A1 aad.length c1, Value.slice A2 sealed.length c2] : Array Value)[i]? = some (.slice A xs.length c) ∧ xs.length % 16 = 0 ∧ xs.length ≤ 4096 ∧ Inb w A xs ∧ wrH F (tagH F aad sealed i) xs = tagH F aad sealed (i + 1) := by
        have : i = 0 ∨ i = 1 := by omega
        rcases this with rfl | rfl
        · exact ⟨A1, c1, aad, rfl, H.out.2.2.2.2.1, H.out.2.2.2.2.2.2.1, H.out.2.2.1, rfl⟩
        · exact ⟨A2, c2, sealed, rfl, H.out.2.2.2.2.2.1, H.out.2.2.2.2.2.2.2.1, H.out.2.2.2.1, rfl⟩
      have hix := ix68 wr _ i _ hi2 hcase.1
      have HC := Lib.hid hcase.2
      clear hcase
      go_wp2_with fail
      refine (write_any F B0 _ _ _ _ H.out.2.2.2.2.2.2.2.2.2 wr p _ [] xs A c HJ.out.1 (HJ.out.2.2 A xs HC.out.2.2.1) (by have := HC.out.2.1; simp; omega) (by have := H3.out.2.2.2; have := HJ.out.2.1.size; omega)).mono ?_
      rintro e w4 ⟨rfl, hp4, hT4⟩
      rw [List.nil_append, wrR_nil HC.out.1, HC.out.2.2.2] at hp4
      have H4 := Lib.hid (And.intro hp4 hT4)
      clear hp4 hT4 hix
      have hm0 : (xs.length : Int) % 16 = 0 := by have := HC.out.1; omega
      have hmk : (Instr.makeSlice 26 (.int .i64 0) (.int .i64 0)).run Try.prog w4 = .ok (.slice (some ⟨w4.heap.size, 0, none⟩) 0 0) (w4.alloc (.cells (U8A []) 5)) := make23 0 (by omega) w4
      go_wp2_with fail
      refine (write_any F B0 _ _ _ _ H.out.2.2.2.2.2.2.2.2.2 _ p _ [] [] (some ⟨w4.heap.size, 0, none⟩) 0 (H4.out.1.alloc _) (.inl rfl) (by simp) (by have := H3.out.2.2.2; have := HJ.out.2.1.size; have := H4.out.2.size; simp; omega)).mono ?_
      rintro e w5 ⟨rfl, hp5, hT5⟩
      rw [List.nil_append, wrR_nil rfl, wrH_nil] at hp5
      have H5 := Lib.hid (And.intro hp5 ((HJ.out.2.1.trans H4.out.2 (fun _ _ h => h)).trans (((Touch.refl (fun z => B0 ≤ z) w4).alloc (.cells (U8A []) 5)).trans hT5 (fun _ _ h => h)) (fun _ _ h => h)))
      clear hp5 hT5 hmk hm0
      go_wp2
      go_roundw
      case rel => exact ⟨i + 1, by omega, by go_num, H5.out.1, H5.out.2⟩
      case measure => simp [intOf]; omega
    · have hi2' : i = 2 := by omega
      rw [hi2'] at HJ
      clear hi2'
      go_wp2_with fail
      have hw1 : IntKind.u64.wrap (aad.length : Int) = aad.length := by have := H.out.2.2.2.2.2.2.1; rw [IntKind.wrap_u64]; omega
      have hw2 : IntKind.u64.wrap (sealed.length : Int) = sealed.length := by have := H.out.2.2.2.2.2.2.2.1; rw [IntKind.wrap_u64]; omega
      have HW := Lib.hid hw2
      rw [hw1]
      clear hw1 hw2
      refine (little_any wr aad.length 8 (by omega)).mono ?_
      rintro e w4 ⟨rfl, hb4, hT4⟩
      obtain ⟨y1, hy1⟩ : ∃ y, y = leL (aad.length : Int) 8 := ⟨_, rfl⟩
      have hy1l : y1.length = 8 := by rw [hy1, leL_len]
      rw [← hy1] at hb4
      have hby : Byt w4 (wr.heap.size + 1) 0 y1 := by have := hb4.byt 0 8; rwa [List.drop_zero, List.take_of_length_le (by omega)] at this
      have hwr := write_any F B0 _ _ _ _ H.out.2.2.2.2.2.2.2.2.2 w4 p _ [] y1 (some ⟨wr.heap.size + 1, 0, none⟩) 8 (HJ.out.1.touch hT4) (.inr ⟨_, 0, rfl, hby⟩) (by simp; omega) (by have := H3.out.2.2.2; have := HJ.out.2.1.size; have := hT4.size; omega)
      rw [hy1l, List.nil_append] at hwr
      have H4 := Lib.hid (And.intro hwr (And.intro (HJ.out.2.1.trans hT4 (fun _ _ h => h.elim)) (And.intro hy1 hy1l)))
      clear hwr hb4 hT4 hby hy1 hy1l
      go_wp2_with fail
      refine H4.out.1.mono ?_
      rintro e w5 ⟨rfl, hp5, hT5⟩
      have H5 := Lib.hid (And.intro hp5 (H4.out.2.1.trans hT5 (fun _ _ h => h)))
      clear hp5 hT5
      go_wp2_with fail
      rw [HW.out]
      refine (little_any w5 sealed.length 8 (by omega)).mono ?_
      rintro e w6 ⟨rfl, hb6, hT6⟩
      obtain ⟨y2, hy2⟩ : ∃ y, y = leL (sealed.length : Int) 8 := ⟨_, rfl⟩
      have hy2l : y2.length = 8 := by rw [hy2, leL_len]
      rw [← hy2] at hb6
      have hby : Byt w6 (w5.heap.size + 1) 0 y2 := by have := hb6.byt 0 8; rwa [List.drop_zero, List.take_of_length_le (by omega)] at this
      have hr1 : wrR y1 = y1 := by unfold wrR; rw [H4.out.2.2.2]; rfl
      have hwr := write_any F B0 _ _ _ _ H.out.2.2.2.2.2.2.2.2.2 w6 p _ (wrR y1) y2 (some ⟨w5.heap.size + 1, 0, none⟩) 8 (H5.out.1.touch hT6) (.inr ⟨_, 0, rfl, hby⟩) (by rw [hr1, H4.out.2.2.2]; omega) (by have := H3.out.2.2.2; have := H5.out.2.size; have := hT6.size; omega)
      have hz : wrR (wrR y1 ++ y2) = [] := wrR_nil (by rw [List.length_append, hr1, H4.out.2.2.2, hy2l])
      rw [hy2l, hz] at hwr
      have H6 := Lib.hid (And.intro hwr (And.intro (H5.out.2.trans hT6 (fun _ _ h => h.elim)) (And.intro hy2 hy2l)))
      clear hwr hb6 hT6 hby hy2 hy2l hr1 hz
      go_wp2_with fail
      refine H6.out.1.mono ?_
      rintro e w7 ⟨rfl, hp7, hT7⟩
      have H7 := Lib.hid (And.intro hp7 (H6.out.2.1.trans hT7 (fun _ _ h => h)))
      clear hp7 hT7
      go_wp2_with fail
      refine (sum_any w7 B0 _ _ (ks0 kt) (ks1 kt) p _ (leN_eq _).2 H7.out.1).mono ?_
      rintro e w8 ⟨rfl, hT8⟩
      have hG : sumF (wrH F (wrH F (tagH F aad sealed 2) y1) (wrR y1 ++ y2)) (ks0 kt) (ks1 kt) = tagF F kt aad sealed := by rw [tagF, ← H4.out.2.2.1, ← H6.out.2.2.1]
      obtain ⟨G, hGG⟩ : ∃ G, G = sumF (wrH F (wrH F (tagH F aad sealed 2) y1) (wrR y1 ++ y2)) (ks0 kt) (ks1 kt) := ⟨_, rfl⟩
      rw [← hGG]
      have hGl : G.length = 16 := by rw [hGG]; exact sumF_len _ _ _
      rw [← hGG] at hG
      have hl16 : (U8A (List.replicate 16 0)).size = (U8A G).size := by rw [U8A_size, U8A_size, hGl]; rfl
      have hi23 : (Try.prog.info? 23).map (·.size) = some (U8A G).size := by rw [U8A_size, hGl]; kernel_rfl
      have hs0 := Blk.new w8 23 (U8A (List.replicate 16 0))
      have HI := Lib.hid (And.intro hi23 (And.intro hl16 (And.intro hGl (And.intro hG hT8))))
      clear hi23 hl16 hGl hG hGG hT8
      go_upto_region 12 with (refine wpList_store_row rfl 23 (.tmp 11) (.tmp 52) rfl w8.heap.size (U8A G) rfl rfl 23 _ hs0 HI.out.1 HI.out.2.1 (U8A_one _) ?_)
      obtain ⟨w9, hw9⟩ : ∃ w9, w9 = (w8.alloc (Obj.cells (U8A (List.replicate 16 0)) 23)).setRow w8.heap.size (U8A G) := ⟨_, rfl⟩
      have hT9 : Touch (fun z => B0 ≤ z) w3 w9 := by rw [hw9]; exact ((H7.out.2.trans HI.out.2.2.2.2 (fun _ _ h => h.elim)).alloc _).row (.inl (by have := H7.out.2.size; have := HI.out.2.2.2.2.size; omega)) _
      have hv9 : Blk w9 w8.heap.size 23 (U8A G) := by rw [hw9]; exact hs0.row _
      refine Eq.mp (congrArg (fun x => Code.wp _ _ _ _ x) hw9) ?_
      have H9 := Lib.hid (And.intro hT9 hv9)
      clear hw9 hT9 hv9 hs0
      dsimp only [Act.put]
      go_wp2
      go_ret
      refine ⟨_, rfl, ?_, ?_⟩
      · have := H9.out.2.byt 0 16
        rw [List.drop_zero, List.take_of_length_le (by rw [HI.out.2.2.1]; omega), HI.out.2.2.2.1, HKT.out] at this
        exact this
      · refine H3.out.2.1.trans H9.out.1 (fun z hz h => ?_)
        have := H2.out.1.size
        have := H3.out.2.2.1
        omega
end Go.Proofs.Ytelmjlfhmbicjaa
