/- chacha: Stream. -/
import Derived.Test.YtelmjlfhmbicjaaT
namespace Go.Proofs.Ytelmjlfhmbicjaa
open Go.RowKit
set_option linter.unusedVariables false

theorem outF_len (was s : List Int) (i : Nat) (o : List Int) (h : 4 * i + 4 ≤ o.length) : (outF was s i o).length = o.length := by
  rw [outF, copyF_len]; rw [leL_len]; exact h
theorem outF_iter (was s : List Int) : ∀ (i : Nat) (o : List Int), o.length = 64 → i ≤ 16 → (iter (outF was s) i o).length = 64
  | 0, o, h, _ => h
  | i + 1, o, h, hi => by rw [iter, outF_len, outF_iter was s i o h (by omega)]; rw [outF_iter was s i o h (by omega)]; omega
theorem blockF_len (key nonce : List Int) (n : Int) : (blockF key nonce n).length = 64 := by
  unfold blockF
  exact outF_iter _ _ 16 _ (List.length_replicate ..) (Nat.le_refl _)

/-- One block more. -/
def moreF (key nonce : List Int) (n : Int) (i : Nat) (o : List Int) : List Int := o ++ blockF key nonce ((n + (i : Int)) % 4294967296)
theorem moreF_len (key nonce : List Int) (n : Int) : ∀ i, (iter (moreF key nonce n) i []).length = 64 * i
  | 0 => rfl
  | i + 1 => by rw [iter, moreF, List.length_append, moreF_len key nonce n i, blockF_len]; omega
def streamF (key nonce : List Int) (n : Int) (many : Nat) : List Int := (iter (moreF key nonce n) ((many + 63) / 64) []).take many
theorem streamF_len (key nonce : List Int) (n : Int) (many : Nat) : (streamF key nonce n many).length = many := by
  rw [streamF, List.length_take, moreF_len]; omega

theorem Rest.take_ {w : World} {A : Option Addr} {cap : Nat} {xs : List Int} (h : Rest w A cap xs) (n : Nat) : Rest w A cap (xs.take n) := by
  rcases h with ⟨h1, h2, rfl⟩ | ⟨g, off, cur, h1, h2, h3, h4, h5, h6⟩
  · exact .inl ⟨h1, h2, by simp⟩
  · refine .inr ⟨g, off, cur, h1, h2, by simp; omega, h4, h5, fun i hi => ?_⟩
    have h7 : i < n ∧ i < xs.length := by rw [List.length_take] at hi; omega
    rw [h6 i h7.2]
    simp [List.getD, h7.1]
set_option maxRecDepth 100000 in
set_option maxHeartbeats 2000000 in
theorem stream_any (w : World) (key nonce : List Int) (n : Int) (many : Nat) (hk : key.length = 32) (hn : nonce.length = 12) (hm : many ≤ 4096) :
    Calls Try.prog 27 #[.agg (U8A key), .agg (U8A nonce), .int .u32 n, .int .i64 many] w fun e w' => ∃ A cap, e = .returned (.slice A many cap) ∧ Rest w' A cap (streamF key nonce n many) ∧ Touch (fun _ => False) w w' ∧ ∀ a, A = some a → w.heap.size ≤ a.block := by
  have h22 : (Try.prog.info? 22).map (·.size) = some (U8A key).size := by rw [U8A_size, hk]; kernel_rfl
  have h27 : (Try.prog.info? 27).map (·.size) = some (U8A nonce).size := by rw [U8A_size, hn]; kernel_rfl
  have H := Lib.hid (And.intro hk (And.intro hn (And.intro h22 h27)))
  clear hk hn h22 h27
  obtain ⟨W, hW⟩ : ∃ W, W = ((w.alloc (Obj.cells (U8A key) 22)).alloc (Obj.cells (U8A nonce) 27)) := ⟨_, rfl⟩
  have hTW : Touch (fun _ => False) w W := by rw [hW]; exact ((Touch.refl _ w).alloc _).alloc _
  have hbK : Blk W w.heap.size 22 (U8A key) := by rw [hW]; exact (Blk.new w 22 _).alloc _
  have hbN : Blk W (w.heap.size + 1) 27 (U8A nonce) := by
    have := Blk.new (w.alloc (Obj.cells (U8A key) 22)) 27 (U8A nonce)
    rw [World.size_alloc] at this
    rw [hW]; exact this
  have hmax : max (many : Int) 0 = many := by omega
  go_enter Try.func27, Try.ntmps27
  go_upto_region 1 with fail
  refine Eq.mp (congrArg (fun x => Code.wp _ _ _ _ x) hW) ?_
  have HB := Lib.hid (And.intro hbK (And.intro hbN hTW))
  clear hW hbK hbN hTW
  go_wp2_with fail
  obtain ⟨N, hN⟩ : ∃ N : Nat, N = (many + 63) / 64 := ⟨_, rfl⟩
  rw [show ((many : Int) + 64 - 1) / 64 = (N : Int) from by omega]
  have hN64 : N ≤ 64 := by omega
  have HN := Lib.hid hN
  clear hN
  go_loopw [18, 9] (fun x y wr => ∃ (j : Nat) (A : Option Addr) (cap : Nat) (O : List Int), j ≤ N ∧ x = .int .i64 j ∧ y = .slice A O.length cap ∧ Hid (O = iter (moreF key nonce n) j [] ∧ O.length = 64 * j) ∧ Rest wr A cap O ∧ Touch (fun _ => False) W wr ∧ ∀ a, A = some a → W.heap.size ≤ a.block) (fun x _ _ => N - (intOf x).toNat)
  case atStart => exact ⟨0, none, 0, [], by omega, rfl, rfl, Lib.hid ⟨rfl, rfl⟩, .inl ⟨rfl, rfl, rfl⟩, Touch.refl _ _, fun a ha => by cases ha⟩
  case round =>
    obtain ⟨j, A, cap, O, hj, rfl, rfl, hO, hR, hT, hA⟩ := hrel
    by_cases hjN : j < N
    · have hbK := HB.out.1.touch hT (fun h => h)
      have hbN := HB.out.2.1.touch hT (fun h => h)
      have HJ := Lib.hid (And.intro hR (And.intro hT hA))
      clear hR hT hA
      go_wp2_with (first | (refine wpList_load_row rfl 22 (.tmp 4) rfl w.heap.size rfl 22 (U8A key) (0, 0) (.array 32 5) hbK (by kernel_rfl) rfl H.out.2.2.1 ?_) | (refine wpList_load_row rfl 27 (.tmp 5) rfl (w.heap.size + 1) rfl 27 (U8A nonce) (0, 0) (.array 12 5) hbN (by kernel_rfl) rfl H.out.2.2.2 ?_))
      refine (block_any _ key nonce _ H.out.1 H.out.2.1).mono ?_
      rintro e w1 ⟨rfl, hT1⟩
      obtain ⟨B, hB⟩ : ∃ B, B = blockF key nonce ((n + (j : Int)) % 4294967296) := ⟨_, rfl⟩
      rw [← hB]
      have hBl : B.length = 64 := by rw [hB]; exact blockF_len _ _ _
      have hl64 : (U8A (List.replicate 64 0)).size = (U8A B).size := by rw [U8A_size, U8A_size, hBl]; rfl
      have hi31 : (Try.prog.info? 31).map (·.size) = some (U8A B).size := by rw [U8A_size, hBl]; kernel_rfl
      have hs0 := Blk.new w1 31 (U8A (List.replicate 64 0))
      obtain ⟨w2, hw2⟩ : ∃ w2, w2 = (w1.alloc (Obj.cells (U8A (List.replicate 64 0)) 31)).setRow w1.heap.size (U8A B) := ⟨_, rfl⟩
      have hT2 : Touch (fun _ => False) w1 w2 := by rw [hw2]; exact ((Touch.refl (fun _ => False) w1).alloc _).row (.inl (Nat.le_refl _)) _
      have hs1 : Blk w2 w1.heap.size 31 (U8A B) := by rw [hw2]; exact hs0.row _
      have hR2 := (HJ.out.1.touch hT1 (fun _ _ h => h)).touch hT2 (fun _ _ h => h)
      have hTj2 : Touch (fun _ => False) W w2 := (HJ.out.2.1.trans hT1 (fun _ _ h => h)).trans hT2 (fun _ _ h => h)
      have hin : Inb w2 (some ⟨w1.heap.size, 0, none⟩) B := .inr ⟨_, 0, rfl, by have := hs1.byt 0 64; rwa [List.drop_zero, List.take_of_length_le (by omega)] at this⟩
      obtain ⟨L, hL⟩ : ∃ L, L = O.length := ⟨_, rfl⟩
      have HB2 := Lib.hid (And.intro hB (And.intro hBl (And.intro hR2 (And.intro hTj2 hin))))
      have HI := Lib.hid (And.intro hi31 hl64)
      clear hB hBl hR2 hTj2 hin hT1 hT2 hs1 hl64 hi31 hbK hbN
      go_upto_region 7 with (refine wpList_store_row rfl 31 (.tmp 11) (.tmp 27) rfl w1.heap.size (U8A B) rfl rfl 31 _ hs0 HI.out.1 HI.out.2 (U8A_one _) ?_)
      refine Eq.mp (congrArg (fun x => Code.wp _ _ _ _ x) hw2) ?_
      clear hw2 hs0
      go_wp2_with (at_builtin; refine wpList_rest_append rfl (.tmp 28) (.tmp 29) rfl A cap O rfl (some ⟨w1.heap.size, 0, none⟩) 64 B (by rw [HB2.out.2.1]; rfl) HB2.out.2.2.1 HB2.out.2.2.2.2 (by rw [HB2.out.2.1, hO.out.2]; omega) ?_; intro A3 cap3 w3 hR3 hT3 hN3; have HR3 := Lib.hid (And.intro hR3 (And.intro hT3 hN3)); clear hR3 hT3 hN3)
      go_roundw
      case rel =>
        refine ⟨j + 1, A3, cap3, O ++ B, by omega, by go_num, by rw [List.length_append], Lib.hid ⟨by rw [iter, ← hO.out.1, moreF, HB2.out.1], by rw [List.length_append, hO.out.2, HB2.out.2.1]; omega⟩, HR3.out.1, ?_, ?_⟩
        · exact HB2.out.2.2.2.1.trans HR3.out.2.1 (fun b hb ⟨a, ha, e⟩ => by have := HJ.out.2.2 a ha; omega)
        · intro a ha
          rcases HR3.out.2.2 a ha with ⟨a0, h1, h2⟩ | h
          · have := HJ.out.2.2 a0 h1; omega
          · have := HB2.out.2.2.2.1.size; omega
      case measure => simp [intOf]; omega
    · have hjN' : j = N := by omega
      rw [hjN'] at hO
      clear hjN'
      have hS : O.take many = streamF key nonce n many := by rw [streamF, ← HN.out, ← hO.out.1]
      have hml : many ≤ O.length := by have := hO.out.2; have := HN.out; omega
      have hR' := hR.take_ many
      rw [hS] at hR'
      have hTw := HB.out.2.2.trans hT (fun _ _ h => h)
      have hA' : ∀ a, A = some a → w.heap.size ≤ a.block := fun a ha => by have := hA a ha; have := HB.out.2.2.size; omega
      have HE := Lib.hid (And.intro hR' (And.intro hTw hA'))
      clear hR' hTw hA' hT hA hS
      rcases hR with ⟨rfl, rfl, rfl⟩ | ⟨g, off, cur, rfl, hb, hle, hmx, hfit, hx⟩
      · have hm0 : many = 0 := by simp at hml; omega
        subst hm0
        go_wp2
        go_ret
        exact ⟨none, 0, rfl, HE.out⟩
      · have hmc : many ≤ cap := by omega
        have hmci : (many : Int) ≤ cap := by omega
        clear hb hx hfit
        go_wp2
        go_ret
        exact ⟨_, cap, rfl, HE.out⟩
end Go.Proofs.Ytelmjlfhmbicjaa
