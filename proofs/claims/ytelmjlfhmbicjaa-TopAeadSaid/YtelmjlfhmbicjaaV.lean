/- bits.Xor of what came in; chacha: Crypt. -/
import Derived.Test.YtelmjlfhmbicjaaU
namespace Go.Proofs.Ytelmjlfhmbicjaa
open Go.RowKit
set_option linter.unusedVariables false

set_option maxHeartbeats 400000 in
theorem xor_in (w : World) (A1 A2 : Option Addr) (n c1 c2 : Nat) (xs ys : List Int) (hx : xs.length = n) (hy : ys.length = n) (hn : n ≤ 4096) (h1 : Inb w A1 xs) (h2 : Inb w A2 ys) :
    Calls Try.prog 26 #[.slice A1 n c1, .slice A2 n c2] w fun e w' => e = .returned (.slice (some ⟨w.heap.size + 2, 0, none⟩) n n) ∧ Blk w' (w.heap.size + 2) 5 (U8A (xorF xs ys)) ∧ Touch (fun _ => False) w w' := by
  obtain ⟨w1, hw1⟩ : ∃ w1, w1 = (w.alloc (.cells #[.slice A1 n c1] 26)).alloc (.cells #[.slice A2 n c2] 26) := ⟨_, rfl⟩
  have hT1 : Touch (fun _ => False) w w1 := by rw [hw1]; exact ((Touch.refl _ w).alloc _).alloc _
  have hp1 : Blk w1 w.heap.size 26 #[.slice A1 n c1] := by rw [hw1]; exact (Blk.new _ _ _).alloc _
  have hp2 : Blk w1 (w.heap.size + 1) 26 #[.slice A2 n c2] := by
    rw [hw1]
    have := Blk.new (w.alloc (.cells #[.slice A1 n c1] 26)) 26 #[.slice A2 n c2]
    rw [World.size_alloc] at this
    exact this
  have hs1 : w1.heap.size = w.heap.size + 2 := by rw [hw1]; simp
  have HP := Lib.hid (puts_any w1 n 33 #[.pointer (some ⟨w.heap.size, 0, none⟩), .pointer (some ⟨w.heap.size + 1, 0, none⟩)] (xorF xs ys) hn (by rw [xorF_len, hx]) (fun j w => enter33 _ _ j w)
    (fun j w' hj hT' => by
      have ht := hT1.trans hT' (by simp)
      have i1 := h1.touch ht (fun _ _ _ _ h => h)
      have i2 := h2.touch ht (fun _ _ _ _ h => h)
      have q1 := hp1.touch hT' (by simp)
      have q2 := hp2.touch hT' (by simp)
      rcases i1 with i1 | ⟨g1, o1, rfl, i1⟩
      · rw [i1] at hx; simp at hx; omega
      rcases i2 with i2 | ⟨g2, o2, rfl, i2⟩
      · rw [i2] at hy; simp at hy; omega
      have := xorc_any w' w.heap.size (w.heap.size + 1) g1 g2 o1 o2 n j c1 c2 (xs.getD j 0) (ys.getD j 0) hj q1 q2 (i1 j (by omega)) (i2 j (by omega))
      have hjx : j < xs.length := by omega
      rw [show (xorF xs ys).getD j 0 = bits .xor .u8 (xs.getD j 0) (ys.getD j 0) from by simp [xorF, List.getD, hjx]]
      exact this.mono (fun e w'' h => ⟨h.1, by rw [h.2]; exact (Touch.refl _ _).drew⟩)))
  have HW := Lib.hid hw1
  have HZ := Lib.hid hs1
  have HT := Lib.hid hT1
  clear hw1 hs1 hT1 hp1 hp2 h1 h2 hx hy
  go_enter Try.func26, Try.ntmps26
  go_wp2_with fail
  rw [← HW.out]
  refine HP.out.mono ?_
  rintro e w2 ⟨rfl, hb2, hT2⟩
  rw [HZ.out] at hb2 ⊢
  go_wp2
  go_ret
  exact ⟨rfl, hb2, HT.out.trans hT2 (by simp)⟩

def cryptF (key nonce : List Int) (n : Int) (b : List Int) : List Int := xorF b (streamF key nonce n b.length)
theorem cryptF_len (key nonce : List Int) (n : Int) (b : List Int) : (cryptF key nonce n b).length = b.length := xorF_len _ _

set_option maxHeartbeats 1000000 in
theorem crypt_any (w : World) (key nonce : List Int) (n : Int) (A : Option Addr) (m c : Nat) (b : List Int) (hk : key.length = 32) (hn : nonce.length = 12) (hb : b.length = m) (hm : m ≤ 4096) (hin : Inb w A b) :
    Calls Try.prog 10 #[.agg (U8A key), .agg (U8A nonce), .int .u32 n, .slice A m c] w fun e w' => ∃ g, e = .returned (.slice (some ⟨g, 0, none⟩) m m) ∧ Blk w' g 5 (U8A (cryptF key nonce n b)) ∧ Touch (fun _ => False) w w' ∧ w.heap.size ≤ g := by
  have h22 : (Try.prog.info? 22).map (·.size) = some (U8A key).size := by rw [U8A_size, hk]; kernel_rfl
  have h27 : (Try.prog.info? 27).map (·.size) = some (U8A nonce).size := by rw [U8A_size, hn]; kernel_rfl
  have H := Lib.hid (And.intro hk (And.intro hn (And.intro h22 (And.intro h27 (And.intro hb hin)))))
  clear hk hn h22 h27 hb hin
  obtain ⟨W, hW⟩ : ∃ W, W = ((w.alloc (Obj.cells (U8A key) 22)).alloc (Obj.cells (U8A nonce) 27)) := ⟨_, rfl⟩
  have hTW : Touch (fun _ => False) w W := by rw [hW]; exact ((Touch.refl _ w).alloc _).alloc _
  have hbK : Blk W w.heap.size 22 (U8A key) := by rw [hW]; exact (Blk.new w 22 _).alloc _
  have hbN : Blk W (w.heap.size + 1) 27 (U8A nonce) := by
    have := Blk.new (w.alloc (Obj.cells (U8A key) 22)) 27 (U8A nonce)
    rw [World.size_alloc] at this
    rw [hW]; exact this
  go_enter Try.func10, Try.ntmps10
  go_upto_region 1 with fail
  refine Eq.mp (congrArg (fun x => Code.wp _ _ _ _ x) hW) ?_
  have HT := Lib.hid hTW
  clear hW hTW
  go_wp2_with (first | (refine wpList_load_row rfl 22 (.tmp 4) rfl w.heap.size rfl 22 (U8A key) (0, 0) (.array 32 5) hbK (by kernel_rfl) rfl H.out.2.2.1 ?_) | (refine wpList_load_row rfl 27 (.tmp 5) rfl (w.heap.size + 1) rfl 27 (U8A nonce) (0, 0) (.array 12 5) hbN (by kernel_rfl) rfl H.out.2.2.2.1 ?_))
  refine (stream_any W key nonce n m H.out.1 H.out.2.1 hm).mono ?_
  rintro e w1 ⟨A1, cap1, rfl, hR1, hT1, hA1⟩
  have HS := Lib.hid (And.intro hR1 (And.intro hT1 hA1))
  clear hR1 hT1 hA1 hbK hbN
  go_wp2_with fail
  refine (xor_in w1 A A1 m c cap1 b (streamF key nonce n m) H.out.2.2.2.2.1 (streamF_len _ _ _ _) hm ((H.out.2.2.2.2.2.touch HT.out (fun _ _ _ _ h => h)).touch HS.out.2.1 (fun _ _ _ _ h => h)) HS.out.1.inb).mono ?_
  rintro e w2 ⟨rfl, hb2, hT2⟩
  have HE := Lib.hid (And.intro hb2 hT2)
  clear hb2 hT2
  go_wp2
  go_ret
  refine ⟨_, rfl, ?_, (HT.out.trans HS.out.2.1 (fun _ _ h => h)).trans HE.out.2 (fun _ _ h => h), ?_⟩
  · have := HE.out.1
    rw [cryptF, H.out.2.2.2.2.1]
    exact this
  · have := HT.out.size; have := HS.out.2.1.size; omega
end Go.Proofs.Ytelmjlfhmbicjaa
