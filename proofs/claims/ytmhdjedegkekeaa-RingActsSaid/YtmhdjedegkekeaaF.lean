/- 'do' (an act on a ring), by contracts. -/
import Derived.Test.YtmhdjedegkekeaaE
namespace Go.Proofs.Ytmhdjedegkekeaa
open Go.RowKit

theorem do_keep_yes (w : World) (what : Nat) (a b c : Int) (r p n k : Nat) (L : List Dn) (h : Ring w r p n k L) (hlt0 : L.length + k < n) (hm : what % 4 = 0) (h256 : what < 256) :
    Calls Try.prog 9 #[.pointer (some ⟨r, 0, none⟩), .agg #[.int .u8 what, .int .i64 a, .int .i64 b, .int .i64 c]] w fun e w' => e = .returned (.tuple #[.agg #[.int .i64 0, .int .i64 0, .int .i64 0], .int .i64 0]) ∧ Left1 r p n (k + 1) L w w' := by
  obtain ⟨w1, hw1⟩ : ∃ w1, w1 = (w.alloc (.cells #[.int .u8 what, .int .i64 a, .int .i64 b, .int .i64 c] 37)).alloc (.cells #[.int .i64 0, .int .i64 0, .int .i64 0] 33) := ⟨_, rfl⟩
  have hT : Touch (fun _ => False) w w1 := by rw [hw1]; exact ((Touch.refl _ w).alloc _).alloc _
  have hb : Blk w1 w.heap.size 37 #[.int .u8 what, .int .i64 a, .int .i64 b, .int .i64 c] := by rw [hw1]; exact (Blk.new _ _ _).alloc _
  have hq : Blk w1 (w.heap.size + 1) 33 #[.int .i64 0, .int .i64 0, .int .i64 0] := by
    have := Blk.new (w.alloc (.cells #[.int .u8 what, .int .i64 a, .int .i64 b, .int .i64 c] 37)) 33 #[.int .i64 0, .int .i64 0, .int .i64 0]
    rw [World.size_alloc] at this
    rw [hw1]; exact this
  have hR := h.touch hT (by simp) (by simp)
  have hlt := h.lt
  have c0 := hb.cell 0
  have c1 := hb.cell 1
  have c2 := hb.cell 2
  have c3 := hb.cell 3
  have hmi : (what : Int) % 4 = 0 := by omega
  simp at c0 c1 c2 c3
  have HW := Lib.hid hw1
  clear hm
  go_enter Try.func9, Try.ntmps9
  go_wp2_with fail
  rw [← HW.out]
  clear hw1 HW
  refine (keep_yes _ _ _ _ _ _ hR hlt0).mono ?_
  rintro e w2 ⟨rfl, hL⟩
  have hq2 := hq.touch hL.2 (by unfold Own2; omega)
  have g0 := hq2.cell 0
  have g1 := hq2.cell 1
  have g2 := hq2.cell 2
  have gz := hq2.frozen
  simp at g0 g1 g2
  clear hmi
  go_wp2
  have hq3 := ((hq2.set_ 0 (.int .i64 0)).set_ 1 (.int .i64 0)).set_ 2 (.int .i64 0)
  have f0 := hq3.cell 0
  have f1 := hq3.cell 1
  have f2 := hq3.cell 2
  simp only [List.setIfInBounds_toArray, List.set_cons_zero, List.set_cons_succ, List.getElem?_toArray, List.getElem?_cons_zero, List.getElem?_cons_succ] at f0 f1 f2
  refine bodyPost_ret (v := .tuple #[.agg #[.int .i64 0, .int .i64 0, .int .i64 0], .int .i64 0]) (by simp only [results, Try.results9]; simp [go_sem, f0, f1, f2]) rfl ⟨rfl, hL.1.touch ((((Touch.refl (fun q => q = w.heap.size + 1) w2).setCell (.inr rfl) _).setCell (.inr rfl) _).setCell (.inr rfl) _) (by omega) (by omega), ((((hT.weaken (by simp)).trans hL.2 (fun _ _ h => h)).setCell (.inl (by simp)) _).setCell (.inl (by simp)) _).setCell (.inl (by simp)) _⟩

theorem do_keep_no (w : World) (what : Nat) (a b c : Int) (r p n k : Nat) (L : List Dn) (h : Ring w r p n k L) (hge : ¬ L.length + k < n) (hm : what % 4 = 0) (h256 : what < 256) :
    Calls Try.prog 9 #[.pointer (some ⟨r, 0, none⟩), .agg #[.int .u8 what, .int .i64 a, .int .i64 b, .int .i64 c]] w fun e w' => e = .returned (.tuple #[.agg #[.int .i64 0, .int .i64 0, .int .i64 0], .int .i64 12]) ∧ Left1 r p n k L w w' := by
  obtain ⟨w1, hw1⟩ : ∃ w1, w1 = (w.alloc (.cells #[.int .u8 what, .int .i64 a, .int .i64 b, .int .i64 c] 37)).alloc (.cells #[.int .i64 0, .int .i64 0, .int .i64 0] 33) := ⟨_, rfl⟩
  have hT : Touch (fun _ => False) w w1 := by rw [hw1]; exact ((Touch.refl _ w).alloc _).alloc _
  have hb : Blk w1 w.heap.size 37 #[.int .u8 what, .int .i64 a, .int .i64 b, .int .i64 c] := by rw [hw1]; exact (Blk.new _ _ _).alloc _
  have hq : Blk w1 (w.heap.size + 1) 33 #[.int .i64 0, .int .i64 0, .int .i64 0] := by
    have := Blk.new (w.alloc (.cells #[.int .u8 what, .int .i64 a, .int .i64 b, .int .i64 c] 37)) 33 #[.int .i64 0, .int .i64 0, .int .i64 0]
    rw [World.size_alloc] at this
    rw [hw1]; exact this
  have hR := h.touch hT (by simp) (by simp)
  have hlt := h.lt
  have c0 := hb.cell 0
  have c1 := hb.cell 1
  have c2 := hb.cell 2
  have c3 := hb.cell 3
  have hmi : (what : Int) % 4 = 0 := by omega
  simp at c0 c1 c2 c3
  have HW := Lib.hid hw1
  clear hm
  go_enter Try.func9, Try.ntmps9
  go_wp2_with fail
  rw [← HW.out]
  clear hw1 HW
  refine (keep_no _ _ _ _ _ _ hR hge).mono ?_
  rintro e w2 ⟨rfl, hL⟩
  have hq2 := hq.touch hL.2 (by unfold Own2; omega)
  have g0 := hq2.cell 0
  have g1 := hq2.cell 1
  have g2 := hq2.cell 2
  have gz := hq2.frozen
  simp at g0 g1 g2
  clear hmi
  go_wp2
  have hq3 := ((hq2.set_ 0 (.int .i64 0)).set_ 1 (.int .i64 0)).set_ 2 (.int .i64 0)
  have f0 := hq3.cell 0
  have f1 := hq3.cell 1
  have f2 := hq3.cell 2
  simp only [List.setIfInBounds_toArray, List.set_cons_zero, List.set_cons_succ, List.getElem?_toArray, List.getElem?_cons_zero, List.getElem?_cons_succ] at f0 f1 f2
  refine bodyPost_ret (v := .tuple #[.agg #[.int .i64 0, .int .i64 0, .int .i64 0], .int .i64 12]) (by simp only [results, Try.results9]; simp [go_sem, f0, f1, f2]) rfl ⟨rfl, hL.1.touch ((((Touch.refl (fun q => q = w.heap.size + 1) w2).setCell (.inr rfl) _).setCell (.inr rfl) _).setCell (.inr rfl) _) (by omega) (by omega), ((((hT.weaken (by simp)).trans hL.2 (fun _ _ h => h)).setCell (.inl (by simp)) _).setCell (.inl (by simp)) _).setCell (.inl (by simp)) _⟩

theorem do_drop_yes (w : World) (what : Nat) (a b c : Int) (r p n k : Nat) (L : List Dn) (h : Ring w r p n k L) (hk : 0 < k) (hm : what % 4 = 1) (h256 : what < 256) :
    Calls Try.prog 9 #[.pointer (some ⟨r, 0, none⟩), .agg #[.int .u8 what, .int .i64 a, .int .i64 b, .int .i64 c]] w fun e w' => e = .returned (.tuple #[.agg #[.int .i64 0, .int .i64 0, .int .i64 0], .int .i64 0]) ∧ Left1 r p n (k - 1) L w w' := by
  obtain ⟨w1, hw1⟩ : ∃ w1, w1 = (w.alloc (.cells #[.int .u8 what, .int .i64 a, .int .i64 b, .int .i64 c] 37)).alloc (.cells #[.int .i64 0, .int .i64 0, .int .i64 0] 33) := ⟨_, rfl⟩
  have hT : Touch (fun _ => False) w w1 := by rw [hw1]; exact ((Touch.refl _ w).alloc _).alloc _
  have hb : Blk w1 w.heap.size 37 #[.int .u8 what, .int .i64 a, .int .i64 b, .int .i64 c] := by rw [hw1]; exact (Blk.new _ _ _).alloc _
  have hq : Blk w1 (w.heap.size + 1) 33 #[.int .i64 0, .int .i64 0, .int .i64 0] := by
    have := Blk.new (w.alloc (.cells #[.int .u8 what, .int .i64 a, .int .i64 b, .int .i64 c] 37)) 33 #[.int .i64 0, .int .i64 0, .int .i64 0]
    rw [World.size_alloc] at this
    rw [hw1]; exact this
  have hR := h.touch hT (by simp) (by simp)
  have hlt := h.lt
  have c0 := hb.cell 0
  have c1 := hb.cell 1
  have c2 := hb.cell 2
  have c3 := hb.cell 3
  have hmi : (what : Int) % 4 = 1 := by omega
  simp at c0 c1 c2 c3
  have HW := Lib.hid hw1
  clear hm
  go_enter Try.func9, Try.ntmps9
  go_wp2_with fail
  rw [← HW.out]
  clear hw1 HW
  refine (drop_yes _ _ _ _ _ _ hR hk).mono ?_
  rintro e w2 ⟨rfl, hL⟩
  have hq2 := hq.touch hL.2 (by unfold Own2; omega)
  have g0 := hq2.cell 0
  have g1 := hq2.cell 1
  have g2 := hq2.cell 2
  have gz := hq2.frozen
  simp at g0 g1 g2
  clear hmi
  go_wp2
  have hq3 := ((hq2.set_ 0 (.int .i64 0)).set_ 1 (.int .i64 0)).set_ 2 (.int .i64 0)
  have f0 := hq3.cell 0
  have f1 := hq3.cell 1
  have f2 := hq3.cell 2
  simp only [List.setIfInBounds_toArray, List.set_cons_zero, List.set_cons_succ, List.getElem?_toArray, List.getElem?_cons_zero, List.getElem?_cons_succ] at f0 f1 f2
  refine bodyPost_ret (v := .tuple #[.agg #[.int .i64 0, .int .i64 0, .int .i64 0], .int .i64 0]) (by simp only [results, Try.results9]; simp [go_sem, f0, f1, f2]) rfl ⟨rfl, hL.1.touch ((((Touch.refl (fun q => q = w.heap.size + 1) w2).setCell (.inr rfl) _).setCell (.inr rfl) _).setCell (.inr rfl) _) (by omega) (by omega), ((((hT.weaken (by simp)).trans hL.2 (fun _ _ h => h)).setCell (.inl (by simp)) _).setCell (.inl (by simp)) _).setCell (.inl (by simp)) _⟩

theorem do_drop_no (w : World) (what : Nat) (a b c : Int) (r p n : Nat) (L : List Dn) (h : Ring w r p n 0 L) (hm : what % 4 = 1) (h256 : what < 256) :
    Calls Try.prog 9 #[.pointer (some ⟨r, 0, none⟩), .agg #[.int .u8 what, .int .i64 a, .int .i64 b, .int .i64 c]] w fun e w' => e = .returned (.tuple #[.agg #[.int .i64 0, .int .i64 0, .int .i64 0], .int .i64 15]) ∧ Left1 r p n 0 L w w' := by
  obtain ⟨w1, hw1⟩ : ∃ w1, w1 = (w.alloc (.cells #[.int .u8 what, .int .i64 a, .int .i64 b, .int .i64 c] 37)).alloc (.cells #[.int .i64 0, .int .i64 0, .int .i64 0] 33) := ⟨_, rfl⟩
  have hT : Touch (fun _ => False) w w1 := by rw [hw1]; exact ((Touch.refl _ w).alloc _).alloc _
  have hb : Blk w1 w.heap.size 37 #[.int .u8 what, .int .i64 a, .int .i64 b, .int .i64 c] := by rw [hw1]; exact (Blk.new _ _ _).alloc _
  have hq : Blk w1 (w.heap.size + 1) 33 #[.int .i64 0, .int .i64 0, .int .i64 0] := by
    have := Blk.new (w.alloc (.cells #[.int .u8 what, .int .i64 a, .int .i64 b, .int .i64 c] 37)) 33 #[.int .i64 0, .int .i64 0, .int .i64 0]
    rw [World.size_alloc] at this
    rw [hw1]; exact this
  have hR := h.touch hT (by simp) (by simp)
  have hlt := h.lt
  have c0 := hb.cell 0
  have c1 := hb.cell 1
  have c2 := hb.cell 2
  have c3 := hb.cell 3
  have hmi : (what : Int) % 4 = 1 := by omega
  simp at c0 c1 c2 c3
  have HW := Lib.hid hw1
  clear hm
  go_enter Try.func9, Try.ntmps9
  go_wp2_with fail
  rw [← HW.out]
  clear hw1 HW
  refine (drop_no _ _ _ _ _ hR).mono ?_
  rintro e w2 ⟨rfl, hL⟩
  have hq2 := hq.touch hL.2 (by unfold Own2; omega)
  have g0 := hq2.cell 0
  have g1 := hq2.cell 1
  have g2 := hq2.cell 2
  have gz := hq2.frozen
  simp at g0 g1 g2
  clear hmi
  go_wp2
  have hq3 := ((hq2.set_ 0 (.int .i64 0)).set_ 1 (.int .i64 0)).set_ 2 (.int .i64 0)
  have f0 := hq3.cell 0
  have f1 := hq3.cell 1
  have f2 := hq3.cell 2
  simp only [List.setIfInBounds_toArray, List.set_cons_zero, List.set_cons_succ, List.getElem?_toArray, List.getElem?_cons_zero, List.getElem?_cons_succ] at f0 f1 f2
  refine bodyPost_ret (v := .tuple #[.agg #[.int .i64 0, .int .i64 0, .int .i64 0], .int .i64 15]) (by simp only [results, Try.results9]; simp [go_sem, f0, f1, f2]) rfl ⟨rfl, hL.1.touch ((((Touch.refl (fun q => q = w.heap.size + 1) w2).setCell (.inr rfl) _).setCell (.inr rfl) _).setCell (.inr rfl) _) (by omega) (by omega), ((((hT.weaken (by simp)).trans hL.2 (fun _ _ h => h)).setCell (.inl (by simp)) _).setCell (.inl (by simp)) _).setCell (.inl (by simp)) _⟩

theorem do_push_yes (w : World) (what : Nat) (a b c : Int) (r p n k : Nat) (L : List Dn) (h : Ring w r p n k L) (hk : 0 < k) (hm : what % 4 = 2) (h256 : what < 256) :
    Calls Try.prog 9 #[.pointer (some ⟨r, 0, none⟩), .agg #[.int .u8 what, .int .i64 a, .int .i64 b, .int .i64 c]] w fun e w' => e = .returned (.tuple #[.agg #[.int .i64 0, .int .i64 0, .int .i64 0], .int .i64 0]) ∧ Left1 r p n (k - 1) (L ++ [(a, b, c)]) w w' := by
  obtain ⟨w1, hw1⟩ : ∃ w1, w1 = (w.alloc (.cells #[.int .u8 what, .int .i64 a, .int .i64 b, .int .i64 c] 37)).alloc (.cells #[.int .i64 0, .int .i64 0, .int .i64 0] 33) := ⟨_, rfl⟩
  have hT : Touch (fun _ => False) w w1 := by rw [hw1]; exact ((Touch.refl _ w).alloc _).alloc _
  have hb : Blk w1 w.heap.size 37 #[.int .u8 what, .int .i64 a, .int .i64 b, .int .i64 c] := by rw [hw1]; exact (Blk.new _ _ _).alloc _
  have hq : Blk w1 (w.heap.size + 1) 33 #[.int .i64 0, .int .i64 0, .int .i64 0] := by
    have := Blk.new (w.alloc (.cells #[.int .u8 what, .int .i64 a, .int .i64 b, .int .i64 c] 37)) 33 #[.int .i64 0, .int .i64 0, .int .i64 0]
    rw [World.size_alloc] at this
    rw [hw1]; exact this
  have hR := h.touch hT (by simp) (by simp)
  have hlt := h.lt
  have c0 := hb.cell 0
  have c1 := hb.cell 1
  have c2 := hb.cell 2
  have c3 := hb.cell 3
  have hmi : (what : Int) % 4 = 2 := by omega
  simp at c0 c1 c2 c3
  have HW := Lib.hid hw1
  clear hm
  go_enter Try.func9, Try.ntmps9
  go_wp2_with fail
  rw [← HW.out]
  clear hw1 HW
  refine (push_yes _ _ _ _ _ _ _ _ _ hR hk).mono ?_
  rintro e w2 ⟨rfl, hL⟩
  have hq2 := hq.touch hL.2 (by unfold Own2; omega)
  have g0 := hq2.cell 0
  have g1 := hq2.cell 1
  have g2 := hq2.cell 2
  have gz := hq2.frozen
  simp at g0 g1 g2
  clear hmi
  go_wp2
  have hq3 := ((hq2.set_ 0 (.int .i64 0)).set_ 1 (.int .i64 0)).set_ 2 (.int .i64 0)
  have f0 := hq3.cell 0
  have f1 := hq3.cell 1
  have f2 := hq3.cell 2
  simp only [List.setIfInBounds_toArray, List.set_cons_zero, List.set_cons_succ, List.getElem?_toArray, List.getElem?_cons_zero, List.getElem?_cons_succ] at f0 f1 f2
  refine bodyPost_ret (v := .tuple #[.agg #[.int .i64 0, .int .i64 0, .int .i64 0], .int .i64 0]) (by simp only [results, Try.results9]; simp [go_sem, f0, f1, f2]) rfl ⟨rfl, hL.1.touch ((((Touch.refl (fun q => q = w.heap.size + 1) w2).setCell (.inr rfl) _).setCell (.inr rfl) _).setCell (.inr rfl) _) (by omega) (by omega), ((((hT.weaken (by simp)).trans hL.2 (fun _ _ h => h)).setCell (.inl (by simp)) _).setCell (.inl (by simp)) _).setCell (.inl (by simp)) _⟩

theorem do_push_no (w : World) (what : Nat) (a b c : Int) (r p n : Nat) (L : List Dn) (h : Ring w r p n 0 L) (hm : what % 4 = 2) (h256 : what < 256) :
    Calls Try.prog 9 #[.pointer (some ⟨r, 0, none⟩), .agg #[.int .u8 what, .int .i64 a, .int .i64 b, .int .i64 c]] w fun e w' => e = .returned (.tuple #[.agg #[.int .i64 0, .int .i64 0, .int .i64 0], .int .i64 12]) ∧ Left1 r p n 0 L w w' := by
  obtain ⟨w1, hw1⟩ : ∃ w1, w1 = (w.alloc (.cells #[.int .u8 what, .int .i64 a, .int .i64 b, .int .i64 c] 37)).alloc (.cells #[.int .i64 0, .int .i64 0, .int .i64 0] 33) := ⟨_, rfl⟩
  have hT : Touch (fun _ => False) w w1 := by rw [hw1]; exact ((Touch.refl _ w).alloc _).alloc _
  have hb : Blk w1 w.heap.size 37 #[.int .u8 what, .int .i64 a, .int .i64 b, .int .i64 c] := by rw [hw1]; exact (Blk.new _ _ _).alloc _
  have hq : Blk w1 (w.heap.size + 1) 33 #[.int .i64 0, .int .i64 0, .int .i64 0] := by
    have := Blk.new (w.alloc (.cells #[.int .u8 what, .int .i64 a, .int .i64 b, .int .i64 c] 37)) 33 #[.int .i64 0, .int .i64 0, .int .i64 0]
    rw [World.size_alloc] at this
    rw [hw1]; exact this
  have hR := h.touch hT (by simp) (by simp)
  have hlt := h.lt
  have c0 := hb.cell 0
  have c1 := hb.cell 1
  have c2 := hb.cell 2
  have c3 := hb.cell 3
  have hmi : (what : Int) % 4 = 2 := by omega
  simp at c0 c1 c2 c3
  have HW := Lib.hid hw1
  clear hm
  go_enter Try.func9, Try.ntmps9
  go_wp2_with fail
  rw [← HW.out]
  clear hw1 HW
  refine (push_no _ _ _ _ _ _ _ _ hR).mono ?_
  rintro e w2 ⟨rfl, hL⟩
  have hq2 := hq.touch hL.2 (by unfold Own2; omega)
  have g0 := hq2.cell 0
  have g1 := hq2.cell 1
  have g2 := hq2.cell 2
  have gz := hq2.frozen
  simp at g0 g1 g2
  clear hmi
  go_wp2
  have hq3 := ((hq2.set_ 0 (.int .i64 0)).set_ 1 (.int .i64 0)).set_ 2 (.int .i64 0)
  have f0 := hq3.cell 0
  have f1 := hq3.cell 1
  have f2 := hq3.cell 2
  simp only [List.setIfInBounds_toArray, List.set_cons_zero, List.set_cons_succ, List.getElem?_toArray, List.getElem?_cons_zero, List.getElem?_cons_succ] at f0 f1 f2
  refine bodyPost_ret (v := .tuple #[.agg #[.int .i64 0, .int .i64 0, .int .i64 0], .int .i64 12]) (by simp only [results, Try.results9]; simp [go_sem, f0, f1, f2]) rfl ⟨rfl, hL.1.touch ((((Touch.refl (fun q => q = w.heap.size + 1) w2).setCell (.inr rfl) _).setCell (.inr rfl) _).setCell (.inr rfl) _) (by omega) (by omega), ((((hT.weaken (by simp)).trans hL.2 (fun _ _ h => h)).setCell (.inl (by simp)) _).setCell (.inl (by simp)) _).setCell (.inl (by simp)) _⟩

theorem do_pop_yes (w : World) (what : Nat) (a b c : Int) (r p n k : Nat) (L : List Dn) (x y z : Int) (h : Ring w r p n k ((x, y, z) :: L)) (hm : what % 4 = 3) (h256 : what < 256) :
    Calls Try.prog 9 #[.pointer (some ⟨r, 0, none⟩), .agg #[.int .u8 what, .int .i64 a, .int .i64 b, .int .i64 c]] w fun e w' => e = .returned (.tuple #[.agg #[.int .i64 x, .int .i64 y, .int .i64 z], .int .i64 0]) ∧ Left1 r p n k L w w' := by
  obtain ⟨w1, hw1⟩ : ∃ w1, w1 = (w.alloc (.cells #[.int .u8 what, .int .i64 a, .int .i64 b, .int .i64 c] 37)).alloc (.cells #[.int .i64 0, .int .i64 0, .int .i64 0] 33) := ⟨_, rfl⟩
  have hT : Touch (fun _ => False) w w1 := by rw [hw1]; exact ((Touch.refl _ w).alloc _).alloc _
  have hb : Blk w1 w.heap.size 37 #[.int .u8 what, .int .i64 a, .int .i64 b, .int .i64 c] := by rw [hw1]; exact (Blk.new _ _ _).alloc _
  have hq : Blk w1 (w.heap.size + 1) 33 #[.int .i64 0, .int .i64 0, .int .i64 0] := by
    have := Blk.new (w.alloc (.cells #[.int .u8 what, .int .i64 a, .int .i64 b, .int .i64 c] 37)) 33 #[.int .i64 0, .int .i64 0, .int .i64 0]
    rw [World.size_alloc] at this
    rw [hw1]; exact this
  have hR := h.touch hT (by simp) (by simp)
  have hlt := h.lt
  have c0 := hb.cell 0
  have c1 := hb.cell 1
  have c2 := hb.cell 2
  have c3 := hb.cell 3
  have hmi : (what : Int) % 4 = 3 := by omega
  simp at c0 c1 c2 c3
  have HW := Lib.hid hw1
  clear hm
  go_enter Try.func9, Try.ntmps9
  go_wp2_with fail
  rw [← HW.out]
  clear hw1 HW
  refine (pop_yes _ _ _ _ _ _ _ _ _ hR).mono ?_
  rintro e w2 ⟨rfl, hL⟩
  have hq2 := hq.touch hL.2 (by unfold Own2; omega)
  have g0 := hq2.cell 0
  have g1 := hq2.cell 1
  have g2 := hq2.cell 2
  have gz := hq2.frozen
  simp at g0 g1 g2
  clear hmi
  go_wp2
  have hq3 := ((hq2.set_ 0 (.int .i64 x)).set_ 1 (.int .i64 y)).set_ 2 (.int .i64 z)
  have f0 := hq3.cell 0
  have f1 := hq3.cell 1
  have f2 := hq3.cell 2
  simp only [List.setIfInBounds_toArray, List.set_cons_zero, List.set_cons_succ, List.getElem?_toArray, List.getElem?_cons_zero, List.getElem?_cons_succ] at f0 f1 f2
  refine bodyPost_ret (v := .tuple #[.agg #[.int .i64 x, .int .i64 y, .int .i64 z], .int .i64 0]) (by simp only [results, Try.results9]; simp [go_sem, f0, f1, f2]) rfl ⟨rfl, hL.1.touch ((((Touch.refl (fun q => q = w.heap.size + 1) w2).setCell (.inr rfl) _).setCell (.inr rfl) _).setCell (.inr rfl) _) (by omega) (by omega), ((((hT.weaken (by simp)).trans hL.2 (fun _ _ h => h)).setCell (.inl (by simp)) _).setCell (.inl (by simp)) _).setCell (.inl (by simp)) _⟩

theorem do_pop_no (w : World) (what : Nat) (a b c : Int) (r p n k : Nat) (h : Ring w r p n k []) (hm : what % 4 = 3) (h256 : what < 256) :
    Calls Try.prog 9 #[.pointer (some ⟨r, 0, none⟩), .agg #[.int .u8 what, .int .i64 a, .int .i64 b, .int .i64 c]] w fun e w' => e = .returned (.tuple #[.agg #[.int .i64 0, .int .i64 0, .int .i64 0], .int .i64 15]) ∧ Left1 r p n k [] w w' := by
  obtain ⟨w1, hw1⟩ : ∃ w1, w1 = (w.alloc (.cells #[.int .u8 what, .int .i64 a, .int .i64 b, .int .i64 c] 37)).alloc (.cells #[.int .i64 0, .int .i64 0, .int .i64 0] 33) := ⟨_, rfl⟩
  have hT : Touch (fun _ => False) w w1 := by rw [hw1]; exact ((Touch.refl _ w).alloc _).alloc _
  have hb : Blk w1 w.heap.size 37 #[.int .u8 what, .int .i64 a, .int .i64 b, .int .i64 c] := by rw [hw1]; exact (Blk.new _ _ _).alloc _
  have hq : Blk w1 (w.heap.size + 1) 33 #[.int .i64 0, .int .i64 0, .int .i64 0] := by
    have := Blk.new (w.alloc (.cells #[.int .u8 what, .int .i64 a, .int .i64 b, .int .i64 c] 37)) 33 #[.int .i64 0, .int .i64 0, .int .i64 0]
    rw [World.size_alloc] at this
    rw [hw1]; exact this
  have hR := h.touch hT (by simp) (by simp)
  have hlt := h.lt
  have c0 := hb.cell 0
  have c1 := hb.cell 1
  have c2 := hb.cell 2
  have c3 := hb.cell 3
  have hmi : (what : Int) % 4 = 3 := by omega
  simp at c0 c1 c2 c3
  have HW := Lib.hid hw1
  clear hm
  go_enter Try.func9, Try.ntmps9
  go_wp2_with fail
  rw [← HW.out]
  clear hw1 HW
  refine (pop_no _ _ _ _ _ hR).mono ?_
  rintro e w2 ⟨rfl, hL⟩
  have hq2 := hq.touch hL.2 (by unfold Own2; omega)
  have g0 := hq2.cell 0
  have g1 := hq2.cell 1
  have g2 := hq2.cell 2
  have gz := hq2.frozen
  simp at g0 g1 g2
  clear hmi
  go_wp2
  have hq3 := ((hq2.set_ 0 (.int .i64 0)).set_ 1 (.int .i64 0)).set_ 2 (.int .i64 0)
  have f0 := hq3.cell 0
  have f1 := hq3.cell 1
  have f2 := hq3.cell 2
  simp only [List.setIfInBounds_toArray, List.set_cons_zero, List.set_cons_succ, List.getElem?_toArray, List.getElem?_cons_zero, List.getElem?_cons_succ] at f0 f1 f2
  refine bodyPost_ret (v := .tuple #[.agg #[.int .i64 0, .int .i64 0, .int .i64 0], .int .i64 15]) (by simp only [results, Try.results9]; simp [go_sem, f0, f1, f2]) rfl ⟨rfl, hL.1.touch ((((Touch.refl (fun q => q = w.heap.size + 1) w2).setCell (.inr rfl) _).setCell (.inr rfl) _).setCell (.inr rfl) _) (by omega) (by omega), ((((hT.weaken (by simp)).trans hL.2 (fun _ _ h => h)).setCell (.inl (by simp)) _).setCell (.inl (by simp)) _).setCell (.inl (by simp)) _⟩

theorem do_keep_nil (w : World) (what : Nat) (a b c : Int) (hm : what % 4 = 0) (h256 : what < 256) :
    Calls Try.prog 9 #[.pointer none, .agg #[.int .u8 what, .int .i64 a, .int .i64 b, .int .i64 c]] w fun e w' => e = .returned (.tuple #[.agg #[.int .i64 0, .int .i64 0, .int .i64 0], .int .i64 12]) ∧ Touch (fun _ => False) w w' := by
  obtain ⟨w1, hw1⟩ : ∃ w1, w1 = (w.alloc (.cells #[.int .u8 what, .int .i64 a, .int .i64 b, .int .i64 c] 37)).alloc (.cells #[.int .i64 0, .int .i64 0, .int .i64 0] 33) := ⟨_, rfl⟩
  have hT : Touch (fun _ => False) w w1 := by rw [hw1]; exact ((Touch.refl _ w).alloc _).alloc _
  have hb : Blk w1 w.heap.size 37 #[.int .u8 what, .int .i64 a, .int .i64 b, .int .i64 c] := by rw [hw1]; exact (Blk.new _ _ _).alloc _
  have hq : Blk w1 (w.heap.size + 1) 33 #[.int .i64 0, .int .i64 0, .int .i64 0] := by
    have := Blk.new (w.alloc (.cells #[.int .u8 what, .int .i64 a, .int .i64 b, .int .i64 c] 37)) 33 #[.int .i64 0, .int .i64 0, .int .i64 0]
    rw [World.size_alloc] at this
    rw [hw1]; exact this
  have c0 := hb.cell 0
  have c1 := hb.cell 1
  have c2 := hb.cell 2
  have c3 := hb.cell 3
  have hmi : (what : Int) % 4 = 0 := by omega
  simp at c0 c1 c2 c3
  have HW := Lib.hid hw1
  clear hm
  go_enter Try.func9, Try.ntmps9
  go_wp2_with fail
  rw [← HW.out]
  clear hw1 HW
  refine (keep_nil _).mono ?_
  rintro e w2 ⟨rfl, hL⟩
  have hq2 := hq.touch hL (by simp)
  have g0 := hq2.cell 0
  have g1 := hq2.cell 1
  have g2 := hq2.cell 2
  have gz := hq2.frozen
  simp at g0 g1 g2
  clear hmi
  go_wp2
  have hq3 := ((hq2.set_ 0 (.int .i64 0)).set_ 1 (.int .i64 0)).set_ 2 (.int .i64 0)
  have f0 := hq3.cell 0
  have f1 := hq3.cell 1
  have f2 := hq3.cell 2
  simp only [List.setIfInBounds_toArray, List.set_cons_zero, List.set_cons_succ, List.getElem?_toArray, List.getElem?_cons_zero, List.getElem?_cons_succ] at f0 f1 f2
  refine bodyPost_ret (v := .tuple #[.agg #[.int .i64 0, .int .i64 0, .int .i64 0], .int .i64 12]) (by simp only [results, Try.results9]; simp [go_sem, f0, f1, f2]) rfl ⟨rfl, (((hT.trans hL (fun _ _ h => h)).setCell (.inl (by simp)) _).setCell (.inl (by simp)) _).setCell (.inl (by simp)) _⟩

theorem do_drop_nil (w : World) (what : Nat) (a b c : Int) (hm : what % 4 = 1) (h256 : what < 256) :
    Calls Try.prog 9 #[.pointer none, .agg #[.int .u8 what, .int .i64 a, .int .i64 b, .int .i64 c]] w fun e w' => e = .returned (.tuple #[.agg #[.int .i64 0, .int .i64 0, .int .i64 0], .int .i64 15]) ∧ Touch (fun _ => False) w w' := by
  obtain ⟨w1, hw1⟩ : ∃ w1, w1 = (w.alloc (.cells #[.int .u8 what, .int .i64 a, .int .i64 b, .int .i64 c] 37)).alloc (.cells #[.int .i64 0, .int .i64 0, .int .i64 0] 33) := ⟨_, rfl⟩
  have hT : Touch (fun _ => False) w w1 := by rw [hw1]; exact ((Touch.refl _ w).alloc _).alloc _
  have hb : Blk w1 w.heap.size 37 #[.int .u8 what, .int .i64 a, .int .i64 b, .int .i64 c] := by rw [hw1]; exact (Blk.new _ _ _).alloc _
  have hq : Blk w1 (w.heap.size + 1) 33 #[.int .i64 0, .int .i64 0, .int .i64 0] := by
    have := Blk.new (w.alloc (.cells #[.int .u8 what, .int .i64 a, .int .i64 b, .int .i64 c] 37)) 33 #[.int .i64 0, .int .i64 0, .int .i64 0]
    rw [World.size_alloc] at this
    rw [hw1]; exact this
  have c0 := hb.cell 0
  have c1 := hb.cell 1
  have c2 := hb.cell 2
  have c3 := hb.cell 3
  have hmi : (what : Int) % 4 = 1 := by omega
  simp at c0 c1 c2 c3
  have HW := Lib.hid hw1
  clear hm
  go_enter Try.func9, Try.ntmps9
  go_wp2_with fail
  rw [← HW.out]
  clear hw1 HW
  refine (drop_nil _).mono ?_
  rintro e w2 ⟨rfl, hL⟩
  have hq2 := hq.touch hL (by simp)
  have g0 := hq2.cell 0
  have g1 := hq2.cell 1
  have g2 := hq2.cell 2
  have gz := hq2.frozen
  simp at g0 g1 g2
  clear hmi
  go_wp2
  have hq3 := ((hq2.set_ 0 (.int .i64 0)).set_ 1 (.int .i64 0)).set_ 2 (.int .i64 0)
  have f0 := hq3.cell 0
  have f1 := hq3.cell 1
  have f2 := hq3.cell 2
  simp only [List.setIfInBounds_toArray, List.set_cons_zero, List.set_cons_succ, List.getElem?_toArray, List.getElem?_cons_zero, List.getElem?_cons_succ] at f0 f1 f2
  refine bodyPost_ret (v := .tuple #[.agg #[.int .i64 0, .int .i64 0, .int .i64 0], .int .i64 15]) (by simp only [results, Try.results9]; simp [go_sem, f0, f1, f2]) rfl ⟨rfl, (((hT.trans hL (fun _ _ h => h)).setCell (.inl (by simp)) _).setCell (.inl (by simp)) _).setCell (.inl (by simp)) _⟩

theorem do_push_nil (w : World) (what : Nat) (a b c : Int) (hm : what % 4 = 2) (h256 : what < 256) :
    Calls Try.prog 9 #[.pointer none, .agg #[.int .u8 what, .int .i64 a, .int .i64 b, .int .i64 c]] w fun e w' => e = .returned (.tuple #[.agg #[.int .i64 0, .int .i64 0, .int .i64 0], .int .i64 12]) ∧ Touch (fun _ => False) w w' := by
  obtain ⟨w1, hw1⟩ : ∃ w1, w1 = (w.alloc (.cells #[.int .u8 what, .int .i64 a, .int .i64 b, .int .i64 c] 37)).alloc (.cells #[.int .i64 0, .int .i64 0, .int .i64 0] 33) := ⟨_, rfl⟩
  have hT : Touch (fun _ => False) w w1 := by rw [hw1]; exact ((Touch.refl _ w).alloc _).alloc _
  have hb : Blk w1 w.heap.size 37 #[.int .u8 what, .int .i64 a, .int .i64 b, .int .i64 c] := by rw [hw1]; exact (Blk.new _ _ _).alloc _
  have hq : Blk w1 (w.heap.size + 1) 33 #[.int .i64 0, .int .i64 0, .int .i64 0] := by
    have := Blk.new (w.alloc (.cells #[.int .u8 what, .int .i64 a, .int .i64 b, .int .i64 c] 37)) 33 #[.int .i64 0, .int .i64 0, .int .i64 0]
    rw [World.size_alloc] at this
    rw [hw1]; exact this
  have c0 := hb.cell 0
  have c1 := hb.cell 1
  have c2 := hb.cell 2
  have c3 := hb.cell 3
  have hmi : (what : Int) % 4 = 2 := by omega
  simp at c0 c1 c2 c3
  have HW := Lib.hid hw1
  clear hm
  go_enter Try.func9, Try.ntmps9
  go_wp2_with fail
  rw [← HW.out]
  clear hw1 HW
  refine (push_nil _ _ _ _).mono ?_
  rintro e w2 ⟨rfl, hL⟩
  have hq2 := hq.touch hL (by simp)
  have g0 := hq2.cell 0
  have g1 := hq2.cell 1
  have g2 := hq2.cell 2
  have gz := hq2.frozen
  simp at g0 g1 g2
  clear hmi
  go_wp2
  have hq3 := ((hq2.set_ 0 (.int .i64 0)).set_ 1 (.int .i64 0)).set_ 2 (.int .i64 0)
  have f0 := hq3.cell 0
  have f1 := hq3.cell 1
  have f2 := hq3.cell 2
  simp only [List.setIfInBounds_toArray, List.set_cons_zero, List.set_cons_succ, List.getElem?_toArray, List.getElem?_cons_zero, List.getElem?_cons_succ] at f0 f1 f2
  refine bodyPost_ret (v := .tuple #[.agg #[.int .i64 0, .int .i64 0, .int .i64 0], .int .i64 12]) (by simp only [results, Try.results9]; simp [go_sem, f0, f1, f2]) rfl ⟨rfl, (((hT.trans hL (fun _ _ h => h)).setCell (.inl (by simp)) _).setCell (.inl (by simp)) _).setCell (.inl (by simp)) _⟩

theorem do_pop_nil (w : World) (what : Nat) (a b c : Int) (hm : what % 4 = 3) (h256 : what < 256) :
    Calls Try.prog 9 #[.pointer none, .agg #[.int .u8 what, .int .i64 a, .int .i64 b, .int .i64 c]] w fun e w' => e = .returned (.tuple #[.agg #[.int .i64 0, .int .i64 0, .int .i64 0], .int .i64 15]) ∧ Touch (fun _ => False) w w' := by
  obtain ⟨w1, hw1⟩ : ∃ w1, w1 = (w.alloc (.cells #[.int .u8 what, .int .i64 a, .int .i64 b, .int .i64 c] 37)).alloc (.cells #[.int .i64 0, .int .i64 0, .int .i64 0] 33) := ⟨_, rfl⟩
  have hT : Touch (fun _ => False) w w1 := by rw [hw1]; exact ((Touch.refl _ w).alloc _).alloc _
  have hb : Blk w1 w.heap.size 37 #[.int .u8 what, .int .i64 a, .int .i64 b, .int .i64 c] := by rw [hw1]; exact (Blk.new _ _ _).alloc _
  have hq : Blk w1 (w.heap.size + 1) 33 #[.int .i64 0, .int .i64 0, .int .i64 0] := by
    have := Blk.new (w.alloc (.cells #[.int .u8 what, .int .i64 a, .int .i64 b, .int .i64 c] 37)) 33 #[.int .i64 0, .int .i64 0, .int .i64 0]
    rw [World.size_alloc] at this
    rw [hw1]; exact this
  have c0 := hb.cell 0
  have c1 := hb.cell 1
  have c2 := hb.cell 2
  have c3 := hb.cell 3
  have hmi : (what : Int) % 4 = 3 := by omega
  simp at c0 c1 c2 c3
  have HW := Lib.hid hw1
  clear hm
  go_enter Try.func9, Try.ntmps9
  go_wp2_with fail
  rw [← HW.out]
  clear hw1 HW
  refine (pop_nil _).mono ?_
  rintro e w2 ⟨rfl, hL⟩
  have hq2 := hq.touch hL (by simp)
  have g0 := hq2.cell 0
  have g1 := hq2.cell 1
  have g2 := hq2.cell 2
  have gz := hq2.frozen
  simp at g0 g1 g2
  clear hmi
  go_wp2
  have hq3 := ((hq2.set_ 0 (.int .i64 0)).set_ 1 (.int .i64 0)).set_ 2 (.int .i64 0)
  have f0 := hq3.cell 0
  have f1 := hq3.cell 1
  have f2 := hq3.cell 2
  simp only [List.setIfInBounds_toArray, List.set_cons_zero, List.set_cons_succ, List.getElem?_toArray, List.getElem?_cons_zero, List.getElem?_cons_succ] at f0 f1 f2
  refine bodyPost_ret (v := .tuple #[.agg #[.int .i64 0, .int .i64 0, .int .i64 0], .int .i64 15]) (by simp only [results, Try.results9]; simp [go_sem, f0, f1, f2]) rfl ⟨rfl, (((hT.trans hL (fun _ _ h => h)).setCell (.inl (by simp)) _).setCell (.inl (by simp)) _).setCell (.inl (by simp)) _⟩
end Go.Proofs.Ytmhdjedegkekeaa
