/- Pop over the ring as a list. -/
import Derived.Test.YtmhdjedegkekeaaD
namespace Go.Proofs.Ytmhdjedegkekeaa
open Go.RowKit

theorem pop_yes (w : World) (r p n k : Nat) (L : List Dn) (a b c : Int) (h : Ring w r p n k ((a, b, c) :: L)) :
    Calls Try.prog 16 #[.pointer (some ⟨r, 0, none⟩)] w fun e w' => e = .returned (.tuple #[.agg #[.int .i64 a, .int .i64 b, .int .i64 c], .int .i64 0]) ∧ Left1 r p n k L w w' := by
  obtain ⟨w1, hw1⟩ : ∃ w1, w1 = ((w.alloc (.cells #[.pointer (some ⟨r, 0, none⟩)] 23)).alloc (.cells #[.int .i64 0, .int .i64 0, .int .i64 0] 33)).alloc (.cells #[.int .i64 0, .int .i64 0, .int .i64 0] 33) := ⟨_, rfl⟩
  have hT : Touch (fun _ => False) w w1 := by rw [hw1]; exact (((Touch.refl _ w).alloc _).alloc _).alloc _
  have hR := (h.touch hT (by simp) (by simp)).touch (Touch.refl (fun _ => False) w1).drew (by simp) (by simp)
  have hx : Blk w1 w.heap.size 23 #[.pointer (some ⟨r, 0, none⟩)] := by rw [hw1]; exact ((Blk.new _ _ _).alloc _).alloc _
  have hq : Blk w1 (w.heap.size + 1) 33 #[.int .i64 0, .int .i64 0, .int .i64 0] := by
    have := (Blk.new (w.alloc (.cells #[.pointer (some ⟨r, 0, none⟩)] 23)) 33 #[.int .i64 0, .int .i64 0, .int .i64 0]).alloc (.cells #[.int .i64 0, .int .i64 0, .int .i64 0] 33)
    rw [World.size_alloc] at this
    rw [hw1]; exact this
  have hd : Blk w1 (w.heap.size + 1 + 1) 33 #[.int .i64 0, .int .i64 0, .int .i64 0] := by
    have := Blk.new ((w.alloc (.cells #[.pointer (some ⟨r, 0, none⟩)] 23)).alloc (.cells #[.int .i64 0, .int .i64 0, .int .i64 0] 33)) 33 #[.int .i64 0, .int .i64 0, .int .i64 0]
    rw [World.size_alloc, World.size_alloc] at this
    rw [hw1]; exact this
  have hsz : w1.heap.size = w.heap.size + 3 := by rw [hw1]; simp
  have hlt := h.lt
  obtain ⟨fi, cs, hr, hp, hcs, hn, hfi, hfit, hh⟩ := h
  have hrp : r ≠ p := hr.ne_ hp (by decide)
  have hr1 := hr.touch hT (by simp)
  have hp1 := hp.touch hT (by simp)
  have c0 := hx.cell 0
  have z0 := hq.frozen
  simp at c0
  simp only [List.length_cons] at hfit
  have HH := Lib.hid hh
  have HW := Lib.hid hw1
  have HZ := Lib.hid hsz
  clear hh
  go_enter Try.func16, Try.ntmps16
  go_wp2
  rw [← HW.out]
  clear hw1
  clear HW hsz
  refine wp_region_qtail 5 (by kernel_rfl) (by kernel_rfl) ?_
  simp only [List.take_succ_cons, List.take_zero, List.drop_succ_cons, List.drop_zero]
  repeat (first | go_big_quiet_skip | (go_big_quiet_want; go_big_quiet_op; go_big_quiet_on))
  go_big_quiet_want
  go_big_quiet_op
  refine ⟨_, f11_any _ _ _ _ _ _ hR, ?_⟩
  go_big_quiet_on
  have hpos : (0 : Int) < (((a, b, c) :: L).length : Nat) := by simp
  repeat (first | go_big_quiet_skip | (go_big_quiet_want; go_big_quiet_op; go_big_quiet_on))
  refine wpQuiet_nil ?_
  go_wp2_with fail
  have H0 := HH.out 0 (a, b, c) rfl
  rw [show (fi + 0) % n = fi from Nat.mod_eq_of_lt hfi] at H0
  obtain ⟨ha, hb, hc⟩ := H0
  refine (f17_yes _ _ _ 21 _ _ (enter21 _) (f21_any _ _ r _ p n fi _ k a b c _ _ _ cs hx.drew hd.drew hr1.drew hp1.drew ha hb hc hn hfi (by simp; omega) (by simp; omega))).mono ?_
  rintro e w2 ⟨rfl, hr2, hd2, hT1⟩
  have hT3 : Touch (fun q => q = r ∨ q = w.heap.size + 1 + 1) w1 w2 := (Touch.refl _ w1).drew.trans hT1 (fun _ _ h => h)
  have hq2 : Blk w2 (w.heap.size + 1) 33 #[.int .i64 0, .int .i64 0, .int .i64 0] := hq.touch hT3 (by omega)
  rw [show (((a, b, c) :: L).length : Int) - 1 = (L.length : Nat) from by simp] at hr2
  have hp2 : Blk w2 p 33 cs := hp1.touch hT3 (by omega)
  have hT2 : Touch (Own2 r p) w w2 := (hT.weaken (by simp)).trans hT3 (fun q hq h => by rcases h with rfl | rfl; exact .inl rfl; omega)
  have hR2 : Ring w2 r p n k L := ⟨_, cs, hr2, hp2, hcs, hn, Nat.mod_lt _ (by omega), by omega, fun i d hi => by rw [mod_next]; exact HH.out (i + 1) d (by simpa using hi)⟩
  clear hr2 hp2 HH ha hb hc
  have e0 := hd2.cell 0
  have e1 := hd2.cell 1
  have e2 := hd2.cell 2
  have g0 := hq2.cell 0
  have g1 := hq2.cell 1
  have g2 := hq2.cell 2
  have gz := hq2.frozen
  simp at e0 e1 e2 g0 g1 g2
  go_wp2
  have hq3 := ((hq2.set_ 0 (.int .i64 a)).set_ 1 (.int .i64 b)).set_ 2 (.int .i64 c)
  have f0 := hq3.cell 0
  have f1 := hq3.cell 1
  have f2 := hq3.cell 2
  simp only [List.setIfInBounds_toArray, List.set_cons_zero, List.set_cons_succ, List.getElem?_toArray, List.getElem?_cons_zero, List.getElem?_cons_succ] at f0 f1 f2
  refine bodyPost_ret (v := .tuple #[.agg #[.int .i64 a, .int .i64 b, .int .i64 c], .int .i64 0]) (by simp only [results, Try.results16]; simp [go_sem, f0, f1, f2]) rfl ⟨rfl, ?_, ?_⟩
  · exact hR2.touch ((((Touch.refl (fun q => q = w.heap.size + 1) w2).setCell (.inr rfl) _).setCell (.inr rfl) _).setCell (.inr rfl) _) (by omega) (by omega)
  · exact ((hT2.setCell (.inl (by simp)) _).setCell (.inl (by simp)) _).setCell (.inl (by simp)) _

theorem pop_no (w : World) (r p n k : Nat) (h : Ring w r p n k []) :
    Calls Try.prog 16 #[.pointer (some ⟨r, 0, none⟩)] w fun e w' => e = .returned (.tuple #[.agg #[.int .i64 0, .int .i64 0, .int .i64 0], .int .i64 15]) ∧ Left1 r p n k [] w w' := by
  obtain ⟨w1, hw1⟩ : ∃ w1, w1 = ((w.alloc (.cells #[.pointer (some ⟨r, 0, none⟩)] 23)).alloc (.cells #[.int .i64 0, .int .i64 0, .int .i64 0] 33)).alloc (.cells #[.int .i64 0, .int .i64 0, .int .i64 0] 33) := ⟨_, rfl⟩
  have hT : Touch (fun _ => False) w w1 := by rw [hw1]; exact (((Touch.refl _ w).alloc _).alloc _).alloc _
  have hR := (h.touch hT (by simp) (by simp)).touch (Touch.refl (fun _ => False) w1).drew (by simp) (by simp)
  have hlt := h.lt
  have hx : Blk w1 w.heap.size 23 #[.pointer (some ⟨r, 0, none⟩)] := by rw [hw1]; exact ((Blk.new _ _ _).alloc _).alloc _
  have hq : Blk w1 (w.heap.size + 1) 33 #[.int .i64 0, .int .i64 0, .int .i64 0] := by
    have := (Blk.new (w.alloc (.cells #[.pointer (some ⟨r, 0, none⟩)] 23)) 33 #[.int .i64 0, .int .i64 0, .int .i64 0]).alloc (.cells #[.int .i64 0, .int .i64 0, .int .i64 0] 33)
    rw [World.size_alloc] at this
    rw [hw1]; exact this
  have hd : Blk w1 (w.heap.size + 1 + 1) 33 #[.int .i64 0, .int .i64 0, .int .i64 0] := by
    have := Blk.new ((w.alloc (.cells #[.pointer (some ⟨r, 0, none⟩)] 23)).alloc (.cells #[.int .i64 0, .int .i64 0, .int .i64 0] 33)) 33 #[.int .i64 0, .int .i64 0, .int .i64 0]
    rw [World.size_alloc, World.size_alloc] at this
    rw [hw1]; exact this
  have c0 := hx.cell 0
  have e0 := hd.cell 0
  have e1 := hd.cell 1
  have e2 := hd.cell 2
  have g0 := hq.cell 0
  have g1 := hq.cell 1
  have g2 := hq.cell 2
  have gz := hq.frozen
  simp at c0 e0 e1 e2 g0 g1 g2
  have HW := Lib.hid hw1
  go_enter Try.func16, Try.ntmps16
  go_wp2
  rw [← HW.out]
  clear hw1
  clear HW
  refine wp_region_qtail 5 (by kernel_rfl) (by kernel_rfl) ?_
  simp only [List.take_succ_cons, List.take_zero, List.drop_succ_cons, List.drop_zero]
  repeat (first | go_big_quiet_skip | (go_big_quiet_want; go_big_quiet_op; go_big_quiet_on))
  go_big_quiet_want
  go_big_quiet_op
  refine ⟨_, f11_any _ _ _ _ _ _ hR, ?_⟩
  go_big_quiet_on
  repeat (first | go_big_quiet_skip | (go_big_quiet_want; go_big_quiet_op; go_big_quiet_on))
  refine wpQuiet_nil ?_
  go_wp2_with fail
  refine (f17_no _ _ _ _).mono ?_
  rintro e w2 ⟨rfl, rfl⟩
  go_wp2
  have hq3 := ((hq.set_ 0 (.int .i64 0)).set_ 1 (.int .i64 0)).set_ 2 (.int .i64 0)
  have f0 := hq3.cell 0
  have f1 := hq3.cell 1
  have f2 := hq3.cell 2
  simp only [List.setIfInBounds_toArray, List.set_cons_zero, List.set_cons_succ, List.getElem?_toArray, List.getElem?_cons_zero, List.getElem?_cons_succ] at f0 f1 f2
  refine bodyPost_ret (v := .tuple #[.agg #[.int .i64 0, .int .i64 0, .int .i64 0], .int .i64 15]) (by simp only [results, Try.results16]; simp [go_sem, f0, f1, f2]) rfl ⟨rfl, hR.touch ((((Touch.refl (fun q => q = w.heap.size + 1) w1.drew).setCell (.inr rfl) _).setCell (.inr rfl) _).setCell (.inr rfl) _) (by omega) (by omega), (((((hT.weaken (by simp)).drew).setCell (.inl (by simp)) _).setCell (.inl (by simp)) _).setCell (.inl (by simp)) _)⟩

theorem pop_nil (w : World) :
    Calls Try.prog 16 #[.pointer none] w fun e w' => e = .returned (.tuple #[.agg #[.int .i64 0, .int .i64 0, .int .i64 0], .int .i64 15]) ∧ Touch (fun _ => False) w w' := by
  obtain ⟨w1, hw1⟩ : ∃ w1, w1 = ((w.alloc (.cells #[.pointer none] 23)).alloc (.cells #[.int .i64 0, .int .i64 0, .int .i64 0] 33)).alloc (.cells #[.int .i64 0, .int .i64 0, .int .i64 0] 33) := ⟨_, rfl⟩
  have hT : Touch (fun _ => False) w w1 := by rw [hw1]; exact (((Touch.refl _ w).alloc _).alloc _).alloc _
  have hx : Blk w1 w.heap.size 23 #[.pointer none] := by rw [hw1]; exact ((Blk.new _ _ _).alloc _).alloc _
  have hq : Blk w1 (w.heap.size + 1) 33 #[.int .i64 0, .int .i64 0, .int .i64 0] := by
    have := (Blk.new (w.alloc (.cells #[.pointer none] 23)) 33 #[.int .i64 0, .int .i64 0, .int .i64 0]).alloc (.cells #[.int .i64 0, .int .i64 0, .int .i64 0] 33)
    rw [World.size_alloc] at this
    rw [hw1]; exact this
  have hd : Blk w1 (w.heap.size + 1 + 1) 33 #[.int .i64 0, .int .i64 0, .int .i64 0] := by
    have := Blk.new ((w.alloc (.cells #[.pointer none] 23)).alloc (.cells #[.int .i64 0, .int .i64 0, .int .i64 0] 33)) 33 #[.int .i64 0, .int .i64 0, .int .i64 0]
    rw [World.size_alloc, World.size_alloc] at this
    rw [hw1]; exact this
  have c0 := hx.cell 0
  have e0 := hd.cell 0
  have e1 := hd.cell 1
  have e2 := hd.cell 2
  have g0 := hq.cell 0
  have g1 := hq.cell 1
  have g2 := hq.cell 2
  have gz := hq.frozen
  simp at c0 e0 e1 e2 g0 g1 g2
  have HW := Lib.hid hw1
  go_enter Try.func16, Try.ntmps16
  go_wp2
  rw [← HW.out]
  clear hw1
  clear HW
  refine wp_region_qtail 5 (by kernel_rfl) (by kernel_rfl) ?_
  simp only [List.take_succ_cons, List.take_zero, List.drop_succ_cons, List.drop_zero]
  repeat (first | go_big_quiet_skip | (go_big_quiet_want; go_big_quiet_op; go_big_quiet_on))
  go_big_quiet_want
  go_big_quiet_op
  refine ⟨_, f11_nil _, ?_⟩
  go_big_quiet_on
  repeat (first | go_big_quiet_skip | (go_big_quiet_want; go_big_quiet_op; go_big_quiet_on))
  refine wpQuiet_nil ?_
  go_wp2_with fail
  refine (f17_no _ _ _ _).mono ?_
  rintro e w2 ⟨rfl, rfl⟩
  go_wp2
  have hq3 := ((hq.set_ 0 (.int .i64 0)).set_ 1 (.int .i64 0)).set_ 2 (.int .i64 0)
  have f0 := hq3.cell 0
  have f1 := hq3.cell 1
  have f2 := hq3.cell 2
  simp only [List.setIfInBounds_toArray, List.set_cons_zero, List.set_cons_succ, List.getElem?_toArray, List.getElem?_cons_zero, List.getElem?_cons_succ] at f0 f1 f2
  refine bodyPost_ret (v := .tuple #[.agg #[.int .i64 0, .int .i64 0, .int .i64 0], .int .i64 15]) (by simp only [results, Try.results16]; simp [go_sem, f0, f1, f2]) rfl ⟨rfl, ((((hT.drew).setCell (.inl (by simp)) _).setCell (.inl (by simp)) _).setCell (.inl (by simp)) _)⟩
end Go.Proofs.Ytmhdjedegkekeaa
