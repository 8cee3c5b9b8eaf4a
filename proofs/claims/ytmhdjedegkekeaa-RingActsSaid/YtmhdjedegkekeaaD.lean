/- Push and Pop over the ring as a list. -/
import Derived.Test.YtmhdjedegkekeaaC
namespace Go.Proofs.Ytmhdjedegkekeaa
open Go.RowKit

/-- A completion as a value. -/
def dv (d : Dn) : Value := .agg #[.int .i64 d.1, .int .i64 d.2.1, .int .i64 d.2.2]

theorem push_yes (w : World) (r p n k : Nat) (L : List Dn) (a b c : Int) (h : Ring w r p n k L) (hk : 0 < k) :
    Calls Try.prog 14 #[.pointer (some ⟨r, 0, none⟩), .agg #[.int .i64 a, .int .i64 b, .int .i64 c]] w fun e w' => e = .returned (.int .i64 0) ∧ Left1 r p n (k - 1) (L ++ [(a, b, c)]) w w' := by
  obtain ⟨w1, hw1⟩ : ∃ w1, w1 = (w.alloc (.cells #[.pointer (some ⟨r, 0, none⟩)] 23)).alloc (.cells #[.int .i64 a, .int .i64 b, .int .i64 c] 33) := ⟨_, rfl⟩
  have hT : Touch (fun _ => False) w w1 := by rw [hw1]; exact ((Touch.refl _ w).alloc _).alloc _
  have hR := (h.touch hT (by simp) (by simp)).touch (Touch.refl (fun _ => False) w1).drew (by simp) (by simp)
  have hx : Blk w1 w.heap.size 23 #[.pointer (some ⟨r, 0, none⟩)] := by rw [hw1]; exact (Blk.new _ _ _).alloc _
  have hd : Blk w1 (w.heap.size + 1) 33 #[.int .i64 a, .int .i64 b, .int .i64 c] := by
    have := Blk.new (w.alloc (.cells #[.pointer (some ⟨r, 0, none⟩)] 23)) 33 #[.int .i64 a, .int .i64 b, .int .i64 c]
    rw [World.size_alloc] at this
    rw [hw1]; exact this
  have hlt := h.lt
  obtain ⟨fi, cs, hr, hp, hcs, hn, hfi, hfit, hh⟩ := h
  have hrp : r ≠ p := hr.ne_ hp (by decide)
  have hr1 := hr.touch hT (by simp)
  have hp1 := hp.touch hT (by simp)
  have hpd : ¬ p = w.heap.size + 1 := by omega
  have c0 := hx.cell 0
  have cd0 := hd.cell 0
  have cd1 := hd.cell 1
  have cd2 := hd.cell 2
  simp at c0 cd0 cd1 cd2
  have HH := Lib.hid hh
  have HW := Lib.hid hw1
  clear hh
  go_enter Try.func14, Try.ntmps14
  go_wp2
  rw [← HW.out]
  clear hw1
  have hj : ((fi + L.length) % n) * 3 + 2 < cs.size := by
    have := Nat.mod_lt (fi + L.length) (show 0 < n by omega)
    omega
  clear HW
  refine wp_region_qtail 5 (by kernel_rfl) (by kernel_rfl) ?_
  simp only [List.take_succ_cons, List.take_zero, List.drop_succ_cons, List.drop_zero]
  repeat (first | go_big_quiet_skip | (go_big_quiet_want; go_big_quiet_op; go_big_quiet_on))
  go_big_quiet_want
  go_big_quiet_op
  refine ⟨_, f12_any _ _ _ _ _ _ hR, ?_⟩
  go_big_quiet_on
  repeat (first | go_big_quiet_skip | (go_big_quiet_want; go_big_quiet_op; go_big_quiet_on))
  refine wpQuiet_nil ?_
  go_wp2_with fail
  refine (f17_yes _ _ _ 19 _ _ (enter19 _) (f19_any _ _ r _ p n _ fi L.length k a b c cs hx.drew hd.drew hr1.drew hp1.drew hcs hn hfi hk hfit rfl)).mono ?_
  rintro e w' ⟨rfl, rfl⟩
  go_wp2
  go_ret
  have hnx := HH.out
  refine ⟨rfl, ⟨fi, _, ?_, ((((((hp1.set_ _ _).set_ _ _).set_ _ _).far (by simpa using hrp.symm) _).far (by simpa using hrp.symm) _).drew).drew, by simpa using hcs, hn, hfi, by simp; omega, ?_⟩, ?_⟩
  · have := (((((((hr1.far (p := ⟨p, ((fi + L.length) % n) * 3, none⟩) (by simpa using hrp) (.int .i64 a)).far (p := ⟨p, ((fi + L.length) % n) * 3 + 1, none⟩) (by simpa using hrp) (.int .i64 b)).far (p := ⟨p, ((fi + L.length) % n) * 3 + 2, none⟩) (by simpa using hrp) (.int .i64 c)).set_ 3 (.int .i64 ((k : Int) - 1))).set_ 2 (.int .i64 ((L.length : Int) + 1))).drew).drew)
    rw [show ((k - 1 : Nat) : Int) = (k : Int) - 1 from by omega, show (((L ++ [(a, b, c)]).length : Nat) : Int) = (L.length : Int) + 1 from by simp]
    exact this
  · intro i d hi
    by_cases hlt : i < L.length
    · rw [List.getElem?_append_left hlt] at hi
      exact (hnx i d hi).set_other (mod_ne n fi i L.length hfi hlt (by omega)) _ _ _
    · rw [List.getElem?_append_right (by omega)] at hi
      obtain rfl : i = L.length := by
        rcases Nat.lt_or_ge 0 (i - L.length) with h0 | h0
        · rw [List.getElem?_eq_none (by simp; omega)] at hi; cases hi
        · omega
      simp at hi
      subst hi
      exact Has.set_same cs _ (a, b, c) hj
  · exact (hT.weaken (by simp)).trans ((((((((Touch.refl (Own2 r p) w1).setCell (.inr (.inr rfl)) _).setCell (.inr (.inr rfl)) _).setCell (.inr (.inr rfl)) _).setCell (.inr (.inl rfl)) _).setCell (.inr (.inl rfl)) _).drew).drew) (fun _ _ h => h)

theorem push_no (w : World) (r p n : Nat) (L : List Dn) (v0 v1 v2 : Value) (h : Ring w r p n 0 L) :
    Calls Try.prog 14 #[.pointer (some ⟨r, 0, none⟩), .agg #[v0, v1, v2]] w fun e w' => e = .returned (.int .i64 12) ∧ Left1 r p n 0 L w w' := by
  obtain ⟨w1, hw1⟩ : ∃ w1, w1 = (w.alloc (.cells #[.pointer (some ⟨r, 0, none⟩)] 23)).alloc (.cells #[v0, v1, v2] 33) := ⟨_, rfl⟩
  have hT : Touch (fun _ => False) w w1 := by rw [hw1]; exact ((Touch.refl _ w).alloc _).alloc _
  have hR := (h.touch hT (by simp) (by simp)).touch (Touch.refl (fun _ => False) w1).drew (by simp) (by simp)
  have hx : Blk w1 w.heap.size 23 #[.pointer (some ⟨r, 0, none⟩)] := by rw [hw1]; exact (Blk.new _ _ _).alloc _
  have c0 := hx.cell 0
  simp at c0
  have HW := Lib.hid hw1
  go_enter Try.func14, Try.ntmps14
  go_wp2
  rw [← HW.out]
  clear hw1
  clear HW
  refine wp_region_qtail 5 (by kernel_rfl) (by kernel_rfl) ?_
  simp only [List.take_succ_cons, List.take_zero, List.drop_succ_cons, List.drop_zero]
  repeat (first | go_big_quiet_skip | (go_big_quiet_want; go_big_quiet_op; go_big_quiet_on))
  go_big_quiet_want
  go_big_quiet_op
  refine ⟨_, f12_any _ _ _ _ _ _ hR, ?_⟩
  go_big_quiet_on
  repeat (first | go_big_quiet_skip | (go_big_quiet_want; go_big_quiet_op; go_big_quiet_on))
  refine wpQuiet_nil ?_
  go_wp2_with fail
  refine (f17_no _ _ _ _).mono ?_
  rintro e w' ⟨rfl, rfl⟩
  go_wp2
  go_ret
  exact ⟨rfl, hR, (hT.weaken (by simp)).drew⟩

theorem push_nil (w : World) (v0 v1 v2 : Value) :
    Calls Try.prog 14 #[.pointer none, .agg #[v0, v1, v2]] w fun e w' => e = .returned (.int .i64 12) ∧ Touch (fun _ => False) w w' := by
  obtain ⟨w1, hw1⟩ : ∃ w1, w1 = (w.alloc (.cells #[.pointer none] 23)).alloc (.cells #[v0, v1, v2] 33) := ⟨_, rfl⟩
  have hT : Touch (fun _ => False) w w1 := by rw [hw1]; exact ((Touch.refl _ w).alloc _).alloc _
  have hx : Blk w1 w.heap.size 23 #[.pointer none] := by rw [hw1]; exact (Blk.new _ _ _).alloc _
  have c0 := hx.cell 0
  simp at c0
  have HW := Lib.hid hw1
  go_enter Try.func14, Try.ntmps14
  go_wp2
  rw [← HW.out]
  clear hw1
  clear HW
  refine wp_region_qtail 5 (by kernel_rfl) (by kernel_rfl) ?_
  simp only [List.take_succ_cons, List.take_zero, List.drop_succ_cons, List.drop_zero]
  repeat (first | go_big_quiet_skip | (go_big_quiet_want; go_big_quiet_op; go_big_quiet_on))
  go_big_quiet_want
  go_big_quiet_op
  refine ⟨_, f12_nil _, ?_⟩
  go_big_quiet_on
  repeat (first | go_big_quiet_skip | (go_big_quiet_want; go_big_quiet_op; go_big_quiet_on))
  refine wpQuiet_nil ?_
  go_wp2_with fail
  refine (f17_no _ _ _ _).mono ?_
  rintro e w' ⟨rfl, rfl⟩
  go_wp2
  go_ret
  exact ⟨rfl, hT.drew⟩
end Go.Proofs.Ytmhdjedegkekeaa
