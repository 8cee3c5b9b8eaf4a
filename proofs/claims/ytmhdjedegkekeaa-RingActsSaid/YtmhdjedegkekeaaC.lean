/- Keep, Drop, Push, Pop over the ring as a list. -/
import Derived.Test.YtmhdjedegkekeaaB
namespace Go.Proofs.Ytmhdjedegkekeaa
open Go.RowKit

theorem enter19 (cap : Array Value) (w : World) : (callFunc 19 cap).run Try.prog w = .ok (.enter 19 cap) w := by kernel_rfl
theorem enter20 (cap : Array Value) (w : World) : (callFunc 20 cap).run Try.prog w = .ok (.enter 20 cap) w := by kernel_rfl
theorem enter21 (cap : Array Value) (w : World) : (callFunc 21 cap).run Try.prog w = .ok (.enter 21 cap) w := by kernel_rfl

/-- What the ring's methods leave. -/
def Left1 (r p n k : Nat) (L : List Dn) (w : World) (w' : World) : Prop := Ring w' r p n k L ∧ Touch (Own2 r p) w w'

theorem keep_yes (w : World) (r p n k : Nat) (L : List Dn) (h : Ring w r p n k L) (hlt : L.length + k < n) :
    Calls Try.prog 13 #[.pointer (some ⟨r, 0, none⟩)] w fun e w' => e = .returned (.int .i64 0) ∧ Left1 r p n (k + 1) L w w' := by
  obtain ⟨fi, cs, hr, hp, hcs, hn, hfi, hfit, hh⟩ := h
  have hrp : r ≠ p := hr.ne_ hp (by decide)
  refine (f13_yes w r p n fi L.length k hr hn hlt).mono ?_
  rintro e w' ⟨rfl, rfl⟩
  refine ⟨rfl, ⟨fi, cs, ?_, ?_, hcs, hn, hfi, by omega, hh⟩, ?_⟩
  · have := ((hr.alloc (.cells #[.pointer (some ⟨r, 0, none⟩)] 23)).drew).set_ 3 (.int .i64 (k + 1))
    simpa using this
  · exact ((hp.alloc _).drew).far (by simpa using hrp.symm) _
  · exact (((Touch.refl _ w).alloc _).drew).setCell (.inr (.inl rfl)) _

theorem keep_no (w : World) (r p n k : Nat) (L : List Dn) (h : Ring w r p n k L) (hge : ¬ L.length + k < n) :
    Calls Try.prog 13 #[.pointer (some ⟨r, 0, none⟩)] w fun e w' => e = .returned (.int .i64 12) ∧ Left1 r p n k L w w' := by
  have hR := h
  obtain ⟨fi, cs, hr, hp, hcs, hn, hfi, hfit, hh⟩ := h
  have hx := Blk.new w 23 #[.pointer (some ⟨r, 0, none⟩)]
  have hr1 := hr.alloc (.cells #[.pointer (some ⟨r, 0, none⟩)] 23)
  have c0 := hx.cell 0
  have c1 := hr1.cell 0
  have c3 := hr1.cell 2
  have c4 := hr1.cell 3
  have hd : decide ((L.length : Int) + k < n) = false := by simp; omega
  simp at c0 c1 c3 c4
  have HH := Lib.hid hh
  clear hh
  go_enter Try.func13, Try.ntmps13
  go_wp2
  refine wp_region_qtail 21 (by kernel_rfl) (by kernel_rfl) ?_
  simp only [List.take_succ_cons, List.take_zero, List.drop_succ_cons, List.drop_zero]
  repeat (first | go_big_quiet_skip | (go_big_quiet_want; go_big_quiet_op; go_big_quiet_on))
  refine wpQuiet_nil ?_
  go_wp2_with fail
  refine (f17_no _ _ _ _).mono ?_
  rintro e w' ⟨rfl, rfl⟩
  go_wp2
  go_ret
  exact ⟨rfl, hR.touch (((Touch.refl (fun _ => False) w).alloc _).drew) (by simp) (by simp), ((Touch.refl _ w).alloc _).drew⟩

theorem keep_nil (w : World) :
    Calls Try.prog 13 #[.pointer none] w fun e w' => e = .returned (.int .i64 12) ∧ Touch (fun _ => False) w w' := by
  have hx := Blk.new w 23 #[.pointer none]
  have c0 := hx.cell 0
  simp at c0
  go_enter Try.func13, Try.ntmps13
  go_wp2
  refine wp_region_qtail 21 (by kernel_rfl) (by kernel_rfl) ?_
  simp only [List.take_succ_cons, List.take_zero, List.drop_succ_cons, List.drop_zero]
  repeat (first | go_big_quiet_skip | (go_big_quiet_want; go_big_quiet_op; go_big_quiet_on))
  refine wpQuiet_nil ?_
  go_wp2_with fail
  refine (f17_no _ _ _ _).mono ?_
  rintro e w' ⟨rfl, rfl⟩
  go_wp2
  go_ret
  exact ⟨rfl, ((Touch.refl _ w).alloc _).drew⟩

theorem drop_yes (w : World) (r p n k : Nat) (L : List Dn) (h : Ring w r p n k L) (hk : 0 < k) :
    Calls Try.prog 15 #[.pointer (some ⟨r, 0, none⟩)] w fun e w' => e = .returned (.int .i64 0) ∧ Left1 r p n (k - 1) L w w' := by
  have hR : Ring ((w.alloc (.cells #[.pointer (some ⟨r, 0, none⟩)] 23)).drew) r p n k L := h.touch (((Touch.refl (fun _ => False) w).alloc _).drew) (by simp) (by simp)
  obtain ⟨fi, cs, hr, hp, hcs, hn, hfi, hfit, hh⟩ := h
  have hrp : r ≠ p := hr.ne_ hp (by decide)
  have hx := Blk.new w 23 #[.pointer (some ⟨r, 0, none⟩)]
  have hr1 := hr.alloc (.cells #[.pointer (some ⟨r, 0, none⟩)] 23)
  have hp1 := hp.alloc (.cells #[.pointer (some ⟨r, 0, none⟩)] 23)
  have c0 := hx.cell 0
  simp at c0
  have HH := Lib.hid hh
  clear hh
  go_enter Try.func15, Try.ntmps15
  go_wp2
  refine wp_region_qtail 5 (by kernel_rfl) (by kernel_rfl) ?_
  simp only [List.take_succ_cons, List.take_zero, List.drop_succ_cons, List.drop_zero]
  repeat (first | go_big_quiet_skip | (go_big_quiet_want; go_big_quiet_op; go_big_quiet_on))
  go_big_quiet_want
  go_big_quiet_op
  refine ⟨_, f12_any _ _ _ _ _ _ hR, ?_⟩
  go_big_quiet_on
  repeat (first | go_big_quiet_skip | (go_big_quiet_want; go_big_quiet_op; go_big_quiet_on))
  refine wpQuiet_nil ?_
  go_wp2_with fail
  refine (f17_yes _ _ _ 20 _ _ (enter20 _) (f20_any _ _ r _ _ _ _ hx.drew hr1.drew (by omega) (by omega))).mono ?_
  rintro e w' ⟨rfl, rfl⟩
  go_wp2
  go_ret
  refine ⟨rfl, ⟨fi, cs, ?_, ?_, hcs, hn, hfi, by omega, HH.out⟩, ?_⟩
  · have := (hr1.set_ 3 (.int .i64 (k - 1))).drew
    rw [show ((k - 1 : Nat) : Int) = (k : Int) - 1 from by omega]
    simpa using this
  · exact (hp1.far (by simpa using hrp.symm) _).drew
  · exact (((Touch.refl _ w).alloc _).setCell (.inr (.inl rfl)) _).drew

theorem drop_no (w : World) (r p n : Nat) (L : List Dn) (h : Ring w r p n 0 L) :
    Calls Try.prog 15 #[.pointer (some ⟨r, 0, none⟩)] w fun e w' => e = .returned (.int .i64 15) ∧ Left1 r p n 0 L w w' := by
  have hT := ((Touch.refl (fun _ => False) w).alloc (.cells #[.pointer (some ⟨r, 0, none⟩)] 23)).drew
  have hR := h.touch hT (by simp) (by simp)
  have hx := Blk.new w 23 #[.pointer (some ⟨r, 0, none⟩)]
  have c0 := hx.cell 0
  simp at c0
  go_enter Try.func15, Try.ntmps15
  go_wp2
  refine wp_region_qtail 5 (by kernel_rfl) (by kernel_rfl) ?_
  simp only [List.take_succ_cons, List.take_zero, List.drop_succ_cons, List.drop_zero]
  repeat (first | go_big_quiet_skip | (go_big_quiet_want; go_big_quiet_op; go_big_quiet_on))
  go_big_quiet_want
  go_big_quiet_op
  refine ⟨_, f12_any _ _ _ _ _ _ hR, ?_⟩
  go_big_quiet_on
  repeat (first | go_big_quiet_skip | (go_big_quiet_want; go_big_quiet_op; go_big_quiet_on))
  refine wpQuiet_nil ?_
  go_wp2_with fail
  refine (f17_no _ _ _ _).mono ?_
  rintro e w' ⟨rfl, rfl⟩
  go_wp2
  go_ret
  exact ⟨rfl, hR, hT.weaken (by simp)⟩

theorem drop_nil (w : World) :
    Calls Try.prog 15 #[.pointer none] w fun e w' => e = .returned (.int .i64 15) ∧ Touch (fun _ => False) w w' := by
  have hx := Blk.new w 23 #[.pointer none]
  have c0 := hx.cell 0
  simp at c0
  go_enter Try.func15, Try.ntmps15
  go_wp2
  refine wp_region_qtail 5 (by kernel_rfl) (by kernel_rfl) ?_
  simp only [List.take_succ_cons, List.take_zero, List.drop_succ_cons, List.drop_zero]
  repeat (first | go_big_quiet_skip | (go_big_quiet_want; go_big_quiet_op; go_big_quiet_on))
  go_big_quiet_want
  go_big_quiet_op
  refine ⟨_, f12_nil _, ?_⟩
  go_big_quiet_on
  repeat (first | go_big_quiet_skip | (go_big_quiet_want; go_big_quiet_op; go_big_quiet_on))
  refine wpQuiet_nil ?_
  go_wp2_with fail
  refine (f17_no _ _ _ _).mono ?_
  rintro e w' ⟨rfl, rfl⟩
  go_wp2
  go_ret
  exact ⟨rfl, ((Touch.refl _ w).alloc _).drew⟩
end Go.Proofs.Ytmhdjedegkekeaa
