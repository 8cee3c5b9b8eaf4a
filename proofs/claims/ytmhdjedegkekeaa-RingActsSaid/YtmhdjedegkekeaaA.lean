/- The ring's closures and methods, each by a contract. -/
import Derived.Test.YtmhdjedegkekeaaMem
import Derived.Test.YtmhdjedegkekeaaProg
import Derived.Handy
namespace Go.Proofs.Ytmhdjedegkekeaa
open Go.RowKit

/-- Keep$1: one more is kept. -/
theorem f18_any (w : World) (x r : Nat) (pl : Value) (fi ma k : Int) (hx : Blk w x 23 #[.pointer (some ⟨r, 0, none⟩)])
    (hr : Blk w r 50 #[pl, .int .i64 fi, .int .i64 ma, .int .i64 k]) (h0 : 0 ≤ k) (h1 : k ≤ 1000) :
    Calls Try.prog 18 #[.pointer (some ⟨x, 0, none⟩)] w fun e w' => e = .returned (.tuple #[]) ∧ w' = w.setCell ⟨r, 3, none⟩ (.int .i64 (k + 1)) := by
  have c1 := hx.cell 0
  have c2 := hr.cell 3
  have z2 := hr.frozen 3
  simp at c1 c2
  go_enter Try.func18, Try.ntmps18
  go_wp2
  go_end0
  exact ⟨rfl, rfl⟩

/-- moves, where it may not be. -/
theorem f17_no (w : World) (r d : Value) (e : Int) :
    Calls Try.prog 17 #[r, .bool false, .int .i64 e, d] w fun en w' => en = .returned (.int .i64 e) ∧ w = w' := by
  go_enter Try.func17, Try.ntmps17
  go_wp2
  go_ret
  exact ⟨rfl, rfl⟩

/-- moves, where it may be: what the closure does. -/
theorem f17_yes (w : World) (r : Value) (e : Int) (f : Nat) (cap : Array Value) (R : World → Prop)
    (he : ∀ w, (callFunc f cap).run Try.prog w = .ok (.enter f cap) w)
    (hf : Calls Try.prog f cap w fun en w' => en = .returned (.tuple #[]) ∧ R w') :
    Calls Try.prog 17 #[r, .bool true, .int .i64 e, .func (.func f) #[] cap] w fun en w' => en = .returned (.int .i64 0) ∧ R w' := by
  have H := Lib.hid hf
  clear hf
  go_enter Try.func17, Try.ntmps17
  go_wp2_with fail
  refine H.out.mono ?_
  rintro en w' ⟨rfl, hR⟩
  go_wp2
  go_ret
  exact ⟨rfl, hR⟩

theorem enter18 (cap : Array Value) (w : World) : (callFunc 18 cap).run Try.prog w = .ok (.enter 18 cap) w := by kernel_rfl

/-- Keep, where there is a free place. -/
theorem f13_yes (w : World) (r p n : Nat) (fi ma k : Nat) (hr : Blk w r 50 #[.slice (some ⟨p, 0, none⟩) n n, .int .i64 fi, .int .i64 ma, .int .i64 k])
    (hn : n ≤ 32) (hlt : ma + k < n) :
    Calls Try.prog 13 #[.pointer (some ⟨r, 0, none⟩)] w fun e w' => e = .returned (.int .i64 0) ∧
      w' = (((w.alloc (.cells #[.pointer (some ⟨r, 0, none⟩)] 23)).drew).setCell ⟨r, 3, none⟩ (.int .i64 (k + 1))) := by
  have hx := Blk.new w 23 #[.pointer (some ⟨r, 0, none⟩)]
  have hr1 := hr.alloc (.cells #[.pointer (some ⟨r, 0, none⟩)] 23)
  have c0 := hx.cell 0
  have c1 := hr1.cell 0
  have c2 := hr1.cell 1
  have c3 := hr1.cell 2
  have c4 := hr1.cell 3
  have hd : ((ma : Int) + k < n) := by omega
  simp at c0 c1 c2 c3 c4
  go_enter Try.func13, Try.ntmps13
  go_wp2
  refine wp_region_qtail 21 (by kernel_rfl) (by kernel_rfl) ?_
  simp only [List.take_succ_cons, List.take_zero, List.drop_succ_cons, List.drop_zero]
  repeat (first | go_big_quiet_skip | (go_big_quiet_want; go_big_quiet_op; go_big_quiet_on))
  refine wpQuiet_nil ?_
  go_wp2_with fail
  refine (f17_yes _ _ _ 18 _ _ (enter18 _) (f18_any _ _ r _ _ _ _ hx.drew hr1.drew (by omega) (by omega))).mono ?_
  rintro e w' ⟨rfl, rfl⟩
  go_wp2
  go_ret
  exact ⟨rfl, rfl⟩

/-- Push$1: the completion goes to the place behind the last one. -/
theorem f19_any (w : World) (x r d p n j : Nat) (fi ma k : Nat) (a b c : Int) (cs : Array Value) (hx : Blk w x 23 #[.pointer (some ⟨r, 0, none⟩)])
    (hd : Blk w d 33 #[.int .i64 a, .int .i64 b, .int .i64 c])
    (hr : Blk w r 50 #[.slice (some ⟨p, 0, none⟩) n n, .int .i64 fi, .int .i64 ma, .int .i64 k]) (hp : Blk w p 33 cs) (hcs : cs.size = 3 * n)
    (hn : n ≤ 32) (hfi : fi < n) (hk : 1 ≤ k) (hlt : ma + k ≤ n) (hj : (fi + ma) % n = j) :
    Calls Try.prog 19 #[.pointer (some ⟨d, 0, none⟩), .pointer (some ⟨x, 0, none⟩)] w fun e w' => e = .returned (.tuple #[]) ∧
      w' = (((((w.setCell ⟨p, j * 3, none⟩ (.int .i64 a)).setCell ⟨p, j * 3 + 1, none⟩ (.int .i64 b)).setCell ⟨p, j * 3 + 2, none⟩ (.int .i64 c)).setCell ⟨r, 3, none⟩ (.int .i64 (k - 1))).setCell ⟨r, 2, none⟩ (.int .i64 (ma + 1))).drew := by
  have hi : j < n := by rw [← hj]; exact Nat.mod_lt _ (by omega)
  have hji : ((fi : Int) + ma) % n = j := by rw [← hj]; simp
  clear hj
  have d0 := hd.cell 0
  have d1 := hd.cell 1
  have d2 := hd.cell 2
  have c0 := hx.cell 0
  have c1 := hr.cell 0
  have c2 := hr.cell 1
  have c3 := hr.cell 2
  have c4 := hr.cell 3
  have z0 := hr.frozen
  have z1 := hp.frozen
  have p0 : ∀ i, i < 3 → w.cell? ⟨p, j * 3 + i, none⟩ = some (cs[j * 3 + i]?.getD undef) := by
    intro i hi3
    rw [hp.cell, Array.getElem?_eq_getElem (by omega)]
    rfl
  have p1 := p0 0 (by omega)
  have p2 := p0 1 (by omega)
  have p3 := p0 2 (by omega)
  clear p0
  have hpr : ¬ p = r := hp.ne_ hr (by decide)
  have hpx : ¬ p = x := hp.ne_ hx (by decide)
  have hrx : ¬ r = x := hr.ne_ hx (by decide)
  simp at d0 d1 d2 c0 c1 c2 c3 c4 p1
  go_enter Try.func19, Try.ntmps19
  go_wp2
  refine wp_region_qtail 21 (by kernel_rfl) (by kernel_rfl) ?_
  simp only [List.take_succ_cons, List.take_zero, List.drop_succ_cons, List.drop_zero]
  repeat (first | go_big_quiet_skip | (go_big_quiet_want; go_big_quiet_op; go_big_quiet_on))
  refine wpQuiet_nil ?_
  go_wp2
  go_end0
  exact ⟨rfl, rfl⟩

/-- Drop$1: one less is kept. -/
theorem f20_any (w : World) (x r : Nat) (pl : Value) (fi ma k : Int) (hx : Blk w x 23 #[.pointer (some ⟨r, 0, none⟩)])
    (hr : Blk w r 50 #[pl, .int .i64 fi, .int .i64 ma, .int .i64 k]) (h0 : 0 < k) (h1 : k ≤ 1000) :
    Calls Try.prog 20 #[.pointer (some ⟨x, 0, none⟩)] w fun e w' => e = .returned (.tuple #[]) ∧ w' = w.setCell ⟨r, 3, none⟩ (.int .i64 (k - 1)) := by
  have c1 := hx.cell 0
  have c2 := hr.cell 3
  have z2 := hr.frozen 3
  simp at c1 c2
  go_enter Try.func20, Try.ntmps20
  go_wp2
  go_end0
  exact ⟨rfl, rfl⟩

/-- Pop$1: the first one is taken out. -/
theorem f21_any (w : World) (x r d p n fi : Nat) (ma k a b c : Int) (v0 v1 v2 : Value) (cs : Array Value) (hx : Blk w x 23 #[.pointer (some ⟨r, 0, none⟩)])
    (hd : Blk w d 33 #[v0, v1, v2])
    (hr : Blk w r 50 #[.slice (some ⟨p, 0, none⟩) n n, .int .i64 fi, .int .i64 ma, .int .i64 k]) (hp : Blk w p 33 cs)
    (ha : cs[fi * 3]? = some (.int .i64 a)) (hb : cs[fi * 3 + 1]? = some (.int .i64 b)) (hc : cs[fi * 3 + 2]? = some (.int .i64 c))
    (hn : n ≤ 32) (hfi : fi < n) (h1 : 1 ≤ ma) (h2 : ma ≤ n) :
    Calls Try.prog 21 #[.pointer (some ⟨x, 0, none⟩), .pointer (some ⟨d, 0, none⟩)] w fun e w' => e = .returned (.tuple #[]) ∧
      Blk w' r 50 #[.slice (some ⟨p, 0, none⟩) n n, .int .i64 (((fi + 1) % n : Nat) : Int), .int .i64 (ma - 1), .int .i64 k] ∧ Blk w' d 33 #[.int .i64 a, .int .i64 b, .int .i64 c] ∧ Touch (fun q => q = r ∨ q = d) w w' := by
  refine Calls.mono (R := fun e w' => e = .returned (.tuple #[]) ∧
      w' = (((((w.setCell ⟨d, 0, none⟩ (.int .i64 a)).setCell ⟨d, 1, none⟩ (.int .i64 b)).setCell ⟨d, 2, none⟩ (.int .i64 c)).setCell ⟨r, 1, none⟩ (.int .i64 (((fi + 1) % n : Nat) : Int))).setCell ⟨r, 2, none⟩ (.int .i64 (ma - 1))).drew.drew) ?_ ?_
  case refine_2 =>
    rintro e w' ⟨rfl, rfl⟩
    have hdr : ¬ d = r := hd.ne_ hr (by decide)
    refine ⟨rfl, ?_, ?_, ?_⟩
    · have := ((((hr.far (p := ⟨d, 0, none⟩) (Ne.symm hdr) (.int .i64 a)).far (p := ⟨d, 1, none⟩) (Ne.symm hdr) (.int .i64 b)).far (p := ⟨d, 2, none⟩) (Ne.symm hdr) (.int .i64 c)).set_ 1 (.int .i64 (((fi + 1) % n : Nat) : Int))).set_ 2 (.int .i64 (ma - 1))
      exact this.drew.drew
    · have := (((((hd.set_ 0 (.int .i64 a)).set_ 1 (.int .i64 b)).set_ 2 (.int .i64 c)).far (p := ⟨r, 1, none⟩) hdr (.int .i64 (((fi + 1) % n : Nat) : Int))).far (p := ⟨r, 2, none⟩) hdr (.int .i64 (ma - 1)))
      exact this.drew.drew
    · exact (((((((Touch.refl _ w).setCell (.inr (.inr rfl)) _).setCell (.inr (.inr rfl)) _).setCell (.inr (.inr rfl)) _).setCell (.inr (.inl rfl)) _).setCell (.inr (.inl rfl)) _).drew).drew
  have hi : (fi + 1) % n < n := Nat.mod_lt _ (by omega)
  have d0 := hd.cell 0
  have d1 := hd.cell 1
  have d2 := hd.cell 2
  have c0 := hx.cell 0
  have c1 := hr.cell 0
  have c2 := hr.cell 1
  have c3 := hr.cell 2
  have c4 := hr.cell 3
  have z0 := hr.frozen
  have z1 := hd.frozen
  have p1 := (hp.cell (fi * 3)).trans ha
  have p2 := (hp.cell (fi * 3 + 1)).trans hb
  have p3 := (hp.cell (fi * 3 + 2)).trans hc
  have hpr : ¬ d = r := hd.ne_ hr (by decide)
  have hpx : ¬ d = x := hd.ne_ hx (by decide)
  have hrx : ¬ r = x := hr.ne_ hx (by decide)
  simp at d0 d1 d2 c0 c1 c2 c3 c4
  clear ha hb hc
  go_enter Try.func21, Try.ntmps21
  go_wp2
  refine wp_region_qtail 10 (by kernel_rfl) (by kernel_rfl) ?_
  simp only [List.take_succ_cons, List.take_zero, List.drop_succ_cons, List.drop_zero]
  repeat (first | go_big_quiet_skip | (go_big_quiet_want; go_big_quiet_op; go_big_quiet_on))
  refine wpQuiet_nil ?_
  go_wp2
  refine wp_region_qtail 14 (by kernel_rfl) (by kernel_rfl) ?_
  simp only [List.take_succ_cons, List.take_zero, List.drop_succ_cons, List.drop_zero]
  repeat (first | go_big_quiet_skip | (go_big_quiet_want; go_big_quiet_op; go_big_quiet_on))
  refine wpQuiet_nil ?_
  go_wp2
  go_end0
  exact ⟨rfl, by rw [show (((fi + 1) % n : Nat) : Int) = ((fi : Int) + 1) % n from by simp]⟩
end Go.Proofs.Ytmhdjedegkekeaa
