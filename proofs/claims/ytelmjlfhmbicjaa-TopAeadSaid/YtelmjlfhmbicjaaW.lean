/- poly: add. -/
import Derived.Test.YtelmjlfhmbicjaaV
namespace Go.Proofs.Ytelmjlfhmbicjaa
open Go.RowKit
set_option linter.unusedVariables false

/-- A sum of three numbers and two, and one more. -/
def add0 (h0 lo : Nat) : Nat := (h0 + lo) % 18446744073709551616
def add1 (h0 h1 lo hi : Nat) : Nat := (h1 + hi + (h0 + lo) / 18446744073709551616) % 18446744073709551616
def add2 (h0 h1 h2 lo hi high : Nat) : Nat := (h2 + ((h1 + hi + (h0 + lo) / 18446744073709551616) / 18446744073709551616 + high)) % 18446744073709551616
theorem add0_lt (h0 lo : Nat) : add0 h0 lo < 18446744073709551616 := by unfold add0; omega
theorem add1_lt (h0 h1 lo hi : Nat) : add1 h0 h1 lo hi < 18446744073709551616 := by unfold add1; omega
theorem add2_lt (h0 h1 h2 lo hi high : Nat) : add2 h0 h1 h2 lo hi high < 18446744073709551616 := by unfold add2; omega

set_option maxHeartbeats 2000000 in
theorem add_any (w : World) (p : Nat) (x0 x1 x2 x3 V : Value) (h0 h1 h2 lo hi high : Nat) (l0 : h0 < 18446744073709551616) (l1 : h1 < 18446744073709551616) (l2 : h2 < 18446744073709551616) (l3 : lo < 18446744073709551616) (l4 : hi < 18446744073709551616) (l5 : high ≤ 1)
    (hb : Blk w p 59 #[x0, x1, x2, x3, .int .u64 h0, .int .u64 h1, .int .u64 h2, V]) :
    Calls Try.prog 20 #[.pointer (some ⟨p, 0, none⟩), .agg #[.int .u64 lo, .int .u64 hi], .int .u64 high] w fun e w' => e = .returned (.tuple #[]) ∧
      Blk w' p 59 #[x0, x1, x2, x3, .int .u64 (add0 h0 lo), .int .u64 (add1 h0 h1 lo hi), .int .u64 (add2 h0 h1 h2 lo hi high), V] ∧ Touch (fun b => b = p) w w' := by
  have e1 : ∀ W, (callFunc 31 #[.int .u64 h0, .int .u64 lo, .int .u64 0]).run Try.prog W = .ok (.value (.tuple #[.int .u64 (((h0 + lo) % 18446744073709551616 : Nat) : Int), .int .u64 (((h0 + lo) / 18446744073709551616 : Nat) : Int)])) W := fun W => add64_eq h0 lo 0 (by omega) W
  unfold add0 add1 add2
  obtain ⟨k, hk⟩ : ∃ k, k = (h0 + lo) / 18446744073709551616 := ⟨_, rfl⟩
  obtain ⟨t0, ht0⟩ : ∃ t, t = (h0 + lo) % 18446744073709551616 := ⟨_, rfl⟩
  have hk1 : k ≤ 1 := by omega
  rw [← hk, ← ht0] at e1 ⊢
  have e2 := fun W => add64_eq h1 hi k hk1 W
  obtain ⟨t1, ht1⟩ : ∃ t, t = (h1 + hi + k) % 18446744073709551616 := ⟨_, rfl⟩
  obtain ⟨k2, hk2⟩ : ∃ t, t = (h1 + hi + k) / 18446744073709551616 := ⟨_, rfl⟩
  have hk21 : k2 ≤ 1 := by omega
  rw [← ht1, ← hk2] at e2 ⊢
  have hpl := hb.lt
  have hT0 : Touch (fun b => b = p) w (w.alloc (.cells #[.int .u64 lo, .int .u64 hi] 55)) := (Touch.refl _ w).alloc _
  have hq0 := Blk.new w 55 #[.int .u64 lo, .int .u64 hi]
  have hb0 := hb.alloc (.cells #[.int .u64 lo, .int .u64 hi] 55)
  obtain ⟨w0, hw0⟩ : ∃ w0, w0 = w.alloc (.cells #[.int .u64 lo, .int .u64 hi] 55) := ⟨_, rfl⟩
  rw [← hw0] at hT0 hq0 hb0
  obtain ⟨q, hq⟩ : ∃ q, q = w.heap.size := ⟨_, rfl⟩
  rw [← hq] at hq0
  have hqp : q ≠ p := by omega
  have H := Lib.hid (And.intro hT0 (And.intro hq0 (And.intro hb0 hqp)))
  clear hk ht0 ht1 hk2 hT0 hq0 hb0 hqp hb hpl l0 l1 l2 l3 l4 l5 hk1
  go_enter Try.func20, Try.ntmps20
  go_upto_region 2 with fail
  rw [← hw0, ← hq]
  clear hw0 hq
  obtain ⟨T, HT⟩ : ∃ T : World → Prop, Hid (∀ w', T w' ↔ (Blk w' q 55 #[.int .u64 lo, .int .u64 hi] ∧ ∃ c, Blk w' p 59 #[x0, x1, x2, x3, c, .int .u64 h1, .int .u64 h2, V])) := ⟨_, fun _ => Iff.rfl⟩
  obtain ⟨S, HS⟩ : ∃ S : World → Prop, Hid (∀ w', S w' ↔ Blk w' p 59 #[x0, x1, x2, x3, .int .u64 h0, .int .u64 h1, .int .u64 h2, V]) := ⟨_, fun _ => Iff.rfl⟩
  refine wp_region_two S T [8, 9, 10, 11, 14, 15, 16] [(0, false), (1, false), (2, false), (3, false), (4, false), (5, true), (6, false), (7, false), (12, false), (13, false)] [(8, true), (9, false), (10, false), (11, false), (14, false), (15, true), (16, true)] (by kernel_rfl) (by kernel_rfl) ((HS.out _).2 H.out.2.2.1) ((HT.out _).2 ⟨H.out.2.1, _, H.out.2.2.1⟩) (fun hne hne2 => ?_)
  have s0 : ∀ x : SW S, x.w.cell? ⟨p, 0, none⟩ = some x0 := fun x => ((HS.out _).1 x.ok).cell 0
  have s1 : ∀ x : SW S, x.w.cell? ⟨p, 4, none⟩ = some (.int .u64 h0) := fun x => ((HS.out _).1 x.ok).cell 4
  have t0' : ∀ x : SW T, x.w.cell? ⟨p, 0, none⟩ = some x0 := fun x => by obtain ⟨c, h⟩ := ((HT.out _).1 x.ok).2; exact h.cell 0
  have t1' : ∀ x : SW T, x.w.cell? ⟨q, 0, none⟩ = some (.int .u64 lo) := fun x => ((HT.out _).1 x.ok).1.cell 0
  simp only [withOps, List.filterMap_cons, List.filterMap_nil, Option.map_some, List.getElem?_cons_zero, List.getElem?_cons_succ]
  repeat ((first | refine wpGrZ_q ?_ | refine wpGrZ_f ?_); (first | go_big_quiet_skip | (go_big_quiet_want; go_big_quiet_op; go_big_quiet_on)); refine wpQuiet_nil ?_)
  refine wpGrZ_nil ?_
  refine wpGr_eff rfl (fun K1 hK1 => ?_)
  go_wp2_with fail
  try refine ⟨.inr ((HT.out _).2 ⟨H.out.2.1, _, H.out.2.2.1⟩), ?_⟩
  repeat (refine wpGr_q ?_; (first | go_big_quiet_skip | (go_big_quiet_want; go_big_quiet_op; go_big_quiet_on)); refine wpQuiet_nil ?_)
  refine wpGr_eff rfl (fun K2 hK2 => ?_)
  have hb0 := H.out.2.2.1.drew
  have c4 := hb0.cell 4
  simp only [List.getElem?_toArray, List.getElem?_cons_zero, List.getElem?_cons_succ] at c4
  have f4 := hb0.frozen
  go_wp2_with fail
  have hb1 := (H.out.2.2.1.set_ 4 (.int .u64 t0)).drew
  simp only [List.setIfInBounds_toArray, List.set_cons_zero, List.set_cons_succ] at hb1
  have hT1 := (H.out.1.setCell (p := ⟨p, 4, none⟩) (.inr rfl) (.int .u64 t0)).drew
  have hq1 := (H.out.2.1.far (p := ⟨p, 4, none⟩) H.out.2.2.2 (.int .u64 t0)).drew
  obtain ⟨w1, hw1⟩ : ∃ z, z = (w0.setCell ⟨p, 4, none⟩ (.int .u64 t0)).drew := ⟨_, rfl⟩
  rw [← hw1] at hb1 hT1 hq1 ⊢
  have H1 := Lib.hid (And.intro hT1 (And.intro hq1 hb1))
  clear hw1 hb1 hT1 hq1 c4 f4 s0 s1 t0' t1' hb0
  refine ⟨.inr ((HT.out _).2 ⟨H1.out.2.1, _, H1.out.2.2⟩), ?_⟩
  refine wpGr_eff rfl (fun K3 hK3 => ?_)
  go_wp2_with fail
  try refine ⟨.inr ((HT.out _).2 ⟨H1.out.2.1, _, H1.out.2.2⟩), ?_⟩
  refine wpGr_nil ?_
  clear hne hne2 HT HS
  clear S T
  go_upto_region 3 with fail
  obtain ⟨T, HT⟩ : ∃ T : World → Prop, Hid (∀ w', T w' ↔ (Blk w' q 55 #[.int .u64 lo, .int .u64 hi] ∧ ∃ c, Blk w' p 59 #[x0, x1, x2, x3, .int .u64 t0, c, .int .u64 h2, V])) := ⟨_, fun _ => Iff.rfl⟩
  obtain ⟨S, HS⟩ : ∃ S : World → Prop, Hid (∀ w', S w' ↔ Blk w' p 59 #[x0, x1, x2, x3, .int .u64 t0, .int .u64 h1, .int .u64 h2, V]) := ⟨_, fun _ => Iff.rfl⟩
  refine wp_region_two S T [9, 10, 11, 12, 15, 16, 17] [(0, false), (1, false), (2, false), (3, false), (4, false), (5, true), (6, false), (7, false), (8, false), (13, false), (14, false)] [(9, true), (10, false), (11, false), (12, false), (15, false), (16, true), (17, true)] (by kernel_rfl) (by kernel_rfl) ((HS.out _).2 H1.out.2.2.drew) ((HT.out _).2 ⟨H1.out.2.1.drew, _, H1.out.2.2.drew⟩) (fun hne hne2 => ?_)
  have s0 : ∀ x : SW S, x.w.cell? ⟨p, 0, none⟩ = some x0 := fun x => ((HS.out _).1 x.ok).cell 0
  have s1 : ∀ x : SW S, x.w.cell? ⟨p, 5, none⟩ = some (.int .u64 h1) := fun x => ((HS.out _).1 x.ok).cell 5
  have t0' : ∀ x : SW T, x.w.cell? ⟨p, 0, none⟩ = some x0 := fun x => by obtain ⟨c, h⟩ := ((HT.out _).1 x.ok).2; exact h.cell 0
  have t1' : ∀ x : SW T, x.w.cell? ⟨q, 1, none⟩ = some (.int .u64 hi) := fun x => ((HT.out _).1 x.ok).1.cell 1
  simp only [withOps, List.filterMap_cons, List.filterMap_nil, Option.map_some, List.getElem?_cons_zero, List.getElem?_cons_succ]
  repeat ((first | refine wpGrZ_q ?_ | refine wpGrZ_f ?_); (first | go_big_quiet_skip | (go_big_quiet_want; go_big_quiet_op; go_big_quiet_on)); refine wpQuiet_nil ?_)
  refine wpGrZ_nil ?_
  refine wpGr_eff rfl (fun K4 hK4 => ?_)
  go_wp2_with fail
  try refine ⟨.inr ((HT.out _).2 ⟨H1.out.2.1.drew, _, H1.out.2.2.drew⟩), ?_⟩
  repeat (refine wpGr_q ?_; (first | go_big_quiet_skip | (go_big_quiet_want; go_big_quiet_op; go_big_quiet_on)); refine wpQuiet_nil ?_)
  refine wpGr_eff rfl (fun K5 hK5 => ?_)
  have hb0 := H1.out.2.2.drew
  have c4 := hb0.cell 5
  simp only [List.getElem?_toArray, List.getElem?_cons_zero, List.getElem?_cons_succ] at c4
  have f4 := hb0.frozen
  go_wp2_with fail
  have hb2 := (H1.out.2.2.set_ 5 (.int .u64 t1)).drew
  simp only [List.setIfInBounds_toArray, List.set_cons_zero, List.set_cons_succ] at hb2
  have hT2 := (H1.out.1.setCell (p := ⟨p, 5, none⟩) (.inr rfl) (.int .u64 t1)).drew
  have hq2 := (H1.out.2.1.far (p := ⟨p, 5, none⟩) H.out.2.2.2 (.int .u64 t1)).drew
  obtain ⟨w2, hw2⟩ : ∃ z, z = (w1.setCell ⟨p, 5, none⟩ (.int .u64 t1)).drew := ⟨_, rfl⟩
  rw [← hw2] at hb2 hT2 hq2 ⊢
  have H2 := Lib.hid (And.intro hT2 (And.intro hq2 hb2))
  clear hw2 hb2 hT2 hq2 c4 f4 s0 s1 t0' t1' hb0
  refine ⟨.inr ((HT.out _).2 ⟨H2.out.2.1, _, H2.out.2.2⟩), ?_⟩
  refine wpGr_eff rfl (fun K6 hK6 => ?_)
  go_wp2_with fail
  try refine ⟨.inr ((HT.out _).2 ⟨H2.out.2.1, _, H2.out.2.2⟩), ?_⟩
  refine wpGr_nil ?_
  clear hne hne2 HT HS
  clear S T
  go_upto_region 4 with fail
  have hb3 := H2.out.2.2.drew
  have c0 := hb3.cell 0
  have c6 := hb3.cell 6
  simp only [List.getElem?_toArray, List.getElem?_cons_zero, List.getElem?_cons_succ] at c0 c6
  have f6 := hb3.frozen
  refine wp_region_qtail 11 (by kernel_rfl) (by kernel_rfl) ?_
  simp only [List.take_succ_cons, List.take_zero, List.drop_succ_cons, List.drop_zero]
  repeat (first | go_big_quiet_skip | (go_big_quiet_want; go_big_quiet_op; go_big_quiet_on))
  refine wpQuiet_nil ?_
  go_wp2_with fail
  have e3 : IntKind.u64.wrap ((h2 : Int) + IntKind.u64.wrap ((k2 : Int) + high)) = ((h2 + (k2 + high)) % 18446744073709551616 : Nat) := by
    rw [IntKind.wrap_u64, IntKind.wrap_u64]; omega
  rw [e3]
  have hb4 := (H2.out.2.2.set_ 6 (.int .u64 ((h2 + (k2 + high)) % 18446744073709551616 : Nat))).drew
  simp only [List.setIfInBounds_toArray, List.set_cons_zero, List.set_cons_succ] at hb4
  have hT4 := (H2.out.1.setCell (p := ⟨p, 6, none⟩) (.inr rfl) (.int .u64 ((h2 + (k2 + high)) % 18446744073709551616 : Nat))).drew
  go_end0
  exact ⟨rfl, hb4, hT4⟩
end Go.Proofs.Ytelmjlfhmbicjaa
