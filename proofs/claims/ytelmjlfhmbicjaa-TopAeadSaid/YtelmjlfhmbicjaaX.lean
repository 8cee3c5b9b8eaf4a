/- poly: multiply. (Printed by genX.py.) -/
import Derived.Test.YtelmjlfhmbicjaaW
import Derived.Test.YtelmjlfhmbicjaaRegT
import Derived.Deep.DeepCutAuto
namespace Go.Proofs.Ytelmjlfhmbicjaa
open Go.RowKit
set_option linter.unusedVariables false

theorem bits_nat (o : BinOp) (x y : Int) : ∃ n : Nat, n < 18446744073709551616 ∧ bits o .u64 x y = n := by
  refine ⟨(bits o .u64 x y).toNat, ?_, ?_⟩ <;> (unfold bits; rw [IntKind.wrap_u64]; omega)

set_option maxRecDepth 100000 in
set_option maxHeartbeats 2000000 in
theorem mul_any (r0 r1 h0 h1 h2 : Nat) (l0 : h0 < 18446744073709551616) (l1 : h1 < 18446744073709551616) (l2 : h2 < 18446744073709551616) :
    ∃ g0 g1 g2 : Nat, g0 < 18446744073709551616 ∧ g1 < 18446744073709551616 ∧ g2 < 18446744073709551616 ∧ ∀ (w : World) (p : Nat) (x2 x3 V : Value), Blk w p 59 #[.int .u64 r0, .int .u64 r1, x2, x3, .int .u64 h0, .int .u64 h1, .int .u64 h2, V] →
      Calls Try.prog 21 #[.pointer (some ⟨p, 0, none⟩)] w fun e w' => e = .returned (.tuple #[]) ∧
        Blk w' p 59 #[.int .u64 r0, .int .u64 r1, x2, x3, .int .u64 g0, .int .u64 g1, .int .u64 g2, V] ∧ Touch (fun b => b = p) w w' := by
  obtain ⟨a0, a1, la0, la1, ha⟩ := times_any h0 r0
  obtain ⟨b0, b1, lb0, lb1, hb⟩ := times_any h1 r0
  obtain ⟨c0, c1, lc0, lc1, hc⟩ := times_any h0 r1
  obtain ⟨d0, d1, ld0, ld1, hd⟩ := times_any h2 r0
  obtain ⟨e0, e1, le0, le1, he⟩ := times_any h1 r1
  obtain ⟨f0, f1, lf0, lf1, hf⟩ := times_any h2 r1
  -- the sums of two products
  have hp1 := fun w => plus_any w b0 b1 c0 c1 lb0 lc0
  have hp2 := fun w => plus_any w d0 d1 e0 e1 ld0 le0
  obtain ⟨s0, hs0⟩ : ∃ s, s = (b0 + c0) % 18446744073709551616 := ⟨_, rfl⟩
  obtain ⟨s1, hs1⟩ : ∃ s, s = (b1 + c1 + (b0 + c0) / 18446744073709551616) % 18446744073709551616 := ⟨_, rfl⟩
  obtain ⟨t0, ht0⟩ : ∃ s, s = (d0 + e0) % 18446744073709551616 := ⟨_, rfl⟩
  obtain ⟨t1, ht1⟩ : ∃ s, s = (d1 + e1 + (d0 + e0) / 18446744073709551616) % 18446744073709551616 := ⟨_, rfl⟩
  have ls0 : s0 < 18446744073709551616 := by omega
  have ls1 : s1 < 18446744073709551616 := by omega
  have lt0 : t0 < 18446744073709551616 := by omega
  have lt1 : t1 < 18446744073709551616 := by omega
  rw [← hs0, ← hs1] at hp1
  rw [← ht0, ← ht1] at hp2
  clear hs0 hs1 ht0 ht1
  -- the three carries
  have q1 : ∀ W, (callFunc 31 #[.int .u64 s0, .int .u64 a1, .int .u64 0]).run Try.prog W = .ok (.value (.tuple #[.int .u64 (((s0 + a1) % 18446744073709551616 : Nat) : Int), .int .u64 (((s0 + a1) / 18446744073709551616 : Nat) : Int)])) W := fun W => add64_eq s0 a1 0 (by omega) W
  obtain ⟨u1, hu1⟩ : ∃ s, s = (s0 + a1) % 18446744073709551616 := ⟨_, rfl⟩
  obtain ⟨k1, hk1⟩ : ∃ s, s = (s0 + a1) / 18446744073709551616 := ⟨_, rfl⟩
  have lk1 : k1 ≤ 1 := by omega
  have lu1 : u1 < 18446744073709551616 := by omega
  rw [← hu1, ← hk1] at q1
  have q2 := fun W => add64_eq t0 s1 k1 lk1 W
  obtain ⟨u2, hu2⟩ : ∃ s, s = (t0 + s1 + k1) % 18446744073709551616 := ⟨_, rfl⟩
  obtain ⟨k2, hk2⟩ : ∃ s, s = (t0 + s1 + k1) / 18446744073709551616 := ⟨_, rfl⟩
  have lk2 : k2 ≤ 1 := by omega
  have lu2 : u2 < 18446744073709551616 := by omega
  rw [← hu2, ← hk2] at q2
  have q3 := fun W => add64_eq f0 t1 k2 lk2 W
  obtain ⟨u3, hu3⟩ : ∃ s, s = (f0 + t1 + k2) % 18446744073709551616 := ⟨_, rfl⟩
  obtain ⟨k3, hk3⟩ : ∃ s, s = (f0 + t1 + k2) / 18446744073709551616 := ⟨_, rfl⟩
  have lu3 : u3 < 18446744073709551616 := by omega
  rw [← hu3, ← hk3] at q3
  clear hu1 hk1 hu2 hk2 hu3 hk3
  -- what is kept, and what is above
  obtain ⟨m2, lm2, hm2⟩ := bits_nat .and (u2 : Int) 3
  obtain ⟨n0, ln0, hn0⟩ := bits_nat .andNot (u2 : Int) 3
  obtain ⟨o0, lo0, ho0⟩ := bits_nat .or ((n0 : Int) / 4) (IntKind.u64.wrap ((u3 : Int) * 4611686018427387904))
  obtain ⟨o1, hoo1⟩ : ∃ s, s = u3 / 4 := ⟨_, rfl⟩
  have lo1 : o1 < 18446744073709551616 := by omega
  have ho1 : (u3 : Int) / 4 = o1 := by omega
  refine ⟨_, _, _, add0_lt (add0 a0 n0) o0, add1_lt (add0 a0 n0) (add1 a0 u1 n0 u3) o0 o1, add2_lt (add0 a0 n0) (add1 a0 u1 n0 u3) (add2 a0 u1 m2 n0 u3 0) o0 o1 0, fun w p x2 x3 V hbl => ?_⟩
  have hpl := hbl.lt
  have hadd1 := fun W h => add_any W p (.int .u64 r0) (.int .u64 r1) x2 x3 V a0 u1 m2 n0 u3 0 la0 lu1 lm2 ln0 lu3 (by omega) h
  have ly0 := add0_lt a0 n0
  have ly1 := add1_lt a0 u1 n0 u3
  have ly2 := add2_lt a0 u1 m2 n0 u3 0
  obtain ⟨y0, hy0⟩ : ∃ y, y = add0 a0 n0 := ⟨_, rfl⟩
  obtain ⟨y1, hy1⟩ : ∃ y, y = add1 a0 u1 n0 u3 := ⟨_, rfl⟩
  obtain ⟨y2, hy2⟩ : ∃ y, y = add2 a0 u1 m2 n0 u3 0 := ⟨_, rfl⟩
  rw [← hy0] at ly0
  rw [← hy1] at ly1
  rw [← hy2] at ly2
  rw [← hy0, ← hy1, ← hy2]
  simp only [← hy0, ← hy1, ← hy2] at hadd1
  have hadd2 := fun W h => add_any W p (.int .u64 r0) (.int .u64 r1) x2 x3 V y0 y1 y2 o0 o1 0 ly0 ly1 ly2 lo0 lo1 (by omega) h
  obtain ⟨z0, hz0⟩ : ∃ y, y = add0 y0 o0 := ⟨_, rfl⟩
  obtain ⟨z1, hz1⟩ : ∃ y, y = add1 y0 y1 o0 o1 := ⟨_, rfl⟩
  obtain ⟨z2, hz2⟩ : ∃ y, y = add2 y0 y1 y2 o0 o1 0 := ⟨_, rfl⟩
  rw [← hz0, ← hz1, ← hz2]
  simp only [← hz0, ← hz1, ← hz2] at hadd2
  have HD := Lib.hid (And.intro hadd1 hadd2)
  clear hy0 hy1 hy2 hz0 hz1 hz2 ly0 ly1 ly2 hadd1 hadd2
  have HA := Lib.hid (And.intro ha (And.intro hb (And.intro hc (And.intro hd (And.intro he (And.intro hf (And.intro hp1 hp2)))))))
  have HL := Lib.hid (And.intro la0 (And.intro lu1 (And.intro lm2 (And.intro ln0 (And.intro lu3 (And.intro lo0 lo1))))))
  have HM := Lib.hid (And.intro hm2 (And.intro hn0 (And.intro ho0 ho1)))
  have HB := Lib.hid hbl
  clear ha hb hc hd he hf hbl hp1 hp2 la0 la1 lb0 lb1 lc0 lc1 ld0 ld1 le0 le1 lf0 lf1 ls0 ls1 lt0 lt1 lk1 lk2 lu1 lu2 lu3 lm2 ln0 lo0 lo1 hm2 hn0 ho0 ho1 hoo1 l0 l1 l2
  go_enter Try.func21, Try.ntmps21
  go_upto_region 0 with fail
  go_cut [2, 3] (fun z2 z3 wx => ∃ u v : Nat, z2 = .pointer (some ⟨u, 0, none⟩) ∧ z3 = .pointer (some ⟨v, 0, none⟩) ∧ Blk wx u 57 #[.int .u64 h0, .int .u64 h1, .int .u64 h2] ∧ Blk wx v 55 #[.int .u64 r0, .int .u64 r1] ∧ w.heap.size ≤ u ∧ w.heap.size ≤ v ∧ Touch (fun _ => False) w wx)
  case first =>
    obtain ⟨S, HS⟩ : ∃ S : World → Prop, Hid (∀ w', S w' ↔ Blk w' p 59 #[.int .u64 r0, .int .u64 r1, x2, x3, .int .u64 h0, .int .u64 h1, .int .u64 h2, V]) := ⟨_, fun _ => Iff.rfl⟩
    refine wp_region_tr S (.q 0 (.q 1 (.q 2 (.q 3 (.q 4 (.q 5 (.q 6 (.q 7 (.b 8 9 (.e 9 (.e 10 (.e 11 .nil))) (.e 8 (.e 10 (.e 11 .nil)))))))))))) (by kernel_rfl) (by kernel_rfl) ((HS.out _).2 HB.out.drew) (fun hne => ?_)
    have z0 : ∀ x : SW S, x.w.cell? ⟨p, 0, none⟩ = some (.int .u64 r0) := fun x => ((HS.out _).1 x.ok).cell 0
    have z1 : ∀ x : SW S, x.w.cell? ⟨p, 1, none⟩ = some (.int .u64 r1) := fun x => ((HS.out _).1 x.ok).cell 1
    have z4 : ∀ x : SW S, x.w.cell? ⟨p, 4, none⟩ = some (.int .u64 h0) := fun x => ((HS.out _).1 x.ok).cell 4
    have z5 : ∀ x : SW S, x.w.cell? ⟨p, 5, none⟩ = some (.int .u64 h1) := fun x => ((HS.out _).1 x.ok).cell 5
    have z6 : ∀ x : SW S, x.w.cell? ⟨p, 6, none⟩ = some (.int .u64 h2) := fun x => ((HS.out _).1 x.ok).cell 6
    repeat (refine wpTr_q (by simp only [List.getElem?_toArray, List.getElem?_cons_zero, List.getElem?_cons_succ]; rfl) ?_; (first | go_big_quiet_skip | (go_big_quiet_want; go_big_quiet_op; go_big_quiet_on)); refine wpQuiet_nil ?_)
    clear z0 z1 z4 z5 z6
    refine wpTr_b (by simp only [List.getElem?_toArray, List.getElem?_cons_zero, List.getElem?_cons_succ]; rfl) (by simp only [List.getElem?_toArray, List.getElem?_cons_zero, List.getElem?_cons_succ]; rfl) (fun K1 hK1 => ?_) (fun K1 hK1 => ?_)
    · go_wp2_with fail
      refine ⟨(HS.out _).2 (HB.out.alloc _), ?_⟩
      refine wpTr_e (by simp only [List.getElem?_toArray, List.getElem?_cons_zero, List.getElem?_cons_succ]; rfl) (fun K2 hK2 => ?_)
      go_wp2_with fail
      refine ⟨(HS.out _).2 ((HB.out.alloc _).alloc _), ?_⟩
      refine wpTr_e (by simp only [List.getElem?_toArray, List.getElem?_cons_zero, List.getElem?_cons_succ]; rfl) (fun K3 hK3 => ?_)
      go_wp2_with fail
      refine ⟨(HS.out _).2 ((HB.out.alloc _).alloc _), ?_⟩
      refine wpTr_e (by simp only [List.getElem?_toArray, List.getElem?_cons_zero, List.getElem?_cons_succ]; rfl) (fun K4 hK4 => ?_)
      go_wp2_with fail
      try refine ⟨(HS.out _).2 ((HB.out.alloc _).alloc _), wpTr_nil ?_⟩
      try go_wp2_with fail
      go_meet
      have g1 : Blk ((w.alloc (.cells #[.int .u64 h0, .int .u64 h1, .int .u64 h2] 57)).alloc (.cells #[.int .u64 r0, .int .u64 r1] 55)) w.heap.size 57 #[.int .u64 h0, .int .u64 h1, .int .u64 h2] := (Blk.new w _ _).alloc _
      have g2 : Blk ((w.alloc (.cells #[.int .u64 h0, .int .u64 h1, .int .u64 h2] 57)).alloc (.cells #[.int .u64 r0, .int .u64 r1] 55)) (w.alloc (.cells #[.int .u64 h0, .int .u64 h1, .int .u64 h2] 57)).heap.size 55 #[.int .u64 r0, .int .u64 r1] := Blk.new _ _ _
      rw [World.size_alloc] at g2
      exact ⟨_, _, rfl, rfl, g1, g2, by omega, by omega, (((Touch.refl _ w).alloc _).alloc _).drew⟩
    · go_wp2_with fail
      refine ⟨(HS.out _).2 (HB.out.alloc _), ?_⟩
      refine wpTr_e (by simp only [List.getElem?_toArray, List.getElem?_cons_zero, List.getElem?_cons_succ]; rfl) (fun K2 hK2 => ?_)
      go_wp2_with fail
      refine ⟨(HS.out _).2 ((HB.out.alloc _).alloc _), ?_⟩
      refine wpTr_e (by simp only [List.getElem?_toArray, List.getElem?_cons_zero, List.getElem?_cons_succ]; rfl) (fun K3 hK3 => ?_)
      go_wp2_with fail
      refine ⟨(HS.out _).2 ((HB.out.alloc _).alloc _), ?_⟩
      refine wpTr_e (by simp only [List.getElem?_toArray, List.getElem?_cons_zero, List.getElem?_cons_succ]; rfl) (fun K4 hK4 => ?_)
      go_wp2_with fail
      try refine ⟨(HS.out _).2 ((HB.out.alloc _).alloc _), wpTr_nil ?_⟩
      try go_wp2_with fail
      go_meet
      have g1 : Blk ((w.alloc (.cells #[.int .u64 r0, .int .u64 r1] 55)).alloc (.cells #[.int .u64 h0, .int .u64 h1, .int .u64 h2] 57)) w.heap.size 55 #[.int .u64 r0, .int .u64 r1] := (Blk.new w _ _).alloc _
      have g2 : Blk ((w.alloc (.cells #[.int .u64 r0, .int .u64 r1] 55)).alloc (.cells #[.int .u64 h0, .int .u64 h1, .int .u64 h2] 57)) (w.alloc (.cells #[.int .u64 r0, .int .u64 r1] 55)).heap.size 57 #[.int .u64 h0, .int .u64 h1, .int .u64 h2] := Blk.new _ _ _
      rw [World.size_alloc] at g2
      exact ⟨_, _, rfl, rfl, g2, g1, by omega, by omega, (((Touch.refl _ w).alloc _).alloc _).drew⟩
  case rest =>
  obtain ⟨u, v, rfl, rfl, hu, hv, hul, hvl, hT⟩ := hcut
  have H0 := Lib.hid (And.intro hu (And.intro hv (And.intro hul (And.intro hvl hT))))
  clear hT hul hvl
  have cu := hu.cell
  have cu0 := hu.cell 0
  have cv0 := hv.cell 0
  simp only [List.getElem?_toArray, List.getElem?_cons_zero] at cu0 cv0
  clear cu hu hv
  go_wp2_with fail
  refine (HA.out.1 _).mono ?_
  rintro e w1 ⟨rfl, hT1⟩
  clear cu0 cv0
  go_upto_region 2 with fail
  obtain ⟨q4, hq4⟩ : ∃ q, q = w1.heap.size := ⟨_, rfl⟩
  have hb4 := Blk.new w1 55 #[.int .u64 a0, .int .u64 a1]
  have hT4 : Touch (fun _ => False) w (w1.alloc (.cells #[.int .u64 a0, .int .u64 a1] 55)) := (H0.out.2.2.2.2.trans hT1 (fun _ _ h => h)).alloc _
  have hu4 := (H0.out.1.touch hT1 (fun h => h)).alloc (.cells #[.int .u64 a0, .int .u64 a1] 55)
  have hv4 := (H0.out.2.1.touch hT1 (fun h => h)).alloc (.cells #[.int .u64 a0, .int .u64 a1] 55)
  have hq4l : w.heap.size ≤ q4 := by have := H0.out.2.2.2.2.size; have := hT1.size; omega
  obtain ⟨w4, hw4⟩ : ∃ z, z = w1.alloc (.cells #[.int .u64 a0, .int .u64 a1] 55) := ⟨_, rfl⟩
  rw [← hw4, ← hq4] at hb4
  rw [← hw4] at hT4 hu4 hv4 ⊢
  rw [← hq4]
  have H4 := Lib.hid (And.intro hu4 (And.intro hv4 (And.intro hb4 (And.intro hT4 hq4l))))
  clear hu4 hv4 hb4 hT4 hq4l hw4 hq4 hT1 H0
  go_cut [5] (fun z wx => ∃ q : Nat, z = .pointer (some ⟨q, 0, none⟩) ∧ Blk wx q 55 #[.int .u64 s0, .int .u64 s1] ∧ w4.heap.size ≤ q ∧ Touch (fun _ => False) w4 wx)
  case first =>
    obtain ⟨S, HS⟩ : ∃ S : World → Prop, Hid (∀ w', S w' ↔ (Blk w' u 57 #[.int .u64 h0, .int .u64 h1, .int .u64 h2] ∧ Blk w' v 55 #[.int .u64 r0, .int .u64 r1])) := ⟨_, fun _ => Iff.rfl⟩
    have hSa : ∀ w', Touch (fun _ => False) w4 w' → S w' := fun w' ht => (HS.out _).2 ⟨H4.out.1.touch ht (fun h => h), H4.out.2.1.touch ht (fun h => h)⟩
    refine wp_region_tr S (.q 0 (.q 1 (.q 2 (.q 3 (.q 5 (.q 6 (.q 7 (.q 8 (.b 4 11 (.b 9 11 (.b 10 11 (.e 11 (.e 12 .nil)) (.e 10 (.e 12 .nil))) (.e 9 (.e 10 (.e 12 .nil)))) (.e 4 (.e 9 (.e 10 (.e 12 .nil))))))))))))) (by kernel_rfl) (by kernel_rfl) (hSa _ (Touch.refl _ _).drew) (fun hne => ?_)
    have z0 : ∀ x : SW S, x.w.cell? ⟨u, 0, none⟩ = some (.int .u64 h0) := fun x => ((HS.out _).1 x.ok).1.cell 0
    have z1 : ∀ x : SW S, x.w.cell? ⟨u, 1, none⟩ = some (.int .u64 h1) := fun x => ((HS.out _).1 x.ok).1.cell 1
    have z2 : ∀ x : SW S, x.w.cell? ⟨u, 2, none⟩ = some (.int .u64 h2) := fun x => ((HS.out _).1 x.ok).1.cell 2
    have y0 : ∀ x : SW S, x.w.cell? ⟨v, 0, none⟩ = some (.int .u64 r0) := fun x => ((HS.out _).1 x.ok).2.cell 0
    have y1 : ∀ x : SW S, x.w.cell? ⟨v, 1, none⟩ = some (.int .u64 r1) := fun x => ((HS.out _).1 x.ok).2.cell 1
    repeat (refine wpTr_q (by simp only [List.getElem?_toArray, List.getElem?_cons_zero, List.getElem?_cons_succ]; rfl) ?_; (first | go_big_quiet_skip | (go_big_quiet_want; go_big_quiet_op; go_big_quiet_on)); refine wpQuiet_nil ?_)
    have hSB := Lib.hid hSa
    clear z0 z1 z2 y0 y1 hSa
    have ht0 : Touch (fun _ => False) w4 w4.drew := (Touch.refl _ _).drew
    refine wpTr_b (by simp only [List.getElem?_toArray, List.getElem?_cons_zero, List.getElem?_cons_succ]; rfl) (by simp only [List.getElem?_toArray, List.getElem?_cons_zero, List.getElem?_cons_succ]; rfl) (fun K1 hK1 => ?_) (fun K1 hK1 => ?_)
    · skip
      go_wp2_with fail
      refine (HA.out.2.1 _).mono ?_
      rintro e v1 ⟨rfl, hn1⟩
      have ht1 : Touch (fun _ => False) w4 v1 := ht0.trans hn1 (fun _ _ h => h)
      clear hn1
      refine hK1 _ _ ⟨hSB.out _ ht1, ?_⟩
      refine wpTr_b (by simp only [List.getElem?_toArray, List.getElem?_cons_zero, List.getElem?_cons_succ]; rfl) (by simp only [List.getElem?_toArray, List.getElem?_cons_zero, List.getElem?_cons_succ]; rfl) (fun K2 hK2 => ?_) (fun K2 hK2 => ?_)
      · skip
        go_wp2_with fail
        refine (HA.out.2.2.1 _).mono ?_
        rintro e v2 ⟨rfl, hn2⟩
        have ht2 : Touch (fun _ => False) w4 v2 := ht1.trans hn2 (fun _ _ h => h)
        clear hn2
        refine hK2 _ _ ⟨hSB.out _ ht2, ?_⟩
        refine wpTr_b (by simp only [List.getElem?_toArray, List.getElem?_cons_zero, List.getElem?_cons_succ]; rfl) (by simp only [List.getElem?_toArray, List.getElem?_cons_zero, List.getElem?_cons_succ]; rfl) (fun K3 hK3 => ?_) (fun K3 hK3 => ?_)
        · skip
          go_wp2_with fail
          refine (HA.out.2.2.2.2.2.2.1 _).mono ?_
          rintro e v3 ⟨rfl, hn3⟩
          have ht3 : Touch (fun _ => False) w4 v3 := ht2.trans hn3 (fun _ _ h => h)
          clear hn3
          refine hK3 _ _ ⟨hSB.out _ ht3, ?_⟩
          refine wpTr_e (by simp only [List.getElem?_toArray, List.getElem?_cons_zero, List.getElem?_cons_succ]; rfl) (fun K4 hK4 => ?_)
          go_wp2_with fail
          have ht4 := ht3.alloc (.cells #[.int .u64 0, .int .u64 0] 55)
          have hq4 := Blk.new v3 55 #[.int .u64 0, .int .u64 0]
          obtain ⟨v4, hv4⟩ : ∃ z, z = v3.alloc (.cells #[.int .u64 0, .int .u64 0] 55) := ⟨_, rfl⟩
          rw [← hv4] at ht4 hq4 ⊢
          obtain ⟨q, hqq⟩ : ∃ q, q = v3.heap.size := ⟨_, rfl⟩
          rw [← hqq] at hq4 ⊢
          have hl4 : w4.heap.size ≤ q := by have := ht3.size; omega
          clear hv4 hqq
          refine ⟨hSB.out _ ht4, ?_⟩
          refine wpTr_e (by simp only [List.getElem?_toArray, List.getElem?_cons_zero, List.getElem?_cons_succ]; rfl) (fun K5 hK5 => ?_)
          have cc0 := hq4.cell 0
          have cc1 := hq4.cell 1
          simp only [List.getElem?_toArray, List.getElem?_cons_zero, List.getElem?_cons_succ] at cc0 cc1
          have ff := hq4.frozen
          have hb5 := (hq4.set_ 0 (.int .u64 s0)).set_ 1 (.int .u64 s1)
          simp only [List.setIfInBounds_toArray, List.set_cons_zero, List.set_cons_succ] at hb5
          have ht5 := (ht4.setCell (p := ⟨q, 0, none⟩) (.inl hl4) (.int .u64 s0)).setCell (p := ⟨q, 1, none⟩) (.inl hl4) (.int .u64 s1)
          have HE := Lib.hid (And.intro hb5 ht5)
          clear hb5 ht5
          go_wp2_with fail
          try refine ⟨hSB.out _ HE.out.2, wpTr_nil ?_⟩
          try go_wp2_with fail
          go_meet
          exact ⟨q, rfl, HE.out.1, hl4, HE.out.2⟩
        · skip
          go_wp2_with fail
          have ht6 := ht2.alloc (.cells #[.int .u64 0, .int .u64 0] 55)
          have hq6 := Blk.new v2 55 #[.int .u64 0, .int .u64 0]
          obtain ⟨v6, hv6⟩ : ∃ z, z = v2.alloc (.cells #[.int .u64 0, .int .u64 0] 55) := ⟨_, rfl⟩
          rw [← hv6] at ht6 hq6 ⊢
          obtain ⟨q, hqq⟩ : ∃ q, q = v2.heap.size := ⟨_, rfl⟩
          rw [← hqq] at hq6 ⊢
          have hl6 : w4.heap.size ≤ q := by have := ht2.size; omega
          clear hv6 hqq
          refine ⟨hSB.out _ ht6, ?_⟩
          refine wpTr_e (by simp only [List.getElem?_toArray, List.getElem?_cons_zero, List.getElem?_cons_succ]; rfl) (fun K6 hK6 => ?_)
          go_wp2_with fail
          refine (HA.out.2.2.2.2.2.2.1 _).mono ?_
          rintro e v7 ⟨rfl, hn7⟩
          have ht7 : Touch (fun _ => False) w4 v7 := ht6.trans hn7 (fun _ _ h => h)
          have hq7 := hq6.touch hn7 (fun h => h)
          clear hn7
          refine hK6 _ _ ⟨hSB.out _ ht7, ?_⟩
          refine wpTr_e (by simp only [List.getElem?_toArray, List.getElem?_cons_zero, List.getElem?_cons_succ]; rfl) (fun K7 hK7 => ?_)
          have cc0 := hq7.cell 0
          have cc1 := hq7.cell 1
          simp only [List.getElem?_toArray, List.getElem?_cons_zero, List.getElem?_cons_succ] at cc0 cc1
          have ff := hq7.frozen
          have hb8 := (hq7.set_ 0 (.int .u64 s0)).set_ 1 (.int .u64 s1)
          simp only [List.setIfInBounds_toArray, List.set_cons_zero, List.set_cons_succ] at hb8
          have ht8 := (ht7.setCell (p := ⟨q, 0, none⟩) (.inl hl6) (.int .u64 s0)).setCell (p := ⟨q, 1, none⟩) (.inl hl6) (.int .u64 s1)
          have HE := Lib.hid (And.intro hb8 ht8)
          clear hb8 ht8
          go_wp2_with fail
          try refine ⟨hSB.out _ HE.out.2, wpTr_nil ?_⟩
          try go_wp2_with fail
          go_meet
          exact ⟨q, rfl, HE.out.1, hl6, HE.out.2⟩
      · skip
        go_wp2_with fail
        have ht9 := ht1.alloc (.cells #[.int .u64 0, .int .u64 0] 55)
        have hq9 := Blk.new v1 55 #[.int .u64 0, .int .u64 0]
        obtain ⟨v9, hv9⟩ : ∃ z, z = v1.alloc (.cells #[.int .u64 0, .int .u64 0] 55) := ⟨_, rfl⟩
        rw [← hv9] at ht9 hq9 ⊢
        obtain ⟨q, hqq⟩ : ∃ q, q = v1.heap.size := ⟨_, rfl⟩
        rw [← hqq] at hq9 ⊢
        have hl9 : w4.heap.size ≤ q := by have := ht1.size; omega
        clear hv9 hqq
        refine ⟨hSB.out _ ht9, ?_⟩
        refine wpTr_e (by simp only [List.getElem?_toArray, List.getElem?_cons_zero, List.getElem?_cons_succ]; rfl) (fun K8 hK8 => ?_)
        go_wp2_with fail
        refine (HA.out.2.2.1 _).mono ?_
        rintro e v10 ⟨rfl, hn10⟩
        have ht10 : Touch (fun _ => False) w4 v10 := ht9.trans hn10 (fun _ _ h => h)
        have hq10 := hq9.touch hn10 (fun h => h)
        clear hn10
        refine hK8 _ _ ⟨hSB.out _ ht10, ?_⟩
        refine wpTr_e (by simp only [List.getElem?_toArray, List.getElem?_cons_zero, List.getElem?_cons_succ]; rfl) (fun K9 hK9 => ?_)
        go_wp2_with fail
        refine (HA.out.2.2.2.2.2.2.1 _).mono ?_
        rintro e v11 ⟨rfl, hn11⟩
        have ht11 : Touch (fun _ => False) w4 v11 := ht10.trans hn11 (fun _ _ h => h)
        have hq11 := hq10.touch hn11 (fun h => h)
        clear hn11
        refine hK9 _ _ ⟨hSB.out _ ht11, ?_⟩
        refine wpTr_e (by simp only [List.getElem?_toArray, List.getElem?_cons_zero, List.getElem?_cons_succ]; rfl) (fun K10 hK10 => ?_)
        have cc0 := hq11.cell 0
        have cc1 := hq11.cell 1
        simp only [List.getElem?_toArray, List.getElem?_cons_zero, List.getElem?_cons_succ] at cc0 cc1
        have ff := hq11.frozen
        have hb12 := (hq11.set_ 0 (.int .u64 s0)).set_ 1 (.int .u64 s1)
        simp only [List.setIfInBounds_toArray, List.set_cons_zero, List.set_cons_succ] at hb12
        have ht12 := (ht11.setCell (p := ⟨q, 0, none⟩) (.inl hl9) (.int .u64 s0)).setCell (p := ⟨q, 1, none⟩) (.inl hl9) (.int .u64 s1)
        have HE := Lib.hid (And.intro hb12 ht12)
        clear hb12 ht12
        go_wp2_with fail
        try refine ⟨hSB.out _ HE.out.2, wpTr_nil ?_⟩
        try go_wp2_with fail
        go_meet
        exact ⟨q, rfl, HE.out.1, hl9, HE.out.2⟩
    · skip
      go_wp2_with fail
      have ht13 : Touch (fun _ => False) w4 (w4.alloc (.cells #[.int .u64 0, .int .u64 0] 55)).drew := ((Touch.refl _ w4).alloc _).drew
      have hq13 : Blk (w4.alloc (.cells #[.int .u64 0, .int .u64 0] 55)).drew w4.heap.size 55 #[.int .u64 0, .int .u64 0] := Blk.new _ _ _
      obtain ⟨v13, hv13⟩ : ∃ z, z = (w4.alloc (.cells #[.int .u64 0, .int .u64 0] 55)).drew := ⟨_, rfl⟩
      rw [← hv13] at ht13 hq13 ⊢
      obtain ⟨q, hqq⟩ : ∃ q, q = w4.heap.size := ⟨_, rfl⟩
      rw [← hqq] at hq13 ⊢
      have hl13 : w4.heap.size ≤ q := by have := ht0.size; omega
      clear hv13 hqq
      refine ⟨hSB.out _ ht13, ?_⟩
      refine wpTr_e (by simp only [List.getElem?_toArray, List.getElem?_cons_zero, List.getElem?_cons_succ]; rfl) (fun K11 hK11 => ?_)
      go_wp2_with fail
      refine (HA.out.2.1 _).mono ?_
      rintro e v14 ⟨rfl, hn14⟩
      have ht14 : Touch (fun _ => False) w4 v14 := ht13.trans hn14 (fun _ _ h => h)
      have hq14 := hq13.touch hn14 (fun h => h)
      clear hn14
      refine hK11 _ _ ⟨hSB.out _ ht14, ?_⟩
      refine wpTr_e (by simp only [List.getElem?_toArray, List.getElem?_cons_zero, List.getElem?_cons_succ]; rfl) (fun K12 hK12 => ?_)
      go_wp2_with fail
      refine (HA.out.2.2.1 _).mono ?_
      rintro e v15 ⟨rfl, hn15⟩
      have ht15 : Touch (fun _ => False) w4 v15 := ht14.trans hn15 (fun _ _ h => h)
      have hq15 := hq14.touch hn15 (fun h => h)
      clear hn15
      refine hK12 _ _ ⟨hSB.out _ ht15, ?_⟩
      refine wpTr_e (by simp only [List.getElem?_toArray, List.getElem?_cons_zero, List.getElem?_cons_succ]; rfl) (fun K13 hK13 => ?_)
      go_wp2_with fail
      refine (HA.out.2.2.2.2.2.2.1 _).mono ?_
      rintro e v16 ⟨rfl, hn16⟩
      have ht16 : Touch (fun _ => False) w4 v16 := ht15.trans hn16 (fun _ _ h => h)
      have hq16 := hq15.touch hn16 (fun h => h)
      clear hn16
      refine hK13 _ _ ⟨hSB.out _ ht16, ?_⟩
      refine wpTr_e (by simp only [List.getElem?_toArray, List.getElem?_cons_zero, List.getElem?_cons_succ]; rfl) (fun K14 hK14 => ?_)
      have cc0 := hq16.cell 0
      have cc1 := hq16.cell 1
      simp only [List.getElem?_toArray, List.getElem?_cons_zero, List.getElem?_cons_succ] at cc0 cc1
      have ff := hq16.frozen
      have hb17 := (hq16.set_ 0 (.int .u64 s0)).set_ 1 (.int .u64 s1)
      simp only [List.setIfInBounds_toArray, List.set_cons_zero, List.set_cons_succ] at hb17
      have ht17 := (ht16.setCell (p := ⟨q, 0, none⟩) (.inl hl13) (.int .u64 s0)).setCell (p := ⟨q, 1, none⟩) (.inl hl13) (.int .u64 s1)
      have HE := Lib.hid (And.intro hb17 ht17)
      clear hb17 ht17
      go_wp2_with fail
      try refine ⟨hSB.out _ HE.out.2, wpTr_nil ?_⟩
      try go_wp2_with fail
      go_meet
      exact ⟨q, rfl, HE.out.1, hl13, HE.out.2⟩
  case rest =>
  obtain ⟨q5, rfl, hq, hql, hT⟩ := hcut
  have H5 := Lib.hid (And.intro (H4.out.1.touch hT (fun h => h)) (And.intro (H4.out.2.1.touch hT (fun h => h)) (And.intro (H4.out.2.2.1.touch hT (fun h => h)) (And.intro hq (And.intro (H4.out.2.2.2.1.trans hT (fun _ _ h => h)) (And.intro H4.out.2.2.2.2 (show w.heap.size ≤ q5 by have := H4.out.2.2.2.1.size; omega)))))))
  clear hq hql hT H4
  obtain ⟨w5, rfl⟩ : ∃ z : World, z = wc := ⟨_, rfl⟩
  go_upto_region 3 with fail
  go_cut [6] (fun z wx => ∃ q : Nat, z = .pointer (some ⟨q, 0, none⟩) ∧ Blk wx q 55 #[.int .u64 t0, .int .u64 t1] ∧ w5.heap.size ≤ q ∧ Touch (fun _ => False) w5 wx)
  case first =>
    obtain ⟨S, HS⟩ : ∃ S : World → Prop, Hid (∀ w', S w' ↔ (Blk w' u 57 #[.int .u64 h0, .int .u64 h1, .int .u64 h2] ∧ Blk w' v 55 #[.int .u64 r0, .int .u64 r1])) := ⟨_, fun _ => Iff.rfl⟩
    have hSa : ∀ w', Touch (fun _ => False) w5 w' → S w' := fun w' ht => (HS.out _).2 ⟨H5.out.1.touch ht (fun h => h), H5.out.2.1.touch ht (fun h => h)⟩
    refine wp_region_tr S (.q 0 (.q 1 (.q 2 (.q 3 (.q 5 (.q 6 (.q 7 (.q 8 (.b 4 11 (.b 9 11 (.b 10 11 (.e 11 (.e 12 .nil)) (.e 10 (.e 12 .nil))) (.e 9 (.e 10 (.e 12 .nil)))) (.e 4 (.e 9 (.e 10 (.e 12 .nil))))))))))))) (by kernel_rfl) (by kernel_rfl) (hSa _ (Touch.refl _ _).drew) (fun hne => ?_)
    have z0 : ∀ x : SW S, x.w.cell? ⟨u, 0, none⟩ = some (.int .u64 h0) := fun x => ((HS.out _).1 x.ok).1.cell 0
    have z1 : ∀ x : SW S, x.w.cell? ⟨u, 1, none⟩ = some (.int .u64 h1) := fun x => ((HS.out _).1 x.ok).1.cell 1
    have z2 : ∀ x : SW S, x.w.cell? ⟨u, 2, none⟩ = some (.int .u64 h2) := fun x => ((HS.out _).1 x.ok).1.cell 2
    have y0 : ∀ x : SW S, x.w.cell? ⟨v, 0, none⟩ = some (.int .u64 r0) := fun x => ((HS.out _).1 x.ok).2.cell 0
    have y1 : ∀ x : SW S, x.w.cell? ⟨v, 1, none⟩ = some (.int .u64 r1) := fun x => ((HS.out _).1 x.ok).2.cell 1
    repeat (refine wpTr_q (by simp only [List.getElem?_toArray, List.getElem?_cons_zero, List.getElem?_cons_succ]; rfl) ?_; (first | go_big_quiet_skip | (go_big_quiet_want; go_big_quiet_op; go_big_quiet_on)); refine wpQuiet_nil ?_)
    have hSB := Lib.hid hSa
    clear z0 z1 z2 y0 y1 hSa
    have ht0 : Touch (fun _ => False) w5 w5.drew := (Touch.refl _ _).drew
    refine wpTr_b (by simp only [List.getElem?_toArray, List.getElem?_cons_zero, List.getElem?_cons_succ]; rfl) (by simp only [List.getElem?_toArray, List.getElem?_cons_zero, List.getElem?_cons_succ]; rfl) (fun K1 hK1 => ?_) (fun K1 hK1 => ?_)
    · skip
      go_wp2_with fail
      refine (HA.out.2.2.2.1 _).mono ?_
      rintro e v1 ⟨rfl, hn1⟩
      have ht1 : Touch (fun _ => False) w5 v1 := ht0.trans hn1 (fun _ _ h => h)
      clear hn1
      refine hK1 _ _ ⟨hSB.out _ ht1, ?_⟩
      refine wpTr_b (by simp only [List.getElem?_toArray, List.getElem?_cons_zero, List.getElem?_cons_succ]; rfl) (by simp only [List.getElem?_toArray, List.getElem?_cons_zero, List.getElem?_cons_succ]; rfl) (fun K2 hK2 => ?_) (fun K2 hK2 => ?_)
      · skip
        go_wp2_with fail
        refine (HA.out.2.2.2.2.1 _).mono ?_
        rintro e v2 ⟨rfl, hn2⟩
        have ht2 : Touch (fun _ => False) w5 v2 := ht1.trans hn2 (fun _ _ h => h)
        clear hn2
        refine hK2 _ _ ⟨hSB.out _ ht2, ?_⟩
        refine wpTr_b (by simp only [List.getElem?_toArray, List.getElem?_cons_zero, List.getElem?_cons_succ]; rfl) (by simp only [List.getElem?_toArray, List.getElem?_cons_zero, List.getElem?_cons_succ]; rfl) (fun K3 hK3 => ?_) (fun K3 hK3 => ?_)
        · skip
          go_wp2_with fail
          refine (HA.out.2.2.2.2.2.2.2 _).mono ?_
          rintro e v3 ⟨rfl, hn3⟩
          have ht3 : Touch (fun _ => False) w5 v3 := ht2.trans hn3 (fun _ _ h => h)
          clear hn3
          refine hK3 _ _ ⟨hSB.out _ ht3, ?_⟩
          refine wpTr_e (by simp only [List.getElem?_toArray, List.getElem?_cons_zero, List.getElem?_cons_succ]; rfl) (fun K4 hK4 => ?_)
          go_wp2_with fail
          have ht4 := ht3.alloc (.cells #[.int .u64 0, .int .u64 0] 55)
          have hq4 := Blk.new v3 55 #[.int .u64 0, .int .u64 0]
          obtain ⟨v4, hv4⟩ : ∃ z, z = v3.alloc (.cells #[.int .u64 0, .int .u64 0] 55) := ⟨_, rfl⟩
          rw [← hv4] at ht4 hq4 ⊢
          obtain ⟨q, hqq⟩ : ∃ q, q = v3.heap.size := ⟨_, rfl⟩
          rw [← hqq] at hq4 ⊢
          have hl4 : w5.heap.size ≤ q := by have := ht3.size; omega
          clear hv4 hqq
          refine ⟨hSB.out _ ht4, ?_⟩
          refine wpTr_e (by simp only [List.getElem?_toArray, List.getElem?_cons_zero, List.getElem?_cons_succ]; rfl) (fun K5 hK5 => ?_)
          have cc0 := hq4.cell 0
          have cc1 := hq4.cell 1
          simp only [List.getElem?_toArray, List.getElem?_cons_zero, List.getElem?_cons_succ] at cc0 cc1
          have ff := hq4.frozen
          have hb5 := (hq4.set_ 0 (.int .u64 t0)).set_ 1 (.int .u64 t1)
          simp only [List.setIfInBounds_toArray, List.set_cons_zero, List.set_cons_succ] at hb5
          have ht5 := (ht4.setCell (p := ⟨q, 0, none⟩) (.inl hl4) (.int .u64 t0)).setCell (p := ⟨q, 1, none⟩) (.inl hl4) (.int .u64 t1)
          have HE := Lib.hid (And.intro hb5 ht5)
          clear hb5 ht5
          go_wp2_with fail
          try refine ⟨hSB.out _ HE.out.2, wpTr_nil ?_⟩
          try go_wp2_with fail
          go_meet
          exact ⟨q, rfl, HE.out.1, hl4, HE.out.2⟩
        · skip
          go_wp2_with fail
          have ht6 := ht2.alloc (.cells #[.int .u64 0, .int .u64 0] 55)
          have hq6 := Blk.new v2 55 #[.int .u64 0, .int .u64 0]
          obtain ⟨v6, hv6⟩ : ∃ z, z = v2.alloc (.cells #[.int .u64 0, .int .u64 0] 55) := ⟨_, rfl⟩
          rw [← hv6] at ht6 hq6 ⊢
          obtain ⟨q, hqq⟩ : ∃ q, q = v2.heap.size := ⟨_, rfl⟩
          rw [← hqq] at hq6 ⊢
          have hl6 : w5.heap.size ≤ q := by have := ht2.size; omega
          clear hv6 hqq
          refine ⟨hSB.out _ ht6, ?_⟩
          refine wpTr_e (by simp only [List.getElem?_toArray, List.getElem?_cons_zero, List.getElem?_cons_succ]; rfl) (fun K6 hK6 => ?_)
          go_wp2_with fail
          refine (HA.out.2.2.2.2.2.2.2 _).mono ?_
          rintro e v7 ⟨rfl, hn7⟩
          have ht7 : Touch (fun _ => False) w5 v7 := ht6.trans hn7 (fun _ _ h => h)
          have hq7 := hq6.touch hn7 (fun h => h)
          clear hn7
          refine hK6 _ _ ⟨hSB.out _ ht7, ?_⟩
          refine wpTr_e (by simp only [List.getElem?_toArray, List.getElem?_cons_zero, List.getElem?_cons_succ]; rfl) (fun K7 hK7 => ?_)
          have cc0 := hq7.cell 0
          have cc1 := hq7.cell 1
          simp only [List.getElem?_toArray, List.getElem?_cons_zero, List.getElem?_cons_succ] at cc0 cc1
          have ff := hq7.frozen
          have hb8 := (hq7.set_ 0 (.int .u64 t0)).set_ 1 (.int .u64 t1)
          simp only [List.setIfInBounds_toArray, List.set_cons_zero, List.set_cons_succ] at hb8
          have ht8 := (ht7.setCell (p := ⟨q, 0, none⟩) (.inl hl6) (.int .u64 t0)).setCell (p := ⟨q, 1, none⟩) (.inl hl6) (.int .u64 t1)
          have HE := Lib.hid (And.intro hb8 ht8)
          clear hb8 ht8
          go_wp2_with fail
          try refine ⟨hSB.out _ HE.out.2, wpTr_nil ?_⟩
          try go_wp2_with fail
          go_meet
          exact ⟨q, rfl, HE.out.1, hl6, HE.out.2⟩
      · skip
        go_wp2_with fail
        have ht9 := ht1.alloc (.cells #[.int .u64 0, .int .u64 0] 55)
        have hq9 := Blk.new v1 55 #[.int .u64 0, .int .u64 0]
        obtain ⟨v9, hv9⟩ : ∃ z, z = v1.alloc (.cells #[.int .u64 0, .int .u64 0] 55) := ⟨_, rfl⟩
        rw [← hv9] at ht9 hq9 ⊢
        obtain ⟨q, hqq⟩ : ∃ q, q = v1.heap.size := ⟨_, rfl⟩
        rw [← hqq] at hq9 ⊢
        have hl9 : w5.heap.size ≤ q := by have := ht1.size; omega
        clear hv9 hqq
        refine ⟨hSB.out _ ht9, ?_⟩
        refine wpTr_e (by simp only [List.getElem?_toArray, List.getElem?_cons_zero, List.getElem?_cons_succ]; rfl) (fun K8 hK8 => ?_)
        go_wp2_with fail
        refine (HA.out.2.2.2.2.1 _).mono ?_
        rintro e v10 ⟨rfl, hn10⟩
        have ht10 : Touch (fun _ => False) w5 v10 := ht9.trans hn10 (fun _ _ h => h)
        have hq10 := hq9.touch hn10 (fun h => h)
        clear hn10
        refine hK8 _ _ ⟨hSB.out _ ht10, ?_⟩
        refine wpTr_e (by simp only [List.getElem?_toArray, List.getElem?_cons_zero, List.getElem?_cons_succ]; rfl) (fun K9 hK9 => ?_)
        go_wp2_with fail
        refine (HA.out.2.2.2.2.2.2.2 _).mono ?_
        rintro e v11 ⟨rfl, hn11⟩
        have ht11 : Touch (fun _ => False) w5 v11 := ht10.trans hn11 (fun _ _ h => h)
        have hq11 := hq10.touch hn11 (fun h => h)
        clear hn11
        refine hK9 _ _ ⟨hSB.out _ ht11, ?_⟩
        refine wpTr_e (by simp only [List.getElem?_toArray, List.getElem?_cons_zero, List.getElem?_cons_succ]; rfl) (fun K10 hK10 => ?_)
        have cc0 := hq11.cell 0
        have cc1 := hq11.cell 1
        simp only [List.getElem?_toArray, List.getElem?_cons_zero, List.getElem?_cons_succ] at cc0 cc1
        have ff := hq11.frozen
        have hb12 := (hq11.set_ 0 (.int .u64 t0)).set_ 1 (.int .u64 t1)
        simp only [List.setIfInBounds_toArray, List.set_cons_zero, List.set_cons_succ] at hb12
        have ht12 := (ht11.setCell (p := ⟨q, 0, none⟩) (.inl hl9) (.int .u64 t0)).setCell (p := ⟨q, 1, none⟩) (.inl hl9) (.int .u64 t1)
        have HE := Lib.hid (And.intro hb12 ht12)
        clear hb12 ht12
        go_wp2_with fail
        try refine ⟨hSB.out _ HE.out.2, wpTr_nil ?_⟩
        try go_wp2_with fail
        go_meet
        exact ⟨q, rfl, HE.out.1, hl9, HE.out.2⟩
    · skip
      go_wp2_with fail
      have ht13 : Touch (fun _ => False) w5 (w5.alloc (.cells #[.int .u64 0, .int .u64 0] 55)).drew := ((Touch.refl _ w5).alloc _).drew
      have hq13 : Blk (w5.alloc (.cells #[.int .u64 0, .int .u64 0] 55)).drew w5.heap.size 55 #[.int .u64 0, .int .u64 0] := Blk.new _ _ _
      obtain ⟨v13, hv13⟩ : ∃ z, z = (w5.alloc (.cells #[.int .u64 0, .int .u64 0] 55)).drew := ⟨_, rfl⟩
      rw [← hv13] at ht13 hq13 ⊢
      obtain ⟨q, hqq⟩ : ∃ q, q = w5.heap.size := ⟨_, rfl⟩
      rw [← hqq] at hq13 ⊢
      have hl13 : w5.heap.size ≤ q := by have := ht0.size; omega
      clear hv13 hqq
      refine ⟨hSB.out _ ht13, ?_⟩
      refine wpTr_e (by simp only [List.getElem?_toArray, List.getElem?_cons_zero, List.getElem?_cons_succ]; rfl) (fun K11 hK11 => ?_)
      go_wp2_with fail
      refine (HA.out.2.2.2.1 _).mono ?_
      rintro e v14 ⟨rfl, hn14⟩
      have ht14 : Touch (fun _ => False) w5 v14 := ht13.trans hn14 (fun _ _ h => h)
      have hq14 := hq13.touch hn14 (fun h => h)
      clear hn14
      refine hK11 _ _ ⟨hSB.out _ ht14, ?_⟩
      refine wpTr_e (by simp only [List.getElem?_toArray, List.getElem?_cons_zero, List.getElem?_cons_succ]; rfl) (fun K12 hK12 => ?_)
      go_wp2_with fail
      refine (HA.out.2.2.2.2.1 _).mono ?_
      rintro e v15 ⟨rfl, hn15⟩
      have ht15 : Touch (fun _ => False) w5 v15 := ht14.trans hn15 (fun _ _ h => h)
      have hq15 := hq14.touch hn15 (fun h => h)
      clear hn15
      refine hK12 _ _ ⟨hSB.out _ ht15, ?_⟩
      refine wpTr_e (by simp only [List.getElem?_toArray, List.getElem?_cons_zero, List.getElem?_cons_succ]; rfl) (fun K13 hK13 => ?_)
      go_wp2_with fail
      refine (HA.out.2.2.2.2.2.2.2 _).mono ?_
      rintro e v16 ⟨rfl, hn16⟩
      have ht16 : Touch (fun _ => False) w5 v16 := ht15.trans hn16 (fun _ _ h => h)
      have hq16 := hq15.touch hn16 (fun h => h)
      clear hn16
      refine hK13 _ _ ⟨hSB.out _ ht16, ?_⟩
      refine wpTr_e (by simp only [List.getElem?_toArray, List.getElem?_cons_zero, List.getElem?_cons_succ]; rfl) (fun K14 hK14 => ?_)
      have cc0 := hq16.cell 0
      have cc1 := hq16.cell 1
      simp only [List.getElem?_toArray, List.getElem?_cons_zero, List.getElem?_cons_succ] at cc0 cc1
      have ff := hq16.frozen
      have hb17 := (hq16.set_ 0 (.int .u64 t0)).set_ 1 (.int .u64 t1)
      simp only [List.setIfInBounds_toArray, List.set_cons_zero, List.set_cons_succ] at hb17
      have ht17 := (ht16.setCell (p := ⟨q, 0, none⟩) (.inl hl13) (.int .u64 t0)).setCell (p := ⟨q, 1, none⟩) (.inl hl13) (.int .u64 t1)
      have HE := Lib.hid (And.intro hb17 ht17)
      clear hb17 ht17
      go_wp2_with fail
      try refine ⟨hSB.out _ HE.out.2, wpTr_nil ?_⟩
      try go_wp2_with fail
      go_meet
      exact ⟨q, rfl, HE.out.1, hl13, HE.out.2⟩
  case rest =>
  obtain ⟨q6, rfl, hq, hql, hT⟩ := hcut
  have H6 := Lib.hid (And.intro (H5.out.1.touch hT (fun h => h)) (And.intro (H5.out.2.1.touch hT (fun h => h)) (And.intro (H5.out.2.2.1.touch hT (fun h => h)) (And.intro (H5.out.2.2.2.1.touch hT (fun h => h)) (And.intro hq (And.intro (H5.out.2.2.2.2.1.trans hT (fun _ _ h => h)) (And.intro H5.out.2.2.2.2.2.1 (And.intro H5.out.2.2.2.2.2.2 (show w.heap.size ≤ q6 by have := H5.out.2.2.2.2.1.size; omega)))))))))
  clear hq hql hT H5
  obtain ⟨w6, rfl⟩ : ∃ z : World, z = wc := ⟨_, rfl⟩
  have hu := H6.out.1.cell 2
  have hv := H6.out.2.1.cell 1
  simp only [List.getElem?_toArray, List.getElem?_cons_zero, List.getElem?_cons_succ] at hu hv
  go_wp2_with fail
  refine (HA.out.2.2.2.2.2.1 _).mono ?_
  rintro e w7 ⟨rfl, hT7⟩
  clear hu hv
  go_upto_region 5 with fail
  obtain ⟨q7, hq7⟩ : ∃ q, q = w7.heap.size := ⟨_, rfl⟩
  have hb7 := Blk.new w7 55 #[.int .u64 f0, .int .u64 f1]
  have hT8 : Touch (fun _ => False) w6 (w7.alloc (.cells #[.int .u64 f0, .int .u64 f1] 55)) := hT7.alloc _
  have hq7l : w.heap.size ≤ q7 := by have := H6.out.2.2.2.2.2.1.size; have := hT7.size; omega
  obtain ⟨w8, hw8⟩ : ∃ z, z = w7.alloc (.cells #[.int .u64 f0, .int .u64 f1] 55) := ⟨_, rfl⟩
  rw [← hw8, ← hq7] at hb7
  rw [← hw8] at hT8 ⊢
  rw [← hq7]
  have H8 := Lib.hid (And.intro (H6.out.2.2.1.touch hT8 (fun h => h)) (And.intro (H6.out.2.2.2.1.touch hT8 (fun h => h)) (And.intro (H6.out.2.2.2.2.1.touch hT8 (fun h => h)) (And.intro hb7 (H6.out.2.2.2.2.2.1.trans hT8 (fun _ _ h => h))))))
  clear hw8 hT8 hb7 hT7 H6 hq7 hq7l
  have c4a := H8.out.1.cell 0
  simp only [List.getElem?_toArray, List.getElem?_cons_zero] at c4a
  go_upto_region 7 with fail
  clear c4a
  obtain ⟨q9, hq9⟩ : ∃ q, q = w8.heap.size := ⟨_, rfl⟩
  have hb9 := Blk.new w8 73 #[.int .u64 a0, .int .u64 0, .int .u64 0, .int .u64 0]
  have hT9 := H8.out.2.2.2.2.alloc (.cells #[.int .u64 a0, .int .u64 0, .int .u64 0, .int .u64 0] 73)
  have g4 := H8.out.1.alloc (.cells #[.int .u64 a0, .int .u64 0, .int .u64 0, .int .u64 0] 73)
  have g5 := H8.out.2.1.alloc (.cells #[.int .u64 a0, .int .u64 0, .int .u64 0, .int .u64 0] 73)
  have g6 := H8.out.2.2.1.alloc (.cells #[.int .u64 a0, .int .u64 0, .int .u64 0, .int .u64 0] 73)
  have g7 := H8.out.2.2.2.1.alloc (.cells #[.int .u64 a0, .int .u64 0, .int .u64 0, .int .u64 0] 73)
  have n4 : q4 ≠ q9 := by have := H8.out.1.lt; omega
  have n5 : q5 ≠ q9 := by have := H8.out.2.1.lt; omega
  have n6 : q6 ≠ q9 := by have := H8.out.2.2.1.lt; omega
  have n7 : q7 ≠ q9 := by have := H8.out.2.2.2.1.lt; omega
  have hq9l : w.heap.size ≤ q9 := by have := H8.out.2.2.2.2.size; omega
  obtain ⟨w9, hw9⟩ : ∃ z, z = w8.alloc (.cells #[.int .u64 a0, .int .u64 0, .int .u64 0, .int .u64 0] 73) := ⟨_, rfl⟩
  rw [← hw9, ← hq9] at hb9
  rw [← hw9] at hT9 g4 g5 g6 g7 ⊢
  rw [← hq9]
  have H9 := Lib.hid (And.intro g4 (And.intro g5 (And.intro g6 (And.intro g7 (And.intro hb9 (And.intro hT9 hq9l))))))
  have HN := Lib.hid (And.intro n4 (And.intro n5 (And.intro n6 n7)))
  clear hw9 hb9 hT9 g4 g5 g6 g7 n4 n5 n6 n7 hq9 hq9l H8
  have r0 := H9.out.2.1.cell 0
  have r1 := H9.out.1.cell 1
  have f9 := H9.out.2.2.2.2.1.frozen
  have x9 := H9.out.2.2.2.2.1.cell 1
  simp only [List.getElem?_toArray, List.getElem?_cons_zero, List.getElem?_cons_succ] at r0 r1 x9
  go_upto_region 8 with fail
  clear r0 r1 f9 x9
  have hb := H9.out.2.2.2.2.1.set_ 1 (.int .u64 u1)
  simp only [List.setIfInBounds_toArray, List.set_cons_zero, List.set_cons_succ] at hb
  have hT := H9.out.2.2.2.2.2.1.setCell (p := ⟨q9, 1, none⟩) (.inl H9.out.2.2.2.2.2.2) (.int .u64 u1)
  have g4 := H9.out.1.far (p := ⟨q9, 1, none⟩) HN.out.1 (.int .u64 u1)
  have g5 := H9.out.2.1.far (p := ⟨q9, 1, none⟩) HN.out.2.1 (.int .u64 u1)
  have g6 := H9.out.2.2.1.far (p := ⟨q9, 1, none⟩) HN.out.2.2.1 (.int .u64 u1)
  have g7 := H9.out.2.2.2.1.far (p := ⟨q9, 1, none⟩) HN.out.2.2.2 (.int .u64 u1)
  obtain ⟨w10, hw10⟩ : ∃ z, z = w9.setCell ⟨q9, 1, none⟩ (.int .u64 u1) := ⟨_, rfl⟩
  rw [← hw10] at hb hT g4 g5 g6 g7 ⊢
  have H10 := Lib.hid (And.intro g4 (And.intro g5 (And.intro g6 (And.intro g7 (And.intro hb (And.intro hT H9.out.2.2.2.2.2.2))))))
  clear hw10 hb hT g4 g5 g6 g7 H9
  have r0 := H10.out.2.2.1.cell 0
  have r1 := H10.out.2.1.cell 1
  have f9 := H10.out.2.2.2.2.1.frozen
  have x9 := H10.out.2.2.2.2.1.cell 2
  simp only [List.getElem?_toArray, List.getElem?_cons_zero, List.getElem?_cons_succ] at r0 r1 x9
  go_upto_region 9 with fail
  clear r0 r1 f9 x9
  have hb := H10.out.2.2.2.2.1.set_ 2 (.int .u64 u2)
  simp only [List.setIfInBounds_toArray, List.set_cons_zero, List.set_cons_succ] at hb
  have hT := H10.out.2.2.2.2.2.1.setCell (p := ⟨q9, 2, none⟩) (.inl H10.out.2.2.2.2.2.2) (.int .u64 u2)
  have g4 := H10.out.1.far (p := ⟨q9, 2, none⟩) HN.out.1 (.int .u64 u2)
  have g5 := H10.out.2.1.far (p := ⟨q9, 2, none⟩) HN.out.2.1 (.int .u64 u2)
  have g6 := H10.out.2.2.1.far (p := ⟨q9, 2, none⟩) HN.out.2.2.1 (.int .u64 u2)
  have g7 := H10.out.2.2.2.1.far (p := ⟨q9, 2, none⟩) HN.out.2.2.2 (.int .u64 u2)
  obtain ⟨w11, hw11⟩ : ∃ z, z = w10.setCell ⟨q9, 2, none⟩ (.int .u64 u2) := ⟨_, rfl⟩
  rw [← hw11] at hb hT g4 g5 g6 g7 ⊢
  have H11 := Lib.hid (And.intro g4 (And.intro g5 (And.intro g6 (And.intro g7 (And.intro hb (And.intro hT H10.out.2.2.2.2.2.2))))))
  clear hw11 hb hT g4 g5 g6 g7 H10
  have r0 := H11.out.2.2.2.1.cell 0
  have r1 := H11.out.2.2.1.cell 1
  have f9 := H11.out.2.2.2.2.1.frozen
  have x9 := H11.out.2.2.2.2.1.cell 3
  simp only [List.getElem?_toArray, List.getElem?_cons_zero, List.getElem?_cons_succ] at r0 r1 x9
  go_upto_region 10 with fail
  clear r0 r1 f9 x9
  have hb := H11.out.2.2.2.2.1.set_ 3 (.int .u64 u3)
  simp only [List.setIfInBounds_toArray, List.set_cons_zero, List.set_cons_succ] at hb
  have hT := H11.out.2.2.2.2.2.1.setCell (p := ⟨q9, 3, none⟩) (.inl H11.out.2.2.2.2.2.2) (.int .u64 u3)
  have g4 := H11.out.1.far (p := ⟨q9, 3, none⟩) HN.out.1 (.int .u64 u3)
  have g5 := H11.out.2.1.far (p := ⟨q9, 3, none⟩) HN.out.2.1 (.int .u64 u3)
  have g6 := H11.out.2.2.1.far (p := ⟨q9, 3, none⟩) HN.out.2.2.1 (.int .u64 u3)
  have g7 := H11.out.2.2.2.1.far (p := ⟨q9, 3, none⟩) HN.out.2.2.2 (.int .u64 u3)
  obtain ⟨w12, hw12⟩ : ∃ z, z = w11.setCell ⟨q9, 3, none⟩ (.int .u64 u3) := ⟨_, rfl⟩
  rw [← hw12] at hb hT g4 g5 g6 g7 ⊢
  have H12 := Lib.hid (And.intro g4 (And.intro g5 (And.intro g6 (And.intro g7 (And.intro hb (And.intro hT H11.out.2.2.2.2.2.2))))))
  clear hw12 hb hT g4 g5 g6 g7 H11
  have rr0 := H12.out.2.2.2.2.1.cell 0
  have rr1 := H12.out.2.2.2.2.1.cell 1
  have rr2 := H12.out.2.2.2.2.1.cell 2
  have hp := HB.out.touch H12.out.2.2.2.2.2.1 (fun h => h)
  have y0 := hp.cell 0
  have y4 := hp.cell 4
  have y5 := hp.cell 5
  have y6 := hp.cell 6
  have fp := hp.frozen
  simp only [List.getElem?_toArray, List.getElem?_cons_zero, List.getElem?_cons_succ] at rr0 rr1 rr2 y0 y4 y5 y6
  have ee1 := HM.out.1
  have HP := Lib.hid hp
  clear hp
  go_upto_region 11 with fail
  clear rr0 rr1 rr2 y0 y4 y5 y6 fp ee1
  have hpq : q9 ≠ p := by have := H12.out.2.2.2.2.2.2; omega
  have hp := ((HP.out.set_ 4 (.int .u64 a0)).set_ 5 (.int .u64 u1)).set_ 6 (.int .u64 m2)
  simp only [List.setIfInBounds_toArray, List.set_cons_zero, List.set_cons_succ] at hp
  have hT := Touch.setCell (S := fun b => b = p) (p := ⟨p, 6, none⟩) (Touch.setCell (S := fun b => b = p) (p := ⟨p, 5, none⟩) (Touch.setCell (S := fun b => b = p) (p := ⟨p, 4, none⟩) (H12.out.2.2.2.2.2.1.weaken (fun _ _ h => h.elim)) (.inr rfl) (.int .u64 a0)) (.inr rfl) (.int .u64 u1)) (.inr rfl) (.int .u64 m2)
  have hb := ((H12.out.2.2.2.2.1.far (p := ⟨p, 4, none⟩) hpq (.int .u64 a0)).far (p := ⟨p, 5, none⟩) hpq (.int .u64 u1)).far (p := ⟨p, 6, none⟩) hpq (.int .u64 m2)
  obtain ⟨w13, hw13⟩ : ∃ z, z = ((w12.setCell ⟨p, 4, none⟩ (.int .u64 a0)).setCell ⟨p, 5, none⟩ (.int .u64 u1)).setCell ⟨p, 6, none⟩ (.int .u64 m2) := ⟨_, rfl⟩
  rw [← hw13] at hp hT hb ⊢
  have rr2 := hb.cell 2
  have rr3 := hb.cell 3
  simp only [List.getElem?_toArray, List.getElem?_cons_zero, List.getElem?_cons_succ] at rr2 rr3
  have ee2 := HM.out.2.1
  have H13 := Lib.hid (And.intro hp hT)
  clear hw13 hp hT hb HP H12
  go_upto_region 12 with fail
  clear rr2 rr3 ee2
  have hp := H13.out.1.alloc (.cells #[.int .u64 n0, .int .u64 u3] 55)
  have hT := H13.out.2.alloc (.cells #[.int .u64 n0, .int .u64 u3] 55)
  have hb := Blk.new w13 55 #[.int .u64 n0, .int .u64 u3]
  obtain ⟨w14, hw14⟩ : ∃ z, z = w13.alloc (.cells #[.int .u64 n0, .int .u64 u3] 55) := ⟨_, rfl⟩
  rw [← hw14] at hp hT hb ⊢
  obtain ⟨qa, hqa⟩ : ∃ q, q = w13.heap.size := ⟨_, rfl⟩
  rw [← hqa] at hb ⊢
  have hqap : qa ≠ p := by have := H13.out.1.lt; omega
  have rr0 := hb.cell 0
  have rr1 := hb.cell 1
  simp only [List.getElem?_toArray, List.getElem?_cons_zero, List.getElem?_cons_succ] at rr0 rr1
  have H14 := Lib.hid (And.intro hp (And.intro hT (And.intro hb hqap)))
  clear hw14 hp hT hb hqa hqap H13
  go_wp2_with fail
  refine (HD.out.1 w14 H14.out.1).mono ?_
  rintro e w15 ⟨rfl, hp15, hT15⟩
  clear rr0 rr1
  have hb := H14.out.2.2.1.touch hT15 H14.out.2.2.2
  have rr0 := hb.cell 0
  have rr1 := hb.cell 1
  simp only [List.getElem?_toArray, List.getElem?_cons_zero, List.getElem?_cons_succ] at rr0 rr1
  have ee3 := HM.out.2.2.1
  have ee4 := HM.out.2.2.2
  have H15 := Lib.hid (And.intro hp15 (H14.out.2.1.trans hT15 (fun _ _ h => h)))
  clear hp15 hT15 hb H14
  go_wp2_with fail
  refine (HD.out.2 w15 H15.out.1).mono ?_
  rintro e w16 ⟨rfl, hp16, hT16⟩
  have H16 := Lib.hid (And.intro hp16 (H15.out.2.trans hT16 (fun _ _ h => h)))
  clear hp16 hT16 H15 rr0 rr1 ee3 ee4
  go_wp2
  go_end0
  exact ⟨rfl, H16.out.1, H16.out.2⟩
end Go.Proofs.Ytelmjlfhmbicjaa
