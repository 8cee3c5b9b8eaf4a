/- poly: Sum of a state in which no byte waits. -/
import Derived.Test.YtelmjlfhmbicjaaAB
import Derived.Deep.DeepCutAuto
namespace Go.Proofs.Ytelmjlfhmbicjaa
open Go.RowKit
set_option linter.unusedVariables false

/-- The sum's two numbers before s is added. -/
def sb1 (h : N3) : Nat := if h.1 < 18446744073709551611 + 0 then 1 else 0
def sa (h : N3) : Nat := (h.1 + 18446744073709551616 - 18446744073709551611 - 0) % 18446744073709551616
def sb2 (h : N3) : Nat := if h.2.1 < 18446744073709551615 + sb1 h then 1 else 0
def sb (h : N3) : Nat := (h.2.1 + 18446744073709551616 - 18446744073709551615 - sb1 h) % 18446744073709551616
def sb3 (h : N3) : Nat := if h.2.2 < 3 + sb2 h then 1 else 0
def sn0 (h : N3) : Nat := if sb3 h = 0 then sa h else h.1
def sn1 (h : N3) : Nat := if sb3 h = 0 then sb h else h.2.1
def slo (h : N3) (s0 : Nat) : Nat := (sn0 h + s0) % 18446744073709551616
def shi (h : N3) (s0 s1 : Nat) : Nat := (sn1 h + s1 + (sn0 h + s0) / 18446744073709551616) % 18446744073709551616
def sumF (h : N3) (s0 s1 : Nat) : List Int := copyF (copyF (List.replicate 16 0) 0 (leL (slo h s0) 8)) 8 (leL (shi h s0 s1) 8)
theorem sumF_len (h : N3) (s0 s1 : Nat) : (sumF h s0 s1).length = 16 := by
  have h1 : (copyF (List.replicate 16 (0 : Int)) 0 (leL (slo h s0) 8)).length = 16 := by rw [copyF_len _ _ _ (by rw [leL_len]; simp)]; simp
  rw [sumF, copyF_len _ _ _ (by rw [leL_len, h1]; omega), h1]

theorem sl23l (W : World) (g l : Nat) (h1 : l < 16) : (Instr.sliceAt 23 (.pointer (some ⟨g, 0, none⟩)) (some (.int .i64 l)) none none).run Try.prog W = .ok (.slice (some ⟨g, l, none⟩) (16 - l) (16 - l)) W := by
  have hl : Try.prog.arrayLen 23 = 16 := by kernel_rfl
  have he : Try.prog.elem 23 = 5 := by kernel_rfl
  rw [run_sliceAt_array_l W 23 ⟨g, 0, none⟩ (by kernel_rfl) .i64 l (by omega) (by rw [hl]; omega), he, sz5, hl]
  simp only [Result.andThen_ok, slicedAt]
  have e2 : (l : Int).toNat = l := by omega
  rw [e2, if_neg (by omega), Addr.add_mid]
  simp

set_option maxRecDepth 100000 in
set_option maxHeartbeats 2000000 in
theorem sum_any (w : World) (B0 r0 r1 s0 s1 : Nat) (p : Nat) (h : N3) (hs0 : s0 < 18446744073709551616) (hp : Pol B0 r0 r1 (.int .u64 s0) (.int .u64 s1) w p h []) :
    Calls Try.prog 9 #[.pointer (some ⟨p, 0, none⟩)] w fun e w' => e = .returned (.agg (U8A (sumF h s0 s1))) ∧ Touch (fun _ => False) w w' := by
  obtain ⟨h0, h1, h2⟩ := h
  obtain ⟨_, ⟨l0, l1, l2⟩, A, cap, hb, _, _⟩ := hp
  simp only [polA, List.length_nil] at hb l0 l1 l2
  have hn0 : sn0 (h0, h1, h2) < 18446744073709551616 := by
    unfold sn0
    split
    · unfold sa; omega
    · exact l0
  have q1 : ∀ W, (callFunc 24 #[.int .u64 h0, .int .u64 18446744073709551611, .int .u64 0]).run Try.prog W = .ok (.value (.tuple #[.int .u64 ((sa (h0, h1, h2) : Nat) : Int), .int .u64 ((sb1 (h0, h1, h2) : Nat) : Int)])) W := fun W => sub64_eq h0 18446744073709551611 0 (by omega) W
  have lb1 : sb1 (h0, h1, h2) ≤ 1 := by unfold sb1; split <;> omega
  have q2 : ∀ W, (callFunc 24 #[.int .u64 h1, .int .u64 18446744073709551615, .int .u64 (sb1 (h0, h1, h2))]).run Try.prog W = .ok (.value (.tuple #[.int .u64 ((sb (h0, h1, h2) : Nat) : Int), .int .u64 ((sb2 (h0, h1, h2) : Nat) : Int)])) W := fun W => sub64_eq h1 18446744073709551615 _ lb1 W
  have lb2 : sb2 (h0, h1, h2) ≤ 1 := by unfold sb2; split <;> omega
  have q3 : ∀ W, (callFunc 24 #[.int .u64 h2, .int .u64 3, .int .u64 (sb2 (h0, h1, h2))]).run Try.prog W = .ok (.value (.tuple #[.int .u64 (((h2 + 18446744073709551616 - 3 - sb2 (h0, h1, h2)) % 18446744073709551616 : Nat) : Int), .int .u64 ((sb3 (h0, h1, h2) : Nat) : Int)])) W := fun W => sub64_eq h2 3 _ lb2 W
  have hplus := fun W => plus_any W (sn0 (h0, h1, h2)) (sn1 (h0, h1, h2)) s0 s1 hn0 hs0
  obtain ⟨S0, hS⟩ : ∃ S, S = sumF (h0, h1, h2) s0 s1 := ⟨_, rfl⟩
  have hSs : S0 = copyF (copyF (List.replicate 16 0) 0 (leL (slo (h0, h1, h2) s0) 8)) 8 (leL (shi (h0, h1, h2) s0 s1) 8) := by rw [hS, sumF]
  rw [← hS]
  have hlo : (sn0 (h0, h1, h2) + s0) % 18446744073709551616 = slo (h0, h1, h2) s0 := rfl
  have hhi : (sn1 (h0, h1, h2) + s1 + (sn0 (h0, h1, h2) + s0) / 18446744073709551616) % 18446744073709551616 = shi (h0, h1, h2) s0 s1 := rfl
  rw [hlo, hhi] at hplus
  have hsn0 : sn0 (h0, h1, h2) = if sb3 (h0, h1, h2) = 0 then sa (h0, h1, h2) else h0 := rfl
  have hsn1 : sn1 (h0, h1, h2) = if sb3 (h0, h1, h2) = 0 then sb (h0, h1, h2) else h1 := rfl
  clear hS hlo hhi hn0 lb1 lb2
  generalize sa (h0, h1, h2) = a at *
  generalize sb (h0, h1, h2) = b at *
  generalize sb1 (h0, h1, h2) = k1 at *
  generalize sb2 (h0, h1, h2) = k2 at *
  generalize sb3 (h0, h1, h2) = k3 at *
  generalize sn0 (h0, h1, h2) = n0 at *
  generalize sn1 (h0, h1, h2) = n1 at *
  generalize slo (h0, h1, h2) s0 = lo at *
  generalize shi (h0, h1, h2) s0 s1 = hi at *
  generalize (h2 + 18446744073709551616 - 3 - k2) % 18446744073709551616 = n2 at *
  obtain ⟨W, hW⟩ : ∃ W, W = ((w.alloc (Obj.cells (U8A (List.replicate 16 0)) 23)).alloc (Obj.cells (U8A (List.replicate 16 0)) 23)) := ⟨_, rfl⟩
  have hTW : Touch (fun _ => False) w W := by rw [hW]; exact ((Touch.refl _ w).alloc _).alloc _
  have hbR : Blk W w.heap.size 23 (U8A (List.replicate 16 0)) := by rw [hW]; exact (Blk.new w 23 _).alloc _
  have hbO : Blk W (w.heap.size + 1) 23 (U8A (List.replicate 16 0)) := by
    have := Blk.new (w.alloc (Obj.cells (U8A (List.replicate 16 0)) 23)) 23 (U8A (List.replicate 16 0))
    rw [World.size_alloc] at this
    rw [hW]; exact this
  have hbW := hb.touch hTW (fun h => h)
  obtain ⟨g, hg⟩ : ∃ g, g = w.heap.size := ⟨_, rfl⟩
  rw [← hg] at hbR hbO
  have H := Lib.hid (And.intro hbR (And.intro hbO (And.intro hTW (And.intro hg hbW))))
  have HP := Lib.hid (And.intro hplus (And.intro hSs (And.intro hsn0 hsn1)))
  have c0 := hbW.cell 0
  have c1 := hbW.cell 1
  have c2 := hbW.cell 2
  have c3 := hbW.cell 3
  have c4 := hbW.cell 4
  have c5 := hbW.cell 5
  have c6 := hbW.cell 6
  have c7 := hbW.cell 7
  simp only [List.getElem?_toArray, List.getElem?_cons_succ, List.getElem?_cons_zero] at c0 c1 c2 c3 c4 c5 c6 c7
  go_enter Try.func9, Try.ntmps9
  go_upto_region 2 with fail
  refine Eq.mp (congrArg (fun x => Code.wp _ _ _ _ x) hW) ?_
  rw [← hg]
  clear hW hTW hbR hbO hbW hb hg hplus hSs hsn0 hsn1
  go_upto_region 5 with fail
  clear c0 c1 c2 c3 c4 c5 c6 c7
  have hb4 := Blk.new W 59 #[.int .u64 r0, .int .u64 r1, .int .u64 s0, .int .u64 s1, .int .u64 h0, .int .u64 h1, .int .u64 h2, .slice A 0 cap]
  have hT4 : Touch (fun _ => False) W (W.alloc (Obj.cells #[.int .u64 r0, .int .u64 r1, .int .u64 s0, .int .u64 s1, .int .u64 h0, .int .u64 h1, .int .u64 h2, .slice A 0 cap] 59)) := (Touch.refl _ W).alloc _
  obtain ⟨w4, hw4⟩ : ∃ z, z = W.alloc (Obj.cells #[.int .u64 r0, .int .u64 r1, .int .u64 s0, .int .u64 s1, .int .u64 h0, .int .u64 h1, .int .u64 h2, .slice A 0 cap] 59) := ⟨_, rfl⟩
  rw [← hw4] at hb4 hT4 ⊢
  obtain ⟨t, ht⟩ : ∃ t, t = W.heap.size := ⟨_, rfl⟩
  rw [← ht] at hb4 ⊢
  have htl : g + 1 < t := by have := H.out.2.1.lt; omega
  have H4 := Lib.hid (And.intro hb4 (And.intro hT4 (And.intro htl ht)))
  have c4 := hb4.cell 4
  have c5 := hb4.cell 5
  have c6 := hb4.cell 6
  have c7 := hb4.cell 7
  have f4 := hb4.frozen
  simp only [List.getElem?_toArray, List.getElem?_cons_succ, List.getElem?_cons_zero] at c4 c5 c6 c7
  clear hw4 hb4 hT4 ht htl
  go_upto_region 13 with fail
  go_upto_if 59 with fail
  go_cut [6, 7, 8] (fun _ _ _ wx => Blk wx t 59 #[.int .u64 r0, .int .u64 r1, .int .u64 s0, .int .u64 s1, .int .u64 n0, .int .u64 n1, .int .u64 h2, .slice A 0 cap] ∧ Touch (fun z => z = t) w4 wx)
  case first =>
    by_cases hk3 : k3 = 0
    · have e0 : n0 = a := by rw [HP.out.2.2.1, if_pos hk3]
      have e1 : n1 = b := by rw [HP.out.2.2.2, if_pos hk3]
      have hb5 := (H4.out.1.set_ 4 (.int .u64 a)).set_ 5 (.int .u64 b)
      simp only [List.setIfInBounds_toArray, List.set_cons_zero, List.set_cons_succ] at hb5
      have hT5 := ((Touch.refl (fun z => z = t) w4).setCell (p := ⟨t, 4, none⟩) (.inr rfl) (.int .u64 a)).setCell (p := ⟨t, 5, none⟩) (.inr rfl) (.int .u64 b)
      rw [← e0, ← e1] at hb5 hT5
      have H5 := Lib.hid (And.intro hb5 hT5)
      have hk3i : (k3 : Int) = 0 := by omega
      rw [← e0, ← e1]
      clear e0 e1 hb5 hT5
      subst hk3
      go_wp2
      go_meet
      exact H5.out
    · have e0 : n0 = h0 := by rw [HP.out.2.2.1, if_neg hk3]
      have e1 : n1 = h1 := by rw [HP.out.2.2.2, if_neg hk3]
      have hb5 := H4.out.1
      rw [← e0, ← e1] at hb5
      have H5 := Lib.hid hb5
      have hk3i : ¬ (k3 : Int) = 0 := by omega
      clear e0 e1 hb5
      go_wp2
      go_meet
      exact ⟨H5.out, Touch.refl _ _⟩
  case rest =>
  obtain ⟨w5, rfl⟩ : ∃ z : World, z = wc := ⟨_, rfl⟩
  have c4 := hcut.1.cell 4
  have c5 := hcut.1.cell 5
  have c2 := hcut.1.cell 2
  have c3 := hcut.1.cell 3
  simp only [List.getElem?_toArray, List.getElem?_cons_succ, List.getElem?_cons_zero] at c4 c5 c2 c3
  have H5 := Lib.hid hcut
  clear hcut c6 c7 f4
  go_wp2_with fail
  refine (HP.out.1 _).mono ?_
  rintro e w6 ⟨rfl, hT6⟩
  clear c2 c3 c4 c5
  go_upto_region 16 with fail
  obtain ⟨q, hq⟩ : ∃ q, q = w6.heap.size := ⟨_, rfl⟩
  have hbq := Blk.new w6 55 #[.int .u64 lo, .int .u64 hi]
  have hT7 : Touch (fun z => z = t) w4 (w6.alloc (.cells #[.int .u64 lo, .int .u64 hi] 55)) := (H5.out.2.trans hT6 (fun _ _ h => h.elim)).alloc _
  obtain ⟨w7, hw7⟩ : ∃ z, z = w6.alloc (.cells #[.int .u64 lo, .int .u64 hi] 55) := ⟨_, rfl⟩
  rw [← hw7, ← hq] at hbq
  rw [← hw7] at hT7 ⊢
  rw [← hq]
  have hTw7 : Touch (fun _ => False) W w7 := H4.out.2.1.trans hT7 (fun z hz e => by have := H4.out.2.2.2; omega)
  have ho7 := H.out.2.1.touch hTw7 (fun h => h)
  have hr7 := H.out.1.touch hTw7 (fun h => h)
  have hgq : g + 1 < q := by have := H4.out.1.lt; have := H5.out.2.size; have := hT6.size; have := H4.out.2.2.1; omega
  have H7 := Lib.hid (And.intro hbq (And.intro hTw7 (And.intro ho7 (And.intro hr7 hgq))))
  clear hw7 hbq hT7 hTw7 ho7 hr7 hgq hq hT6
  obtain ⟨Z, hZ⟩ : ∃ Z : List Int, Z = List.replicate 16 0 := ⟨_, rfl⟩
  rw [← hZ] at H7
  obtain ⟨S, HS⟩ : ∃ S : World → Prop, Hid (∀ w', S w' ↔ w'.cell? ⟨q, 0, none⟩ = some (.int .u64 lo)) := ⟨_, fun _ => Iff.rfl⟩
  refine wp_region_tr S (.q 0 (.q 1 (.q 2 (.e 3 (.e 4 .nil))))) (by kernel_rfl) (by kernel_rfl) ((HS.out _).2 (by have := H7.out.1.drew.cell 0; simpa using this)) (fun hne => ?_)
  have z0 : ∀ x : SW S, (Instr.sliceAt 23 (.pointer (some ⟨g + 1, 0, none⟩)) none none none).run Try.prog x.w = .ok (.slice (some ⟨g + 1, 0, none⟩) 16 16) x.w := fun x => sl23a x.w (g + 1)
  have z1 : ∀ x : SW S, x.w.cell? ⟨q, 0, none⟩ = some (.int .u64 lo) := fun x => (HS.out _).1 x.ok
  repeat (refine wpTr_q (by simp only [List.getElem?_toArray, List.getElem?_cons_zero, List.getElem?_cons_succ]; rfl) ?_; (first | go_big_quiet_skip | (go_big_quiet_want; go_big_quiet_op; go_big_quiet_on)); refine wpQuiet_nil ?_)
  clear z0 z1
  refine wpTr_e (by simp only [List.getElem?_toArray, List.getElem?_cons_zero, List.getElem?_cons_succ]; rfl) (fun K1 hK1 => ?_)
  go_wp2_with fail
  refine (little_any _ _ 8 (by omega)).mono ?_
  rintro e w8 ⟨rfl, hb8, hT8⟩
  have hT78 : Touch (fun _ => False) w7 w8 := ((Touch.refl _ w7).drew).trans hT8 (fun _ _ h => h)
  have ho8 := H7.out.2.2.1.touch hT78 (fun h => h)
  have hq8 := H7.out.1.touch hT78 (fun h => h)
  refine hK1 _ _ ⟨(HS.out _).2 (by have := hq8.cell 0; simpa using this), ?_⟩
  refine wpTr_e (by simp only [List.getElem?_toArray, List.getElem?_cons_zero, List.getElem?_cons_succ]; rfl) (fun K2 hK2 => ?_)
  obtain ⟨bs, hbs⟩ : ∃ bs, bs = leL lo 8 := ⟨_, rfl⟩
  have hbl : bs.length = 8 := by rw [hbs, leL_len]
  rw [← hbs] at hb8
  have HBS := Lib.hid (And.intro hbs hbl)
  clear hbs
  have hZl : Z.length = 16 := by rw [hZ]; simp
  refine wp_copy_u8 (.tmp 76) (.tmp 79) rfl (g + 1) 0 16 16 ⟨w7.drew.heap.size + 1, 0, none⟩ 8 8 rfl rfl 23 Z bs ho8 (by rw [hbl]; rfl) (fun k u hu => ?_) (by omega) ?_
  · have hk : k < bs.length := by
      rcases Nat.lt_or_ge k bs.length with h | h
      · exact h
      · rw [List.getElem?_eq_none (by simpa using h)] at hu; cases hu
    rw [Addr.add_mid, hb8.cell, Nat.zero_add, U8A_get hk, ← hu, u8_get bs k hk]
  have hb9 := ho8.row (U8A (copyF Z 0 bs))
  have hT9 : Touch (fun z => z = g + 1) w7 (w8.setRow (g + 1) (U8A (copyF Z 0 bs))) := Touch.row (S := fun z => z = g + 1) (hT78.weaken (fun _ _ h => h.elim)) (.inr rfl) _
  have hq9 := hq8.row_far (k := g + 1) (by have := H7.out.2.2.2.2; omega) (U8A (copyF Z 0 bs))
  obtain ⟨w9, hw9⟩ : ∃ z, z = w8.setRow (g + 1) (U8A (copyF Z 0 bs)) := ⟨_, rfl⟩
  rw [← hw9] at hb9 hT9 hq9 ⊢
  refine hK2 _ _ ⟨(HS.out _).2 (by have := hq9.cell 0; simpa using this), wpTr_nil ?_⟩
  obtain ⟨Y, hY⟩ : ∃ Y, Y = copyF Z 0 bs := ⟨_, rfl⟩
  have hYl : Y.length = 16 := by rw [hY, copyF_len _ _ _ (by omega), hZl]
  rw [← hY] at hb9
  have H9 := Lib.hid (And.intro hb9 (And.intro hT9 (And.intro hq9 (And.intro hY (And.intro hYl hZ)))))
  clear hw9 hb9 hT9 hq9 hY hYl hZ hZl hb8 hT8 hT78 ho8 hq8 hbl hK1 hK2 hne HS
  clear K1 K2 S
  dsimp only [Act.put]
  simp only [List.setIfInBounds_toArray, List.set_cons_succ, List.set_cons_zero]
  go_upto_region 17 with fail
  obtain ⟨S, HS⟩ : ∃ S : World → Prop, Hid (∀ w', S w' ↔ w'.cell? ⟨q, 1, none⟩ = some (.int .u64 hi)) := ⟨_, fun _ => Iff.rfl⟩
  refine wp_region_tr S (.q 0 (.q 1 (.q 2 (.e 3 (.e 4 .nil))))) (by kernel_rfl) (by kernel_rfl) ((HS.out _).2 (by have := H9.out.2.2.1.drew.cell 1; simpa using this)) (fun hne => ?_)
  have z0 : ∀ x : SW S, (Instr.sliceAt 23 (.pointer (some ⟨g + 1, 0, none⟩)) (some (.int .i64 8)) none none).run Try.prog x.w = .ok (.slice (some ⟨g + 1, 8, none⟩) 8 8) x.w := fun x => sl23l x.w (g + 1) 8 (by omega)
  have z1 : ∀ x : SW S, x.w.cell? ⟨q, 1, none⟩ = some (.int .u64 hi) := fun x => (HS.out _).1 x.ok
  repeat (refine wpTr_q (by simp only [List.getElem?_toArray, List.getElem?_cons_zero, List.getElem?_cons_succ]; rfl) ?_; (first | go_big_quiet_skip | (go_big_quiet_want; go_big_quiet_op; go_big_quiet_on)); refine wpQuiet_nil ?_)
  clear z0 z1
  refine wpTr_e (by simp only [List.getElem?_toArray, List.getElem?_cons_zero, List.getElem?_cons_succ]; rfl) (fun K3 hK3 => ?_)
  go_wp2_with fail
  refine (little_any _ _ 8 (by omega)).mono ?_
  rintro e w10 ⟨rfl, hb8, hT8⟩
  have hT78 : Touch (fun _ => False) w9 w10 := ((Touch.refl _ w9).drew).trans hT8 (fun _ _ h => h)
  have ho8 := H9.out.1.touch hT78 (fun h => h)
  have hq8 := H9.out.2.2.1.touch hT78 (fun h => h)
  refine hK3 _ _ ⟨(HS.out _).2 (by have := hq8.cell 1; simpa using this), ?_⟩
  refine wpTr_e (by simp only [List.getElem?_toArray, List.getElem?_cons_zero, List.getElem?_cons_succ]; rfl) (fun K4 hK4 => ?_)
  obtain ⟨cs, hcs⟩ : ∃ bs, bs = leL hi 8 := ⟨_, rfl⟩
  have hcl : cs.length = 8 := by rw [hcs, leL_len]
  rw [← hcs] at hb8
  have hYl := H9.out.2.2.2.2.1
  have HCS := Lib.hid (And.intro hcs hcl)
  clear hcs
  refine wp_copy_u8 (.tmp 81) (.tmp 84) rfl (g + 1) 8 8 8 ⟨w9.drew.heap.size + 1, 0, none⟩ 8 8 rfl rfl 23 Y cs ho8 (by rw [hcl]; rfl) (fun k u hu => ?_) (by omega) ?_
  · have hk : k < cs.length := by
      rcases Nat.lt_or_ge k cs.length with h | h
      · exact h
      · rw [List.getElem?_eq_none (by simpa using h)] at hu; cases hu
    rw [Addr.add_mid, hb8.cell, Nat.zero_add, U8A_get hk, ← hu, u8_get cs k hk]
  have hb9 := ho8.row (U8A (copyF Y 8 cs))
  have hT9 : Touch (fun z => z = g + 1) w9 (w10.setRow (g + 1) (U8A (copyF Y 8 cs))) := Touch.row (S := fun z => z = g + 1) (hT78.weaken (fun _ _ h => h.elim)) (.inr rfl) _
  have hq9 := hq8.row_far (k := g + 1) (by have := H7.out.2.2.2.2; omega) (U8A (copyF Y 8 cs))
  obtain ⟨w11, hw11⟩ : ∃ z, z = w10.setRow (g + 1) (U8A (copyF Y 8 cs)) := ⟨_, rfl⟩
  rw [← hw11] at hb9 hT9 hq9 ⊢
  refine hK4 _ _ ⟨(HS.out _).2 (by have := hq9.cell 1; simpa using this), wpTr_nil ?_⟩
  have hXS : copyF Y 8 cs = S0 := by rw [H9.out.2.2.2.1, H9.out.2.2.2.2.2, HBS.out.1, HCS.out.1]; exact HP.out.2.1.symm
  rw [hXS] at hb9
  have hSl : S0.length = 16 := by rw [← hXS, copyF_len _ _ _ (by omega), hYl]
  have hTe : Touch (fun z => z = g + 1) W w11 := (H7.out.2.1.weaken (fun _ _ h => h.elim)).trans (H9.out.2.1.trans hT9 (fun _ _ h => h)) (fun _ _ h => h)
  have hr11 := (H.out.1).touch hTe (by omega)
  have hi23 : (Try.prog.info? 23).map (·.size) = some (U8A S0).size := by rw [U8A_size, hSl]; kernel_rfl
  have hsz : (U8A (List.replicate 16 0)).size = (U8A S0).size := by rw [U8A_size, U8A_size, hSl]; rfl
  have H11 := Lib.hid (And.intro hi23 (And.intro hsz hTe))
  clear hi23 hsz hTe hXS hSl hT9 hq9 hw11 hb8 hT8 hT78 ho8 hq8 hcl hK3 hK4 hne HS hYl
  clear K3 K4 S
  go_wp2_with (first | (refine wpList_load_row rfl 23 (.tmp 3) rfl (g + 1) rfl 23 (U8A S0) (0, 0) (.array 16 5) hb9 (by kernel_rfl) rfl H11.out.1 ?_) | (refine wpList_store_row rfl 23 (.tmp 2) (.tmp 86) rfl g (U8A S0) rfl rfl 23 _ hr11 H11.out.1 H11.out.2.1 (U8A_one _) ?_))
  refine bodyPost_ret (v := .agg (U8A S0)) (results_cell_row (P := Try.prog) rfl _ _ g 23 _ (0, 0) (.array 16 5) rfl (hr11.row _) (by kernel_rfl) rfl H11.out.1) rfl ⟨rfl, ?_⟩
  exact (H.out.2.2.1.trans H11.out.2.2 (by intro z hz e; have := H.out.2.2.2.1; omega)).row (.inl (by have := H.out.2.2.2.1; omega)) _
end Go.Proofs.Ytelmjlfhmbicjaa
