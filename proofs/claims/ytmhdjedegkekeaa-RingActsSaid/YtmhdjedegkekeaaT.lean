/- RingActs' walk. Printed by genT.py. -/
import Derived.Test.YtmhdjedegkekeaaS
namespace Go.Proofs.Ytmhdjedegkekeaa
open Go.RowKit
set_option linter.unusedVariables false

set_option maxHeartbeats 4000000 in
set_option maxRecDepth 100000 in
theorem acts_walk (w : World) (room : Int) (A : Option Addr) (n c : Nat) (hA : Acts w A n) (hn : n ≤ 9223372036854775807) :
    Calls Try.prog 3 #[.int .i64 room, .slice A n c] w fun e w' => e = .returned (.bool true) ∧ Below w.heap.size w w' := by
  by_cases h300 : n ≤ 300
  · have HA := Lib.hid hA
    clear hA
    by_cases hroom : room < 1 ∨ 32 < room
    · have HR := Lib.hid hroom
      rcases hroom with hroom | hroom
      all_goals
        go_enter Try.func3, Try.ntmps3
        go_wp2_with fail
        refine (new_no _ _ HR.out).mono ?_
        rintro e w1 ⟨rfl, rfl⟩
        go_wp2_with fail
        refine (awake_any _).mono ?_
        rintro e w3 ⟨rfl, hT3⟩
        go_wp2
        go_ret
        exact ⟨rfl, hT3.below _ (Nat.le_refl _) (by simp)⟩
    · obtain ⟨m, rfl⟩ := Int.eq_ofNat_of_zero_le (show 0 ≤ room by omega)
      have hm1 : 1 ≤ m := by omega
      have hm2 : m ≤ 32 := by omega
      clear hroom
      go_enter Try.func3, Try.ntmps3
      go_wp2_with fail
      refine (new_yes _ m hm1 hm2).mono ?_
      rintro e w1 ⟨rfl, hR1, hT1⟩
      go_wp2_with fail
      have hB1 := hT1.below w.heap.size (Nat.le_refl _) (by simp)
      have hlt1 := hR1.lt
      have hQ0 : RefQ (w1.alloc (.cells #[.slice none 0 0, .int .i64 0, .int .i64 m] 31)) w.heap.size w1.heap.size m 0 [] := ⟨none, 0, Blk.new _ _ _, by simpa [flat] using World.ownsRow_nil _ w.heap.size 38 3⟩
      have hR2 := hR1.touch ((Touch.refl (fun _ => False) w1).alloc (.cells #[.slice none 0 0, .int .i64 0, .int .i64 m] 31)) (by simp) (by simp)
      have hB2 := hB1.trans (((Touch.refl (fun _ => False) w1).alloc (.cells #[.slice none 0 0, .int .i64 0, .int .i64 m] 31)).below w.heap.size hB1.size (by simp))
      obtain ⟨wb, hwb⟩ : ∃ wb, wb = w1.heap.size := ⟨_, rfl⟩
      have hwbB : w.heap.size ≤ wb := by omega
      rw [← hwb] at hQ0 ⊢
      clear hwb
      go_loopw [9] (fun i wr => ∃ (j k : Nat) (L : List Dn), j ≤ n ∧ i = .int .i64 j ∧ Ring wr (w.heap.size + 1) w.heap.size m k L ∧ RefQ wr w.heap.size wb m k L ∧ Below w.heap.size w wr) (fun i _ => n - (intOf i).toNat)
      case atStart => exact ⟨0, 0, [], by omega, rfl, hR2, hQ0, hB2⟩
      case round =>
        clear hR1 hR2 hQ0 hB2 hB1
        obtain ⟨j, k, L, hj, rfl, hR, hQ, hB⟩ := hrel
        by_cases hjn : j < n
        · obtain ⟨b, off, rfl, hb, hact⟩ := HA.out (by omega)
          obtain ⟨what, x, y, z, h256, c0, c1, c2, c3⟩ := hact j hjn
          rw [← hB.cell (by exact hb)] at c0 c1 c2 c3
          clear hact
          obtain ⟨d, er, k', L', hdo, href⟩ := step_any m k what x y z L h256 hR.fits.1 hm2
          have HD := Lib.hid hdo
          have HF := Lib.hid href
          clear hdo href
          have hsz : w.heap.size ≤ wr.heap.size := hB.size
          have hAp := Lib.hid (apart_RQ hR hQ)
          have hbr : b < wr.heap.size := by omega
          go_wp2_with fail
          refine (HD.out _ _ _ hR).mono ?_
          rintro e w2 ⟨rfl, hR2, hT2⟩
          have hQ2 := hQ.touch hT2 (fun b _ => hAp.out b)
          have hB2 := hB.trans (hT2.below w.heap.size hsz (by unfold Own2; omega))
          have hc : ∀ i, w2.cell? ⟨b, i, none⟩ = wr.cell? ⟨b, i, none⟩ := fun i => (hT2.below w.heap.size hsz (by unfold Own2; omega)).cell hb
          rw [← hc] at c0 c1 c2 c3
          clear hc
          go_wp2_with fail
          obtain ⟨w3, hw3⟩ : ∃ w3, w3 = w2.alloc (.cells #[.int .i64 d.1, .int .i64 d.2.1, .int .i64 d.2.2] 33) := ⟨_, rfl⟩
          have hT3 : Touch (fun _ => False) w2 w3 := by rw [hw3]; exact (Touch.refl _ w2).alloc _
          have hx3 : Blk w3 w2.heap.size 33 #[.int .i64 d.1, .int .i64 d.2.1, .int .i64 d.2.2] := by rw [hw3]; exact Blk.new _ _ _
          have hR3 := hR2.touch hT3 (by simp) (by simp)
          have hQ3 := hQ2.touch hT3 (by simp)
          have hsz2 : w.heap.size ≤ w2.heap.size := hB2.size
          have hB3 := hB2.trans (hT3.below w.heap.size hsz2 (by simp))
          have hsz3 : w3.heap.size = w2.heap.size + 1 := by rw [hw3]; simp
          have hbs2 : b < w2.heap.size := by omega
          have hc : ∀ i, w3.cell? ⟨b, i, none⟩ = w2.cell? ⟨b, i, none⟩ := fun i => (hT3.below w2.heap.size (Nat.le_refl _) (by simp)).cell hbs2
          rw [← hc] at c0 c1 c2 c3
          clear hc
          have HW := Lib.hid hw3
          have HZ3 := Lib.hid hsz3
          rw [← HW.out]
          clear hw3 hsz3 HW hAp
          obtain ⟨S, HS⟩ : ∃ S : World → Prop, Hid (∀ w', S w' ↔ (w'.cell? ⟨b, off + j * 4, none⟩ = some (.int .u8 what) ∧ w'.cell? ⟨b, off + j * 4 + 1, none⟩ = some (.int .i64 x) ∧ w'.cell? ⟨b, off + j * 4 + 2, none⟩ = some (.int .i64 y) ∧ w'.cell? ⟨b, off + j * 4 + 3, none⟩ = some (.int .i64 z))) := ⟨_, fun _ => Iff.rfl⟩
          have hS3 : Hid (S w3.drew) := (HS.out _).2 ⟨c0, c1, c2, c3⟩
          have hSk : Hid (∀ wa wb : World, S wa → wb.heap[b]? = wa.heap[b]? → S wb) := Lib.hid (fun wa wb hs he => by
            obtain ⟨h1, h2, h3, h4⟩ := (HS.out _).1 hs
            have hc : ∀ i, wb.cell? ⟨b, i, none⟩ = wa.cell? ⟨b, i, none⟩ := fun i => by unfold World.cell?; rw [he]
            exact (HS.out _).2 ⟨(hc _).trans h1, (hc _).trans h2, (hc _).trans h3, (hc _).trans h4⟩)
          clear c0 c1 c2 c3
          refine wp_region_gr2 S 33 [(0, false), (1, false), (2, false), (3, false), (4, false), (5, false), (6, false), (7, false), (8, false), (9, false), (10, false), (11, false), (12, false), (13, false), (14, false), (15, false), (16, false), (17, false), (18, false), (19, false), (20, false), (21, false), (22, false), (23, false), (24, false), (25, false), (26, false)] 27 [(28, false), (29, false), (30, false), (31, true), (32, true), (33, true)] 31 [(27, true), (28, false), (29, false), (30, false), (32, true), (33, true)] (by kernel_rfl) (by kernel_rfl) hS3.out (fun hne => ?_)
          have s0 : ∀ x : SW S, x.w.cell? ⟨b, off + j * 4, none⟩ = some (.int .u8 what) := fun x => ((HS.out _).1 x.ok).1
          have s1 : ∀ x : SW S, x.w.cell? ⟨b, off + j * 4 + 1, none⟩ = _ := fun x => ((HS.out _).1 x.ok).2.1
          have s2 : ∀ x : SW S, x.w.cell? ⟨b, off + j * 4 + 2, none⟩ = _ := fun x => ((HS.out _).1 x.ok).2.2.1
          have s3 : ∀ x : SW S, x.w.cell? ⟨b, off + j * 4 + 3, none⟩ = _ := fun x => ((HS.out _).1 x.ok).2.2.2
          simp only [withOps, List.filterMap_cons, List.filterMap_nil, Option.map_some, List.getElem?_cons_zero, List.getElem?_cons_succ]
          repeat (refine wpGr_q ?_; (first | go_big_quiet_skip | (go_big_quiet_want; go_big_quiet_op; go_big_quiet_on)); refine wpQuiet_nil ?_)
          refine wpGr_nil ⟨hS3.out, ?_, ?_⟩
          · have hQ3' := hQ3.touch ((Touch.refl (fun _ => False) w3).drew) (by simp)
            have hR3' := hR3.touch ((Touch.refl (fun _ => False) w3).drew) (by simp) (by simp)
            refine wpGr_eff rfl (fun K hK => ?_)
            go_wp2_with fail
            refine (HF.out _ _ _ hQ3' hB3.size).mono ?_
            rintro e w4 ⟨rfl, hL4⟩
            have hT4 := hL4.2
            have hQ4 := hL4.ref
            have hlow : ∀ b, b < w.heap.size → ¬ OwnQ w3.drew w.heap.size wb b := fun b hb ho => by rcases ho with rfl | ho <;> omega
            have hR4 : Ring w4 (w.heap.size + 1) w.heap.size m k' L' := hR3'.touch hT4 (fun ho => apart_RQ hR3' hQ3' _ ho (.inl rfl)) (fun ho => apart_RQ hR3' hQ3' _ ho (.inr rfl))
            have hx4 : Blk w4 w2.heap.size 33 #[.int .i64 d.1, .int .i64 d.2.1, .int .i64 d.2.2] := hx3.drew.touch hT4 (fun ho => by
              rcases ho.isT hQ3' with h | h
              · have := hx3.drew.isT h; simp at this
              · have := hx3.drew.isT h; simp at this)
            have hB4 : Below w.heap.size w w4 := (hB3.trans ((Touch.refl (fun _ => False) w3).drew.below w.heap.size hB3.size (by simp))).trans (hT4.below w.heap.size hB3.size hlow)
            have hS4 : Hid (S w4) := hSk.out _ _ hS3.out (hT4.block b (by have := HZ3.out; simp; omega) (hlow b hb))
            refine hK _ _ ⟨.inr hS4.out, ?_⟩
            repeat (refine wpGr_q ?_; (first | go_big_quiet_skip | (go_big_quiet_want; go_big_quiet_op; go_big_quiet_on)); refine wpQuiet_nil ?_)
            refine wpGr_eff rfl (fun K hK => ?_)
            go_wp2_with fail
            refine ⟨.inr (hSk.out _ _ hS4.out (((Touch.refl (fun _ => False) w4).alloc _).block b (by have := hB4.size; omega) (by simp))), ?_⟩
            refine wpGr_eff rfl (fun K hK => ?_)
            go_wp2_with fail
            refine ⟨.inr (hSk.out _ _ hS4.out (((Touch.refl (fun _ => False) w4).alloc _).block b (by have := hB4.size; omega) (by simp))), ?_⟩
            refine wpGr_eff rfl (fun K hK => ?_)
            go_wp2_with fail
            refine wpGr_nil ?_
            obtain ⟨w5, hw5⟩ : ∃ w5, w5 = w4.alloc (.cells #[.int .i64 d.1, .int .i64 d.2.1, .int .i64 d.2.2] 38) := ⟨_, rfl⟩
            have hT5 : Touch (fun _ => False) w4 w5 := by rw [hw5]; exact (Touch.refl _ w4).alloc _
            have hy5 : Blk w5 w4.heap.size 38 #[.int .i64 d.1, .int .i64 d.2.1, .int .i64 d.2.2] := by rw [hw5]; exact Blk.new _ _ _
            have hx5 := hx4.touch hT5 (by simp)
            have hR5 := hR4.touch hT5 (by simp) (by simp)
            have hQ5 := hQ4.touch hT5 (by simp)
            have hB5 := hB4.trans (hT5.below w.heap.size hB4.size (by simp))
            have HW5 := Lib.hid hw5
            rw [← HW5.out]
            clear hw5 HW5
            clear hx4 hR4 hQ4 hB4 hS4 hT5 hx3 hR3 hQ3 hB3 hR3' hQ3' hS3 hL4 hT4 hB2 hR2 hQ2 hR hQ hB s0 s1 s2 s3
            -- the rest
            obtain ⟨A, cc, hq5⟩ := hQ5.cells
            have x0 := hx5.drew.cell 0
            have x1 := hx5.drew.cell 1
            have x2 := hx5.drew.cell 2
            have y0 := hy5.drew.cell 0
            have y1 := hy5.drew.cell 1
            have y2 := hy5.drew.cell 2
            have q0 := hq5.drew.cell 0
            have q1 := hq5.drew.cell 1
            simp only [List.getElem?_toArray, List.getElem?_cons_zero, List.getElem?_cons_succ] at x0 x1 x2 y0 y1 y2 q0 q1
            have hR5' := hR5.touch ((Touch.refl (fun _ => False) w5).drew) (by simp) (by simp)
            have hQ5' := hQ5.touch ((Touch.refl (fun _ => False) w5).drew) (by simp)
            have hB5' : Below w.heap.size w w5.drew := hB5.trans ((Touch.refl (fun _ => False) w5).drew.below w.heap.size hB5.size (by simp))
            go_wp2_with fail
            refine wp_region_qall (by kernel_rfl) (by kernel_rfl) ?_
            repeat (first | go_big_quiet_skip | (go_big_quiet_want; go_big_quiet_op; go_big_quiet_on))
            go_big_quiet_want
            go_big_quiet_op
            refine ⟨_, (f11_any _ _ _ _ _ _ hR5').mono (fun e w' h => ⟨h.1, h.2⟩), ?_⟩
            go_big_quiet_on
            repeat (first | go_big_quiet_skip | (go_big_quiet_want; go_big_quiet_op; go_big_quiet_on))
            go_big_quiet_want
            go_big_quiet_op
            refine ⟨_, (f12_any _ _ _ _ _ _ hR5').mono (fun e w' h => ⟨h.1, h.2⟩), ?_⟩
            go_big_quiet_on
            repeat (first | go_big_quiet_skip | (go_big_quiet_want; go_big_quiet_op; go_big_quiet_on))
            refine wpQuiet_nil ?_
            have hcb : ∀ i, w5.drew.cell? ⟨b, i, none⟩ = w.cell? ⟨b, i, none⟩ := fun i => hB5'.cell hb
            have HCB := Lib.hid hcb
            have HY := Lib.hid hy5
            have HX := Lib.hid hx5
            clear hcb
            clear x0 x1 x2 y0 y1 y2 q0 q1
            obtain ⟨b0, off0, hA0, _, hact⟩ := HA.out (by omega)
            obtain ⟨rfl, rfl⟩ : b0 = b ∧ off0 = off := by
              injection hA0 with hA0
              injection hA0 with h1 h2
              exact ⟨h1.symm, h2.symm⟩
            obtain ⟨what', x', y', z', h256', c0, c1, c2, c3⟩ := hact j hjn
            clear hact hA0
            rw [← HCB.out] at c0 c1 c2 c3
            obtain ⟨en, hen, hno⟩ := none_any w5.drew what' x' y' z' h256'
            have HN := Lib.hid hno
            clear hno
            have hne1 : ((!(en == 12)) && (!(en == 15))) = false := by rcases hen with rfl | rfl <;> rfl
            have HE := Lib.hid hen
            go_wp2_with fail
            refine (HN.out).mono ?_
            rintro e w6 ⟨rfl, hT6⟩
            rcases HE.out with rfl | rfl
            all_goals
              go_wp2
              go_roundw
              case rel => exact ⟨j + 1, k', L', by omega, by go_num, hR5'.touch (hT6.alloc _) (by simp) (by simp), hQ5'.touch (hT6.alloc _) (by simp), hB5'.trans ((hT6.alloc _).below w.heap.size hB5'.size (by simp))⟩
              case measure => simp [intOf]; omega
          · refine wpGr_eff rfl (fun K hK => ?_)
            go_wp2_with fail
            have hA4 : Touch (fun _ => False) w3 (w3.alloc (.cells #[.int .i64 0, .int .i64 0, .int .i64 0] 38)).drew := ((Touch.refl _ w3).alloc _).drew
            have hy4 : Blk (w3.alloc (.cells #[.int .i64 0, .int .i64 0, .int .i64 0] 38)).drew w3.heap.size 38 #[.int .i64 0, .int .i64 0, .int .i64 0] := (Blk.new _ _ _).drew
            have hn4 : ¬ OwnQ (w3.alloc (.cells #[.int .i64 0, .int .i64 0, .int .i64 0] 38)).drew w.heap.size wb w3.heap.size := hQ3.new _
            obtain ⟨w4, hw4⟩ : ∃ w4, w4 = (w3.alloc (.cells #[.int .i64 0, .int .i64 0, .int .i64 0] 38)).drew := ⟨_, rfl⟩
            rw [← hw4] at hA4 hy4 hn4 ⊢
            have hQ4 := hQ3.touch hA4 (by simp)
            have hR4 := hR3.touch hA4 (by simp) (by simp)
            have hx4 := hx3.touch hA4 (by simp)
            have hB4 := hB3.trans (hA4.below w.heap.size hB3.size (by simp))
            have hsz4 : w4.heap.size = w3.heap.size + 1 := by rw [hw4]; simp
            have HZ4 := Lib.hid hsz4
            have hS4 : Hid (S w4) := hSk.out _ _ hS3.out (hA4.block b (by have := HZ3.out; omega) (by simp))
            clear hw4 hsz4
            refine ⟨.inr hS4.out, ?_⟩
            refine wpGr_eff rfl (fun K hK => ?_)
            go_wp2_with fail
            refine (HF.out _ _ _ hQ4 hB4.size).mono ?_
            rintro e w6 ⟨rfl, hL6⟩
            have hT6 := hL6.2
            have hQ6 := hL6.ref
            have hlow : ∀ b, b < w.heap.size → ¬ OwnQ w4 w.heap.size wb b := fun b hb ho => by rcases ho with rfl | ho <;> omega
            have hR6 : Ring w6 (w.heap.size + 1) w.heap.size m k' L' := hR4.touch hT6 (fun ho => apart_RQ hR4 hQ4 _ ho (.inl rfl)) (fun ho => apart_RQ hR4 hQ4 _ ho (.inr rfl))
            have hx6 : Blk w6 w2.heap.size 33 #[.int .i64 d.1, .int .i64 d.2.1, .int .i64 d.2.2] := hx4.touch hT6 (fun ho => by
              rcases ho.isT hQ4 with h | h
              · have := hx4.isT h; simp at this
              · have := hx4.isT h; simp at this)
            have hB6 : Below w.heap.size w w6 := hB4.trans (hT6.below w.heap.size hB4.size hlow)
            have hS6 : Hid (S w6) := hSk.out _ _ hS4.out (hT6.block b (by have := HZ3.out; have := HZ4.out; omega) (hlow b hb))
            have hy6 := hy4.touch hT6 hn4
            have hn6 : ¬ OwnQ w6 w.heap.size wb w3.heap.size := fun ho => by
              rcases hL6.fresh ho with h | h
              · exact hn4 h
              · have := HZ4.out; omega
            have hyb : ¬ b = w3.heap.size := by have := HZ3.out; omega
            refine hK _ _ ⟨.inr hS6.out, ?_⟩
            repeat (refine wpGr_q ?_; (first | go_big_quiet_skip | (go_big_quiet_want; go_big_quiet_op; go_big_quiet_on)); refine wpQuiet_nil ?_)
            refine wpGr_eff rfl (fun K hK => ?_)
            have yz := hy6.frozen
            have ya := hy6.cell 0
            have yb := hy6.cell 1
            have yc := hy6.cell 2
            simp only [List.getElem?_toArray, List.getElem?_cons_zero, List.getElem?_cons_succ] at ya yb yc
            go_wp2_with fail
            clear yz ya yb yc
            have hT5 : Touch (fun b => b = w3.heap.size) w6 (((w6.setCell ⟨w3.heap.size, 0, none⟩ (.int .i64 d.1)).setCell ⟨w3.heap.size, 1, none⟩ (.int .i64 d.2.1)).setCell ⟨w3.heap.size, 2, none⟩ (.int .i64 d.2.2)) := (((Touch.refl (fun b => b = w3.heap.size) w6).setCell (p := ⟨w3.heap.size, 0, none⟩) (.inr rfl) _).setCell (p := ⟨w3.heap.size, 1, none⟩) (.inr rfl) _).setCell (p := ⟨w3.heap.size, 2, none⟩) (.inr rfl) _
            have hy5 : Blk (((w6.setCell ⟨w3.heap.size, 0, none⟩ (.int .i64 d.1)).setCell ⟨w3.heap.size, 1, none⟩ (.int .i64 d.2.1)).setCell ⟨w3.heap.size, 2, none⟩ (.int .i64 d.2.2)) w3.heap.size 38 #[.int .i64 d.1, .int .i64 d.2.1, .int .i64 d.2.2] := ((hy6.set_ 0 _).set_ 1 _).set_ 2 _
            obtain ⟨w5, hw5⟩ : ∃ w5, w5 = (((w6.setCell ⟨w3.heap.size, 0, none⟩ (.int .i64 d.1)).setCell ⟨w3.heap.size, 1, none⟩ (.int .i64 d.2.1)).setCell ⟨w3.heap.size, 2, none⟩ (.int .i64 d.2.2)) := ⟨_, rfl⟩
            rw [← hw5] at hT5 hy5 ⊢
            have HW5 := Lib.hid hw5
            clear hw5 HW5
            refine ⟨.inr (hSk.out _ _ hS6.out (hT5.block b (by have := hB6.size; omega) hyb)), ?_⟩
            refine wpGr_eff rfl (fun K hK => ?_)
            go_wp2_with fail
            refine wpGr_nil ?_
            have hx5 := hx6.touch hT5 (by have := HZ3.out; omega)
            have hR5 := hR6.touch hT5 (by have := HZ3.out; have := hR3.lt; omega) (by have := HZ3.out; have := hR3.lt; omega)
            have hQ5 := hQ6.touch hT5 (fun b _ ho e => hn6 (e ▸ ho))
            have hB5 := hB6.trans (hT5.below w.heap.size hB6.size (by have := hB3.size; omega))
            clear hx6 hR6 hQ6 hB6 hS6 hT5 hL6 hT6 hx4 hR4 hQ4 hB4 hS4 hx3 hR3 hQ3 hB3 hS3 hB2 hR2 hQ2 hR hQ hB s0 s1 s2 s3 hn4 hn6 hy6 hy4 hA4
            -- the rest
            obtain ⟨A, cc, hq5⟩ := hQ5.cells
            have x0 := hx5.drew.cell 0
            have x1 := hx5.drew.cell 1
            have x2 := hx5.drew.cell 2
            have y0 := hy5.drew.cell 0
            have y1 := hy5.drew.cell 1
            have y2 := hy5.drew.cell 2
            have q0 := hq5.drew.cell 0
            have q1 := hq5.drew.cell 1
            simp only [List.getElem?_toArray, List.getElem?_cons_zero, List.getElem?_cons_succ] at x0 x1 x2 y0 y1 y2 q0 q1
            have hR5' := hR5.touch ((Touch.refl (fun _ => False) w5).drew) (by simp) (by simp)
            have hQ5' := hQ5.touch ((Touch.refl (fun _ => False) w5).drew) (by simp)
            have hB5' : Below w.heap.size w w5.drew := hB5.trans ((Touch.refl (fun _ => False) w5).drew.below w.heap.size hB5.size (by simp))
            go_wp2_with fail
            refine wp_region_qall (by kernel_rfl) (by kernel_rfl) ?_
            repeat (first | go_big_quiet_skip | (go_big_quiet_want; go_big_quiet_op; go_big_quiet_on))
            go_big_quiet_want
            go_big_quiet_op
            refine ⟨_, (f11_any _ _ _ _ _ _ hR5').mono (fun e w' h => ⟨h.1, h.2⟩), ?_⟩
            go_big_quiet_on
            repeat (first | go_big_quiet_skip | (go_big_quiet_want; go_big_quiet_op; go_big_quiet_on))
            go_big_quiet_want
            go_big_quiet_op
            refine ⟨_, (f12_any _ _ _ _ _ _ hR5').mono (fun e w' h => ⟨h.1, h.2⟩), ?_⟩
            go_big_quiet_on
            repeat (first | go_big_quiet_skip | (go_big_quiet_want; go_big_quiet_op; go_big_quiet_on))
            refine wpQuiet_nil ?_
            have hcb : ∀ i, w5.drew.cell? ⟨b, i, none⟩ = w.cell? ⟨b, i, none⟩ := fun i => hB5'.cell hb
            have HCB := Lib.hid hcb
            have HY := Lib.hid hy5
            have HX := Lib.hid hx5
            clear hcb
            clear x0 x1 x2 y0 y1 y2 q0 q1
            obtain ⟨b0, off0, hA0, _, hact⟩ := HA.out (by omega)
            obtain ⟨rfl, rfl⟩ : b0 = b ∧ off0 = off := by
              injection hA0 with hA0
              injection hA0 with h1 h2
              exact ⟨h1.symm, h2.symm⟩
            obtain ⟨what', x', y', z', h256', c0, c1, c2, c3⟩ := hact j hjn
            clear hact hA0
            rw [← HCB.out] at c0 c1 c2 c3
            obtain ⟨en, hen, hno⟩ := none_any w5.drew what' x' y' z' h256'
            have HN := Lib.hid hno
            clear hno
            have hne1 : ((!(en == 12)) && (!(en == 15))) = false := by rcases hen with rfl | rfl <;> rfl
            have HE := Lib.hid hen
            go_wp2_with fail
            refine (HN.out).mono ?_
            rintro e w6 ⟨rfl, hT6⟩
            rcases HE.out with rfl | rfl
            all_goals
              go_wp2
              go_roundw
              case rel => exact ⟨j + 1, k', L', by omega, by go_num, hR5'.touch (hT6.alloc _) (by simp) (by simp), hQ5'.touch (hT6.alloc _) (by simp), hB5'.trans ((hT6.alloc _).below w.heap.size hB5'.size (by simp))⟩
              case measure => simp [intOf]; omega
        · go_wp2_with fail
          refine (f11_nil _).mono ?_
          rintro e w3 ⟨rfl, rfl⟩
          go_wp2_with fail
          refine (f12_nil _).mono ?_
          rintro e w3 ⟨rfl, rfl⟩
          go_wp2_with fail
          refine (awake_any _).mono ?_
          rintro e w3 ⟨rfl, hT3⟩
          go_wp2
          go_ret
          exact ⟨rfl, hB.trans (hT3.below _ hB.size (by simp))⟩
  · go_enter Try.func3, Try.ntmps3
    go_wp2
    go_ret
    exact ⟨rfl, Below.refl _ _⟩
end Go.Proofs.Ytmhdjedegkekeaa
