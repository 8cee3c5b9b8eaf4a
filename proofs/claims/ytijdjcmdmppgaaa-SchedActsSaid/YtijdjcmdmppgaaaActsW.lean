/- SchedActs' walk. -/
import Derived.Test.YtijdjcmdmppgaaaActsP
import Derived.Deep.DeepCutAuto
namespace Go.Proofs.Ytijdjcmdmppgaaa
open Go.RowKit
set_option linter.unusedVariables false

theorem ActI.touch {w : World} {q r C k bt j : Nat} {wr w' : World} (h : ActI w q r C k bt j wr) (hT : Touch (fun _ => False) wr w') : ActI w q r C k bt j w' := by
  obtain ⟨S, T, nx, P, l, h1, h2, h3, h4, h5, h6, h7⟩ := h
  exact ⟨S, T, nx, P, l, h1.touch hT (fun _ _ h => h), h2.touch hT (fun _ _ h => h), h3, h4, h5, h6, h7.trans hT (fun _ _ h => h)⟩

set_option maxRecDepth 100000 in
set_option maxHeartbeats 16000000 in
theorem acts_walk (w : World) (A : Option Addr) (n c : Nat) (C k bt : Int) (xs : Nat → Ac) (hA : Acts w A n xs) (hn : n ≤ 9223372036854775807) :
    Calls Try.prog 7 #[.agg #[.int .i64 C, .int .i64 k, .int .i64 bt, .slice A n c]] w fun e w' => e = .returned (.bool true) ∧ Touch (fun _ => False) w w' := by
  obtain ⟨w1, hw1⟩ : ∃ w1, w1 = w.alloc (.cells #[.int .i64 C, .int .i64 k, .int .i64 bt, .slice A n c] 24) := ⟨_, rfl⟩
  have hT1 : Touch (fun _ => False) w w1 := by rw [hw1]; exact (Touch.refl _ w).alloc _
  have hL1 : Blk w1 w.heap.size 24 #[.int .i64 C, .int .i64 k, .int .i64 bt, .slice A n c] := by rw [hw1]; exact Blk.new _ _ _
  have l0 := hL1.cell 0
  have l1 := hL1.cell 1
  have l2 := hL1.cell 2
  have l3 := hL1.cell 3
  simp at l0 l1 l2 l3
  have HW := Lib.hid hw1
  have HA := Lib.hid hA
  clear hw1 hL1 hA
  by_cases h200 : n ≤ 200
  · by_cases hok : 1 ≤ C ∧ C ≤ 8 ∧ 1 ≤ k ∧ k ≤ 4096 ∧ 1 ≤ bt ∧ bt ≤ 16
    · obtain ⟨h1, h2, h3, h4, h5, h6⟩ := hok
      obtain ⟨C, rfl⟩ := Int.eq_ofNat_of_zero_le (show 0 ≤ C by omega)
      obtain ⟨k, rfl⟩ := Int.eq_ofNat_of_zero_le (show 0 ≤ k by omega)
      obtain ⟨bt, rfl⟩ := Int.eq_ofNat_of_zero_le (show 0 ≤ bt by omega)
      go_enter Try.func7, Try.ntmps7
      go_wp2
      rw [← HW.out]
      refine wp_region_qall (by kernel_rfl) (by kernel_rfl) ?_
      repeat (first | go_big_quiet_skip | (go_big_quiet_want; go_big_quiet_op; go_big_quiet_on))
      refine wpQuiet_nil ?_
      clear l0 l1 l2 l3
      go_wp2_with fail
      refine (newP _ C k bt (by omega) (by omega) (by omega) (by omega) (by omega) (by omega)).mono ?_
      rintro e w2 ⟨S2, q, rfl, hQ2, hT2, hF2⟩
      have HQ2 := Lib.hid (And.intro hQ2 (And.intro hT2 hF2))
      clear hQ2 hT2 hF2
      go_wp2_with fail
      refine (rnew_ok _ C k bt (by omega) (by omega) (by omega) (by omega) (by omega) (by omega)).mono ?_
      rintro e w3 ⟨T3, r, rfl, hQ3, hT3, hF3⟩
      have hI0 : ActI w1 q r C k bt 0 w3 := by
        have hlt := HQ2.out.1.lt
        have hsz := HQ2.out.2.1.size
        refine ⟨S2, T3, 0, _, [], HQ2.out.1.touch hT3 (fun _ _ h => h), hQ3, fun c hc => rfl, fun b hb hb' => by have := hlt b hb; have := hF3 b hb'; omega, fun b hb => HQ2.out.2.2 b hb, fun b hb => ?_, (Touch.refl _ w1).drew.trans (HQ2.out.2.1.trans hT3 (fun _ _ h => h)) (fun _ _ h => h)⟩
        have := hF3 b hb
        simp at hsz
        omega
      have HI0 := Lib.hid hI0
      clear hI0 hQ3 hT3 hF3 HQ2
      go_wp2_with fail
      go_loopw [11] (fun u wr => ∃ j : Nat, j ≤ n ∧ u = .int .i64 j ∧ ActI w1 q r C k bt j wr) (fun u _ => n - (intOf u).toNat)
      case atStart => exact ⟨0, by omega, rfl, HI0.out⟩
      case round =>
        obtain ⟨j, hj, rfl, S, T, nx, P, l, hQ, hR, hFl, hdis, hFS, hFT, hT⟩ := hrel
        have HQ := Lib.hid (And.intro hQ (And.intro hR (And.intro hFl (And.intro hdis (And.intro hFS (And.intro hFT hT))))))
        clear hQ hR hFl hdis hFS hFT
        by_cases hjn : j < n
        · obtain ⟨b, off, rfl, hb, hact⟩ := HA.out (by omega)
          obtain ⟨⟨x1, x2, x3, x4, x5⟩, a0, a1, a2, a3, a4⟩ := (hact j hjn).touch (hT1.trans hT (fun _ _ h => h))
          obtain ⟨⟨what, id, cl, cls, by'⟩, hx⟩ : ∃ x, x = xs j := ⟨_, rfl⟩
          rw [← hx] at x1 x2 x3 x4 x5 a0 a1 a2 a3 a4
          simp only at x1 x2 x3 x4 x5 a0 a1 a2 a3 a4
          clear hact hx
          go_upto_region 18 with (fail)
          obtain ⟨w4, hw4⟩ : ∃ w4, w4 = wr.alloc (.cells #[.int .u8 what, .int .i64 id, .int .i64 cl, .int .i64 cls, .int .i64 by'] 33) := ⟨_, rfl⟩
          rw [← hw4]
          have hT4 : Touch (fun _ => False) wr w4 := by rw [hw4]; exact (Touch.refl _ wr).alloc _
          have hb10 : Blk w4 wr.heap.size 33 #[.int .u8 what, .int .i64 id, .int .i64 cl, .int .i64 cls, .int .i64 by'] := by rw [hw4]; exact Blk.new _ _ _
          have y0 := hb10.cell 0
          simp at y0
          have HB := Lib.hid hb10
          have HQ4 := Lib.hid (And.intro (HQ.out.1.touch hT4 (fun _ _ h => h)) (HQ.out.2.1.touch hT4 (fun _ _ h => h)))
          have hltS := HQ.out.1.lt
          have hltT := HQ.out.2.1.lt
          have hsz4 := hT4.size
          have hszr := hT.size
          clear hw4 a0 a1 a2 a3 a4 hb10
          obtain ⟨R, HS⟩ : ∃ R : World → Prop, Hid (∀ w', R w' ↔ Blk w' wr.heap.size 33 #[.int .u8 what, .int .i64 id, .int .i64 cl, .int .i64 cls, .int .i64 by']) := ⟨_, fun _ => Iff.rfl⟩
          by_cases hw2 : what < 2
          · go_wp2_with fail
            refine wp_region_gr R 9 [(0, false), (1, false), (2, false), (5, false), (6, false), (7, false), (3, true), (4, true), (8, true), (9, true)] (by kernel_rfl) (by kernel_rfl) ((HS.out _).2 HB.out.drew) (fun hne => ?_)
            have t1 : ∀ x : SW R, x.w.cell? ⟨wr.heap.size, 1, none⟩ = some (.int .i64 id) := fun x => ((HS.out _).1 x.ok).cell 1
            have t2 : ∀ x : SW R, x.w.cell? ⟨wr.heap.size, 2, none⟩ = some (.int .i64 cl) := fun x => ((HS.out _).1 x.ok).cell 2
            have t3 : ∀ x : SW R, x.w.cell? ⟨wr.heap.size, 3, none⟩ = some (.int .i64 cls) := fun x => ((HS.out _).1 x.ok).cell 3
            have t4 : ∀ x : SW R, x.w.cell? ⟨wr.heap.size, 4, none⟩ = some (.int .i64 by') := fun x => ((HS.out _).1 x.ok).cell 4
            simp only [withOps, List.filterMap_cons, List.filterMap_nil, Option.map_some, List.getElem?_cons_zero, List.getElem?_cons_succ]
            repeat (refine wpGr_q ?_; (first | go_big_quiet_skip | (go_big_quiet_want; go_big_quiet_op; go_big_quiet_on)); refine wpQuiet_nil ?_)
            clear t1 t2 t3 t4
            refine wpGr_eff rfl (fun K1 hK1 => ?_)
            go_wp2_with fail
            refine (of_any _ id cl cls by').mono ?_
            rintro e w5 ⟨rfl, hT5'⟩
            have hT5 : Touch (fun _ => False) w4 w5 := (Touch.refl _ w4).drew.trans hT5' (fun _ _ h => h)
            have hsz5 := hT5.size
            have hb5 := HB.out.touch hT5 (fun h => h)
            have HQ5 := Lib.hid (And.intro (HQ4.out.1.touch hT5 (fun _ _ h => h)) (HQ4.out.2.touch hT5 (fun _ _ h => h)))
            refine hK1 _ _ ⟨.inr ((HS.out _).2 hb5), ?_⟩
            clear hT5'
            refine wpGr_eff rfl (fun K2 hK2 => ?_)
            go_wp2_with fail
            refine (addAny _ S q C k bt nx j P id cl cls by' HQ5.out.1 (by omega) x5.2).mono ?_
            rintro e w6 ⟨r1, S', P1, rfl, hQ6, hT6, hF6, hres1⟩
            have hb6 := hb5.touch hT6 (fun hs => by have := hltS _ hs; omega)
            have hsz6 := hT6.size
            have hR6 : Rq w6 T r C k bt nx j l := HQ5.out.2.touch hT6 (fun b hb hs => HQ.out.2.2.2.1 b hs hb)
            have HQ6 := Lib.hid (And.intro hQ6 (And.intro hR6 (And.intro hF6 hres1)))
            refine hK2 _ _ ⟨.inr ((HS.out _).2 hb6), ?_⟩
            clear hQ6 hR6 hF6 hres1
            refine wpGr_eff rfl (fun K3 hK3 => ?_)
            go_wp2_with fail
            refine (radd_any _ T r C k bt nx j l id cl cls by' HQ6.out.2.1 (by omega) x5.2).mono ?_
            rintro e w7 ⟨r2, T', l', rfl, hR7, hT7, hF7, hres2⟩
            obtain ⟨rfl, hFl'⟩ := add_both HQ.out.2.2.1 HQ.out.2.1.cl HQ6.out.2.2.2 hres2
            have hb7 := hb6.touch hT7 (fun hs => by have := hltT _ hs; omega)
            have hlt6 := HQ6.out.1.lt
            have hS'T : ∀ b, S' b → ¬ T b := fun b hb hb' => by
              rcases HQ6.out.2.2.1 b hb with h | h
              · exact HQ.out.2.2.2.1 b h hb'
              · have := hltT b hb'; omega
            have hI : ActI w1 q r C k bt (j + 1) w7 := by
              refine ⟨S', T', nx, P1, l', HQ6.out.1.touch hT7 hS'T, hR7, hFl', fun b hb hb' => ?_, fun b hb => ?_, fun b hb => ?_, (((hT.trans hT4 (fun _ _ h => h)).trans hT5 (fun _ _ h => h)).trans hT6 (fun b hb hs => by have := HQ.out.2.2.2.2.1 b hs; omega)).trans hT7 (fun b hb hs => by have := HQ.out.2.2.2.2.2.1 b hs; omega)⟩
              · rcases hF7 b hb' with h | h
                · exact hS'T b hb h
                · have := hlt6 b hb; omega
              · rcases HQ6.out.2.2.1 b hb with h | h
                · exact HQ.out.2.2.2.2.1 b h
                · omega
              · rcases hF7 b hb with h | h
                · exact HQ.out.2.2.2.2.2.1 b h
                · omega
            have HI := Lib.hid hI
            refine hK3 _ _ ⟨.inr ((HS.out _).2 hb7), ?_⟩
            clear hI hR7 hT7 hF7 hres2 hb5 hb6 hb7 hS'T
            refine wpGr_eff rfl (fun K4 hK4 => ?_)
            go_wp2_with fail
            refine wpGr_nil ?_
            obtain ⟨S8, T8, nx8, P8, l8, m1, m2, m3, m4, m5, m6, m7⟩ := HI.out
            have HM := Lib.hid (And.intro m1 (And.intro m2 m3))
            clear m1 m2 m3 m4 m5 m6 m7
            go_wp2_with fail
            refine (same_any _ S8 T8 q r C k bt nx8 (j + 1) P8 l8 HM.out.1 HM.out.2.1 HM.out.2.2 (by omega)).mono ?_
            rintro e w8 ⟨rfl, hT8⟩
            go_wp2
            go_roundw
            case rel => exact ⟨j + 1, by omega, by go_num, HI.out.touch hT8⟩
            case measure => simp [intOf]; omega
          · have hwl : decide ((what : Int) < 2) = false := by simp; omega
            by_cases hw3 : what = 2
            · have hwe : ((what : Int) == 2) = true := by simp [hw3]
              clear hw3 hw2
              go_wp2_with fail
              refine wp_region_gr R 10 [(0, false), (1, false), (2, false), (3, false), (5, false), (6, false), (7, false), (8, false), (4, true), (9, true), (10, true)] (by kernel_rfl) (by kernel_rfl) ((HS.out _).2 HB.out.drew) (fun hne => ?_)
              have t1 : ∀ x : SW R, x.w.cell? ⟨wr.heap.size, 1, none⟩ = some (.int .i64 id) := fun x => ((HS.out _).1 x.ok).cell 1
              simp only [withOps, List.filterMap_cons, List.filterMap_nil, Option.map_some, List.getElem?_cons_zero, List.getElem?_cons_succ]
              repeat (refine wpGr_q ?_; (first | go_big_quiet_skip | (go_big_quiet_want; go_big_quiet_op; go_big_quiet_on)); refine wpQuiet_nil ?_)
              clear t1
              refine wpGr_eff rfl (fun K1 hK1 => ?_)
              go_wp2_with fail
              obtain ⟨w5, hw5⟩ : ∃ w5, w5 = w4.drew := ⟨_, rfl⟩
              rw [← hw5]
              have hT5 : Touch (fun _ => False) w4 w5 := by rw [hw5]; exact (Touch.refl _ w4).drew
              have hsz5 := hT5.size
              have hb5 := HB.out.touch hT5 (fun h => h)
              have HQ5 := Lib.hid (And.intro (HQ4.out.1.touch hT5 (fun _ _ h => h)) (HQ4.out.2.touch hT5 (fun _ _ h => h)))
              clear hw5
              refine (dropAny _ S q C k bt nx j P id HQ5.out.1 (by omega)).mono ?_
              rintro e w6 ⟨r1, P1, rfl, hQ6, hT6, hres1⟩
              have hb6 := hb5.touch hT6 (fun hs => by have := hltS _ hs; omega)
              have hsz6 := hT6.size
              have hR6 : Rq w6 T r C k bt nx j l := HQ5.out.2.touch hT6 (fun b hb hs => HQ.out.2.2.2.1 b hs hb)
              have HQ6 := Lib.hid (And.intro hQ6 (And.intro hR6 hres1))
              refine hK1 _ _ ⟨.inr ((HS.out _).2 hb6), ?_⟩
              clear hQ6 hR6 hres1
              refine wpGr_eff rfl (fun K2 hK2 => ?_)
              go_wp2_with fail
              refine (rdrop_any _ T r C k bt nx j l id HQ6.out.2.1 (by omega)).mono ?_
              rintro e w7 ⟨r2, T', l', rfl, hR7, hT7, hF7, hres2⟩
              obtain ⟨rfl, hFl'⟩ := drop_both HQ.out.2.2.1 HQ.out.2.1.cl HQ.out.2.1.uq HQ6.out.2.2 hres2
              have hb7 := hb6.touch hT7 (fun hs => by have := hltT _ hs; omega)
              have hlt6 := HQ6.out.1.lt
              have hI : ActI w1 q r C k bt (j + 1) w7 := by
                refine ⟨S, T', nx, P1, l', (HQ6.out.1.touch hT7 HQ.out.2.2.2.1).mono (by omega), hR7.mono (by omega), hFl', fun b hb hb' => ?_, HQ.out.2.2.2.2.1, fun b hb => ?_, (((hT.trans hT4 (fun _ _ h => h)).trans hT5 (fun _ _ h => h)).trans hT6 (fun b hb hs => by have := HQ.out.2.2.2.2.1 b hs; omega)).trans hT7 (fun b hb hs => by have := HQ.out.2.2.2.2.2.1 b hs; omega)⟩
                · rcases hF7 b hb' with h | h
                  · exact HQ.out.2.2.2.1 b hb h
                  · have := hlt6 b hb; omega
                · rcases hF7 b hb with h | h
                  · exact HQ.out.2.2.2.2.2.1 b h
                  · omega
              have HI := Lib.hid hI
              refine hK2 _ _ ⟨.inr ((HS.out _).2 hb7), ?_⟩
              clear hI hR7 hT7 hF7 hres2 hb5 hb6 hb7
              refine wpGr_eff rfl (fun K4 hK4 => ?_)
              go_wp2_with fail
              refine wpGr_nil ?_
              obtain ⟨S8, T8, nx8, P8, l8, m1, m2, m3, m4, m5, m6, m7⟩ := HI.out
              have HM := Lib.hid (And.intro m1 (And.intro m2 m3))
              clear m1 m2 m3 m4 m5 m6 m7
              go_wp2_with fail
              refine (same_any _ S8 T8 q r C k bt nx8 (j + 1) P8 l8 HM.out.1 HM.out.2.1 HM.out.2.2 (by omega)).mono ?_
              rintro e w8 ⟨rfl, hT8⟩
              go_wp2
              go_roundw
              case rel => exact ⟨j + 1, by omega, by go_num, HI.out.touch hT8⟩
              case measure => simp [intOf]; omega
            · have hwe : ((what : Int) == 2) = false := by rw [beq_eq_false_iff_ne]; omega
              clear hw3 hw2
              obtain ⟨B, hBB⟩ : ∃ B, B = batchP P C nx bt := ⟨_, rfl⟩
              obtain ⟨D, hD⟩ : ∃ D, D = doneP k B := ⟨_, rfl⟩
              obtain ⟨n1, hn1⟩ : ∃ n1, B.length = n1 := ⟨_, rfl⟩
              obtain ⟨n2, hn2⟩ : ∃ n2, D.length = n2 := ⟨_, rfl⟩
              have hnum := HQ.out.1.nums
              have hnn1 : n1 ≤ 16 := by
                have := (batch_facts hnum.2.2.1 (by omega) P (bt := bt)).1
                rw [← hBB, hn1] at this
                omega
              have hnn2 : n2 ≤ n1 := by
                have : D.length ≤ B.length := by rw [hD]; exact List.length_filter_le _ _
                omega
              have hIB : IsB C P B := by rw [hBB]; exact HQ.out.1.batch
              have HBD := Lib.hid (And.intro hBB (And.intro hD (And.intro hn1 (And.intro hn2 (And.intro hIB hnum)))))
              clear hBB hD hn1 hn2 hIB hnum
              go_wp2_with fail
              refine (tickD _ S q C k bt nx j P _ B D n1 n2 (nextP C nx B) HQ4.out.1 (by omega) HBD.out.1 HBD.out.2.1 rfl rfl HBD.out.2.2.1 HBD.out.2.2.2.1).mono ?_
              rintro e w6 ⟨A1, c1, A2, c2, rfl, ha1, ha2, f1, f2, hQ6, hT6⟩
              have hR6 : Rq w6 T r C k bt nx j l := HQ4.out.2.touch hT6 (fun b hb hs => HQ.out.2.2.2.1 b hs hb)
              have hsz6 := hT6.size
              have HQ6 := Lib.hid (And.intro hQ6 (And.intro hR6 (And.intro ha1 (And.intro ha2 (And.intro f1 (And.intro f2 hT6))))))
              clear hQ6 hR6 ha1 ha2 f1 f2 hT6
              go_wp2_with fail
              refine (rtick_any _ T r C k bt nx j l P B D n1 n2 HQ6.out.2.1 (by omega) HQ.out.2.2.1 (by have := HBD.out.2.2.2.2.2; omega) (by have := HBD.out.2.2.2.2.2; omega) HBD.out.1 HBD.out.2.2.2.2.1 HBD.out.2.1 HBD.out.2.2.1 HBD.out.2.2.2.1).mono ?_
              rintro e w7 ⟨A3, c3, A4, c4, T', l', rfl, ha3, ha4, hR7, hFl', hT7, hF7⟩
              have hr1 := HQ6.out.2.2.1.touch hT7 (fun a ha hs => by have := hltT _ hs; have := HQ6.out.2.2.2.2.1 a ha; omega)
              have hr2 := HQ6.out.2.2.2.1.touch hT7 (fun a ha hs => by have := hltT _ hs; have := HQ6.out.2.2.2.2.2.1 a ha; omega)
              have hlt6 := HQ6.out.1.lt
              have hI : ActI w1 q r C k bt (j + 1) w7 := by
                refine ⟨S, T', nextP C nx B, hitsP k P B, l', (HQ6.out.1.touch hT7 HQ.out.2.2.2.1).mono (by omega), hR7.mono (by omega), hFl', fun b hb hb' => ?_, HQ.out.2.2.2.2.1, fun b hb => ?_, ((hT.trans hT4 (fun _ _ h => h)).trans HQ6.out.2.2.2.2.2.2 (fun b hb hs => by have := HQ.out.2.2.2.2.1 b hs; omega)).trans hT7 (fun b hb hs => by have := HQ.out.2.2.2.2.2.1 b hs; omega)⟩
                · rcases hF7 b hb' with h | h
                  · exact HQ.out.2.2.2.1 b hb h
                  · have := hlt6 b hb; omega
                · rcases hF7 b hb with h | h
                  · exact HQ.out.2.2.2.2.2.1 b h
                  · omega
              have HI0 := Lib.hid hI
              have HR := Lib.hid (And.intro hr1 (And.intro hr2 (And.intro ha3 ha4)))
              clear hI hr1 hr2 ha3 ha4 hR7 hFl' hT7 hF7
              go_wp2_with fail
              refine (num_yes _ A1 A3 c1 c3 n1 _ (by rw [List.length_map]; exact HBD.out.2.2.1) HR.out.1 HR.out.2.2.1 (by omega)).mono ?_
              rintro e w9 ⟨rfl, hT9⟩
              go_wp2_with fail
              refine (num_yes _ A2 A4 c2 c4 n2 _ (by rw [List.length_map]; exact HBD.out.2.2.2.1) (HR.out.2.1.touch hT9 (fun _ _ h => h)) (HR.out.2.2.2.touch hT9 (fun _ _ h => h)) (by omega)).mono ?_
              rintro e w10 ⟨rfl, hT10⟩
              have HI := Lib.hid ((HI0.out.touch hT9).touch hT10)
              obtain ⟨S8, T8, nx8, P8, l8, m1, m2, m3, m4, m5, m6, m7⟩ := HI.out
              have HM := Lib.hid (And.intro m1 (And.intro m2 m3))
              clear m1 m2 m3 m4 m5 m6 m7
              go_wp2_with fail
              refine (same_any _ S8 T8 q r C k bt nx8 (j + 1) P8 l8 HM.out.1 HM.out.2.1 HM.out.2.2 (by omega)).mono ?_
              rintro e w8 ⟨rfl, hT8⟩
              go_wp2
              go_roundw
              case rel => exact ⟨j + 1, by omega, by go_num, HI.out.touch hT8⟩
              case measure => simp [intOf]; omega
        · go_wp2_with fail
          refine (tick_nil _).mono ?_
          rintro e w5 ⟨rfl, rfl⟩
          go_wp2_with fail
          refine (left_nil _ _).mono ?_
          rintro e w6 ⟨rfl, hT6⟩
          go_wp2_with fail
          refine (add_nil _ _ _ _ _).mono ?_
          rintro e w7 ⟨rfl, hT7⟩
          go_wp2_with fail
          refine (drop_nil _ _).mono ?_
          rintro e w8 ⟨rfl, hT8⟩
          go_wp2_with fail
          refine (jobs_nil _ _).mono ?_
          rintro e w9 ⟨rfl, rfl⟩
          go_wp2_with fail
          refine (len_nil _).mono ?_
          rintro e w10 ⟨rfl, rfl⟩
          go_wp2_with fail
          refine (awake_any _).mono ?_
          rintro e w11 ⟨rfl, hT11⟩
          go_wp2
          go_ret
          exact ⟨rfl, (((((hT1.trans hT (fun _ _ h => h))).trans hT6 (fun _ _ h => h)).trans hT7 (fun _ _ h => h)).trans hT8 (fun _ _ h => h)).trans hT11 (fun _ _ h => h)⟩
    · go_enter Try.func7, Try.ntmps7
      go_wp2
      rw [← HW.out]
      refine wp_region_qall (by kernel_rfl) (by kernel_rfl) ?_
      repeat (first | go_big_quiet_skip | (go_big_quiet_want; go_big_quiet_op; go_big_quiet_on))
      refine wpQuiet_nil ?_
      have HOK := Lib.hid hok
      clear hok
      go_wp2_with fail
      refine (new_no _ C k bt HOK.out).mono ?_
      rintro e w2 ⟨rfl, rfl⟩
      go_wp2_with fail
      refine (rnew_no _ C k bt HOK.out).mono ?_
      rintro e w3 ⟨rfl, rfl⟩
      go_wp2_with fail
      refine (awake_any _).mono ?_
      rintro e w4 ⟨rfl, hT4⟩
      go_wp2
      go_ret
      exact ⟨rfl, hT1.drew.trans hT4 (fun _ _ h => h)⟩
  · have z1 : decide ((200 : Int) < n) = true := by simp; omega
    go_enter Try.func7, Try.ntmps7
    go_wp2
    rw [← HW.out]
    refine wp_region_qall (by kernel_rfl) (by kernel_rfl) ?_
    repeat (first | go_big_quiet_skip | (go_big_quiet_want; go_big_quiet_op; go_big_quiet_on))
    refine wpQuiet_nil ?_
    go_wp2
    go_ret
    exact ⟨rfl, hT1.drew⟩
end Go.Proofs.Ytijdjcmdmppgaaa
