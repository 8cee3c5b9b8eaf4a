/- SchedBlind's walk. -/
import Derived.Test.YtijdjcmdmppgaaaBlindP
import Derived.Deep.DeepCutAuto
namespace Go.Proofs.Ytijdjcmdmppgaaa
open Go.RowKit
set_option linter.unusedVariables false

theorem add_same {C : Nat} {m : Int} (hm : 1 ≤ m) {P P1 P2 : Nat → List Jb} {id cl cls b r1 r2 : Int} (hs : Small C P) (hid : -1125899906842624 ≤ id ∧ id ≤ 1125899906842624)
    (h1 : (r1 = 0 ∧ AddOk C P id cl b ∧ P1 = upd P cl.toNat (P cl.toNat ++ [⟨id, cl.toNat, cls, b.toNat⟩])) ∨ (r1 = 1 ∧ ¬ AddOk C P id cl b ∧ P1 = P))
    (h2 : (r2 = 0 ∧ AddOk C (mapF m P) (id * m + 7) cl b ∧ P2 = upd (mapF m P) cl.toNat (mapF m P cl.toNat ++ [⟨id * m + 7, cl.toNat, cls, b.toNat⟩])) ∨ (r2 = 1 ∧ ¬ AddOk C (mapF m P) (id * m + 7) cl b ∧ P2 = mapF m P)) :
    r2 = r1 ∧ P2 = mapF m P1 ∧ Small C P1 := by
  rw [mapF_addOk hm] at h2
  rcases h1 with ⟨rfl, o1, rfl⟩ | ⟨rfl, o1, rfl⟩
  · rcases h2 with ⟨rfl, _, rfl⟩ | ⟨rfl, o2, rfl⟩
    · refine ⟨rfl, ?_, hs.upd _ _ (fun j hj => ?_)⟩
      · rw [← mapF_upd, List.map_append]; rfl
      · rcases List.mem_append.1 hj with hj | hj
        · exact hs cl.toNat (by have := o1.1; have := o1.2.1; omega) j hj
        · simp at hj; subst hj; exact hid
    · exact absurd o1 o2
  · rcases h2 with ⟨rfl, o2, rfl⟩ | ⟨rfl, _, rfl⟩
    · exact absurd o2 o1
    · exact ⟨rfl, rfl, hs⟩

theorem drop_same {w : World} {S : Nat → Prop} {q C k bt nx M : Nat} {m : Int} (hm : 1 ≤ m) {P P1 P2 : Nat → List Jb} {id r1 r2 : Int} (hq : Qm w S q C k bt nx M P) (hs : Small C P)
    (h1 : (r1 = 0 ∧ ∃ (c i : Nat) (j : Jb), c < C ∧ (P c)[i]? = some j ∧ j.id = id ∧ P1 = upd P c ((P c).eraseIdx i)) ∨ (r1 = 15 ∧ Free C P id ∧ P1 = P))
    (h2 : (r2 = 0 ∧ ∃ (c i : Nat) (j : Jb), c < C ∧ (mapF m P c)[i]? = some j ∧ j.id = id * m + 7 ∧ P2 = upd (mapF m P) c ((mapF m P c).eraseIdx i)) ∨ (r2 = 15 ∧ Free C (mapF m P) (id * m + 7) ∧ P2 = mapF m P)) :
    r2 = r1 ∧ P2 = mapF m P1 ∧ Small C P1 := by
  rw [mapF_free hm] at h2
  rcases h1 with ⟨rfl, c, i, j, hc, hi, rfl, rfl⟩ | ⟨rfl, o1, rfl⟩
  · rcases h2 with ⟨rfl, c', i', j', hc', hi', hid, rfl⟩ | ⟨rfl, o2, rfl⟩
    · rw [mapF, List.getElem?_map, Option.map_eq_some_iff] at hi'
      obtain ⟨j'', hj'', rfl⟩ := hi'
      obtain ⟨rfl, rfl⟩ := hq.uniq hc hc' hi hj'' (inj_of hm hid).symm
      refine ⟨rfl, ?_, hs.upd _ _ (fun x hx => hs c hc x (List.mem_of_mem_eraseIdx hx))⟩
      rw [← mapF_upd, mapF, map_eraseIdx_]
    · exact absurd rfl (o2 c hc j (List.mem_of_getElem? hi))
  · rcases h2 with ⟨rfl, c', i', j', hc', hi', hid, rfl⟩ | ⟨rfl, o2, rfl⟩
    · rw [mapF, List.getElem?_map, Option.map_eq_some_iff] at hi'
      obtain ⟨j'', hj'', rfl⟩ := hi'
      exact absurd (inj_of hm hid) (o1 c' hc' j'' (List.mem_of_getElem? hj''))
    · exact ⟨rfl, rfl, hs⟩

/-- Two queues, alike but for the numbers. -/
def BlI (w : World) (q p C k bt j : Nat) (m : Int) (wr : World) : Prop :=
  ∃ (S T : Nat → Prop) (nx : Nat) (P : Nat → List Jb), Qm wr S q C k bt nx j P ∧ Qm wr T p C k bt nx j (mapF m P) ∧ (∀ b, S b → ¬ T b) ∧ (∀ b, S b → w.heap.size ≤ b) ∧ (∀ b, T b → w.heap.size ≤ b) ∧ Small C P ∧ Touch (fun _ => False) w wr

set_option maxRecDepth 100000 in
set_option maxHeartbeats 8000000 in
theorem blind_walk (w : World) (A : Option Addr) (n c : Nat) (C k bt m : Int) (xs : Nat → Ac) (hA : Acts w A n xs) (hn : n ≤ 9223372036854775807) :
    Calls Try.prog 3 #[.agg #[.int .i64 C, .int .i64 k, .int .i64 bt, .slice A n c], .int .i64 m] w fun e w' => e = .returned (.bool true) ∧ Touch (fun _ => False) w w' := by
  obtain ⟨w1, hw1⟩ : ∃ w1, w1 = w.alloc (.cells #[.int .i64 C, .int .i64 k, .int .i64 bt, .slice A n c] 24) := ⟨_, rfl⟩
  have hT1 : Touch (fun _ => False) w w1 := by rw [hw1]; exact (Touch.refl _ w).alloc _
  have hL1 : Blk w1 w.heap.size 24 #[.int .i64 C, .int .i64 k, .int .i64 bt, .slice A n c] := by rw [hw1]; exact Blk.new _ _ _
  have l0 := hL1.cell 0
  have l1 := hL1.cell 1
  have l2 := hL1.cell 2
  have l3 := hL1.cell 3
  simp at l0 l1 l2 l3
  rw [hw1] at l0 l1 l2 l3
  have HW := Lib.hid hw1
  have HL := Lib.hid hL1
  have HA := Lib.hid hA
  clear hw1 hL1 hA
  by_cases h200 : n ≤ 200
  · have z1 : decide ((200 : Int) < n) = false := by simp; omega
    by_cases hm : 1 ≤ m ∧ m ≤ 1000
    · obtain ⟨m1, m2⟩ := hm
      have z2 : decide (m < 1) = false := by simp; omega
      have z3 : decide ((1000 : Int) < m) = false := by simp; omega
      by_cases hok : 1 ≤ C ∧ C ≤ 8 ∧ 1 ≤ k ∧ k ≤ 4096 ∧ 1 ≤ bt ∧ bt ≤ 16
      · obtain ⟨h1, h2, h3, h4, h5, h6⟩ := hok
        obtain ⟨C, rfl⟩ := Int.eq_ofNat_of_zero_le (show 0 ≤ C by omega)
        obtain ⟨k, rfl⟩ := Int.eq_ofNat_of_zero_le (show 0 ≤ k by omega)
        obtain ⟨bt, rfl⟩ := Int.eq_ofNat_of_zero_le (show 0 ≤ bt by omega)
        go_enter Try.func3, Try.ntmps3
        go_wp2_with fail
        rw [← HW.out]
        refine (newP _ C k bt (by omega) (by omega) (by omega) (by omega) (by omega) (by omega)).mono ?_
        rintro e w2 ⟨S2, q, rfl, hQ2, hT2, hF2⟩
        have hLo := HL.out.touch hT2 (fun h => h)
        have l0' := hLo.cell 0
        have l1' := hLo.cell 1
        have l2' := hLo.cell 2
        simp at l0' l1' l2'
        have HQ2 := Lib.hid hQ2
        clear l0 l1 l2 l3 hQ2
        go_wp2_with fail
        refine (newP _ C k bt (by omega) (by omega) (by omega) (by omega) (by omega) (by omega)).mono ?_
        rintro e w3 ⟨S3, p, rfl, hQ3, hT3, hF3⟩
        have hlt2 := HQ2.out.lt
        have hsz2 := hT2.size
        have hI0 : BlI w1 q p C k bt 0 m w3 := ⟨S2, S3, 0, _, HQ2.out.touch hT3 (fun _ _ h => h), hQ3, fun b hb hb' => by have := hlt2 b hb; have := hF3 b hb'; omega, hF2, fun b hb => by have := hF3 b hb; omega, fun d hd j hj => by simp at hj, hT2.trans hT3 (fun _ _ h => h)⟩
        have HI0 := Lib.hid hI0
        clear l0' l1' l2' hQ3 hF2 hF3 hT2 hT3 hI0 HW hLo hlt2 hsz2 HQ2
        go_wp2_with fail
        go_loopw [9] (fun u wr => ∃ j : Nat, j ≤ n ∧ u = .int .i64 j ∧ BlI w1 q p C k bt j m wr) (fun u _ => n - (intOf u).toNat)
        case atStart => exact ⟨0, by omega, rfl, HI0.out⟩
        case round =>
          obtain ⟨j, hj, rfl, S, T, nx, P, hQ, hP, hdis, hFS, hFT, hsm, hT⟩ := hrel
          have hLo := HL.out.touch hT (fun h => h)
          have l3 := hLo.cell 3
          simp at l3
          have HQ := Lib.hid (And.intro hQ (And.intro hP hdis))
          clear hQ hP hdis hLo
          by_cases hjn : j < n
          · obtain ⟨b, off, rfl, hb, hact⟩ := HA.out (by omega)
            obtain ⟨⟨x1, x2, x3, x4, x5⟩, a0, a1, a2, a3, a4⟩ := (hact j hjn).touch (hT1.trans hT (fun _ _ h => h))
            obtain ⟨⟨what, id, cl, cls, by'⟩, hx⟩ : ∃ x, x = xs j := ⟨_, rfl⟩
            rw [← hx] at x1 x2 x3 x4 x5 a0 a1 a2 a3 a4
            simp only at x1 x2 x3 x4 x5 a0 a1 a2 a3 a4
            clear hact hx
            go_upto_region 11 with (fail)
            obtain ⟨w4, hw4⟩ : ∃ w4, w4 = wr.alloc (.cells #[.int .u8 what, .int .i64 id, .int .i64 cl, .int .i64 cls, .int .i64 by'] 33) := ⟨_, rfl⟩
            rw [← hw4]
            have hT4 : Touch (fun _ => False) wr w4 := by rw [hw4]; exact (Touch.refl _ wr).alloc _
            have hb10 : Blk w4 wr.heap.size 33 #[.int .u8 what, .int .i64 id, .int .i64 cl, .int .i64 cls, .int .i64 by'] := by rw [hw4]; exact Blk.new _ _ _
            have y0 := hb10.cell 0
            have y1 := hb10.cell 1
            have y2 := hb10.cell 2
            have y3 := hb10.cell 3
            have y4 := hb10.cell 4
            simp at y0 y1 y2 y3 y4
            clear hw4 a0 a1 a2 a3 a4 l3
            go_wp2_with fail
            refine (of_any _ id cl cls by').mono ?_
            rintro e w5 ⟨rfl, hT5⟩
            clear y0 y1 y2 y3 y4
            go_upto_region 13 with (fail)
            obtain ⟨w6, hw6⟩ : ∃ w6, w6 = (w5.alloc (.cells #[.int .i64 id, .int .i64 cl, .int .i64 cls, .int .i64 by'] 34)).alloc (.cells #[.int .i64 id, .int .i64 cl, .int .i64 cls, .int .i64 by'] 34) := ⟨_, rfl⟩
            rw [← hw6]
            have hT6 : Touch (fun _ => False) w5 w6 := by rw [hw6]; exact ((Touch.refl _ w5).alloc _).alloc _
            have hb11 : Blk w6 w5.heap.size 34 #[.int .i64 id, .int .i64 cl, .int .i64 cls, .int .i64 by'] := by rw [hw6]; exact (Blk.new _ _ _).alloc _
            have hb12 : Blk w6 (w5.heap.size + 1) 34 #[.int .i64 id, .int .i64 cl, .int .i64 cls, .int .i64 by'] := by
              have := Blk.new (w5.alloc (.cells #[.int .i64 id, .int .i64 cl, .int .i64 cls, .int .i64 by'] 34)) 34 #[.int .i64 id, .int .i64 cl, .int .i64 cls, .int .i64 by']
              rw [World.size_alloc] at this
              rw [hw6]; exact this
            have hT06 : Touch (fun _ => False) wr w6 := (hT4.trans hT5 (fun _ _ h => h)).trans hT6 (fun _ _ h => h)
            have y0 := hb11.cell 0
            have y5 := hb12.cell 0
            have y6 := hb12.frozen 0
            simp at y0 y5
            clear hw6
            by_cases hr1 : id < -1125899906842624
            · have e1 : decide (id < -1125899906842624) = true := by simpa using hr1
              go_wp2
              go_ret
              exact ⟨rfl, (hT1.trans hT (fun _ _ h => h)).trans hT06 (fun _ _ h => h)⟩
            · have e1 : decide (id < -1125899906842624) = false := by simpa using hr1
              by_cases hr2 : 1125899906842624 < id
              · have e2 : decide ((1125899906842624 : Int) < id) = true := by simpa using hr2
                go_wp2
                go_ret
                exact ⟨rfl, (hT1.trans hT (fun _ _ h => h)).trans hT06 (fun _ _ h => h)⟩
              · have e2 : decide ((1125899906842624 : Int) < id) = false := by simpa using hr2
                obtain ⟨s1, s2⟩ := small_mul (show -1125899906842624 ≤ id by omega) (show id ≤ 1125899906842624 by omega) m1 m2
                go_upto_region 30 with (fail)
                obtain ⟨w7, hw7⟩ : ∃ w7, w7 = w6.setCell ⟨w5.heap.size + 1, 0, none⟩ (.int .i64 (id * m + 7)) := ⟨_, rfl⟩
                rw [← hw7]
                have hsz5 : wr.heap.size ≤ w5.heap.size := Nat.le_trans hT4.size hT5.size
                have hT07 : Touch (fun _ => False) wr w7 := by rw [hw7]; exact hT06.setCell (p := ⟨w5.heap.size + 1, 0, none⟩) (.inl (by show wr.heap.size ≤ w5.heap.size + 1; omega)) _
                have hc10 : Blk w7 wr.heap.size 33 #[.int .u8 what, .int .i64 id, .int .i64 cl, .int .i64 cls, .int .i64 by'] := by
                  have h56 := ((hb10.touch hT5 (fun h => h)).touch hT6 (fun h => h))
                  rw [hw7]; exact h56.far (p := ⟨w5.heap.size + 1, 0, none⟩) (by show wr.heap.size ≠ w5.heap.size + 1; omega) _
                have hc11 : Blk w7 w5.heap.size 34 #[.int .i64 id, .int .i64 cl, .int .i64 cls, .int .i64 by'] := by
                  rw [hw7]; exact hb11.far (p := ⟨w5.heap.size + 1, 0, none⟩) (by show w5.heap.size ≠ w5.heap.size + 1; omega) _
                have hc12 : Blk w7 (w5.heap.size + 1) 34 #[.int .i64 (id * m + 7), .int .i64 cl, .int .i64 cls, .int .i64 by'] := by
                  have := hb12.set_ 0 (.int .i64 (id * m + 7))
                  rw [hw7]; simpa using this
                have y0 := hc10.cell 0
                simp at y0
                have hlt := HQ.out.1.lt
                have hltT := HQ.out.2.1.lt
                have HB := Lib.hid (And.intro hc11 hc12)
                have HQ7 := Lib.hid (And.intro (HQ.out.1.touch hT07 (fun _ _ h => h)) (HQ.out.2.1.touch hT07 (fun _ _ h => h)))
                clear y5 y6 hb10 hb11 hb12 hc10 hc11 hc12 hw7 e1 e2 hT4 hT5 hT6 hT06
                obtain ⟨R, HS⟩ : ∃ R : World → Prop, Hid (∀ w', R w' ↔ (Blk w' w5.heap.size 34 #[.int .i64 id, .int .i64 cl, .int .i64 cls, .int .i64 by'] ∧ Blk w' (w5.heap.size + 1) 34 #[.int .i64 (id * m + 7), .int .i64 cl, .int .i64 cls, .int .i64 by'])) := ⟨_, fun _ => Iff.rfl⟩
                by_cases hw2 : what < 2
                · go_wp2_with fail
                  refine wp_region_gr R 6 [(0, false), (1, false), (3, false), (4, false), (2, true), (5, true), (6, true)] (by kernel_rfl) (by kernel_rfl) ((HS.out _).2 ⟨HB.out.1.drew, HB.out.2.drew⟩) (fun hne => ?_)
                  have t0 : ∀ x : SW R, x.w.cell? ⟨w5.heap.size, 0, none⟩ = some (.int .i64 id) := fun x => ((HS.out _).1 x.ok).1.cell 0
                  have t1 : ∀ x : SW R, x.w.cell? ⟨w5.heap.size, 1, none⟩ = some (.int .i64 cl) := fun x => ((HS.out _).1 x.ok).1.cell 1
                  have t2 : ∀ x : SW R, x.w.cell? ⟨w5.heap.size, 2, none⟩ = some (.int .i64 cls) := fun x => ((HS.out _).1 x.ok).1.cell 2
                  have t3 : ∀ x : SW R, x.w.cell? ⟨w5.heap.size, 3, none⟩ = some (.int .i64 by') := fun x => ((HS.out _).1 x.ok).1.cell 3
                  have v0 : ∀ x : SW R, x.w.cell? ⟨w5.heap.size + 1, 0, none⟩ = some (.int .i64 (id * m + 7)) := fun x => ((HS.out _).1 x.ok).2.cell 0
                  have v1 : ∀ x : SW R, x.w.cell? ⟨w5.heap.size + 1, 1, none⟩ = some (.int .i64 cl) := fun x => ((HS.out _).1 x.ok).2.cell 1
                  have v2 : ∀ x : SW R, x.w.cell? ⟨w5.heap.size + 1, 2, none⟩ = some (.int .i64 cls) := fun x => ((HS.out _).1 x.ok).2.cell 2
                  have v3 : ∀ x : SW R, x.w.cell? ⟨w5.heap.size + 1, 3, none⟩ = some (.int .i64 by') := fun x => ((HS.out _).1 x.ok).2.cell 3
                  simp only [withOps, List.filterMap_cons, List.filterMap_nil, Option.map_some, List.getElem?_cons_zero, List.getElem?_cons_succ]
                  repeat (refine wpGr_q ?_; (first | go_big_quiet_skip | (go_big_quiet_want; go_big_quiet_op; go_big_quiet_on)); refine wpQuiet_nil ?_)
                  clear t0 t1 t2 t3 v0 v1 v2 v3
                  refine wpGr_eff rfl (fun K1 hK1 => ?_)
                  go_wp2_with fail
                  refine (addAny _ S q C k bt nx j P id cl cls by' (HQ7.out.1.touch (Touch.refl (fun _ => False) w7).drew (fun _ _ h => h)) (by omega) x5.2).mono ?_
                  rintro e w8 ⟨r1, S', P1, rfl, hQ8, hT8, hF8, hres1⟩
                  have hT78 : Touch S w7 w8 := (Touch.refl S w7).drew.trans hT8 (fun _ _ h => h)
                  have hb8 : Blk w8 w5.heap.size 34 #[.int .i64 id, .int .i64 cl, .int .i64 cls, .int .i64 by'] ∧ Blk w8 (w5.heap.size + 1) 34 #[.int .i64 (id * m + 7), .int .i64 cl, .int .i64 cls, .int .i64 by'] := ⟨HB.out.1.touch hT78 (fun hs => by have := hlt _ hs; omega), HB.out.2.touch hT78 (fun hs => by have := hlt _ hs; omega)⟩
                  have HQ8 := Lib.hid (And.intro hQ8 (And.intro hT8 (And.intro hF8 hres1)))
                  refine hK1 _ _ ⟨.inr ((HS.out _).2 hb8), ?_⟩
                  clear hQ8 hT8 hF8 hres1
                  refine wpGr_eff rfl (fun K2 hK2 => ?_)
                  go_wp2_with fail
                  have hP8 : Qm w8 T p C k bt nx j (mapF m P) := HQ7.out.2.touch hT78 (fun b hb hs => HQ.out.2.2 b hs hb)
                  refine (addAny _ T p C k bt nx j (mapF m P) (id * m + 7) cl cls by' hP8 (by omega) x5.2).mono ?_
                  rintro e w9 ⟨r2, T', P2, rfl, hQ9, hT9, hF9, hres2⟩
                  obtain ⟨rfl, rfl, hsm'⟩ := add_same m1 hsm (by omega) HQ8.out.2.2.2 hres2
                  have hlt8 := HQ8.out.1.lt
                  have hsz7 := hT07.size
                  have hsz8 := hT78.size
                  have hsz := hT.size
                  have hb9 : Blk w9 w5.heap.size 34 #[.int .i64 id, .int .i64 cl, .int .i64 cls, .int .i64 by'] ∧ Blk w9 (w5.heap.size + 1) 34 #[.int .i64 (id * m + 7), .int .i64 cl, .int .i64 cls, .int .i64 by'] := ⟨hb8.1.touch hT9 (fun hs => by have := hltT _ hs; omega), hb8.2.touch hT9 (fun hs => by have := hltT _ hs; omega)⟩
                  have hS'T : ∀ b, S' b → ¬ T b := fun b hb hb' => by
                    rcases HQ8.out.2.2.1 b hb with h | h
                    · exact HQ.out.2.2 b h hb'
                    · have := hltT b hb'; simp at h; omega
                  have hI : BlI w1 q p C k bt (j + 1) m w9 := by
                    refine ⟨S', T', nx, P1, HQ8.out.1.touch hT9 hS'T, hQ9, fun b hb hb' => ?_, fun b hb => ?_, fun b hb => ?_, hsm', ((hT.trans hT07 (fun _ _ h => h)).trans hT78 (fun b hb hs => by have := hFS b hs; omega)).trans hT9 (fun b hb hs => by have := hFT b hs; omega)⟩
                    · rcases hF9 b hb' with h | h
                      · exact hS'T b hb h
                      · have := hlt8 b hb; omega
                    · rcases HQ8.out.2.2.1 b hb with h | h
                      · exact hFS b h
                      · simp at h; omega
                    · rcases hF9 b hb with h | h
                      · exact hFT b h
                      · omega
                  have HI := Lib.hid hI
                  refine hK2 _ _ ⟨.inr ((HS.out _).2 hb9), ?_⟩
                  clear hI hQ9 hT9 hF9 hres2 hb8 hb9 hP8
                  refine wpGr_eff rfl (fun K3 hK3 => ?_)
                  go_wp2_with fail
                  refine wpGr_nil ?_
                  go_wp2
                  go_roundw
                  case rel => exact ⟨j + 1, by omega, by go_num, HI.out⟩
                  case measure => simp [intOf]; omega
                · have hwl : decide ((what : Int) < 2) = false := by simp; omega
                  by_cases hw3 : what = 2
                  · have hwe : ((what : Int) == 2) = true := by simp [hw3]
                    clear hw3 hw2
                    go_wp2_with fail
                    refine wp_region_gr R 8 [(0, false), (1, false), (2, false), (4, false), (5, false), (6, false), (3, true), (7, true), (8, true)] (by kernel_rfl) (by kernel_rfl) ((HS.out _).2 ⟨HB.out.1.drew, HB.out.2.drew⟩) (fun hne => ?_)
                    have t0 : ∀ x : SW R, x.w.cell? ⟨w5.heap.size, 0, none⟩ = some (.int .i64 id) := fun x => ((HS.out _).1 x.ok).1.cell 0
                    have v0 : ∀ x : SW R, x.w.cell? ⟨w5.heap.size + 1, 0, none⟩ = some (.int .i64 (id * m + 7)) := fun x => ((HS.out _).1 x.ok).2.cell 0
                    simp only [withOps, List.filterMap_cons, List.filterMap_nil, Option.map_some, List.getElem?_cons_zero, List.getElem?_cons_succ]
                    repeat (refine wpGr_q ?_; (first | go_big_quiet_skip | (go_big_quiet_want; go_big_quiet_op; go_big_quiet_on)); refine wpQuiet_nil ?_)
                    clear t0 v0
                    refine wpGr_eff rfl (fun K1 hK1 => ?_)
                    go_wp2_with fail
                    refine (dropAny _ S q C k bt nx j P id (HQ7.out.1.touch (Touch.refl (fun _ => False) w7).drew (fun _ _ h => h)) (by omega)).mono ?_
                    rintro e w8 ⟨r1, P1, rfl, hQ8, hT8, hres1⟩
                    have hT78 : Touch S w7 w8 := (Touch.refl S w7).drew.trans hT8 (fun _ _ h => h)
                    have hb8 : Blk w8 w5.heap.size 34 #[.int .i64 id, .int .i64 cl, .int .i64 cls, .int .i64 by'] ∧ Blk w8 (w5.heap.size + 1) 34 #[.int .i64 (id * m + 7), .int .i64 cl, .int .i64 cls, .int .i64 by'] := ⟨HB.out.1.touch hT78 (fun hs => by have := hlt _ hs; omega), HB.out.2.touch hT78 (fun hs => by have := hlt _ hs; omega)⟩
                    have HQ8 := Lib.hid (And.intro hQ8 (And.intro hT8 hres1))
                    refine hK1 _ _ ⟨.inr ((HS.out _).2 hb8), ?_⟩
                    clear hQ8 hT8 hres1
                    refine wpGr_eff rfl (fun K2 hK2 => ?_)
                    go_wp2_with fail
                    have hP8 : Qm w8 T p C k bt nx j (mapF m P) := HQ7.out.2.touch hT78 (fun b hb hs => HQ.out.2.2 b hs hb)
                    refine (dropAny _ T p C k bt nx j (mapF m P) (id * m + 7) hP8 (by omega)).mono ?_
                    rintro e w9 ⟨r2, P2, rfl, hQ9, hT9, hres2⟩
                    obtain ⟨rfl, rfl, hsm'⟩ := drop_same m1 HQ.out.1 hsm HQ8.out.2.2 hres2
                    have hb9 : Blk w9 w5.heap.size 34 #[.int .i64 id, .int .i64 cl, .int .i64 cls, .int .i64 by'] ∧ Blk w9 (w5.heap.size + 1) 34 #[.int .i64 (id * m + 7), .int .i64 cl, .int .i64 cls, .int .i64 by'] := ⟨hb8.1.touch hT9 (fun hs => by have := hltT _ hs; omega), hb8.2.touch hT9 (fun hs => by have := hltT _ hs; omega)⟩
                    have hI : BlI w1 q p C k bt (j + 1) m w9 :=
                      ⟨S, T, nx, P1, (HQ8.out.1.touch hT9 HQ.out.2.2).mono (by omega), hQ9.mono (by omega), HQ.out.2.2, hFS, hFT, hsm', ((hT.trans hT07 (fun _ _ h => h)).trans hT78 (fun b hb hs => by have := hFS b hs; omega)).trans hT9 (fun b hb hs => by have := hFT b hs; omega)⟩
                    have HI := Lib.hid hI
                    refine hK2 _ _ ⟨.inr ((HS.out _).2 hb9), ?_⟩
                    clear hI hQ9 hT9 hres2 hb8 hb9 hP8
                    refine wpGr_eff rfl (fun K3 hK3 => ?_)
                    go_wp2_with fail
                    refine wpGr_nil ?_
                    go_wp2
                    go_roundw
                    case rel => exact ⟨j + 1, by omega, by go_num, HI.out⟩
                    case measure => simp [intOf]; omega
                  · have hwe : ((what : Int) == 2) = false := by rw [beq_eq_false_iff_ne]; omega
                    clear hw3 hw2
                    obtain ⟨B, hB⟩ : ∃ B, B = batchP P C nx bt := ⟨_, rfl⟩
                    obtain ⟨D, hD⟩ : ∃ D, D = doneP k B := ⟨_, rfl⟩
                    obtain ⟨n1, hn1⟩ : ∃ n1, B.length = n1 := ⟨_, rfl⟩
                    obtain ⟨n2, hn2⟩ : ∃ n2, D.length = n2 := ⟨_, rfl⟩
                    have hIB := HQ.out.1.batch
                    rw [← hB] at hIB
                    have HBD := Lib.hid (And.intro hB (And.intro hD (And.intro hn1 (And.intro hn2 hIB))))
                    clear hB hD hn1 hn2 hIB
                    go_wp2_with fail
                    refine (tickD _ S q C k bt nx j P _ B D n1 n2 (nextP C nx B) HQ7.out.1 (by omega) HBD.out.1 HBD.out.2.1 rfl rfl HBD.out.2.2.1 HBD.out.2.2.2.1).mono ?_
                    rintro e w8 ⟨A1, c1, A2, c2, rfl, ha1, ha2, f1, f2, hQ8, hT8⟩
                    have hP8 : Qm w8 T p C k bt nx j (mapF m P) := HQ7.out.2.touch hT8 (fun b hb hs => HQ.out.2.2 b hs hb)
                    have HQ8 := Lib.hid (And.intro hQ8 (And.intro hP8 (And.intro ha1 (And.intro ha2 hT8))))
                    clear hQ8 hP8 ha1 ha2 hT8
                    go_wp2_with fail
                    refine (tickD _ T p C k bt nx j (mapF m P) (mapF m (hitsP k P B)) (B.map (mapJ m)) (D.map (mapJ m)) n1 n2 (nextP C nx B) HQ8.out.2.1 (by omega) (by rw [mapF_batch, ← HBD.out.1]) (by rw [map_doneP, ← HBD.out.2.1]) (mapF_hits m k B P).symm (map_nextP m C nx B).symm (by rw [List.length_map]; exact HBD.out.2.2.1) (by rw [List.length_map]; exact HBD.out.2.2.2.1)).mono ?_
                    rintro e w9 ⟨A3, c3, A4, c4, rfl, ha3, ha4, f3, f4, hQ9, hT9⟩
                    have hr1 := HQ8.out.2.2.1.touch hT9 (fun a ha hs => by have := hltT _ hs; have := f1 a ha; have := hT07.size; omega)
                    have hr2 := HQ8.out.2.2.2.1.touch hT9 (fun a ha hs => by have := hltT _ hs; have := f2 a ha; have := hT07.size; omega)
                    rw [List.map_map] at ha3 ha4
                    have HR := Lib.hid (And.intro hr1 (And.intro hr2 (And.intro ha3 ha4)))
                    have hI : BlI w1 q p C k bt (j + 1) m w9 := by
                      refine ⟨S, T, nextP C nx B, hitsP k P B, (HQ8.out.1.touch hT9 HQ.out.2.2).mono (by omega), hQ9.mono (by omega), HQ.out.2.2, hFS, hFT, ?_, ((hT.trans hT07 (fun _ _ h => h)).trans HQ8.out.2.2.2.2 (fun b hb hs => by have := hFS b hs; omega)).trans hT9 (fun b hb hs => by have := hFT b hs; omega)⟩
                      refine hsm.hits B (fun y hy => ?_)
                      obtain ⟨e1, e2⟩ := HBD.out.2.2.2.2.head y hy
                      exact ⟨e1, hsm _ e1 y (List.mem_of_getElem? e2)⟩
                    have hsB : ∀ y ∈ B, -1125899906842624 ≤ y.id ∧ y.id ≤ 1125899906842624 := fun y hy => by
                      obtain ⟨e1, e2⟩ := HBD.out.2.2.2.2.head y hy
                      exact hsm _ e1 y (List.mem_of_getElem? e2)
                    have hsD : ∀ y ∈ D, -1125899906842624 ≤ y.id ∧ y.id ≤ 1125899906842624 := fun y hy => by
                      rw [HBD.out.2.1] at hy
                      exact hsB y (List.mem_filter.1 hy).1
                    have HI := Lib.hid (And.intro hI (And.intro hsB hsD))
                    have hnn1 : n1 ≤ 16 := by
                      have := (batch_facts (HQ.out.1.nums.2.2.1) (by omega) P (bt := bt)).1
                      rw [← HBD.out.1, HBD.out.2.2.1] at this
                      omega
                    have hnn2 : n2 ≤ n1 := by
                      have : D.length ≤ B.length := by rw [HBD.out.2.1]; exact List.length_filter_le _ _
                      have := HBD.out.2.2.1
                      have := HBD.out.2.2.2.1
                      omega
                    clear hI hsB hsD hr1 hr2 ha3 ha4 f1 f2 f3 f4 hQ9 hT9
                    go_wp2_with fail
                    go_loopw [17] (fun u w10 => ∃ i : Nat, i ≤ n1 ∧ u = .int .i64 i ∧ Touch (fun _ => False) w9 w10) (fun u _ => n1 - (intOf u).toNat)
                    case atStart => exact ⟨0, by omega, rfl, Touch.refl _ _⟩
                    case round =>
                      obtain ⟨i, hi, rfl, hTi⟩ := hrel
                      obtain ⟨w10, rfl⟩ : ∃ w10 : World, w10 = wr := ⟨_, rfl⟩
                      by_cases hin : i < n1
                      · obtain ⟨y, hy⟩ : ∃ y, B[i]? = some y := ⟨_, List.getElem?_eq_getElem (by rw [HBD.out.2.2.1]; exact hin)⟩
                        obtain ⟨q1, q2⟩ := HI.out.2.1 y (List.mem_of_getElem? hy)
                        obtain ⟨g1, rfl, hg1⟩ := (HR.out.1.touch hTi (fun _ _ h => h)).cell (iv_get (show (B.map (·.id))[i]? = some y.id by rw [List.getElem?_map, hy]; rfl))
                        obtain ⟨g3, rfl, hg3⟩ := (HR.out.2.2.1.touch hTi (fun _ _ h => h)).cell (iv_get (show (B.map ((fun x => x.id) ∘ mapJ m))[i]? = some (y.id * m + 7) by rw [List.getElem?_map, hy]; rfl))
                        obtain ⟨t1, t2⟩ := small_mul q1 q2 m1 m2
                        clear hy
                        go_wp2
                        refine wp_region_qall (by kernel_rfl) (by kernel_rfl) ?_
                        repeat (first | go_big_quiet_skip | (go_big_quiet_want; go_big_quiet_op; go_big_quiet_on))
                        refine wpQuiet_nil ?_
                        go_wp2
                        go_roundw
                        case rel => exact ⟨i + 1, by omega, by go_num, hTi.drew⟩
                        case measure => simp [intOf]; omega
                      · go_wp2_with fail
                        go_loopw [18] (fun u w11 => ∃ i : Nat, i ≤ n2 ∧ u = .int .i64 i ∧ Touch (fun _ => False) w9 w11) (fun u _ => n2 - (intOf u).toNat)
                        case atStart => exact ⟨0, by omega, rfl, hTi⟩
                        case round =>
                          obtain ⟨z, hz, rfl, hTz⟩ := hrel
                          obtain ⟨w11, rfl⟩ : ∃ w11 : World, w11 = wr := ⟨_, rfl⟩
                          by_cases hzn : z < n2
                          · obtain ⟨y, hy⟩ : ∃ y, D[z]? = some y := ⟨_, List.getElem?_eq_getElem (by rw [HBD.out.2.2.2.1]; exact hzn)⟩
                            obtain ⟨q1, q2⟩ := HI.out.2.2 y (List.mem_of_getElem? hy)
                            obtain ⟨g1, rfl, hg1⟩ := (HR.out.2.1.touch hTz (fun _ _ h => h)).cell (iv_get (show (D.map (·.id))[z]? = some y.id by rw [List.getElem?_map, hy]; rfl))
                            obtain ⟨g3, rfl, hg3⟩ := (HR.out.2.2.2.touch hTz (fun _ _ h => h)).cell (iv_get (show (D.map ((fun x => x.id) ∘ mapJ m))[z]? = some (y.id * m + 7) by rw [List.getElem?_map, hy]; rfl))
                            obtain ⟨t1, t2⟩ := small_mul q1 q2 m1 m2
                            clear hy
                            go_wp2
                            refine wp_region_qall (by kernel_rfl) (by kernel_rfl) ?_
                            repeat (first | go_big_quiet_skip | (go_big_quiet_want; go_big_quiet_op; go_big_quiet_on))
                            refine wpQuiet_nil ?_
                            go_wp2
                            go_roundw
                            case rel => exact ⟨z + 1, by omega, by go_num, hTz.drew⟩
                            case measure => simp [intOf]; omega
                          · obtain ⟨S1, T1, nx1, P1, i1, i2, i3, i4, i5, i6, i7⟩ := HI.out.1
                            have hI : BlI w1 q p C k bt (j + 1) m w11 := ⟨S1, T1, nx1, P1, i1.touch hTz (fun _ _ h => h), i2.touch hTz (fun _ _ h => h), i3, i4, i5, i6, i7.trans hTz (fun _ _ h => h)⟩
                            have HI2 := Lib.hid hI
                            clear hI i1 i2 i3 i4 i5 i6 i7
                            go_wp2
                            go_roundw
                            case rel => exact ⟨j + 1, by omega, by go_num, HI2.out⟩
                            case measure => simp [intOf]; omega
          · go_wp2_with fail
            refine (awake_any _).mono ?_
            rintro e w9 ⟨rfl, hT9⟩
            go_wp2
            go_ret
            exact ⟨rfl, (hT1.trans hT (fun _ _ h => h)).trans hT9 (fun _ _ h => h)⟩
      · go_enter Try.func3, Try.ntmps3
        go_wp2_with fail
        rw [← HW.out]
        refine (new_no _ C k bt hok).mono ?_
        rintro e w2 ⟨rfl, rfl⟩
        rw [HW.out]
        go_wp2_with fail
        refine (new_no _ C k bt hok).mono ?_
        rintro e w2 ⟨rfl, rfl⟩
        clear hok
        go_wp2_with fail
        refine (awake_any _).mono ?_
        rintro e w3 ⟨rfl, hT3⟩
        rw [← HW.out] at hT3
        go_wp2
        go_ret
        exact ⟨rfl, hT1.trans hT3 (fun _ _ h => h)⟩
    · by_cases hm1 : m < 1
      · have z2 : decide (m < 1) = true := by simpa using hm1
        go_enter Try.func3, Try.ntmps3
        go_wp2
        rw [← HW.out]
        go_ret
        exact ⟨rfl, hT1⟩
      · have z2 : decide (m < 1) = false := by simpa using hm1
        have z3 : decide ((1000 : Int) < m) = true := by simp; omega
        go_enter Try.func3, Try.ntmps3
        go_wp2
        rw [← HW.out]
        go_ret
        exact ⟨rfl, hT1⟩
  · have z1 : decide ((200 : Int) < n) = true := by simp; omega
    go_enter Try.func3, Try.ntmps3
    go_wp2
    rw [← HW.out]
    go_ret
    exact ⟨rfl, hT1⟩
end Go.Proofs.Ytijdjcmdmppgaaa
