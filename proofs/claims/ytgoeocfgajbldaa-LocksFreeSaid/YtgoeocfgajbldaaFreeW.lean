/- LocksFree: the walk. -/
import Derived.Test.YtgoeocfgajbldaaQ
namespace Go.Proofs.Ytgoeocfgajbldaa
open Go.RowKit
set_option linter.unusedVariables false

/-- Both holds, boxed. -/
structure FS (w : World) (p q : Nat) (a b : RH) : Prop where
  ba : Blk w p 40 a.cells
  bb : Blk w q 40 b.cells
  ra : RhOk w a
  rb : RhOk w b
theorem FS.touch {w w' : World} {p q : Nat} {a b : RH} (h : FS w p q a b) (ht : Touch (fun _ => False) w w') : FS w' p q a b :=
  ⟨h.ba.touch ht (fun h => h), h.bb.touch ht (fun h => h), h.ra.touch ht (fun _ _ h => h), h.rb.touch ht (fun _ _ h => h)⟩
theorem FS.map {w w' : World} {p q m : Nat} {a b : RH} {E : List Ent} (h : FS w p q a b) (hm : Mp w m E) (ht : Touch (fun b => b = m) w w') : FS w' p q a b :=
  ⟨h.ba.touch ht (h.ba.ne_map hm), h.bb.touch ht (h.bb.ne_map hm), h.ra.map hm ht, h.rb.map hm ht⟩

/-- The second is taken or not: freed, the first alone is there. -/
theorem freeL_take {hd : Hd} {n n' : Int} {r t : List Sp} {L' : List LE} (h : TakeL [(n, hd)] n' r t L') (hne : n ≠ n') : freeL L' n' = [(n, hd)] := by
  rcases h with ⟨_, hd', _, _, rfl⟩ | ⟨_, rfl⟩
  · unfold insL freeL
    split
    · simp [hne]
    · simp [insL, hne]
  · simp [freeL, hne]

set_option maxRecDepth 20000 in
set_option maxHeartbeats 2000000 in
theorem free_walk (w : World) (a b : RH) (ha : RhOk w a) (hb : RhOk w b) : Calls Try.prog 6 #[.agg a.cells, .agg b.cells] w fun e w' => e = .returned (.bool true) ∧ Touch (fun _ => False) w w' := by
  obtain ⟨W, hW⟩ : ∃ W, W = (w.alloc (.cells a.cells 40)).alloc (.cells b.cells 40) := ⟨_, rfl⟩
  have hT : Touch (fun _ => False) w W := by rw [hW]; exact ((Touch.refl _ w).alloc _).alloc _
  have hF : FS W w.heap.size (w.heap.size + 1) a b := by
    refine ⟨by rw [hW]; exact (Blk.new _ _ _).alloc _, ?_, ha.touch hT (fun _ _ h => h), hb.touch hT (fun _ _ h => h)⟩
    have := Blk.new (w.alloc (.cells a.cells 40)) 40 b.cells
    rw [World.size_alloc] at this
    rw [hW]; exact this
  obtain ⟨p, hp⟩ : ∃ p, p = w.heap.size := ⟨_, rfl⟩
  obtain ⟨q, hq⟩ : ∃ q, q = w.heap.size + 1 := ⟨_, rfl⟩
  rw [← hq, ← hp] at hF
  have a0 : W.cell? ⟨p, 0, none⟩ = some (.int .i64 a.n) := hF.ba.cell 0
  have a1 : W.cell? ⟨p, 1, none⟩ = some (.slice a.A a.r.length a.ca) := hF.ba.cell 1
  have a2 : W.cell? ⟨p, 2, none⟩ = some (.slice a.B a.t.length a.cb) := hF.ba.cell 2
  have b0 : W.cell? ⟨q, 0, none⟩ = some (.int .i64 b.n) := hF.bb.cell 0
  have b1 : W.cell? ⟨q, 1, none⟩ = some (.slice b.A b.r.length b.ca) := hF.bb.cell 1
  have b2 : W.cell? ⟨q, 2, none⟩ = some (.slice b.B b.t.length b.cb) := hF.bb.cell 2
  have HW := Lib.hid (And.intro hF hT)
  clear hF hT ha hb
  unfold RH.cells at hW ⊢
  go_enter Try.func6, Try.ntmps6
  go_upto_region 1 with fail
  refine Eq.mp (congrArg (fun x => Code.wp _ _ _ _ x) hW) ?_
  rw [← hq, ← hp]
  clear hW hp hq
  go_wp2_with fail
  refine (small_any _ a.A a.ca a.r.length a.r rfl HW.out.1.ra.row).mono ?_
  rintro e w' ⟨rfl, rfl⟩
  cases hx1 : smallI a.r with
  | false =>
    go_wp2
    go_ret
    exact ⟨rfl, HW.out.2⟩
  | true =>
    go_wp2_with fail
    refine (small_any _ a.B a.cb a.t.length a.t rfl HW.out.1.ra.row2).mono ?_
    rintro e w' ⟨rfl, rfl⟩
    cases hx2 : smallI a.t with
    | false =>
      go_wp2
      go_ret
      exact ⟨rfl, HW.out.2⟩
    | true =>
      go_wp2_with fail
      refine (small_any _ b.A b.ca b.r.length b.r rfl HW.out.1.rb.row).mono ?_
      rintro e w' ⟨rfl, rfl⟩
      cases hx3 : smallI b.r with
      | false =>
        go_wp2
        go_ret
        exact ⟨rfl, HW.out.2⟩
      | true =>
        go_wp2_with fail
        refine (small_any _ b.B b.cb b.t.length b.t rfl HW.out.1.rb.row2).mono ?_
        rintro e w' ⟨rfl, rfl⟩
        cases hx4 : smallI b.t with
        | false =>
          go_wp2
          go_ret
          exact ⟨rfl, HW.out.2⟩
        | true =>
          by_cases hne : a.n = b.n
          · have hne' : (a.n == b.n) = true := by simpa using hne
            go_wp2
            go_ret
            exact ⟨rfl, HW.out.2⟩
          · have hne' : (a.n == b.n) = false := by simpa using hne
            have HN := Lib.hid hne
            clear hne
            go_wp2_with fail
            refine (new_any _).mono ?_
            rintro e w1 ⟨k, m, rfl, hk, hT1, hm⟩
            have hm' : w.heap.size ≤ m := by have := HW.out.2.size; omega
            have HM := Lib.hid hm'
            have HB := Lib.hid (And.intro (HW.out.1.touch hT1) (And.intro hk (HW.out.2.trans hT1 (fun _ _ h => h))))
            have HSM := Lib.hid (And.intro hx1 (And.intro hx2 (And.intro hx3 hx4)))
            clear hk hT1 hm hm' a0 a1 a2 b0 b1 b2 hx1 hx2 hx3 hx4
            go_wp2_with fail
            obtain ⟨S4, HS4⟩ : ∃ S : World → Prop, Hid (∀ w', S w' ↔ Blk w' p 40 a.cells) := ⟨_, fun _ => Iff.rfl⟩
            refine wp_region_tr S4 (.q 0 (.q 1 (.q 2 (.q 3 (.q 4 (.q 6 (.q 7 (.e 5 (.e 8 (.e 9 (.q 10 .nil))))))))))) (by kernel_rfl) (by kernel_rfl) ((HS4.out _).2 (HB.out.1.ba)) (fun hne => ?_)
            have z0 : ∀ x : SW S4, x.w.cell? ⟨p, 0, none⟩ = some (.int .i64 a.n) := fun x => ((HS4.out _).1 x.ok).cell 0
            have z1 : ∀ x : SW S4, x.w.cell? ⟨p, 1, none⟩ = some (.slice a.A a.r.length a.ca) := fun x => ((HS4.out _).1 x.ok).cell 1
            have z2 : ∀ x : SW S4, x.w.cell? ⟨p, 2, none⟩ = some (.slice a.B a.t.length a.cb) := fun x => ((HS4.out _).1 x.ok).cell 2
            repeat (refine wpTr_q (by simp only [List.getElem?_toArray, List.getElem?_cons_zero, List.getElem?_cons_succ]; rfl) ?_; (first | go_big_quiet_skip | (go_big_quiet_want; go_big_quiet_op; go_big_quiet_on)); refine wpQuiet_nil ?_)
            clear z0 z1 z2
            have hF4 := HB.out.1.touch (Touch.refl (fun _ => False) _).drew
            have hL4 := HB.out.2.1.touch (Touch.refl (fun _ => False) _).drew
            have hT4 := HB.out.2.2.drew
            refine wpTr_e (by simp only [List.getElem?_toArray, List.getElem?_cons_zero, List.getElem?_cons_succ]; rfl) (fun K1 hK1 => ?_)
            go_wp2_with fail
            refine (spansI_any _ a.A a.ca a.r.length a.r rfl HSM.out.1 hF4.ra.row).mono ?_
            rintro e v1 ⟨⟨A1, c1, rfl, hs1⟩, hV1⟩
            have hF1 := hF4.touch hV1
            refine hK1 _ _ ⟨(HS4.out _).2 hF1.ba, ?_⟩
            have HV1 := Lib.hid (And.intro hF1 (And.intro hs1 (And.intro (hL4.touch hV1) (hT4.trans hV1 (fun _ _ h => h)))))
            clear hF4 hL4 hT4 hV1 hF1 hs1 hK1
            refine wpTr_e (by simp only [List.getElem?_toArray, List.getElem?_cons_zero, List.getElem?_cons_succ]; rfl) (fun K2 hK2 => ?_)
            go_wp2_with fail
            refine (spansI_any _ a.B a.cb a.t.length a.t rfl HSM.out.2.1 HV1.out.1.ra.row2).mono ?_
            rintro e v2 ⟨⟨A2, c2, rfl, hs2⟩, hV2⟩
            have hF2 := HV1.out.1.touch hV2
            refine hK2 _ _ ⟨(HS4.out _).2 hF2.ba, ?_⟩
            have HV2 := Lib.hid (And.intro hF2 (And.intro hs2 (And.intro (HV1.out.2.2.1.touch hV2) (And.intro (HV1.out.2.2.2.trans hV2 (fun _ _ h => h)) (HV1.out.2.1.touch hV2)))))
            clear hV2 hF2 hs2 hK2
            refine wpTr_e (by simp only [List.getElem?_toArray, List.getElem?_cons_zero, List.getElem?_cons_succ]; rfl) (fun K3 hK3 => ?_)
            go_wp2_with fail
            refine (take_any _ k m [] a.n A1 A2 c1 c2 _ _ (a.r.map toSp) (a.t.map toSp) HV2.out.2.2.1 HV2.out.2.2.2.2 HV2.out.2.1 (by rw [List.length_map]) (by rw [List.length_map]) HV2.out.1.ra.wf (by simp)).mono ?_
            rintro e u4 ⟨rfl, ⟨L4, hL', hk⟩, hV3⟩
            have hF3 := HV2.out.1.map HV2.out.2.2.1.mp hV3
            have HU4 := Lib.hid (And.intro hF3 (And.intro hk (And.intro (HV2.out.2.2.2.1.trans hV3 (fun x hx h => by have := HM.out; omega)) hL')))
            refine hK3 _ _ ⟨(HS4.out _).2 hF3.ba, ?_⟩
            clear hF3 hk hV3 hL' hK3
            have ht0 : takeN [] a.n (a.r.map toSp) (a.t.map toSp) = 0 := rfl
            rw [ht0]
            repeat (refine wpTr_q (by simp only [List.getElem?_toArray, List.getElem?_cons_zero, List.getElem?_cons_succ]; rfl) ?_; (first | go_big_quiet_skip | (go_big_quiet_want; go_big_quiet_op; go_big_quiet_on)); refine wpQuiet_nil ?_)
            refine wpTr_nil ?_
            obtain ⟨hd, e1, e2, hL4⟩ : ∃ hd : Hd, hd.reads = a.r.map toSp ∧ hd.writes = a.t.map toSp ∧ L4 = [(a.n, hd)] := by
              rcases HU4.out.2.2.2 with ⟨_, hd, h1, h2, h3⟩ | ⟨h1, _⟩
              · exact ⟨hd, h1, h2, h3⟩
              · exact absurd rfl h1
            subst hL4
            clear ht0
            go_wp2_with fail
            obtain ⟨S6, HS6⟩ : ∃ S : World → Prop, Hid (∀ w', S w' ↔ Blk w' q 40 b.cells) := ⟨_, fun _ => Iff.rfl⟩
            refine wp_region_tr S6 (.q 0 (.q 1 (.q 2 (.q 3 (.q 4 (.q 6 (.q 7 (.e 5 (.e 8 (.e 9 .nil)))))))))) (by kernel_rfl) (by kernel_rfl) ((HS6.out _).2 (HU4.out.1.bb)) (fun hne => ?_)
            have z0 : ∀ x : SW S6, x.w.cell? ⟨q, 0, none⟩ = some (.int .i64 b.n) := fun x => ((HS6.out _).1 x.ok).cell 0
            have z1 : ∀ x : SW S6, x.w.cell? ⟨q, 1, none⟩ = some (.slice b.A b.r.length b.ca) := fun x => ((HS6.out _).1 x.ok).cell 1
            have z2 : ∀ x : SW S6, x.w.cell? ⟨q, 2, none⟩ = some (.slice b.B b.t.length b.cb) := fun x => ((HS6.out _).1 x.ok).cell 2
            repeat (refine wpTr_q (by simp only [List.getElem?_toArray, List.getElem?_cons_zero, List.getElem?_cons_succ]; rfl) ?_; (first | go_big_quiet_skip | (go_big_quiet_want; go_big_quiet_op; go_big_quiet_on)); refine wpQuiet_nil ?_)
            clear z0 z1 z2
            have hF6 := HU4.out.1.touch (Touch.refl (fun _ => False) _).drew
            have hL6 := HU4.out.2.1.touch (Touch.refl (fun _ => False) _).drew
            have hT6 := HU4.out.2.2.1.drew
            refine wpTr_e (by simp only [List.getElem?_toArray, List.getElem?_cons_zero, List.getElem?_cons_succ]; rfl) (fun K1 hK1 => ?_)
            go_wp2_with fail
            refine (spansI_any _ b.A b.ca b.r.length b.r rfl HSM.out.2.2.1 hF6.rb.row).mono ?_
            rintro e v1 ⟨⟨A1, c1, rfl, hs1⟩, hV1⟩
            have hF1 := hF6.touch hV1
            refine hK1 _ _ ⟨(HS6.out _).2 hF1.bb, ?_⟩
            have HV1 := Lib.hid (And.intro hF1 (And.intro hs1 (And.intro (hL6.touch hV1) (hT6.trans hV1 (fun _ _ h => h)))))
            clear hF6 hL6 hT6 hV1 hF1 hs1 hK1
            refine wpTr_e (by simp only [List.getElem?_toArray, List.getElem?_cons_zero, List.getElem?_cons_succ]; rfl) (fun K2 hK2 => ?_)
            go_wp2_with fail
            refine (spansI_any _ b.B b.cb b.t.length b.t rfl HSM.out.2.2.2 HV1.out.1.rb.row2).mono ?_
            rintro e v2 ⟨⟨A2, c2, rfl, hs2⟩, hV2⟩
            have hF2 := HV1.out.1.touch hV2
            refine hK2 _ _ ⟨(HS6.out _).2 hF2.bb, ?_⟩
            have HV2 := Lib.hid (And.intro hF2 (And.intro hs2 (And.intro (HV1.out.2.2.1.touch hV2) (And.intro (HV1.out.2.2.2.trans hV2 (fun _ _ h => h)) (HV1.out.2.1.touch hV2)))))
            clear hV2 hF2 hs2 hK2
            refine wpTr_e (by simp only [List.getElem?_toArray, List.getElem?_cons_zero, List.getElem?_cons_succ]; rfl) (fun K3 hK3 => ?_)
            go_wp2_with fail
            refine (take_any _ k m [(a.n, hd)] b.n A1 A2 c1 c2 _ _ (b.r.map toSp) (b.t.map toSp) HV2.out.2.2.1 HV2.out.2.2.2.2 HV2.out.2.1 (by rw [List.length_map]) (by rw [List.length_map]) HV2.out.1.rb.wf (by simp)).mono ?_
            rintro e u6 ⟨rfl, ⟨L6, hL', hk⟩, hV3⟩
            have hF3 := HV2.out.1.map HV2.out.2.2.1.mp hV3
            have HU6 := Lib.hid (And.intro hF3 (And.intro hk (And.intro (HV2.out.2.2.2.1.trans hV3 (fun x hx h => by have := HM.out; omega)) hL')))
            refine hK3 _ _ ⟨(HS6.out _).2 hF3.bb, ?_⟩
            clear hF3 hk hV3 hL' hK3
            refine wpTr_nil ?_
            have y0 : u6.cell? ⟨q, 0, none⟩ = some (.int .i64 b.n) := HU6.out.1.bb.cell 0
            go_wp2_with fail
            refine (free_any _ k m L6 b.n HU6.out.2.1 HU6.out.1.rb.wf).mono ?_
            rintro e w7 ⟨rfl, hk7, hT7⟩
            rw [freeL_take HU6.out.2.2.2 HN.out] at hk7
            have hF7 := HU6.out.1.map HU6.out.2.1.mp hT7
            have y1 : w7.cell? ⟨p, 0, none⟩ = some (.int .i64 a.n) := hF7.ba.cell 0
            have H7 := Lib.hid (And.intro hF7 (And.intro hk7 (HU6.out.2.2.1.trans hT7 (fun x hx h => by have := HM.out; omega))))
            clear y0 hk7 hT7 hF7
            go_wp2_with fail
            refine (free_any _ k m [(a.n, hd)] a.n H7.out.2.1 H7.out.1.ra.wf).mono ?_
            rintro e w8 ⟨rfl, hk8, hT8⟩
            have ef : freeN [(a.n, hd)] a.n = 0 := by simp [freeN]
            have eg : freeL [(a.n, hd)] a.n = [] := by simp [freeL]
            rw [eg] at hk8
            rw [ef]
            have hF8 := H7.out.1.map H7.out.2.1.mp hT8
            have y2 : w8.cell? ⟨p, 0, none⟩ = some (.int .i64 a.n) := hF8.ba.cell 0
            have H8 := Lib.hid (And.intro hF8 (And.intro hk8 (H7.out.2.2.trans hT8 (fun x hx h => by have := HM.out; omega))))
            clear y1 hk8 hT8 hF8 ef eg
            go_wp2_with fail
            refine (free_any _ k m [] a.n H8.out.2.1 H8.out.1.ra.wf).mono ?_
            rintro e w9 ⟨rfl, hk9, hT9⟩
            have ef : freeN [] a.n = 15 := rfl
            have eg : freeL [] a.n = [] := rfl
            rw [eg] at hk9
            rw [ef]
            have hF9 := H8.out.1.map H8.out.2.1.mp hT9
            have H9 := Lib.hid (And.intro hF9 (And.intro hk9 (H8.out.2.2.trans hT9 (fun x hx h => by have := HM.out; omega))))
            clear y2 hk9 hT9 hF9 ef eg
            go_wp2_with fail
            refine (held_any _ k m [] H9.out.2.1).mono ?_
            rintro e w10 ⟨⟨A10, c10, rfl, _, _⟩, hT10⟩
            have H10 := Lib.hid (And.intro (H9.out.1.touch hT10) (And.intro (H9.out.2.1.touch hT10) (H9.out.2.2.trans hT10 (fun _ _ h => h))))
            clear hT10
            simp only [List.length_nil]
            go_wp2_with fail
            obtain ⟨S10, HS10⟩ : ∃ S : World → Prop, Hid (∀ w', S w' ↔ Blk w' q 40 b.cells) := ⟨_, fun _ => Iff.rfl⟩
            refine wp_region_tr S10 (.q 0 (.q 1 (.q 2 (.q 3 (.q 4 (.q 6 (.q 7 (.e 5 (.e 8 (.e 9 (.q 10 (.q 11 (.g 12 (.q 13 (.e 14 .nil))))))))))))))) (by kernel_rfl) (by kernel_rfl) ((HS10.out _).2 (H10.out.1.bb)) (fun hne => ?_)
            have z0 : ∀ x : SW S10, x.w.cell? ⟨q, 0, none⟩ = some (.int .i64 b.n) := fun x => ((HS10.out _).1 x.ok).cell 0
            have z1 : ∀ x : SW S10, x.w.cell? ⟨q, 1, none⟩ = some (.slice b.A b.r.length b.ca) := fun x => ((HS10.out _).1 x.ok).cell 1
            have z2 : ∀ x : SW S10, x.w.cell? ⟨q, 2, none⟩ = some (.slice b.B b.t.length b.cb) := fun x => ((HS10.out _).1 x.ok).cell 2
            repeat (refine wpTr_q (by simp only [List.getElem?_toArray, List.getElem?_cons_zero, List.getElem?_cons_succ]; rfl) ?_; (first | go_big_quiet_skip | (go_big_quiet_want; go_big_quiet_op; go_big_quiet_on)); refine wpQuiet_nil ?_)
            clear z0 z1 z2
            have hF10 := H10.out.1.touch (Touch.refl (fun _ => False) _).drew
            have hL10 := H10.out.2.1.touch (Touch.refl (fun _ => False) _).drew
            have hT10 := H10.out.2.2.drew
            refine wpTr_e (by simp only [List.getElem?_toArray, List.getElem?_cons_zero, List.getElem?_cons_succ]; rfl) (fun K1 hK1 => ?_)
            go_wp2_with fail
            refine (spansI_any _ b.A b.ca b.r.length b.r rfl HSM.out.2.2.1 hF10.rb.row).mono ?_
            rintro e v1 ⟨⟨A1, c1, rfl, hs1⟩, hV1⟩
            have hF1 := hF10.touch hV1
            refine hK1 _ _ ⟨(HS10.out _).2 hF1.bb, ?_⟩
            have HV1 := Lib.hid (And.intro hF1 (And.intro hs1 (And.intro (hL10.touch hV1) (hT10.trans hV1 (fun _ _ h => h)))))
            clear hF10 hL10 hT10 hV1 hF1 hs1 hK1
            refine wpTr_e (by simp only [List.getElem?_toArray, List.getElem?_cons_zero, List.getElem?_cons_succ]; rfl) (fun K2 hK2 => ?_)
            go_wp2_with fail
            refine (spansI_any _ b.B b.cb b.t.length b.t rfl HSM.out.2.2.2 HV1.out.1.rb.row2).mono ?_
            rintro e v2 ⟨⟨A2, c2, rfl, hs2⟩, hV2⟩
            have hF2 := HV1.out.1.touch hV2
            refine hK2 _ _ ⟨(HS10.out _).2 hF2.bb, ?_⟩
            have HV2 := Lib.hid (And.intro hF2 (And.intro hs2 (And.intro (HV1.out.2.2.1.touch hV2) (And.intro (HV1.out.2.2.2.trans hV2 (fun _ _ h => h)) (HV1.out.2.1.touch hV2)))))
            clear hV2 hF2 hs2 hK2
            refine wpTr_e (by simp only [List.getElem?_toArray, List.getElem?_cons_zero, List.getElem?_cons_succ]; rfl) (fun K3 hK3 => ?_)
            go_wp2_with fail
            refine (take_any _ k m [] b.n A1 A2 c1 c2 _ _ (b.r.map toSp) (b.t.map toSp) HV2.out.2.2.1 HV2.out.2.2.2.2 HV2.out.2.1 (by rw [List.length_map]) (by rw [List.length_map]) HV2.out.1.rb.wf (by simp)).mono ?_
            rintro e u10 ⟨rfl, ⟨L10, hL', hk⟩, hV3⟩
            have hF3 := HV2.out.1.map HV2.out.2.2.1.mp hV3
            have HU10 := Lib.hid (And.intro hF3 (And.intro hk (And.intro (HV2.out.2.2.2.1.trans hV3 (fun x hx h => by have := HM.out; omega)) hL')))
            refine hK3 _ _ ⟨(HS10.out _).2 hF3.bb, ?_⟩
            clear hF3 hk hV3 hL' hK3
            have ht0 : takeN [] b.n (b.r.map toSp) (b.t.map toSp) = 0 := rfl
            rw [ht0]
            repeat (refine wpTr_q (by simp only [List.getElem?_toArray, List.getElem?_cons_zero, List.getElem?_cons_succ]; rfl) ?_; (first | go_big_quiet_skip | (go_big_quiet_want; go_big_quiet_op; go_big_quiet_on)); refine wpQuiet_nil ?_)
            refine wpTr_g (by simp only [List.getElem?_toArray, List.getElem?_cons_zero, List.getElem?_cons_succ]; rfl) (by rfl) (fun K4 hK4 => ?_)
            go_wp2_with fail
            refine (awake_any _).mono ?_
            rintro e w12 ⟨rfl, hT12⟩
            have hF12 := HU10.out.1.touch hT12
            refine hK4 _ _ ⟨(HS10.out _).2 hF12.bb, ?_⟩
            have H12 := Lib.hid (And.intro hF12 (HU10.out.2.2.1.trans hT12 (fun _ _ h => h)))
            clear hK4 hF12 hT12 ht0
            repeat (refine wpTr_q (by simp only [List.getElem?_toArray, List.getElem?_cons_zero, List.getElem?_cons_succ]; rfl) ?_; (first | go_big_quiet_skip | (go_big_quiet_want; go_big_quiet_op; go_big_quiet_on)); refine wpQuiet_nil ?_)
            refine wpTr_e (by simp only [List.getElem?_toArray, List.getElem?_cons_zero, List.getElem?_cons_succ]; rfl) (fun K5 hK5 => ?_)
            go_wp2_with fail
            try refine ⟨(HS10.out _).2 H12.out.1.bb, wpTr_nil ?_⟩
            try clear hK5
            go_wp2
            go_ret
            exact ⟨rfl, H12.out.2⟩
end Go.Proofs.Ytgoeocfgajbldaa
