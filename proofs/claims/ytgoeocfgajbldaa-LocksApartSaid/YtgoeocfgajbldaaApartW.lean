/- LocksApart: the walk. (Printed by genApart.py.) -/
import Derived.Test.YtgoeocfgajbldaaAC
namespace Go.Proofs.Ytgoeocfgajbldaa
open Go.RowKit
set_option linter.unusedVariables false
set_option linter.unusedSimpArgs false

/-- What holds between two acts. w0: the world at the start. -/
structure TP (w0 w : World) (k m : Nat) (L : List LE) (l : List RH) (A : Option Addr) (c i : Nat) : Prop where
  lk : Lk w k m L
  cor : CorP L l
  ap : l.Pairwise Ap
  row3 : Rw3 w A c l
  fresh : ∀ a, A = some a → w0.heap.size ≤ a.block
  ok : RhsOk w0 l
  len : l.length ≤ i
  tch : Touch (fun _ => False) w0 w
  i60 : i ≤ 61
theorem TP.touch {w0 w w' : World} {k m : Nat} {L : List LE} {l : List RH} {A : Option Addr} {c i : Nat} (h : TP w0 w k m L l A c i) (ht : Touch (fun _ => False) w w') : TP w0 w' k m L l A c i :=
  ⟨h.lk.touch ht, h.cor, h.ap, h.row3.touch ht (fun _ _ h => h), h.fresh, h.ok, h.len, h.tch.trans ht (fun _ _ h => h), h.i60⟩

set_option maxRecDepth 20000 in
set_option maxHeartbeats 4000000 in
theorem apart_walk (w : World) (A0 : Option Addr) (ca n : Nat) (acts : List Ac) (hn : acts.length = n) (hr : Row4 w A0 acts) :
    Calls Try.prog 5 #[.slice A0 n ca] w fun e w' => e = .returned (.bool true) ∧ Touch (fun _ => False) w w' := by
  have hlt := light_any w A0 ca n acts hn hr
  obtain ⟨x1, hx1⟩ : ∃ x, x = lightI acts := ⟨_, rfl⟩
  rw [← hx1] at hlt
  have H := Lib.hid (And.intro hn (And.intro hr hlt))
  have HX := Lib.hid hx1
  clear hn hr hlt hx1
  go_enter Try.func5, Try.ntmps5
  go_wp2_with fail
  refine H.out.2.2.mono ?_
  rintro e w' ⟨rfl, hw⟩
  obtain rfl := hw.symm
  cases x1 with
  | false =>
    go_wp2_with fail
    go_ret
    exact ⟨rfl, Touch.refl _ _⟩
  | true =>
    have hli : lightI acts = true := HX.out.symm
    unfold lightI at hli
    rw [Bool.and_eq_true, decide_eq_true_eq, List.all_eq_true] at hli
    have hn60 : n ≤ 60 := by rw [← H.out.1]; exact hli.1
    have HLI := Lib.hid hli.2
    clear hli
    go_wp2_with fail
    refine (new_any _).mono ?_
    rintro e w1 ⟨k, m, rfl, hk, hT1, hm⟩
    have HM := Lib.hid hm
    have HB := Lib.hid (TP.mk hk (show CorP [] [] from List.Perm.refl _) List.Pairwise.nil (Rw3.nil w1) (fun a h => by cases h) (fun h hh => by cases hh) (Nat.le_refl 0) hT1 (by omega : 0 ≤ 61))
    clear hk hT1 hm
    go_wp2_with fail
    go_loopw [5, 4] (fun u v wr => ∃ (i : Nat) (L : List LE) (l : List RH) (A : Option Addr) (c : Nat), i ≤ n ∧ u = .int .i64 i ∧ v = .slice A l.length c ∧ TP w wr k m L l A c i) (fun u _ _ => n - (intOf u).toNat)
    case atStart => exact ⟨0, [], [], none, 0, by omega, rfl, rfl, HB.out⟩
    case round =>
      obtain ⟨i, L, l, A, c, hi, rfl, rfl, hta⟩ := hrel
      have HT := Lib.hid hta
      clear hta
      by_cases hin : i < n
      · have hin' : (i : Int) < n := by omega
        obtain ⟨⟨fr, h⟩, hx⟩ : ∃ x, acts[i]? = some x := ⟨_, List.getElem?_eq_getElem (by rw [H.out.1]; exact hin)⟩
        obtain ⟨⟨g, off, hA0, b0, b1, b2, b3⟩, ho⟩ := H.out.2.1 i _ hx
        subst hA0
        have hsh := HLI.out _ (List.mem_of_getElem? hx)
        rw [Bool.and_eq_true] at hsh
        dsimp only at b0 b1 b2 b3 ho hsh
        have c0 := HT.out.tch.cell b0 (fun h => h)
        have c1 := HT.out.tch.cell b1 (fun h => h)
        have c2 := HT.out.tch.cell b2 (fun h => h)
        have c3 := HT.out.tch.cell b3 (fun h => h)
        have HH := Lib.hid (And.intro ho hsh)
        have HC := Lib.hid (And.intro b0 (And.intro b1 (And.intro b2 b3)))
        clear hx ho hsh b0 b1 b2 b3
        go_upto_region 9 with fail
        obtain ⟨W1, hW1⟩ : ∃ W1, W1 = wr.alloc (.cells #[.int .i64 h.n, .slice h.A h.r.length h.ca, .slice h.B h.t.length h.cb] 40) := ⟨_, rfl⟩
        obtain ⟨p, hp⟩ : ∃ p, p = wr.heap.size := ⟨_, rfl⟩
        rw [← hW1, ← hp]
        have hTW : Touch (fun _ => False) wr W1 := by rw [hW1]; exact (Touch.refl _ _).alloc _
        have hbx : Blk W1 p 40 h.cells := by rw [hW1, hp]; exact Blk.new _ _ _
        have hpA : ∀ a, A = some a → a.block ≠ p := fun a ha => by have := HT.out.row3.lt ha; omega
        have HX1 := Lib.hid (And.intro (HT.out.touch hTW) (And.intro hbx hpA))
        have e0 : W1.cell? ⟨p, 0, none⟩ = some (.int .i64 h.n) := hbx.cell 0
        have d0 := hTW.cell c0 (fun h => h)
        clear hW1 hp hTW hbx hpA c0 c1 c2 c3
        cases fr with
        | true =>
          have hfr := free_any W1 k m L h.n HX1.out.1.lk HH.out.1.wf
          have hcf := HX1.out.1.cor.free (n := h.n) HX1.out.1.lk.rise
          cases hany : L.any fun e => e.1 == h.n with
          | true =>
            have hv : freeN L h.n = 0 := by unfold freeN; rw [hany]; rfl
            rw [hv] at hfr
            have HCF := Lib.hid hcf
            clear hcf hany hv
            go_wp2_with fail
            refine hfr.mono ?_
            rintro e w4 ⟨rfl, hk4, hT4⟩
            have hb4 := HX1.out.2.1.touch hT4 (HX1.out.2.1.ne_map HX1.out.1.lk.mp)
            have f0 : w4.cell? ⟨p, 0, none⟩ = some (.int .i64 h.n) := hb4.cell 0
            have hll : l.length ≤ 1000 := by have := HX1.out.1.len; have := HX1.out.1.i60; omega
            have hfR := freeR_any w4 A c l.length l h.n (HX1.out.1.row3.map HX1.out.1.lk.mp hT4) rfl hll
            have H4 := Lib.hid (And.intro hk4 hT4)
            clear hk4 hT4 hb4 hfr e0 d0
            go_wp2_with fail
            refine hfR.mono ?_
            rintro e u ⟨⟨A2, c2, rfl, hr5, hf5⟩, hT5⟩
            obtain ⟨L2, hL2⟩ : ∃ L2, L2 = freeL L h.n := ⟨_, rfl⟩
            obtain ⟨l2, hl2e⟩ : ∃ l2, l2 = freeRL l h.n := ⟨_, rfl⟩
            have hTw : Touch (fun _ => False) w w4 := HX1.out.1.tch.trans H4.out.2 (fun x hx hh => by have := HM.out; omega)
            have hU : TP w u k m L2 l2 A2 c2 (i + 1) := by
              rw [hL2, hl2e]
              exact ⟨H4.out.1.touch hT5, HCF.out, ap_free HX1.out.1.ap _, hr5, (fun a ha => (hf5 a ha).elim (fun h1 => HX1.out.1.fresh a h1) (fun h1 => Nat.le_trans hTw.size h1)), (fun x hx => HX1.out.1.ok x (List.mem_of_mem_eraseP hx)), Nat.le_trans (List.length_eraseP_le ..) (by have := HX1.out.1.len; omega), hTw.trans hT5 (fun _ _ h => h), by omega⟩
            rw [← hl2e] at hr5 ⊢
            have HU := Lib.hid hU
            clear hU hTw hT5 hr5 hf5 hL2 hl2e hfR f0
            have hl2 : l2.length ≤ 1000 := by have := HU.out.len; have := HU.out.i60; omega
            go_wp2_with fail
            go_loopw [7] (fun u7 w' => ∃ a : Nat, a ≤ l2.length ∧ u7 = .int .i64 a ∧ Touch (fun _ => False) u w') (fun u7 _ => l2.length - (intOf u7).toNat)
            case atStart => exact ⟨0, by omega, rfl, Touch.refl _ _⟩
            case round =>
              obtain ⟨a, ha, rfl, hTa⟩ := hrel
              have HTA := Lib.hid hTa
              clear hTa
              by_cases hal : a < l2.length
              · have hal' : (a : Int) < l2.length := by omega
                obtain ⟨x, hx⟩ : ∃ x, l2[a]? = some x := ⟨_, List.getElem?_eq_getElem hal⟩
                have HXA := Lib.hid hx
                clear hx
                go_wp2_with fail
                go_loopw [8] (fun u8 w' => ∃ b : Nat, b ≤ l2.length ∧ u8 = .int .i64 b ∧ Touch (fun _ => False) u w') (fun u8 _ => l2.length - (intOf u8).toNat)
                case atStart => exact ⟨0, by omega, rfl, HTA.out⟩
                case round =>
                  obtain ⟨b, hb, rfl, hTb⟩ := hrel
                  have HTB := Lib.hid hTb
                  clear hTb
                  by_cases hbl : b < l2.length
                  · have hbl' : (b : Int) < l2.length := by omega
                    obtain ⟨y, hy⟩ : ∃ y, l2[b]? = some y := ⟨_, List.getElem?_eq_getElem hbl⟩
                    obtain ⟨g1, hg1, _, x1, x2⟩ := HU.out.row3.cell HXA.out
                    obtain ⟨g2, hg2, _, y1, y2⟩ := HU.out.row3.cell hy
                    have hgg : g1 = g2 := by rw [hg1] at hg2; injection hg2 with hg2; injection hg2
                    subst hgg
                    subst hg1
                    obtain ⟨S, HS⟩ : ∃ S : World → Prop, Hid (∀ w', S w' ↔ Touch (fun _ => False) u w') := ⟨_, fun _ => Iff.rfl⟩
                    have HY := Lib.hid (And.intro hy (And.intro x1 (And.intro x2 (And.intro y1 y2))))
                    clear hy hg2 x1 x2 y1 y2
                    have hz : ∀ x0 : SW S, x0.w.cell? ⟨g1, a * 3 + 1, none⟩ = some (.slice x.A x.r.length x.ca) ∧ x0.w.cell? ⟨g1, a * 3 + 2, none⟩ = some (.slice x.B x.t.length x.cb) ∧ x0.w.cell? ⟨g1, b * 3 + 1, none⟩ = some (.slice y.A y.r.length y.ca) ∧ x0.w.cell? ⟨g1, b * 3 + 2, none⟩ = some (.slice y.B y.t.length y.cb) := fun x0 =>
                      ⟨((HS.out _).1 x0.ok).cell HY.out.2.1 (fun h => h), ((HS.out _).1 x0.ok).cell HY.out.2.2.1 (fun h => h), ((HS.out _).1 x0.ok).cell HY.out.2.2.2.1 (fun h => h), ((HS.out _).1 x0.ok).cell HY.out.2.2.2.2 (fun h => h)⟩
                    have HZ := Lib.hid hz
                    clear hz
                    by_cases hab : a = b
                    · have hne1 : ((a : Int) != (b : Int)) = false := by simp; omega
                      have HAB := Lib.hid hab
                      clear hab
                      go_wp2_with fail
                      refine wp_region_tr S (.q 0 (.q 1 (.q 2 (.q 3 (.q 4 (.q 5 (.q 6 (.q 7 (.q 8 (.q 9 (.q 10 (.q 11 (.q 12 (.q 13 (.u 14 (.q 15 (.q 16 (.q 17 (.q 18 (.q 19 (.q 20 (.q 21 (.q 22 (.q 23 (.q 24 (.q 25 (.u 26 (.q 27 (.q 28 .nil))))))))))))))))))))))))))))) (by kernel_rfl) (by kernel_rfl) ((HS.out _).2 HTB.out.drew) (fun hne => ?_)
                      repeat (refine wpTr_q (by simp only [List.getElem?_toArray, List.getElem?_cons_zero, List.getElem?_cons_succ]; rfl) ?_; (first | go_big_quiet_skip | (go_big_quiet_want; go_big_quiet_op; go_big_quiet_on)); refine wpQuiet_nil ?_)
                      refine wpTr_u (by simp only [List.getElem?_toArray, List.getElem?_cons_zero, List.getElem?_cons_succ]; rfl) (by rfl) ?_
                      dsimp only [Act.put]
                      simp only [List.setIfInBounds_toArray, List.set_cons_succ, List.set_cons_zero]
                      repeat (refine wpTr_q (by simp only [List.getElem?_toArray, List.getElem?_cons_zero, List.getElem?_cons_succ]; rfl) ?_; (first | go_big_quiet_skip | (go_big_quiet_want; go_big_quiet_op; go_big_quiet_on)); refine wpQuiet_nil ?_)
                      refine wpTr_u (by simp only [List.getElem?_toArray, List.getElem?_cons_zero, List.getElem?_cons_succ]; rfl) (by rfl) ?_
                      dsimp only [Act.put]
                      simp only [List.setIfInBounds_toArray, List.set_cons_succ, List.set_cons_zero]
                      repeat (refine wpTr_q (by simp only [List.getElem?_toArray, List.getElem?_cons_zero, List.getElem?_cons_succ]; rfl) ?_; (first | go_big_quiet_skip | (go_big_quiet_want; go_big_quiet_op; go_big_quiet_on)); refine wpQuiet_nil ?_)
                      refine wpTr_nil ?_
                      go_wp2_with fail
                      go_roundw
                      case rel => exact ⟨b + 1, by omega, by go_num, HTB.out.drew⟩
                      case measure => simp [intOf]; omega
                    · have hne1 : ((a : Int) != (b : Int)) = true := by simp; omega
                      have hap := ap_at HU.out.ap HXA.out HY.out.1 hab
                      have hxo := HU.out.ok x (List.mem_of_getElem? HXA.out)
                      have hyo := HU.out.ok y (List.mem_of_getElem? HY.out.1)
                      have m1 := fun v (T : Touch (fun _ => False) u v) => meet19_any v x.B y.B x.cb y.cb x.t.length y.t.length x.t y.t rfl rfl (by have := (smallI_all hxo.2.2).1; omega) (by have := (smallI_all hyo.2.2).1; omega) (smallI_all hxo.2.2).2 (smallI_all hyo.2.2).2 (hxo.1.row2.touch0 (HU.out.tch.trans T (fun _ _ h => h))) (hyo.1.row2.touch0 (HU.out.tch.trans T (fun _ _ h => h)))
                      have m2 := fun v (T : Touch (fun _ => False) u v) => meet19_any v x.B y.A x.cb y.ca x.t.length y.r.length x.t y.r rfl rfl (by have := (smallI_all hxo.2.2).1; omega) (by have := (smallI_all hyo.2.1).1; omega) (smallI_all hxo.2.2).2 (smallI_all hyo.2.1).2 (hxo.1.row2.touch0 (HU.out.tch.trans T (fun _ _ h => h))) (hyo.1.row.touch0 (HU.out.tch.trans T (fun _ _ h => h)))
                      rw [hap.1] at m1
                      rw [hap.2] at m2
                      have HM2 := Lib.hid (And.intro m1 m2)
                      clear m1 m2 hap hxo hyo hab
                      have z1 : ∀ x0 : SW S, x0.w.cell? ⟨g1, a * 3 + 2, none⟩ = some (.slice x.B x.t.length x.cb) := fun x0 => (HZ.out x0).2.1
                      have z2 : ∀ x0 : SW S, x0.w.cell? ⟨g1, b * 3 + 2, none⟩ = some (.slice y.B y.t.length y.cb) := fun x0 => (HZ.out x0).2.2.2
                      have z3 : ∀ x0 : SW S, x0.w.cell? ⟨g1, b * 3 + 1, none⟩ = some (.slice y.A y.r.length y.ca) := fun x0 => (HZ.out x0).2.2.1
                      go_wp2_with fail
                      refine wp_region_tr S (.q 0 (.q 1 (.q 2 (.q 3 (.q 4 (.q 5 (.q 6 (.q 7 (.q 8 (.q 9 (.q 10 (.q 11 (.q 12 (.q 13 (.g 14 (.q 15 (.q 16 (.q 17 (.q 18 (.q 19 (.q 20 (.q 21 (.q 22 (.q 23 (.q 24 (.q 25 (.g 26 (.q 27 (.q 28 .nil))))))))))))))))))))))))))))) (by kernel_rfl) (by kernel_rfl) ((HS.out _).2 HTB.out.drew) (fun hne => ?_)
                      repeat (refine wpTr_q (by simp only [List.getElem?_toArray, List.getElem?_cons_zero, List.getElem?_cons_succ]; rfl) ?_; (first | go_big_quiet_skip | (go_big_quiet_want; go_big_quiet_op; go_big_quiet_on)); refine wpQuiet_nil ?_)
                      refine wpTr_g (by simp only [List.getElem?_toArray, List.getElem?_cons_zero, List.getElem?_cons_succ]; rfl) (by rfl) (fun K1 hK1 => ?_)
                      have hD := HTB.out.drew
                      go_wp2_with fail
                      refine (HM2.out.1 _ hD).mono ?_
                      rintro e v1 ⟨rfl, hV1⟩
                      have HV1 := Lib.hid (hD.trans hV1 (fun _ _ h => h))
                      refine hK1 _ _ ⟨(HS.out _).2 HV1.out, ?_⟩
                      clear hD hV1 hK1
                      repeat (refine wpTr_q (by simp only [List.getElem?_toArray, List.getElem?_cons_zero, List.getElem?_cons_succ]; rfl) ?_; (first | go_big_quiet_skip | (go_big_quiet_want; go_big_quiet_op; go_big_quiet_on)); refine wpQuiet_nil ?_)
                      refine wpTr_g (by simp only [List.getElem?_toArray, List.getElem?_cons_zero, List.getElem?_cons_succ]; rfl) (by rfl) (fun K2 hK2 => ?_)
                      go_wp2_with fail
                      refine (HM2.out.2 _ HV1.out).mono ?_
                      rintro e v2 ⟨rfl, hV2⟩
                      have HV2 := Lib.hid (HV1.out.trans hV2 (fun _ _ h => h))
                      refine hK2 _ _ ⟨(HS.out _).2 HV2.out, ?_⟩
                      clear hV2 hK2
                      repeat (refine wpTr_q (by simp only [List.getElem?_toArray, List.getElem?_cons_zero, List.getElem?_cons_succ]; rfl) ?_; (first | go_big_quiet_skip | (go_big_quiet_want; go_big_quiet_op; go_big_quiet_on)); refine wpQuiet_nil ?_)
                      refine wpTr_nil ?_
                      clear z1 z2 z3
                      go_wp2_with fail
                      go_roundw
                      case rel => exact ⟨b + 1, by omega, by go_num, HV2.out⟩
                      case measure => simp [intOf]; omega
                  · have hbl' : ¬ (b : Int) < l2.length := by omega
                    go_wp2_with fail
                    go_roundw
                    case rel => exact ⟨a + 1, by omega, by go_num, HTB.out⟩
                    case measure => simp [intOf]; omega
              · have hal' : ¬ (a : Int) < l2.length := by omega
                go_wp2_with fail
                go_roundw
                case rel => exact ⟨i + 1, L2, l2, A2, c2, by omega, by go_num, rfl, HU.out.touch HTA.out⟩
                case measure => simp [intOf]; omega
          | false =>
            have hv : freeN L h.n = 15 := by unfold freeN; rw [hany]; rfl
            rw [hv] at hfr
            clear hcf hv
            go_wp2_with fail
            refine hfr.mono ?_
            rintro e u ⟨rfl, hk4, hT4⟩
            have e0L : freeL L h.n = L := List.filter_eq_self.2 (fun e he => by
              have := List.any_eq_false.1 hany e he
              simpa using this)
            rw [e0L] at hk4
            obtain ⟨L2, hL2⟩ : ∃ L2, L2 = L := ⟨_, rfl⟩
            obtain ⟨l2, hl2e⟩ : ∃ l2, l2 = l := ⟨_, rfl⟩
            obtain ⟨A2, hA2⟩ : ∃ A2, A2 = A := ⟨_, rfl⟩
            obtain ⟨c2, hc2⟩ : ∃ c2, c2 = c := ⟨_, rfl⟩
            have hTw : Touch (fun _ => False) w u := HX1.out.1.tch.trans hT4 (fun x hx hh => by have := HM.out; omega)
            have hU : TP w u k m L2 l2 A2 c2 (i + 1) := by
              rw [hL2, hl2e, hA2, hc2]
              exact ⟨hk4, HX1.out.1.cor, HX1.out.1.ap, HX1.out.1.row3.map HX1.out.1.lk.mp hT4, HX1.out.1.fresh, HX1.out.1.ok, Nat.le_trans HX1.out.1.len (Nat.le_succ _), hTw, by omega⟩
            rw [← hl2e, ← hA2, ← hc2]
            have HU := Lib.hid hU
            clear hU hTw hT4 hk4 hany e0L hfr e0 d0 hL2 hl2e hA2 hc2
            have hl2 : l2.length ≤ 1000 := by have := HU.out.len; have := HU.out.i60; omega
            go_wp2_with fail
            go_loopw [7] (fun u7 w' => ∃ a : Nat, a ≤ l2.length ∧ u7 = .int .i64 a ∧ Touch (fun _ => False) u w') (fun u7 _ => l2.length - (intOf u7).toNat)
            case atStart => exact ⟨0, by omega, rfl, Touch.refl _ _⟩
            case round =>
              obtain ⟨a, ha, rfl, hTa⟩ := hrel
              have HTA := Lib.hid hTa
              clear hTa
              by_cases hal : a < l2.length
              · have hal' : (a : Int) < l2.length := by omega
                obtain ⟨x, hx⟩ : ∃ x, l2[a]? = some x := ⟨_, List.getElem?_eq_getElem hal⟩
                have HXA := Lib.hid hx
                clear hx
                go_wp2_with fail
                go_loopw [8] (fun u8 w' => ∃ b : Nat, b ≤ l2.length ∧ u8 = .int .i64 b ∧ Touch (fun _ => False) u w') (fun u8 _ => l2.length - (intOf u8).toNat)
                case atStart => exact ⟨0, by omega, rfl, HTA.out⟩
                case round =>
                  obtain ⟨b, hb, rfl, hTb⟩ := hrel
                  have HTB := Lib.hid hTb
                  clear hTb
                  by_cases hbl : b < l2.length
                  · have hbl' : (b : Int) < l2.length := by omega
                    obtain ⟨y, hy⟩ : ∃ y, l2[b]? = some y := ⟨_, List.getElem?_eq_getElem hbl⟩
                    obtain ⟨g1, hg1, _, x1, x2⟩ := HU.out.row3.cell HXA.out
                    obtain ⟨g2, hg2, _, y1, y2⟩ := HU.out.row3.cell hy
                    have hgg : g1 = g2 := by rw [hg1] at hg2; injection hg2 with hg2; injection hg2
                    subst hgg
                    subst hg1
                    obtain ⟨S, HS⟩ : ∃ S : World → Prop, Hid (∀ w', S w' ↔ Touch (fun _ => False) u w') := ⟨_, fun _ => Iff.rfl⟩
                    have HY := Lib.hid (And.intro hy (And.intro x1 (And.intro x2 (And.intro y1 y2))))
                    clear hy hg2 x1 x2 y1 y2
                    have hz : ∀ x0 : SW S, x0.w.cell? ⟨g1, a * 3 + 1, none⟩ = some (.slice x.A x.r.length x.ca) ∧ x0.w.cell? ⟨g1, a * 3 + 2, none⟩ = some (.slice x.B x.t.length x.cb) ∧ x0.w.cell? ⟨g1, b * 3 + 1, none⟩ = some (.slice y.A y.r.length y.ca) ∧ x0.w.cell? ⟨g1, b * 3 + 2, none⟩ = some (.slice y.B y.t.length y.cb) := fun x0 =>
                      ⟨((HS.out _).1 x0.ok).cell HY.out.2.1 (fun h => h), ((HS.out _).1 x0.ok).cell HY.out.2.2.1 (fun h => h), ((HS.out _).1 x0.ok).cell HY.out.2.2.2.1 (fun h => h), ((HS.out _).1 x0.ok).cell HY.out.2.2.2.2 (fun h => h)⟩
                    have HZ := Lib.hid hz
                    clear hz
                    by_cases hab : a = b
                    · have hne1 : ((a : Int) != (b : Int)) = false := by simp; omega
                      have HAB := Lib.hid hab
                      clear hab
                      go_wp2_with fail
                      refine wp_region_tr S (.q 0 (.q 1 (.q 2 (.q 3 (.q 4 (.q 5 (.q 6 (.q 7 (.q 8 (.q 9 (.q 10 (.q 11 (.q 12 (.q 13 (.u 14 (.q 15 (.q 16 (.q 17 (.q 18 (.q 19 (.q 20 (.q 21 (.q 22 (.q 23 (.q 24 (.q 25 (.u 26 (.q 27 (.q 28 .nil))))))))))))))))))))))))))))) (by kernel_rfl) (by kernel_rfl) ((HS.out _).2 HTB.out.drew) (fun hne => ?_)
                      repeat (refine wpTr_q (by simp only [List.getElem?_toArray, List.getElem?_cons_zero, List.getElem?_cons_succ]; rfl) ?_; (first | go_big_quiet_skip | (go_big_quiet_want; go_big_quiet_op; go_big_quiet_on)); refine wpQuiet_nil ?_)
                      refine wpTr_u (by simp only [List.getElem?_toArray, List.getElem?_cons_zero, List.getElem?_cons_succ]; rfl) (by rfl) ?_
                      dsimp only [Act.put]
                      simp only [List.setIfInBounds_toArray, List.set_cons_succ, List.set_cons_zero]
                      repeat (refine wpTr_q (by simp only [List.getElem?_toArray, List.getElem?_cons_zero, List.getElem?_cons_succ]; rfl) ?_; (first | go_big_quiet_skip | (go_big_quiet_want; go_big_quiet_op; go_big_quiet_on)); refine wpQuiet_nil ?_)
                      refine wpTr_u (by simp only [List.getElem?_toArray, List.getElem?_cons_zero, List.getElem?_cons_succ]; rfl) (by rfl) ?_
                      dsimp only [Act.put]
                      simp only [List.setIfInBounds_toArray, List.set_cons_succ, List.set_cons_zero]
                      repeat (refine wpTr_q (by simp only [List.getElem?_toArray, List.getElem?_cons_zero, List.getElem?_cons_succ]; rfl) ?_; (first | go_big_quiet_skip | (go_big_quiet_want; go_big_quiet_op; go_big_quiet_on)); refine wpQuiet_nil ?_)
                      refine wpTr_nil ?_
                      go_wp2_with fail
                      go_roundw
                      case rel => exact ⟨b + 1, by omega, by go_num, HTB.out.drew⟩
                      case measure => simp [intOf]; omega
                    · have hne1 : ((a : Int) != (b : Int)) = true := by simp; omega
                      have hap := ap_at HU.out.ap HXA.out HY.out.1 hab
                      have hxo := HU.out.ok x (List.mem_of_getElem? HXA.out)
                      have hyo := HU.out.ok y (List.mem_of_getElem? HY.out.1)
                      have m1 := fun v (T : Touch (fun _ => False) u v) => meet19_any v x.B y.B x.cb y.cb x.t.length y.t.length x.t y.t rfl rfl (by have := (smallI_all hxo.2.2).1; omega) (by have := (smallI_all hyo.2.2).1; omega) (smallI_all hxo.2.2).2 (smallI_all hyo.2.2).2 (hxo.1.row2.touch0 (HU.out.tch.trans T (fun _ _ h => h))) (hyo.1.row2.touch0 (HU.out.tch.trans T (fun _ _ h => h)))
                      have m2 := fun v (T : Touch (fun _ => False) u v) => meet19_any v x.B y.A x.cb y.ca x.t.length y.r.length x.t y.r rfl rfl (by have := (smallI_all hxo.2.2).1; omega) (by have := (smallI_all hyo.2.1).1; omega) (smallI_all hxo.2.2).2 (smallI_all hyo.2.1).2 (hxo.1.row2.touch0 (HU.out.tch.trans T (fun _ _ h => h))) (hyo.1.row.touch0 (HU.out.tch.trans T (fun _ _ h => h)))
                      rw [hap.1] at m1
                      rw [hap.2] at m2
                      have HM2 := Lib.hid (And.intro m1 m2)
                      clear m1 m2 hap hxo hyo hab
                      have z1 : ∀ x0 : SW S, x0.w.cell? ⟨g1, a * 3 + 2, none⟩ = some (.slice x.B x.t.length x.cb) := fun x0 => (HZ.out x0).2.1
                      have z2 : ∀ x0 : SW S, x0.w.cell? ⟨g1, b * 3 + 2, none⟩ = some (.slice y.B y.t.length y.cb) := fun x0 => (HZ.out x0).2.2.2
                      have z3 : ∀ x0 : SW S, x0.w.cell? ⟨g1, b * 3 + 1, none⟩ = some (.slice y.A y.r.length y.ca) := fun x0 => (HZ.out x0).2.2.1
                      go_wp2_with fail
                      refine wp_region_tr S (.q 0 (.q 1 (.q 2 (.q 3 (.q 4 (.q 5 (.q 6 (.q 7 (.q 8 (.q 9 (.q 10 (.q 11 (.q 12 (.q 13 (.g 14 (.q 15 (.q 16 (.q 17 (.q 18 (.q 19 (.q 20 (.q 21 (.q 22 (.q 23 (.q 24 (.q 25 (.g 26 (.q 27 (.q 28 .nil))))))))))))))))))))))))))))) (by kernel_rfl) (by kernel_rfl) ((HS.out _).2 HTB.out.drew) (fun hne => ?_)
                      repeat (refine wpTr_q (by simp only [List.getElem?_toArray, List.getElem?_cons_zero, List.getElem?_cons_succ]; rfl) ?_; (first | go_big_quiet_skip | (go_big_quiet_want; go_big_quiet_op; go_big_quiet_on)); refine wpQuiet_nil ?_)
                      refine wpTr_g (by simp only [List.getElem?_toArray, List.getElem?_cons_zero, List.getElem?_cons_succ]; rfl) (by rfl) (fun K1 hK1 => ?_)
                      have hD := HTB.out.drew
                      go_wp2_with fail
                      refine (HM2.out.1 _ hD).mono ?_
                      rintro e v1 ⟨rfl, hV1⟩
                      have HV1 := Lib.hid (hD.trans hV1 (fun _ _ h => h))
                      refine hK1 _ _ ⟨(HS.out _).2 HV1.out, ?_⟩
                      clear hD hV1 hK1
                      repeat (refine wpTr_q (by simp only [List.getElem?_toArray, List.getElem?_cons_zero, List.getElem?_cons_succ]; rfl) ?_; (first | go_big_quiet_skip | (go_big_quiet_want; go_big_quiet_op; go_big_quiet_on)); refine wpQuiet_nil ?_)
                      refine wpTr_g (by simp only [List.getElem?_toArray, List.getElem?_cons_zero, List.getElem?_cons_succ]; rfl) (by rfl) (fun K2 hK2 => ?_)
                      go_wp2_with fail
                      refine (HM2.out.2 _ HV1.out).mono ?_
                      rintro e v2 ⟨rfl, hV2⟩
                      have HV2 := Lib.hid (HV1.out.trans hV2 (fun _ _ h => h))
                      refine hK2 _ _ ⟨(HS.out _).2 HV2.out, ?_⟩
                      clear hV2 hK2
                      repeat (refine wpTr_q (by simp only [List.getElem?_toArray, List.getElem?_cons_zero, List.getElem?_cons_succ]; rfl) ?_; (first | go_big_quiet_skip | (go_big_quiet_want; go_big_quiet_op; go_big_quiet_on)); refine wpQuiet_nil ?_)
                      refine wpTr_nil ?_
                      clear z1 z2 z3
                      go_wp2_with fail
                      go_roundw
                      case rel => exact ⟨b + 1, by omega, by go_num, HV2.out⟩
                      case measure => simp [intOf]; omega
                  · have hbl' : ¬ (b : Int) < l2.length := by omega
                    go_wp2_with fail
                    go_roundw
                    case rel => exact ⟨a + 1, by omega, by go_num, HTB.out⟩
                    case measure => simp [intOf]; omega
              · have hal' : ¬ (a : Int) < l2.length := by omega
                go_wp2_with fail
                go_roundw
                case rel => exact ⟨i + 1, L2, l2, A2, c2, by omega, by go_num, rfl, HU.out.touch HTA.out⟩
                case measure => simp [intOf]; omega
        | false =>
          go_wp2_with fail
          obtain ⟨S, HS⟩ : ∃ S : World → Prop, Hid (∀ w', S w' ↔ Blk w' p 40 h.cells) := ⟨_, fun _ => Iff.rfl⟩
          refine wp_region_tr S (.q 0 (.q 1 (.q 2 (.q 3 (.q 4 (.q 6 (.q 7 (.e 5 (.e 8 (.e 9 (.q 10 .nil))))))))))) (by kernel_rfl) (by kernel_rfl) ((HS.out _).2 HX1.out.2.1) (fun hne => ?_)
          have z0 : ∀ x : SW S, x.w.cell? ⟨p, 0, none⟩ = some (.int .i64 h.n) := fun x => ((HS.out _).1 x.ok).cell 0
          have z1 : ∀ x : SW S, x.w.cell? ⟨p, 1, none⟩ = some (.slice h.A h.r.length h.ca) := fun x => ((HS.out _).1 x.ok).cell 1
          have z2 : ∀ x : SW S, x.w.cell? ⟨p, 2, none⟩ = some (.slice h.B h.t.length h.cb) := fun x => ((HS.out _).1 x.ok).cell 2
          repeat (refine wpTr_q (by simp only [List.getElem?_toArray, List.getElem?_cons_zero, List.getElem?_cons_succ]; rfl) ?_; (first | go_big_quiet_skip | (go_big_quiet_want; go_big_quiet_op; go_big_quiet_on)); refine wpQuiet_nil ?_)
          clear z0 z1 z2 e0 d0
          have hD : Touch (fun _ => False) W1 W1.drew := (Touch.refl _ _).drew
          have hh1 := HH.out.1.touch HX1.out.1.tch (fun _ _ h => h)
          refine wpTr_e (by simp only [List.getElem?_toArray, List.getElem?_cons_zero, List.getElem?_cons_succ]; rfl) (fun K1 hK1 => ?_)
          go_wp2_with fail
          refine (spansI_any _ h.A h.ca h.r.length h.r rfl HH.out.2.1 (hh1.row.touch0 hD)).mono ?_
          rintro e v1 ⟨⟨A1, c1, rfl, hs1⟩, hV1⟩
          have hV := hD.trans hV1 (fun _ _ h => h)
          have hF1 := HX1.out.2.1.touch hV (fun h => h)
          refine hK1 _ _ ⟨(HS.out _).2 hF1, ?_⟩
          have HV1 := Lib.hid (And.intro hV hs1)
          clear hV1 hV hF1 hs1 hK1 hD
          refine wpTr_e (by simp only [List.getElem?_toArray, List.getElem?_cons_zero, List.getElem?_cons_succ]; rfl) (fun K2 hK2 => ?_)
          go_wp2_with fail
          refine (spansI_any _ h.B h.cb h.t.length h.t rfl HH.out.2.2 (hh1.row2.touch0 HV1.out.1)).mono ?_
          rintro e v2 ⟨⟨A3, c3, rfl, hs2⟩, hV2⟩
          have hV := HV1.out.1.trans hV2 (fun _ _ h => h)
          have hF2 := HX1.out.2.1.touch hV (fun h => h)
          refine hK2 _ _ ⟨(HS.out _).2 hF2, ?_⟩
          have HV2 := Lib.hid (And.intro hV (And.intro hs2 (And.intro (HV1.out.2.touch hV2) (And.intro (HX1.out.1.touch hV) hF2))))
          clear hV2 hV hF2 hs2 hK2 hh1
          have hll : l.length ≤ 1000 := by have := HX1.out.1.len; have := HX1.out.1.i60; omega
          have htk := take_any v2 k m L h.n A1 A3 c1 c3 _ _ (h.r.map toSp) (h.t.map toSp) HV2.out.2.2.2.1.lk HV2.out.2.2.1 HV2.out.2.1 rfl rfl HH.out.1.wf (by have := HX1.out.1.cor.len; have := HX1.out.1.len; have := HX1.out.1.i60; omega)
          rw [List.length_map, List.length_map] at htk
          by_cases hz : takeN L h.n (h.r.map toSp) (h.t.map toSp) = 0
          · obtain ⟨vn, hvn⟩ : ∃ v, v = takeN L h.n (h.r.map toSp) (h.t.map toSp) := ⟨_, rfl⟩
            have hbz : busyI l h.r false = false ∧ busyI l h.t true = false := by
              unfold takeN at hz
              rw [HX1.out.1.cor.busy, HX1.out.1.cor.busy] at hz
              split at hz
              · cases hz
              · split at hz
                · cases hz
                · rename_i hb
                  rw [Bool.not_eq_true, Bool.or_eq_false_iff] at hb
                  exact hb
            rw [hz] at htk
            have HZ := Lib.hid (And.intro hz hbz)
            clear hz hbz hvn
            refine wpTr_e (by simp only [List.getElem?_toArray, List.getElem?_cons_zero, List.getElem?_cons_succ]; rfl) (fun K3 hK3 => ?_)
            go_wp2_with fail
            refine htk.mono ?_
            rintro e w4 ⟨rfl, ⟨L2, hL2, hk4⟩, hT4⟩
            have hb4 := HV2.out.2.2.2.2.touch hT4 (HV2.out.2.2.2.2.ne_map HV2.out.2.2.2.1.lk.mp)
            refine hK3 _ _ ⟨(HS.out _).2 hb4, ?_⟩
            clear hK3 htk
            repeat (refine wpTr_q (by simp only [List.getElem?_toArray, List.getElem?_cons_zero, List.getElem?_cons_succ]; rfl) ?_; (first | go_big_quiet_skip | (go_big_quiet_want; go_big_quiet_op; go_big_quiet_on)); refine wpQuiet_nil ?_)
            refine wpTr_nil ?_
            have f0 : w4.cell? ⟨p, 0, none⟩ = some (.int .i64 h.n) := hb4.cell 0
            have f1 : w4.cell? ⟨p, 1, none⟩ = some (.slice h.A h.r.length h.ca) := hb4.cell 1
            have f2 : w4.cell? ⟨p, 2, none⟩ = some (.slice h.B h.t.length h.cb) := hb4.cell 2
            have hr4 := HV2.out.2.2.2.1.row3.map HV2.out.2.2.2.1.lk.mp hT4
            have H4 := Lib.hid (And.intro hk4 (And.intro hT4 (And.intro hL2 hr4)))
            clear hk4 hT4 hb4 hL2 hr4
            obtain ⟨W5, hW5⟩ : ∃ W5, W5 = w4.alloc (.cells #[.int .i64 h.n, .slice h.A h.r.length h.ca, .slice h.B h.t.length h.cb] 40) := ⟨_, rfl⟩
            have hT5 : Touch (fun _ => False) w4 W5 := by rw [hW5]; exact (Touch.refl _ _).alloc _
            have hb5 : Blk W5 w4.heap.size 40 h.cells := by rw [hW5]; exact Blk.new _ _ _
            have H5 := Lib.hid (And.intro hT5 (And.intro hb5 (H4.out.2.2.2.touch hT5 (fun _ _ h => h))))
            have HW5 := Lib.hid hW5
            clear hT5 hb5 hW5
            go_wp2_with (at_builtin; rw [← HW5.out]; refine wpList_rw3_push rfl (.tmp 52) (.tmp 54) rfl A c l.length 1 l [h] rfl rfl rfl _ rfl (src3_one H5.out.2.1) H5.out.2.2 (by omega) ?_; intro A2 c2 u hr6 hQ6 hf6)
            obtain ⟨l2, hl2e⟩ : ∃ l2, l2 = l ++ [h] := ⟨_, rfl⟩
            have hTw : Touch (fun _ => False) w W5 := (HV2.out.2.2.2.1.tch.trans H4.out.2.1 (fun x hx hh => by have := HM.out; omega)).trans H5.out.1 (fun _ _ h => h)
            have hcor : CorP L2 l2 := by
              rw [hl2e]
              rcases H4.out.2.2.1 with ⟨_, hd, h1, h2, rfl⟩ | ⟨h0, _⟩
              · exact HX1.out.1.cor.ins h1 h2
              · exact absurd HZ.out.1 h0
            have hU : TP w u k m L2 l2 A2 c2 (i + 1) := by
              rw [hl2e] at hcor ⊢
              exact ⟨(H4.out.1.touch H5.out.1).row H5.out.2.2 hQ6, hcor, ap_add HX1.out.1.ap HZ.out.2.1 HZ.out.2.2, hr6,
                (fun a ha => (hf6 a ha).elim (fun ⟨a0, h0, e⟩ => by have := HX1.out.1.fresh a0 h0; omega) (fun h1 => Nat.le_trans hTw.size h1)),
                (fun x hx => by
                  rcases List.mem_append.1 hx with hx | hx
                  · exact HX1.out.1.ok x hx
                  · simp at hx; rw [hx]; exact HH.out),
                (by rw [List.length_append]; have := HX1.out.1.len; simp; omega),
                hTw.trans hQ6 (fun x hx ⟨a, ha, e⟩ => by have := HX1.out.1.fresh a ha; omega), by omega⟩
            have hl2l : l.length + 1 = l2.length := by rw [hl2e]; simp
            rw [hl2l]
            have HU := Lib.hid hU
            clear hU hTw hcor hr6 hQ6 hf6 hl2e hl2l f0 f1 f2
            have hl2 : l2.length ≤ 1000 := by have := HU.out.len; have := HU.out.i60; omega
            go_wp2_with fail
            go_loopw [7] (fun u7 w' => ∃ a : Nat, a ≤ l2.length ∧ u7 = .int .i64 a ∧ Touch (fun _ => False) u w') (fun u7 _ => l2.length - (intOf u7).toNat)
            case atStart => exact ⟨0, by omega, rfl, Touch.refl _ _⟩
            case round =>
              obtain ⟨a, ha, rfl, hTa⟩ := hrel
              have HTA := Lib.hid hTa
              clear hTa
              by_cases hal : a < l2.length
              · have hal' : (a : Int) < l2.length := by omega
                obtain ⟨x, hx⟩ : ∃ x, l2[a]? = some x := ⟨_, List.getElem?_eq_getElem hal⟩
                have HXA := Lib.hid hx
                clear hx
                go_wp2_with fail
                go_loopw [8] (fun u8 w' => ∃ b : Nat, b ≤ l2.length ∧ u8 = .int .i64 b ∧ Touch (fun _ => False) u w') (fun u8 _ => l2.length - (intOf u8).toNat)
                case atStart => exact ⟨0, by omega, rfl, HTA.out⟩
                case round =>
                  obtain ⟨b, hb, rfl, hTb⟩ := hrel
                  have HTB := Lib.hid hTb
                  clear hTb
                  by_cases hbl : b < l2.length
                  · have hbl' : (b : Int) < l2.length := by omega
                    obtain ⟨y, hy⟩ : ∃ y, l2[b]? = some y := ⟨_, List.getElem?_eq_getElem hbl⟩
                    obtain ⟨g1, hg1, _, x1, x2⟩ := HU.out.row3.cell HXA.out
                    obtain ⟨g2, hg2, _, y1, y2⟩ := HU.out.row3.cell hy
                    have hgg : g1 = g2 := by rw [hg1] at hg2; injection hg2 with hg2; injection hg2
                    subst hgg
                    subst hg1
                    obtain ⟨S, HS⟩ : ∃ S : World → Prop, Hid (∀ w', S w' ↔ Touch (fun _ => False) u w') := ⟨_, fun _ => Iff.rfl⟩
                    have HY := Lib.hid (And.intro hy (And.intro x1 (And.intro x2 (And.intro y1 y2))))
                    clear hy hg2 x1 x2 y1 y2
                    have hz : ∀ x0 : SW S, x0.w.cell? ⟨g1, a * 3 + 1, none⟩ = some (.slice x.A x.r.length x.ca) ∧ x0.w.cell? ⟨g1, a * 3 + 2, none⟩ = some (.slice x.B x.t.length x.cb) ∧ x0.w.cell? ⟨g1, b * 3 + 1, none⟩ = some (.slice y.A y.r.length y.ca) ∧ x0.w.cell? ⟨g1, b * 3 + 2, none⟩ = some (.slice y.B y.t.length y.cb) := fun x0 =>
                      ⟨((HS.out _).1 x0.ok).cell HY.out.2.1 (fun h => h), ((HS.out _).1 x0.ok).cell HY.out.2.2.1 (fun h => h), ((HS.out _).1 x0.ok).cell HY.out.2.2.2.1 (fun h => h), ((HS.out _).1 x0.ok).cell HY.out.2.2.2.2 (fun h => h)⟩
                    have HZ := Lib.hid hz
                    clear hz
                    by_cases hab : a = b
                    · have hne1 : ((a : Int) != (b : Int)) = false := by simp; omega
                      have HAB := Lib.hid hab
                      clear hab
                      go_wp2_with fail
                      refine wp_region_tr S (.q 0 (.q 1 (.q 2 (.q 3 (.q 4 (.q 5 (.q 6 (.q 7 (.q 8 (.q 9 (.q 10 (.q 11 (.q 12 (.q 13 (.u 14 (.q 15 (.q 16 (.q 17 (.q 18 (.q 19 (.q 20 (.q 21 (.q 22 (.q 23 (.q 24 (.q 25 (.u 26 (.q 27 (.q 28 .nil))))))))))))))))))))))))))))) (by kernel_rfl) (by kernel_rfl) ((HS.out _).2 HTB.out.drew) (fun hne => ?_)
                      repeat (refine wpTr_q (by simp only [List.getElem?_toArray, List.getElem?_cons_zero, List.getElem?_cons_succ]; rfl) ?_; (first | go_big_quiet_skip | (go_big_quiet_want; go_big_quiet_op; go_big_quiet_on)); refine wpQuiet_nil ?_)
                      refine wpTr_u (by simp only [List.getElem?_toArray, List.getElem?_cons_zero, List.getElem?_cons_succ]; rfl) (by rfl) ?_
                      dsimp only [Act.put]
                      simp only [List.setIfInBounds_toArray, List.set_cons_succ, List.set_cons_zero]
                      repeat (refine wpTr_q (by simp only [List.getElem?_toArray, List.getElem?_cons_zero, List.getElem?_cons_succ]; rfl) ?_; (first | go_big_quiet_skip | (go_big_quiet_want; go_big_quiet_op; go_big_quiet_on)); refine wpQuiet_nil ?_)
                      refine wpTr_u (by simp only [List.getElem?_toArray, List.getElem?_cons_zero, List.getElem?_cons_succ]; rfl) (by rfl) ?_
                      dsimp only [Act.put]
                      simp only [List.setIfInBounds_toArray, List.set_cons_succ, List.set_cons_zero]
                      repeat (refine wpTr_q (by simp only [List.getElem?_toArray, List.getElem?_cons_zero, List.getElem?_cons_succ]; rfl) ?_; (first | go_big_quiet_skip | (go_big_quiet_want; go_big_quiet_op; go_big_quiet_on)); refine wpQuiet_nil ?_)
                      refine wpTr_nil ?_
                      go_wp2_with fail
                      go_roundw
                      case rel => exact ⟨b + 1, by omega, by go_num, HTB.out.drew⟩
                      case measure => simp [intOf]; omega
                    · have hne1 : ((a : Int) != (b : Int)) = true := by simp; omega
                      have hap := ap_at HU.out.ap HXA.out HY.out.1 hab
                      have hxo := HU.out.ok x (List.mem_of_getElem? HXA.out)
                      have hyo := HU.out.ok y (List.mem_of_getElem? HY.out.1)
                      have m1 := fun v (T : Touch (fun _ => False) u v) => meet19_any v x.B y.B x.cb y.cb x.t.length y.t.length x.t y.t rfl rfl (by have := (smallI_all hxo.2.2).1; omega) (by have := (smallI_all hyo.2.2).1; omega) (smallI_all hxo.2.2).2 (smallI_all hyo.2.2).2 (hxo.1.row2.touch0 (HU.out.tch.trans T (fun _ _ h => h))) (hyo.1.row2.touch0 (HU.out.tch.trans T (fun _ _ h => h)))
                      have m2 := fun v (T : Touch (fun _ => False) u v) => meet19_any v x.B y.A x.cb y.ca x.t.length y.r.length x.t y.r rfl rfl (by have := (smallI_all hxo.2.2).1; omega) (by have := (smallI_all hyo.2.1).1; omega) (smallI_all hxo.2.2).2 (smallI_all hyo.2.1).2 (hxo.1.row2.touch0 (HU.out.tch.trans T (fun _ _ h => h))) (hyo.1.row.touch0 (HU.out.tch.trans T (fun _ _ h => h)))
                      rw [hap.1] at m1
                      rw [hap.2] at m2
                      have HM2 := Lib.hid (And.intro m1 m2)
                      clear m1 m2 hap hxo hyo hab
                      have z1 : ∀ x0 : SW S, x0.w.cell? ⟨g1, a * 3 + 2, none⟩ = some (.slice x.B x.t.length x.cb) := fun x0 => (HZ.out x0).2.1
                      have z2 : ∀ x0 : SW S, x0.w.cell? ⟨g1, b * 3 + 2, none⟩ = some (.slice y.B y.t.length y.cb) := fun x0 => (HZ.out x0).2.2.2
                      have z3 : ∀ x0 : SW S, x0.w.cell? ⟨g1, b * 3 + 1, none⟩ = some (.slice y.A y.r.length y.ca) := fun x0 => (HZ.out x0).2.2.1
                      go_wp2_with fail
                      refine wp_region_tr S (.q 0 (.q 1 (.q 2 (.q 3 (.q 4 (.q 5 (.q 6 (.q 7 (.q 8 (.q 9 (.q 10 (.q 11 (.q 12 (.q 13 (.g 14 (.q 15 (.q 16 (.q 17 (.q 18 (.q 19 (.q 20 (.q 21 (.q 22 (.q 23 (.q 24 (.q 25 (.g 26 (.q 27 (.q 28 .nil))))))))))))))))))))))))))))) (by kernel_rfl) (by kernel_rfl) ((HS.out _).2 HTB.out.drew) (fun hne => ?_)
                      repeat (refine wpTr_q (by simp only [List.getElem?_toArray, List.getElem?_cons_zero, List.getElem?_cons_succ]; rfl) ?_; (first | go_big_quiet_skip | (go_big_quiet_want; go_big_quiet_op; go_big_quiet_on)); refine wpQuiet_nil ?_)
                      refine wpTr_g (by simp only [List.getElem?_toArray, List.getElem?_cons_zero, List.getElem?_cons_succ]; rfl) (by rfl) (fun K1 hK1 => ?_)
                      have hD := HTB.out.drew
                      go_wp2_with fail
                      refine (HM2.out.1 _ hD).mono ?_
                      rintro e v1 ⟨rfl, hV1⟩
                      have HV1 := Lib.hid (hD.trans hV1 (fun _ _ h => h))
                      refine hK1 _ _ ⟨(HS.out _).2 HV1.out, ?_⟩
                      clear hD hV1 hK1
                      repeat (refine wpTr_q (by simp only [List.getElem?_toArray, List.getElem?_cons_zero, List.getElem?_cons_succ]; rfl) ?_; (first | go_big_quiet_skip | (go_big_quiet_want; go_big_quiet_op; go_big_quiet_on)); refine wpQuiet_nil ?_)
                      refine wpTr_g (by simp only [List.getElem?_toArray, List.getElem?_cons_zero, List.getElem?_cons_succ]; rfl) (by rfl) (fun K2 hK2 => ?_)
                      go_wp2_with fail
                      refine (HM2.out.2 _ HV1.out).mono ?_
                      rintro e v2 ⟨rfl, hV2⟩
                      have HV2 := Lib.hid (HV1.out.trans hV2 (fun _ _ h => h))
                      refine hK2 _ _ ⟨(HS.out _).2 HV2.out, ?_⟩
                      clear hV2 hK2
                      repeat (refine wpTr_q (by simp only [List.getElem?_toArray, List.getElem?_cons_zero, List.getElem?_cons_succ]; rfl) ?_; (first | go_big_quiet_skip | (go_big_quiet_want; go_big_quiet_op; go_big_quiet_on)); refine wpQuiet_nil ?_)
                      refine wpTr_nil ?_
                      clear z1 z2 z3
                      go_wp2_with fail
                      go_roundw
                      case rel => exact ⟨b + 1, by omega, by go_num, HV2.out⟩
                      case measure => simp [intOf]; omega
                  · have hbl' : ¬ (b : Int) < l2.length := by omega
                    go_wp2_with fail
                    go_roundw
                    case rel => exact ⟨a + 1, by omega, by go_num, HTB.out⟩
                    case measure => simp [intOf]; omega
              · have hal' : ¬ (a : Int) < l2.length := by omega
                go_wp2_with fail
                go_roundw
                case rel => exact ⟨i + 1, L2, l2, A2, c2, by omega, by go_num, rfl, HU.out.touch HTA.out⟩
                case measure => simp [intOf]; omega
          · obtain ⟨vn, hvn⟩ : ∃ v, v = takeN L h.n (h.r.map toSp) (h.t.map toSp) := ⟨_, rfl⟩
            rw [← hvn] at htk hz
            have hvv : ((vn : Int) == 0) = false := by simp; omega
            have HVN := Lib.hid (And.intro hvn hz)
            clear hvn hz
            refine wpTr_e (by simp only [List.getElem?_toArray, List.getElem?_cons_zero, List.getElem?_cons_succ]; rfl) (fun K3 hK3 => ?_)
            go_wp2_with fail
            refine htk.mono ?_
            rintro e u ⟨rfl, ⟨L2, hL2, hk4⟩, hT4⟩
            have hb4 := HV2.out.2.2.2.2.touch hT4 (HV2.out.2.2.2.2.ne_map HV2.out.2.2.2.1.lk.mp)
            refine hK3 _ _ ⟨(HS.out _).2 hb4, ?_⟩
            clear hK3 htk
            repeat (refine wpTr_q (by simp only [List.getElem?_toArray, List.getElem?_cons_zero, List.getElem?_cons_succ]; rfl) ?_; (first | go_big_quiet_skip | (go_big_quiet_want; go_big_quiet_op; go_big_quiet_on)); refine wpQuiet_nil ?_)
            refine wpTr_nil ?_
            obtain ⟨l2, hl2e⟩ : ∃ l2, l2 = l := ⟨_, rfl⟩
            obtain ⟨A2, hA2⟩ : ∃ A2, A2 = A := ⟨_, rfl⟩
            obtain ⟨c2, hc2⟩ : ∃ c2, c2 = c := ⟨_, rfl⟩
            have hL2e : L2 = L := by
              rcases hL2 with ⟨h0, _⟩ | ⟨_, h0⟩
              · exact absurd (HVN.out.1.trans h0) HVN.out.2
              · exact h0
            have hTw : Touch (fun _ => False) w u := HV2.out.2.2.2.1.tch.trans hT4 (fun x hx hh => by have := HM.out; omega)
            have hU : TP w u k m L2 l2 A2 c2 (i + 1) := by
              rw [hl2e, hA2, hc2]
              exact ⟨hk4, hL2e ▸ HX1.out.1.cor, HX1.out.1.ap, HV2.out.2.2.2.1.row3.map HV2.out.2.2.2.1.lk.mp hT4, HX1.out.1.fresh, HX1.out.1.ok, Nat.le_trans HX1.out.1.len (Nat.le_succ _), hTw, by omega⟩
            rw [← hl2e, ← hA2, ← hc2]
            have HU := Lib.hid hU
            clear hU hTw hT4 hk4 hL2 hL2e hl2e hA2 hc2 hb4
            have hl2 : l2.length ≤ 1000 := by have := HU.out.len; have := HU.out.i60; omega
            go_wp2_with fail
            go_loopw [7] (fun u7 w' => ∃ a : Nat, a ≤ l2.length ∧ u7 = .int .i64 a ∧ Touch (fun _ => False) u w') (fun u7 _ => l2.length - (intOf u7).toNat)
            case atStart => exact ⟨0, by omega, rfl, Touch.refl _ _⟩
            case round =>
              obtain ⟨a, ha, rfl, hTa⟩ := hrel
              have HTA := Lib.hid hTa
              clear hTa
              by_cases hal : a < l2.length
              · have hal' : (a : Int) < l2.length := by omega
                obtain ⟨x, hx⟩ : ∃ x, l2[a]? = some x := ⟨_, List.getElem?_eq_getElem hal⟩
                have HXA := Lib.hid hx
                clear hx
                go_wp2_with fail
                go_loopw [8] (fun u8 w' => ∃ b : Nat, b ≤ l2.length ∧ u8 = .int .i64 b ∧ Touch (fun _ => False) u w') (fun u8 _ => l2.length - (intOf u8).toNat)
                case atStart => exact ⟨0, by omega, rfl, HTA.out⟩
                case round =>
                  obtain ⟨b, hb, rfl, hTb⟩ := hrel
                  have HTB := Lib.hid hTb
                  clear hTb
                  by_cases hbl : b < l2.length
                  · have hbl' : (b : Int) < l2.length := by omega
                    obtain ⟨y, hy⟩ : ∃ y, l2[b]? = some y := ⟨_, List.getElem?_eq_getElem hbl⟩
                    obtain ⟨g1, hg1, _, x1, x2⟩ := HU.out.row3.cell HXA.out
                    obtain ⟨g2, hg2, _, y1, y2⟩ := HU.out.row3.cell hy
                    have hgg : g1 = g2 := by rw [hg1] at hg2; injection hg2 with hg2; injection hg2
                    subst hgg
                    subst hg1
                    obtain ⟨S, HS⟩ : ∃ S : World → Prop, Hid (∀ w', S w' ↔ Touch (fun _ => False) u w') := ⟨_, fun _ => Iff.rfl⟩
                    have HY := Lib.hid (And.intro hy (And.intro x1 (And.intro x2 (And.intro y1 y2))))
                    clear hy hg2 x1 x2 y1 y2
                    have hz : ∀ x0 : SW S, x0.w.cell? ⟨g1, a * 3 + 1, none⟩ = some (.slice x.A x.r.length x.ca) ∧ x0.w.cell? ⟨g1, a * 3 + 2, none⟩ = some (.slice x.B x.t.length x.cb) ∧ x0.w.cell? ⟨g1, b * 3 + 1, none⟩ = some (.slice y.A y.r.length y.ca) ∧ x0.w.cell? ⟨g1, b * 3 + 2, none⟩ = some (.slice y.B y.t.length y.cb) := fun x0 =>
                      ⟨((HS.out _).1 x0.ok).cell HY.out.2.1 (fun h => h), ((HS.out _).1 x0.ok).cell HY.out.2.2.1 (fun h => h), ((HS.out _).1 x0.ok).cell HY.out.2.2.2.1 (fun h => h), ((HS.out _).1 x0.ok).cell HY.out.2.2.2.2 (fun h => h)⟩
                    have HZ := Lib.hid hz
                    clear hz
                    by_cases hab : a = b
                    · have hne1 : ((a : Int) != (b : Int)) = false := by simp; omega
                      have HAB := Lib.hid hab
                      clear hab
                      go_wp2_with fail
                      refine wp_region_tr S (.q 0 (.q 1 (.q 2 (.q 3 (.q 4 (.q 5 (.q 6 (.q 7 (.q 8 (.q 9 (.q 10 (.q 11 (.q 12 (.q 13 (.u 14 (.q 15 (.q 16 (.q 17 (.q 18 (.q 19 (.q 20 (.q 21 (.q 22 (.q 23 (.q 24 (.q 25 (.u 26 (.q 27 (.q 28 .nil))))))))))))))))))))))))))))) (by kernel_rfl) (by kernel_rfl) ((HS.out _).2 HTB.out.drew) (fun hne => ?_)
                      repeat (refine wpTr_q (by simp only [List.getElem?_toArray, List.getElem?_cons_zero, List.getElem?_cons_succ]; rfl) ?_; (first | go_big_quiet_skip | (go_big_quiet_want; go_big_quiet_op; go_big_quiet_on)); refine wpQuiet_nil ?_)
                      refine wpTr_u (by simp only [List.getElem?_toArray, List.getElem?_cons_zero, List.getElem?_cons_succ]; rfl) (by rfl) ?_
                      dsimp only [Act.put]
                      simp only [List.setIfInBounds_toArray, List.set_cons_succ, List.set_cons_zero]
                      repeat (refine wpTr_q (by simp only [List.getElem?_toArray, List.getElem?_cons_zero, List.getElem?_cons_succ]; rfl) ?_; (first | go_big_quiet_skip | (go_big_quiet_want; go_big_quiet_op; go_big_quiet_on)); refine wpQuiet_nil ?_)
                      refine wpTr_u (by simp only [List.getElem?_toArray, List.getElem?_cons_zero, List.getElem?_cons_succ]; rfl) (by rfl) ?_
                      dsimp only [Act.put]
                      simp only [List.setIfInBounds_toArray, List.set_cons_succ, List.set_cons_zero]
                      repeat (refine wpTr_q (by simp only [List.getElem?_toArray, List.getElem?_cons_zero, List.getElem?_cons_succ]; rfl) ?_; (first | go_big_quiet_skip | (go_big_quiet_want; go_big_quiet_op; go_big_quiet_on)); refine wpQuiet_nil ?_)
                      refine wpTr_nil ?_
                      go_wp2_with fail
                      go_roundw
                      case rel => exact ⟨b + 1, by omega, by go_num, HTB.out.drew⟩
                      case measure => simp [intOf]; omega
                    · have hne1 : ((a : Int) != (b : Int)) = true := by simp; omega
                      have hap := ap_at HU.out.ap HXA.out HY.out.1 hab
                      have hxo := HU.out.ok x (List.mem_of_getElem? HXA.out)
                      have hyo := HU.out.ok y (List.mem_of_getElem? HY.out.1)
                      have m1 := fun v (T : Touch (fun _ => False) u v) => meet19_any v x.B y.B x.cb y.cb x.t.length y.t.length x.t y.t rfl rfl (by have := (smallI_all hxo.2.2).1; omega) (by have := (smallI_all hyo.2.2).1; omega) (smallI_all hxo.2.2).2 (smallI_all hyo.2.2).2 (hxo.1.row2.touch0 (HU.out.tch.trans T (fun _ _ h => h))) (hyo.1.row2.touch0 (HU.out.tch.trans T (fun _ _ h => h)))
                      have m2 := fun v (T : Touch (fun _ => False) u v) => meet19_any v x.B y.A x.cb y.ca x.t.length y.r.length x.t y.r rfl rfl (by have := (smallI_all hxo.2.2).1; omega) (by have := (smallI_all hyo.2.1).1; omega) (smallI_all hxo.2.2).2 (smallI_all hyo.2.1).2 (hxo.1.row2.touch0 (HU.out.tch.trans T (fun _ _ h => h))) (hyo.1.row.touch0 (HU.out.tch.trans T (fun _ _ h => h)))
                      rw [hap.1] at m1
                      rw [hap.2] at m2
                      have HM2 := Lib.hid (And.intro m1 m2)
                      clear m1 m2 hap hxo hyo hab
                      have z1 : ∀ x0 : SW S, x0.w.cell? ⟨g1, a * 3 + 2, none⟩ = some (.slice x.B x.t.length x.cb) := fun x0 => (HZ.out x0).2.1
                      have z2 : ∀ x0 : SW S, x0.w.cell? ⟨g1, b * 3 + 2, none⟩ = some (.slice y.B y.t.length y.cb) := fun x0 => (HZ.out x0).2.2.2
                      have z3 : ∀ x0 : SW S, x0.w.cell? ⟨g1, b * 3 + 1, none⟩ = some (.slice y.A y.r.length y.ca) := fun x0 => (HZ.out x0).2.2.1
                      go_wp2_with fail
                      refine wp_region_tr S (.q 0 (.q 1 (.q 2 (.q 3 (.q 4 (.q 5 (.q 6 (.q 7 (.q 8 (.q 9 (.q 10 (.q 11 (.q 12 (.q 13 (.g 14 (.q 15 (.q 16 (.q 17 (.q 18 (.q 19 (.q 20 (.q 21 (.q 22 (.q 23 (.q 24 (.q 25 (.g 26 (.q 27 (.q 28 .nil))))))))))))))))))))))))))))) (by kernel_rfl) (by kernel_rfl) ((HS.out _).2 HTB.out.drew) (fun hne => ?_)
                      repeat (refine wpTr_q (by simp only [List.getElem?_toArray, List.getElem?_cons_zero, List.getElem?_cons_succ]; rfl) ?_; (first | go_big_quiet_skip | (go_big_quiet_want; go_big_quiet_op; go_big_quiet_on)); refine wpQuiet_nil ?_)
                      refine wpTr_g (by simp only [List.getElem?_toArray, List.getElem?_cons_zero, List.getElem?_cons_succ]; rfl) (by rfl) (fun K1 hK1 => ?_)
                      have hD := HTB.out.drew
                      go_wp2_with fail
                      refine (HM2.out.1 _ hD).mono ?_
                      rintro e v1 ⟨rfl, hV1⟩
                      have HV1 := Lib.hid (hD.trans hV1 (fun _ _ h => h))
                      refine hK1 _ _ ⟨(HS.out _).2 HV1.out, ?_⟩
                      clear hD hV1 hK1
                      repeat (refine wpTr_q (by simp only [List.getElem?_toArray, List.getElem?_cons_zero, List.getElem?_cons_succ]; rfl) ?_; (first | go_big_quiet_skip | (go_big_quiet_want; go_big_quiet_op; go_big_quiet_on)); refine wpQuiet_nil ?_)
                      refine wpTr_g (by simp only [List.getElem?_toArray, List.getElem?_cons_zero, List.getElem?_cons_succ]; rfl) (by rfl) (fun K2 hK2 => ?_)
                      go_wp2_with fail
                      refine (HM2.out.2 _ HV1.out).mono ?_
                      rintro e v2 ⟨rfl, hV2⟩
                      have HV2 := Lib.hid (HV1.out.trans hV2 (fun _ _ h => h))
                      refine hK2 _ _ ⟨(HS.out _).2 HV2.out, ?_⟩
                      clear hV2 hK2
                      repeat (refine wpTr_q (by simp only [List.getElem?_toArray, List.getElem?_cons_zero, List.getElem?_cons_succ]; rfl) ?_; (first | go_big_quiet_skip | (go_big_quiet_want; go_big_quiet_op; go_big_quiet_on)); refine wpQuiet_nil ?_)
                      refine wpTr_nil ?_
                      clear z1 z2 z3
                      go_wp2_with fail
                      go_roundw
                      case rel => exact ⟨b + 1, by omega, by go_num, HV2.out⟩
                      case measure => simp [intOf]; omega
                  · have hbl' : ¬ (b : Int) < l2.length := by omega
                    go_wp2_with fail
                    go_roundw
                    case rel => exact ⟨a + 1, by omega, by go_num, HTB.out⟩
                    case measure => simp [intOf]; omega
              · have hal' : ¬ (a : Int) < l2.length := by omega
                go_wp2_with fail
                go_roundw
                case rel => exact ⟨i + 1, L2, l2, A2, c2, by omega, by go_num, rfl, HU.out.touch HTA.out⟩
                case measure => simp [intOf]; omega
      · have hin' : ¬ (i : Int) < n := by omega
        have hheld := held_any _ k m L HT.out.lk
        rw [HT.out.cor.len] at hheld
        go_wp2_with fail
        refine hheld.mono ?_
        rintro e v1 ⟨⟨Ah, ch, rfl, _, _⟩, hV1⟩
        have H1 := Lib.hid (HT.out.touch hV1)
        clear hV1 hheld
        have hll : ((l.length : Int) == (l.length : Int)) = true := by simp
        go_wp2_with fail
        refine (awake_any _).mono ?_
        rintro e v6 ⟨rfl, hV6⟩
        have H6 := Lib.hid (H1.out.tch.trans hV6 (fun _ _ h => h))
        clear hV6
        go_wp2_with fail
        go_ret
        exact ⟨rfl, H6.out⟩
end Go.Proofs.Ytgoeocfgajbldaa
