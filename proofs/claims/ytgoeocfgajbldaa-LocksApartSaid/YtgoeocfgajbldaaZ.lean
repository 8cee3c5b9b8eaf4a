/- The document's Take. (Printed by genZ.py.) -/
import Derived.Test.YtgoeocfgajbldaaY
import Derived.Maps.OwnOps
namespace Go.Proofs.Ytgoeocfgajbldaa
open Go.RowKit
set_option linter.unusedVariables false
set_option linter.unusedSimpArgs false

theorem take_end {w W8 x x9 : World} {A A3 A9 : Option Addr} {cap3 cap9 k n : Nat} {l : List RH} {h : RH} (hr : Rw3 x A3 cap3 (l.take k ++ [h])) (hT : Touch (fun _ => False) W8 x) (hf : ∀ a, A3 = some a → W8.heap.size ≤ a.block)
    (hr9 : Rw3 x9 A9 cap9 (l.take k ++ [h] ++ l.drop k)) (hQ : Touch (fun b => ∃ a, A3 = some a ∧ a.block = b) x x9) (hf9 : ∀ a, A9 = some a → (∃ a0, A3 = some a0 ∧ a0.block = a.block) ∨ x.heap.size ≤ a.block) (hT8 : Touch (fun _ => False) w W8)
    (hd : (l.drop k).length = n - k) (hk : k ≤ l.length) :
    (∃ A' c', Ending.returned (.tuple #[.slice A9 (k + 1 + (n - k)) cap9, .int .i64 0]) = .returned (.tuple #[.slice A' (l.take k ++ [h] ++ l.drop k).length c', .int .i64 ((0 : Nat) : Int)]) ∧ Rw3 x9 A' c' (l.take k ++ [h] ++ l.drop k) ∧ (∀ a, A' = some a → A = some a ∨ w.heap.size ≤ a.block)) ∧ Touch (fun _ => False) w x9 := by
  have hlen : (l.take k ++ [h] ++ l.drop k).length = k + 1 + (n - k) := by
    rw [List.length_append, List.length_append, hd, List.length_take]
    simp
    omega
  rw [hlen]
  refine ⟨⟨A9, cap9, rfl, hr9, fun a ha => .inr ?_⟩, hT8.trans (hT.trans hQ (fun b hb ⟨a, ha, e⟩ => by have := hf a ha; omega)) (fun _ _ h => h)⟩
  have h8 := hT8.size
  rcases hf9 a ha with ⟨a0, h0, e⟩ | hh
  · have := hf a0 h0; omega
  · have := hT.size; omega

set_option maxRecDepth 20000 in
set_option maxHeartbeats 4000000 in
theorem takeR_any (w : World) (A : Option Addr) (cap n : Nat) (l : List RH) (h : RH) (hr : Rw3 w A cap l) (hn : l.length = n) (hlen : n ≤ 1000) (hok : RhsOk w l) (ho : RhOk w h) (hs1 : smallI h.r = true) (hs2 : smallI h.t = true) :
    Calls Try.prog 16 #[.slice A n cap, .agg h.cells] w (RowPost w A (takeRL l h) (takeRN l h)) := by
  obtain ⟨W, hW⟩ : ∃ W, W = w.alloc (.cells h.cells 40) := ⟨_, rfl⟩
  have hT : Touch (fun _ => False) w W := by rw [hW]; exact (Touch.refl _ w).alloc _
  have hb : Blk W w.heap.size 40 h.cells := by rw [hW]; exact Blk.new _ _ _
  obtain ⟨p, hp⟩ : ∃ p, p = w.heap.size := ⟨_, rfl⟩
  rw [← hp] at hb
  obtain ⟨k, hk⟩ : ∃ k, k = posR l h.n := ⟨_, rfl⟩
  have hkn : k ≤ n := by rw [hk, ← hn]; exact posR_le _ _
  have hlo : ∀ i y, i < k → l[i]? = some y → y.n < h.n := fun i y hi hy => by rw [hk] at hi; exact posR_lo hi hy
  have hat : ∀ y, l[k]? = some y → ¬ y.n < h.n := fun y hy => by rw [hk] at hy; exact posR_at hy
  have hcap := hr.le
  rw [hn] at hcap
  obtain ⟨hc1, hc2⟩ := hcap
  have H := Lib.hid (And.intro hr (And.intro hn (And.intro hok (And.intro ho (And.intro hs1 hs2)))))
  have HP := Lib.hid hk
  have HLO := Lib.hid (And.intro hlo hat)
  have HWW := Lib.hid (And.intro hb hT)
  have htk : (l.take k).length = k := by rw [List.length_take, hn]; omega
  have hdp : (l.drop k).length = n - k := by rw [List.length_drop, hn]
  clear hr hn hok ho hs1 hs2 hk hlo hat hb hT
  unfold RH.cells at hW ⊢
  go_enter Try.func16, Try.ntmps16
  go_upto_region 1 with fail
  refine Eq.mp (congrArg (fun x => Code.wp _ _ _ _ x) hW) ?_
  rw [← hp]
  clear hW hp
  go_wp2_with fail
  go_loopw [6] (fun u wr => ∃ i : Nat, i ≤ k ∧ u = .int .i64 i ∧ Blk wr p 40 h.cells ∧ Touch (fun _ => False) w wr) (fun u _ => k - (intOf u).toNat)
  case atStart => exact ⟨0, by omega, rfl, HWW.out⟩
  case round =>
    obtain ⟨i, hi, rfl, hbr, hTr⟩ := hrel
    have HO := Lib.hid (And.intro hbr hTr)
    have b0 : wr.cell? ⟨p, 0, none⟩ = some (.int .i64 h.n) := hbr.cell 0
    have b0d : wr.drew.cell? ⟨p, 0, none⟩ = some (.int .i64 h.n) := hbr.drew.cell 0
    clear hbr hTr
    by_cases hik : i < k
    · obtain ⟨y, hy⟩ : ∃ y, l[i]? = some y := ⟨_, List.getElem?_eq_getElem (by rw [H.out.2.1]; omega)⟩
      have hyx := HLO.out.1 i y hik hy
      obtain ⟨g, rfl, c0, _, _⟩ := (H.out.1.touch HO.out.2 (fun _ _ h => h)).cell hy
      have hin : (i : Int) < n := by omega
      clear hy
      go_wp2_with fail
      refine wp_region_qall (by kernel_rfl) (by kernel_rfl) ?_
      repeat (first | go_big_quiet_skip | (go_big_quiet_want; go_big_quiet_op; go_big_quiet_on))
      refine wpQuiet_nil ?_
      go_wp2_with fail
      go_roundw
      case rel => exact ⟨i + 1, by omega, by go_num, HO.out.1.drew, HO.out.2.drew⟩
      case measure => simp [intOf]; omega
    · obtain rfl : k = i := by omega
      by_cases hkl : k < n
      · obtain ⟨y, hy⟩ : ∃ y, l[k]? = some y := ⟨_, List.getElem?_eq_getElem (by rw [H.out.2.1]; omega)⟩
        have hyx := HLO.out.2 y hy
        obtain ⟨g, rfl, c0, _, _⟩ := (H.out.1.touch HO.out.2 (fun _ _ h => h)).cell hy
        obtain ⟨_, hgd, c0d, _, _⟩ := (H.out.1.touch HO.out.2.drew (fun _ _ h => h)).cell hy
        injection hgd with hgd
        injection hgd with hgd
        subst hgd
        have hin : (k : Int) < n := by omega
        have HY := Lib.hid hy
        clear hy
        go_wp2_with fail
        refine wp_region_qall (by kernel_rfl) (by kernel_rfl) ?_
        repeat (first | go_big_quiet_skip | (go_big_quiet_want; go_big_quiet_op; go_big_quiet_on))
        refine wpQuiet_nil ?_
        by_cases heq : y.n = h.n
        · have heq' : (y.n == h.n) = true := by simpa using heq
          have hth : thereR l h.n = true := by unfold thereR; rw [← HP.out, HY.out]; exact heq'
          have hN : takeRN l h = 1 := by unfold takeRN; rw [hth]; rfl
          have hL : takeRL l h = l := by unfold takeRL; rw [hN]; rfl
          have HN := Lib.hid hN
          have HL := Lib.hid hL
          clear hN hL hth heq
          go_wp2_with fail
          refine wp_region_qall (by kernel_rfl) (by kernel_rfl) ?_
          repeat (first | go_big_quiet_skip | (go_big_quiet_want; go_big_quiet_op; go_big_quiet_on))
          refine wpQuiet_nil ?_
          go_wp2_with fail
          go_ret2
          unfold RowPost
          rw [HN.out, HL.out, H.out.2.1]
          exact ⟨⟨(some ⟨g, 0, none⟩), cap, rfl, H.out.1.touch HO.out.2.drew.drew (fun _ _ h => h), fun a ha => .inl ha⟩, HO.out.2.drew.drew⟩
        · have heq' : (y.n == h.n) = false := by simpa using heq
          have hth : thereR l h.n = false := by unfold thereR; rw [← HP.out, HY.out]; exact heq'
          have HTH := Lib.hid hth
          have HK := Lib.hid (And.intro htk (And.intro hdp True.intro))
          clear hth heq
          go_wp2_with fail
          refine wp_region_qall (by kernel_rfl) (by kernel_rfl) ?_
          repeat (first | go_big_quiet_skip | (go_big_quiet_want; go_big_quiet_op; go_big_quiet_on))
          refine wpQuiet_nil ?_
          clear c0 c0d b0 b0d heq' hyx
          have hTd : Touch (fun _ => False) wr wr.drew.drew := ((Touch.refl _ wr).drew).drew
          have hTw : Touch (fun _ => False) w wr.drew.drew := HO.out.2.trans hTd (fun _ _ h => h)
          have hbd := HO.out.1.touch hTd (fun h => h)
          have e1 : wr.drew.drew.cell? ⟨p, 1, none⟩ = some (.slice h.A h.r.length h.ca) := hbd.cell 1
          have e2 := fun w' (T : Touch (fun _ => False) wr.drew.drew w') => (show w'.cell? ⟨p, 2, none⟩ = some (.slice h.B h.t.length h.cb) from (hbd.touch T (fun h => h)).cell 2)
          have by1 := busyR_any wr.drew.drew (some ⟨g, 0, none⟩) h.A cap h.ca n h.r.length l h.r false (H.out.1.touch hTw (fun _ _ h => h)) H.out.2.1 hlen (H.out.2.2.1.touch hTw) rfl H.out.2.2.2.2.1 (H.out.2.2.2.1.row.touch0 hTw)
          have by2 := fun w' (T : Touch (fun _ => False) wr.drew.drew w') => busyR_any w' (some ⟨g, 0, none⟩) h.B cap h.cb n h.t.length l h.t true ((H.out.1.touch hTw (fun _ _ h => h)).touch T (fun _ _ h => h)) H.out.2.1 hlen ((H.out.2.2.1.touch hTw).touch T) rfl H.out.2.2.2.2.2 ((H.out.2.2.2.1.row2.touch0 hTw).touch0 T)
          obtain ⟨y1, hy1⟩ : ∃ y1, y1 = busyI l h.r false := ⟨_, rfl⟩
          obtain ⟨y2, hy2⟩ : ∃ y2, y2 = busyI l h.t true := ⟨_, rfl⟩
          rw [← hy1] at by1
          rw [← hy2] at by2
          have HB := Lib.hid (And.intro by1 (And.intro by2 (And.intro hTw (And.intro e2 (And.intro hbd (And.intro hy1 hy2))))))
          clear by1 by2 hTw e2 hbd hTd hy1 hy2
          go_wp2_with fail
          refine HB.out.1.mono ?_
          rintro e v1 ⟨rfl, hV1⟩
          have e2 := HB.out.2.2.2.1 _ hV1
          have HV1 := Lib.hid (And.intro hV1 (HB.out.2.2.1.trans hV1 (fun _ _ h => h)))
          clear hV1 e1
          cases y1 with
          | true =>
            have hN : takeRN l h = 13 := by unfold takeRN; rw [HTH.out, ← HB.out.2.2.2.2.2.1]; rfl
            have hL : takeRL l h = l := by unfold takeRL; rw [hN]; rfl
            have HN := Lib.hid hN
            have HL := Lib.hid hL
            clear hN hL
            go_wp2_with fail
            go_ret2
            unfold RowPost
            rw [HN.out, HL.out, H.out.2.1]
            exact ⟨⟨(some ⟨g, 0, none⟩), cap, rfl, H.out.1.touch HV1.out.2 (fun _ _ h => h), fun a ha => .inl ha⟩, HV1.out.2⟩
          | false =>
            go_wp2_with fail
            refine (HB.out.2.1 _ HV1.out.1).mono ?_
            rintro e v2 ⟨rfl, hV2⟩
            have HV2 := Lib.hid (HV1.out.2.trans hV2 (fun _ _ h => h))
            have hb2 := (HB.out.2.2.2.2.1.touch HV1.out.1 (fun h => h)).touch hV2 (fun h => h)
            have HB2 := Lib.hid hb2
            clear hV2 e2 hb2
            cases y2 with
            | true =>
              have hN : takeRN l h = 13 := by unfold takeRN; rw [HTH.out, ← HB.out.2.2.2.2.2.1, ← HB.out.2.2.2.2.2.2]; rfl
              have hL : takeRL l h = l := by unfold takeRL; rw [hN]; rfl
              have HN := Lib.hid hN
              have HL := Lib.hid hL
              clear hN hL
              go_wp2_with fail
              go_ret2
              unfold RowPost
              rw [HN.out, HL.out, H.out.2.1]
              exact ⟨⟨(some ⟨g, 0, none⟩), cap, rfl, H.out.1.touch HV2.out (fun _ _ h => h), fun a ha => .inl ha⟩, HV2.out⟩
            | false =>
              have hN : takeRN l h = 0 := by unfold takeRN; rw [HTH.out, ← HB.out.2.2.2.2.2.1, ← HB.out.2.2.2.2.2.2]; rfl
              have hL : takeRL l h = l.take k ++ [h] ++ l.drop k := by unfold takeRL; rw [hN, if_pos rfl, ← HP.out]
              have HN := Lib.hid hN
              have HL := Lib.hid hL
              clear hN hL
              go_wp2_with fail
              obtain ⟨W8, hW8⟩ : ∃ W8, W8 = v2.drew := ⟨_, rfl⟩
              have hT8 : Touch (fun _ => False) w W8 := by rw [hW8]; exact HV2.out.drew
              have hb8 : Blk W8 p 40 h.cells := by rw [hW8]; exact HB2.out.drew
              have H8 := Lib.hid (And.intro (H.out.1.touch hT8 (fun _ _ h => h)) hT8)
              obtain ⟨S8, HS8⟩ : ∃ S : World → Prop, Hid (∀ w', S w' ↔ Touch (fun _ => False) W8 w') := ⟨_, fun _ => Iff.rfl⟩
              have z0 : ∀ x : SW S8, x.w.cell? ⟨p, 0, none⟩ = some (.int .i64 h.n) := fun x => (hb8.touch ((HS8.out _).1 x.ok) (fun h => h)).cell 0
              have z1 : ∀ x : SW S8, x.w.cell? ⟨p, 1, none⟩ = some (.slice h.A h.r.length h.ca) := fun x => (hb8.touch ((HS8.out _).1 x.ok) (fun h => h)).cell 1
              have z2 : ∀ x : SW S8, x.w.cell? ⟨p, 2, none⟩ = some (.slice h.B h.t.length h.cb) := fun x => (hb8.touch ((HS8.out _).1 x.ok) (fun h => h)).cell 2
              clear hT8
              refine wp_region_tr S8 (.q 1 (.q 2 (.q 3 (.q 5 (.b 0 6 (.b 4 6 (.e 6 (.e 7 (.e 8 .nil))) (.e 4 (.e 7 (.e 8 .nil)))) (.e 0 (.e 4 (.e 7 (.e 8 .nil))))))))) (by kernel_rfl) (by kernel_rfl) ((HS8.out _).2 (by rw [← hW8]; exact Touch.refl _ W8)) (fun hne => ?_)
              rw [← hW8]
              clear hW8
              repeat (refine wpTr_q (by simp only [List.getElem?_toArray, List.getElem?_cons_zero, List.getElem?_cons_succ]; rfl) ?_; (first | go_big_quiet_skip | (go_big_quiet_want; go_big_quiet_op; go_big_quiet_on)); refine wpQuiet_nil ?_)
              clear z0 z1 z2 hb8
              refine wpTr_b (by simp only [List.getElem?_toArray, List.getElem?_cons_zero]; rfl) (by simp only [List.getElem?_toArray, List.getElem?_cons_zero, List.getElem?_cons_succ]; rfl) (fun K1 hK1 => ?_) (fun K1 hK1 => ?_)
              · skip
                go_wp2_with fail
                obtain ⟨x1, hx1⟩ : ∃ x, x = W8.alloc (.cells #[] 40) := ⟨_, rfl⟩
                rw [← hx1]
                have hA1 : Touch (fun _ => False) W8 x1 := by rw [hx1]; exact (Touch.refl _ _).alloc _
                have ht1 : Touch (fun _ => False) W8 x1 := hA1
                have hr0 : Rw3 x1 (some ⟨W8.heap.size, 0, none⟩) 0 [] := by rw [hx1]; exact Rw3.new W8 [] (by simp)
                have hs0 : W8.heap.size ≤ W8.heap.size := Nat.le_refl _
                have HZ := Lib.hid (hr0.lt rfl)
                clear hx1
                refine ⟨(HS8.out _).2 ht1, ?_⟩
                refine wpTr_b (by simp only [List.getElem?_toArray, List.getElem?_cons_zero, List.getElem?_cons_succ]; rfl) (by simp only [List.getElem?_toArray, List.getElem?_cons_zero, List.getElem?_cons_succ]; rfl) (fun K2 hK2 => ?_) (fun K2 hK2 => ?_)
                · skip
                  refine wp_rw3_push rfl (.tmp 50) (.tmp 53) rfl (some ⟨W8.heap.size, 0, none⟩) 0 0 k [] (l.take k) rfl HK.out.1 rfl _ rfl (src3_take (H8.out.1.touch ht1 (fun _ _ h => h)) _ HK.out.1) hr0 (by omega) ?_
                  intro A2 cap2 x2 hr4 hQ2 hf4
                  dsimp only [Act.put]
                  simp only [List.setIfInBounds_toArray, List.set_cons_succ, List.set_cons_zero, Nat.zero_add]
                  rw [List.nil_append] at hr4
                  have ht2 : Touch (fun _ => False) W8 x2 := ht1.trans hQ2 (fun b hb ⟨a, ha, e⟩ => by injection ha with ha; subst ha; dsimp only at e; omega)
                  have hf4' : ∀ a, A2 = some a → W8.heap.size ≤ a.block := fun a ha => by
                    rcases hf4 a ha with ⟨a0, h0, e⟩ | hh
                    · injection h0 with h0; subst h0; dsimp only at e; omega
                    · have := (ht1).size; omega
                  refine hK2 _ _ ⟨(HS8.out _).2 ht2, ?_⟩
                  refine wpTr_e (by simp only [List.getElem?_toArray, List.getElem?_cons_zero, List.getElem?_cons_succ]; rfl) (fun K3 hK3 => ?_)
                  go_wp2_with fail
                  obtain ⟨x3, hx3⟩ : ∃ x, x = x2.alloc (.cells #[.int .i64 h.n, .slice h.A h.r.length h.ca, .slice h.B h.t.length h.cb] 40) := ⟨_, rfl⟩
                  rw [← hx3]
                  have hA3 : Touch (fun _ => False) x2 x3 := by rw [hx3]; exact (Touch.refl _ _).alloc _
                  have ht3 : Touch (fun _ => False) W8 x3 := ht2.trans hA3 (fun _ _ h => h)
                  have hb6 : Blk x3 x2.heap.size 40 h.cells := by rw [hx3]; exact Blk.new _ _ _
                  skip
                  clear hx3
                  refine ⟨(HS8.out _).2 ht3, ?_⟩
                  refine wpTr_e (by simp only [List.getElem?_toArray, List.getElem?_cons_zero, List.getElem?_cons_succ]; rfl) (fun K4 hK4 => ?_)
                  refine wp_rw3_push rfl (.tmp 54) (.tmp 56) rfl A2 cap2 k 1 (l.take k) [h] HK.out.1 rfl rfl _ rfl (src3_one hb6) (hr4.touch hA3 (fun _ _ h => h)) (by omega) ?_
                  intro A3 cap3 x4 hr7 hQ4 hf7
                  dsimp only [Act.put]
                  simp only [List.setIfInBounds_toArray, List.set_cons_succ, List.set_cons_zero]
                  have ht4 : Touch (fun _ => False) W8 x4 := ht3.trans hQ4 (fun b hb ⟨a, ha, e⟩ => by have := hf4' a ha; omega)
                  have hf7' : ∀ a, A3 = some a → W8.heap.size ≤ a.block := fun a ha => by
                    rcases hf7 a ha with ⟨a0, h0, e⟩ | hh
                    · have := hf4' a0 h0; omega
                    · have := (ht3).size; omega
                  refine hK4 _ _ ⟨(HS8.out _).2 ht4, ?_⟩
                  have HE := Lib.hid (And.intro hr7 (And.intro ht4 hf7'))
                  refine wpTr_e (by simp only [List.getElem?_toArray, List.getElem?_cons_zero, List.getElem?_cons_succ]; rfl) (fun K5 hK5 => ?_)
                  clear hr4 hf4 hf4' hr7 hf7 hf7' hr0 hb6 hs0
                  go_wp2_with fail
                  try refine ⟨(HS8.out _).2 HE.out.2.1, wpTr_nil ?_⟩
                  have hrl := H8.out.1.touch HE.out.2.1 (fun _ _ h => h)
                  have HR := Lib.hid hrl
                  clear hrl
                  go_wp2_with (first | (at_builtin; refine wpList_rw3_push rfl (.tmp 58) (.tmp 61) rfl A3 cap3 (k + 1) (n - k) (l.take k ++ [h]) (l.drop k) (by rw [List.length_append, HK.out.1]; simp) HK.out.2.1 rfl (.slice (some ⟨g, k * 3, none⟩) (n - k) (cap - k)) rfl (src3_some HR.out k _ _ (by rw [List.take_of_length_le (by rw [HK.out.2.1]; omega)]) HK.out.2.1) HE.out.1 (by omega) ?_; intro A9 cap9 x9 hr9 hQ9 hf9) | (at_builtin; refine wpList_rw3_push rfl (.tmp 58) (.tmp 61) rfl A3 cap3 (k + 1) (n - k) (l.take k ++ [h]) (l.drop k) (by rw [List.length_append, HK.out.1]; simp) HK.out.2.1 rfl (.slice (some ⟨g, 0, none⟩) (n - k) 0) rfl (src3_nil _ _ (by omega) (List.eq_nil_of_length_eq_zero (by rw [HK.out.2.1]; omega))) HE.out.1 (by omega) ?_; intro A9 cap9 x9 hr9 hQ9 hf9) | (at_builtin; refine wpList_rw3_push rfl (.tmp 58) (.tmp 61) rfl A3 cap3 (k + 1) (n - k) (l.take k ++ [h]) (l.drop k) (by rw [List.length_append, HK.out.1]; simp) HK.out.2.1 rfl _ rfl (by split; (· exact src3_nil _ _ (by omega) (List.eq_nil_of_length_eq_zero (by rw [HK.out.2.1]; omega))); (· exact src3_some HR.out k _ _ (by rw [List.take_of_length_le (by rw [HK.out.2.1]; omega)]) HK.out.2.1)) HE.out.1 (by omega) ?_; intro A9 cap9 x9 hr9 hQ9 hf9) | go_in)
                  all_goals go_ret2
                  all_goals unfold RowPost
                  all_goals rw [HN.out, HL.out]
                  all_goals exact take_end HE.out.1 HE.out.2.1 HE.out.2.2 hr9 hQ9 hf9 H8.out.2 HK.out.2.1 (by rw [H.out.2.1]; exact hkn)
                · skip
                  go_wp2_with fail
                  obtain ⟨x2, hx2⟩ : ∃ x, x = x1.alloc (.cells #[.int .i64 h.n, .slice h.A h.r.length h.ca, .slice h.B h.t.length h.cb] 40) := ⟨_, rfl⟩
                  rw [← hx2]
                  have hA2 : Touch (fun _ => False) x1 x2 := by rw [hx2]; exact (Touch.refl _ _).alloc _
                  have ht2 : Touch (fun _ => False) W8 x2 := ht1.trans hA2 (fun _ _ h => h)
                  have hb6 : Blk x2 x1.heap.size 40 h.cells := by rw [hx2]; exact Blk.new _ _ _
                  skip
                  clear hx2
                  refine ⟨(HS8.out _).2 ht2, ?_⟩
                  refine wpTr_e (by simp only [List.getElem?_toArray, List.getElem?_cons_zero, List.getElem?_cons_succ]; rfl) (fun K3 hK3 => ?_)
                  refine wp_rw3_push rfl (.tmp 50) (.tmp 53) rfl (some ⟨W8.heap.size, 0, none⟩) 0 0 k [] (l.take k) rfl HK.out.1 rfl _ rfl (src3_take (H8.out.1.touch ht2 (fun _ _ h => h)) _ HK.out.1) (hr0.touch hA2 (fun _ _ h => h)) (by omega) ?_
                  intro A2 cap2 x3 hr4 hQ3 hf4
                  dsimp only [Act.put]
                  simp only [List.setIfInBounds_toArray, List.set_cons_succ, List.set_cons_zero, Nat.zero_add]
                  rw [List.nil_append] at hr4
                  have ht3 : Touch (fun _ => False) W8 x3 := ht2.trans hQ3 (fun b hb ⟨a, ha, e⟩ => by injection ha with ha; subst ha; dsimp only at e; omega)
                  have hf4' : ∀ a, A2 = some a → W8.heap.size ≤ a.block := fun a ha => by
                    rcases hf4 a ha with ⟨a0, h0, e⟩ | hh
                    · injection h0 with h0; subst h0; dsimp only at e; omega
                    · have := (ht2).size; omega
                  refine hK3 _ _ ⟨(HS8.out _).2 ht3, ?_⟩
                  refine wpTr_e (by simp only [List.getElem?_toArray, List.getElem?_cons_zero, List.getElem?_cons_succ]; rfl) (fun K4 hK4 => ?_)
                  refine wp_rw3_push rfl (.tmp 54) (.tmp 56) rfl A2 cap2 k 1 (l.take k) [h] HK.out.1 rfl rfl _ rfl (src3_one (hb6.touch hQ3 (fun ⟨a, ha, e⟩ => by injection ha with ha; subst ha; dsimp only at e; have hz : W8.heap.size < x1.heap.size := HZ.out; omega))) hr4 (by omega) ?_
                  intro A3 cap3 x4 hr7 hQ4 hf7
                  dsimp only [Act.put]
                  simp only [List.setIfInBounds_toArray, List.set_cons_succ, List.set_cons_zero]
                  have ht4 : Touch (fun _ => False) W8 x4 := ht3.trans hQ4 (fun b hb ⟨a, ha, e⟩ => by have := hf4' a ha; omega)
                  have hf7' : ∀ a, A3 = some a → W8.heap.size ≤ a.block := fun a ha => by
                    rcases hf7 a ha with ⟨a0, h0, e⟩ | hh
                    · have := hf4' a0 h0; omega
                    · have := (ht3).size; omega
                  refine hK4 _ _ ⟨(HS8.out _).2 ht4, ?_⟩
                  have HE := Lib.hid (And.intro hr7 (And.intro ht4 hf7'))
                  refine wpTr_e (by simp only [List.getElem?_toArray, List.getElem?_cons_zero, List.getElem?_cons_succ]; rfl) (fun K5 hK5 => ?_)
                  clear hr4 hf4 hf4' hr7 hf7 hf7' hr0 hb6 hs0
                  go_wp2_with fail
                  try refine ⟨(HS8.out _).2 HE.out.2.1, wpTr_nil ?_⟩
                  have hrl := H8.out.1.touch HE.out.2.1 (fun _ _ h => h)
                  have HR := Lib.hid hrl
                  clear hrl
                  go_wp2_with (first | (at_builtin; refine wpList_rw3_push rfl (.tmp 58) (.tmp 61) rfl A3 cap3 (k + 1) (n - k) (l.take k ++ [h]) (l.drop k) (by rw [List.length_append, HK.out.1]; simp) HK.out.2.1 rfl (.slice (some ⟨g, k * 3, none⟩) (n - k) (cap - k)) rfl (src3_some HR.out k _ _ (by rw [List.take_of_length_le (by rw [HK.out.2.1]; omega)]) HK.out.2.1) HE.out.1 (by omega) ?_; intro A9 cap9 x9 hr9 hQ9 hf9) | (at_builtin; refine wpList_rw3_push rfl (.tmp 58) (.tmp 61) rfl A3 cap3 (k + 1) (n - k) (l.take k ++ [h]) (l.drop k) (by rw [List.length_append, HK.out.1]; simp) HK.out.2.1 rfl (.slice (some ⟨g, 0, none⟩) (n - k) 0) rfl (src3_nil _ _ (by omega) (List.eq_nil_of_length_eq_zero (by rw [HK.out.2.1]; omega))) HE.out.1 (by omega) ?_; intro A9 cap9 x9 hr9 hQ9 hf9) | (at_builtin; refine wpList_rw3_push rfl (.tmp 58) (.tmp 61) rfl A3 cap3 (k + 1) (n - k) (l.take k ++ [h]) (l.drop k) (by rw [List.length_append, HK.out.1]; simp) HK.out.2.1 rfl _ rfl (by split; (· exact src3_nil _ _ (by omega) (List.eq_nil_of_length_eq_zero (by rw [HK.out.2.1]; omega))); (· exact src3_some HR.out k _ _ (by rw [List.take_of_length_le (by rw [HK.out.2.1]; omega)]) HK.out.2.1)) HE.out.1 (by omega) ?_; intro A9 cap9 x9 hr9 hQ9 hf9) | go_in)
                  all_goals go_ret2
                  all_goals unfold RowPost
                  all_goals rw [HN.out, HL.out]
                  all_goals exact take_end HE.out.1 HE.out.2.1 HE.out.2.2 hr9 hQ9 hf9 H8.out.2 HK.out.2.1 (by rw [H.out.2.1]; exact hkn)
              · skip
                go_wp2_with fail
                obtain ⟨x1, hx1⟩ : ∃ x, x = W8.alloc (.cells #[.int .i64 h.n, .slice h.A h.r.length h.ca, .slice h.B h.t.length h.cb] 40) := ⟨_, rfl⟩
                rw [← hx1]
                have hA1 : Touch (fun _ => False) W8 x1 := by rw [hx1]; exact (Touch.refl _ _).alloc _
                have ht1 : Touch (fun _ => False) W8 x1 := (Touch.refl (fun _ => False) W8).trans hA1 (fun _ _ h => h)
                have hb6 : Blk x1 W8.heap.size 40 h.cells := by rw [hx1]; exact Blk.new _ _ _
                have HZ := Lib.hid hb6.lt
                clear hx1
                refine ⟨(HS8.out _).2 ht1, ?_⟩
                refine wpTr_e (by simp only [List.getElem?_toArray, List.getElem?_cons_zero, List.getElem?_cons_succ]; rfl) (fun K2 hK2 => ?_)
                go_wp2_with fail
                obtain ⟨x2, hx2⟩ : ∃ x, x = x1.alloc (.cells #[] 40) := ⟨_, rfl⟩
                rw [← hx2]
                have hA2 : Touch (fun _ => False) x1 x2 := by rw [hx2]; exact (Touch.refl _ _).alloc _
                have ht2 : Touch (fun _ => False) W8 x2 := ht1.trans hA2 (fun _ _ h => h)
                have hr0 : Rw3 x2 (some ⟨x1.heap.size, 0, none⟩) 0 [] := by rw [hx2]; exact Rw3.new x1 [] (by simp)
                have hs0 : W8.heap.size ≤ x1.heap.size := (ht1).size
                clear hx2
                refine ⟨(HS8.out _).2 ht2, ?_⟩
                refine wpTr_e (by simp only [List.getElem?_toArray, List.getElem?_cons_zero, List.getElem?_cons_succ]; rfl) (fun K3 hK3 => ?_)
                refine wp_rw3_push rfl (.tmp 50) (.tmp 53) rfl (some ⟨x1.heap.size, 0, none⟩) 0 0 k [] (l.take k) rfl HK.out.1 rfl _ rfl (src3_take (H8.out.1.touch ht2 (fun _ _ h => h)) _ HK.out.1) hr0 (by omega) ?_
                intro A2 cap2 x3 hr4 hQ3 hf4
                dsimp only [Act.put]
                simp only [List.setIfInBounds_toArray, List.set_cons_succ, List.set_cons_zero, Nat.zero_add]
                rw [List.nil_append] at hr4
                have ht3 : Touch (fun _ => False) W8 x3 := ht2.trans hQ3 (fun b hb ⟨a, ha, e⟩ => by injection ha with ha; subst ha; dsimp only at e; omega)
                have hf4' : ∀ a, A2 = some a → W8.heap.size ≤ a.block := fun a ha => by
                  rcases hf4 a ha with ⟨a0, h0, e⟩ | hh
                  · injection h0 with h0; subst h0; dsimp only at e; omega
                  · have := (ht2).size; omega
                refine hK3 _ _ ⟨(HS8.out _).2 ht3, ?_⟩
                refine wpTr_e (by simp only [List.getElem?_toArray, List.getElem?_cons_zero, List.getElem?_cons_succ]; rfl) (fun K4 hK4 => ?_)
                refine wp_rw3_push rfl (.tmp 54) (.tmp 56) rfl A2 cap2 k 1 (l.take k) [h] HK.out.1 rfl rfl _ rfl (src3_one ((hb6.touch hA2 (fun h => h)).touch hQ3 (fun ⟨a, ha, e⟩ => by injection ha with ha; subst ha; dsimp only at e; have hz : W8.heap.size < x1.heap.size := HZ.out; omega))) hr4 (by omega) ?_
                intro A3 cap3 x4 hr7 hQ4 hf7
                dsimp only [Act.put]
                simp only [List.setIfInBounds_toArray, List.set_cons_succ, List.set_cons_zero]
                have ht4 : Touch (fun _ => False) W8 x4 := ht3.trans hQ4 (fun b hb ⟨a, ha, e⟩ => by have := hf4' a ha; omega)
                have hf7' : ∀ a, A3 = some a → W8.heap.size ≤ a.block := fun a ha => by
                  rcases hf7 a ha with ⟨a0, h0, e⟩ | hh
                  · have := hf4' a0 h0; omega
                  · have := (ht3).size; omega
                refine hK4 _ _ ⟨(HS8.out _).2 ht4, ?_⟩
                have HE := Lib.hid (And.intro hr7 (And.intro ht4 hf7'))
                refine wpTr_e (by simp only [List.getElem?_toArray, List.getElem?_cons_zero, List.getElem?_cons_succ]; rfl) (fun K5 hK5 => ?_)
                clear hr4 hf4 hf4' hr7 hf7 hf7' hr0 hb6 hs0
                go_wp2_with fail
                try refine ⟨(HS8.out _).2 HE.out.2.1, wpTr_nil ?_⟩
                have hrl := H8.out.1.touch HE.out.2.1 (fun _ _ h => h)
                have HR := Lib.hid hrl
                clear hrl
                go_wp2_with (first | (at_builtin; refine wpList_rw3_push rfl (.tmp 58) (.tmp 61) rfl A3 cap3 (k + 1) (n - k) (l.take k ++ [h]) (l.drop k) (by rw [List.length_append, HK.out.1]; simp) HK.out.2.1 rfl (.slice (some ⟨g, k * 3, none⟩) (n - k) (cap - k)) rfl (src3_some HR.out k _ _ (by rw [List.take_of_length_le (by rw [HK.out.2.1]; omega)]) HK.out.2.1) HE.out.1 (by omega) ?_; intro A9 cap9 x9 hr9 hQ9 hf9) | (at_builtin; refine wpList_rw3_push rfl (.tmp 58) (.tmp 61) rfl A3 cap3 (k + 1) (n - k) (l.take k ++ [h]) (l.drop k) (by rw [List.length_append, HK.out.1]; simp) HK.out.2.1 rfl (.slice (some ⟨g, 0, none⟩) (n - k) 0) rfl (src3_nil _ _ (by omega) (List.eq_nil_of_length_eq_zero (by rw [HK.out.2.1]; omega))) HE.out.1 (by omega) ?_; intro A9 cap9 x9 hr9 hQ9 hf9) | (at_builtin; refine wpList_rw3_push rfl (.tmp 58) (.tmp 61) rfl A3 cap3 (k + 1) (n - k) (l.take k ++ [h]) (l.drop k) (by rw [List.length_append, HK.out.1]; simp) HK.out.2.1 rfl _ rfl (by split; (· exact src3_nil _ _ (by omega) (List.eq_nil_of_length_eq_zero (by rw [HK.out.2.1]; omega))); (· exact src3_some HR.out k _ _ (by rw [List.take_of_length_le (by rw [HK.out.2.1]; omega)]) HK.out.2.1)) HE.out.1 (by omega) ?_; intro A9 cap9 x9 hr9 hQ9 hf9) | go_in)
                all_goals go_ret2
                all_goals unfold RowPost
                all_goals rw [HN.out, HL.out]
                all_goals exact take_end HE.out.1 HE.out.2.1 HE.out.2.2 hr9 hQ9 hf9 H8.out.2 HK.out.2.1 (by rw [H.out.2.1]; exact hkn)
      · have hkn' : k = n := by omega
        have hin : ¬ (k : Int) < n := by omega
        have hth : thereR l h.n = false := by unfold thereR; rw [← HP.out, List.getElem?_eq_none (by rw [H.out.2.1]; omega)]; rfl
        have HTH := Lib.hid hth
        have HKN := Lib.hid hkn'
        clear hth hkn'
        go_wp2_with fail
        refine wp_region_qall (by kernel_rfl) (by kernel_rfl) ?_
        repeat (first | go_big_quiet_skip | (go_big_quiet_want; go_big_quiet_op; go_big_quiet_on))
        refine wpQuiet_nil ?_
        go_wp2_with fail
        refine wp_region_qall (by kernel_rfl) (by kernel_rfl) ?_
        repeat (first | go_big_quiet_skip | (go_big_quiet_want; go_big_quiet_op; go_big_quiet_on))
        refine wpQuiet_nil ?_
        clear b0 b0d
        rcases A with _ | a
        · have hl0 : l = [] := by
            rcases H.out.1 with ⟨_, _, e⟩ | ⟨g, cur, e, _⟩
            · exact e
            · cases e
          have hn0 : n = 0 := by rw [← H.out.2.1, hl0]; rfl
          have hk0 : k = 0 := by have := HKN.out; omega
          have hcp0 : cap = 0 := by
            rcases H.out.1 with ⟨_, e, _⟩ | ⟨g, cur, e, _⟩
            · exact e
            · cases e
          have HK := Lib.hid (And.intro htk (And.intro hdp (And.intro hk0 (And.intro (show l.take k = [] by rw [hl0]; simp) (show n - k = 0 by omega)))))
          have hkc : k ≤ cap := by omega
          have HC := Lib.hid (And.intro hn0 hcp0)
          clear hl0 hn0 hk0 hcp0
          have hTd : Touch (fun _ => False) wr wr.drew.drew := ((Touch.refl _ wr).drew).drew
          have hTw : Touch (fun _ => False) w wr.drew.drew := HO.out.2.trans hTd (fun _ _ h => h)
          have hbd := HO.out.1.touch hTd (fun h => h)
          have e1 : wr.drew.drew.cell? ⟨p, 1, none⟩ = some (.slice h.A h.r.length h.ca) := hbd.cell 1
          have e2 := fun w' (T : Touch (fun _ => False) wr.drew.drew w') => (show w'.cell? ⟨p, 2, none⟩ = some (.slice h.B h.t.length h.cb) from (hbd.touch T (fun h => h)).cell 2)
          have by1 := busyR_any wr.drew.drew none h.A cap h.ca n h.r.length l h.r false (H.out.1.touch hTw (fun _ _ h => h)) H.out.2.1 hlen (H.out.2.2.1.touch hTw) rfl H.out.2.2.2.2.1 (H.out.2.2.2.1.row.touch0 hTw)
          have by2 := fun w' (T : Touch (fun _ => False) wr.drew.drew w') => busyR_any w' none h.B cap h.cb n h.t.length l h.t true ((H.out.1.touch hTw (fun _ _ h => h)).touch T (fun _ _ h => h)) H.out.2.1 hlen ((H.out.2.2.1.touch hTw).touch T) rfl H.out.2.2.2.2.2 ((H.out.2.2.2.1.row2.touch0 hTw).touch0 T)
          obtain ⟨y1, hy1⟩ : ∃ y1, y1 = busyI l h.r false := ⟨_, rfl⟩
          obtain ⟨y2, hy2⟩ : ∃ y2, y2 = busyI l h.t true := ⟨_, rfl⟩
          rw [← hy1] at by1
          rw [← hy2] at by2
          have HB := Lib.hid (And.intro by1 (And.intro by2 (And.intro hTw (And.intro e2 (And.intro hbd (And.intro hy1 hy2))))))
          clear by1 by2 hTw e2 hbd hTd hy1 hy2
          go_wp2_with fail
          refine HB.out.1.mono ?_
          rintro e v1 ⟨rfl, hV1⟩
          have e2 := HB.out.2.2.2.1 _ hV1
          have HV1 := Lib.hid (And.intro hV1 (HB.out.2.2.1.trans hV1 (fun _ _ h => h)))
          clear hV1 e1
          cases y1 with
          | true =>
            have hN : takeRN l h = 13 := by unfold takeRN; rw [HTH.out, ← HB.out.2.2.2.2.2.1]; rfl
            have hL : takeRL l h = l := by unfold takeRL; rw [hN]; rfl
            have HN := Lib.hid hN
            have HL := Lib.hid hL
            clear hN hL
            go_wp2_with fail
            go_ret2
            unfold RowPost
            rw [HN.out, HL.out, H.out.2.1]
            exact ⟨⟨none, cap, rfl, H.out.1.touch HV1.out.2 (fun _ _ h => h), fun a ha => .inl ha⟩, HV1.out.2⟩
          | false =>
            go_wp2_with fail
            refine (HB.out.2.1 _ HV1.out.1).mono ?_
            rintro e v2 ⟨rfl, hV2⟩
            have HV2 := Lib.hid (HV1.out.2.trans hV2 (fun _ _ h => h))
            have hb2 := (HB.out.2.2.2.2.1.touch HV1.out.1 (fun h => h)).touch hV2 (fun h => h)
            have HB2 := Lib.hid hb2
            clear hV2 e2 hb2
            cases y2 with
            | true =>
              have hN : takeRN l h = 13 := by unfold takeRN; rw [HTH.out, ← HB.out.2.2.2.2.2.1, ← HB.out.2.2.2.2.2.2]; rfl
              have hL : takeRL l h = l := by unfold takeRL; rw [hN]; rfl
              have HN := Lib.hid hN
              have HL := Lib.hid hL
              clear hN hL
              go_wp2_with fail
              go_ret2
              unfold RowPost
              rw [HN.out, HL.out, H.out.2.1]
              exact ⟨⟨none, cap, rfl, H.out.1.touch HV2.out (fun _ _ h => h), fun a ha => .inl ha⟩, HV2.out⟩
            | false =>
              have hN : takeRN l h = 0 := by unfold takeRN; rw [HTH.out, ← HB.out.2.2.2.2.2.1, ← HB.out.2.2.2.2.2.2]; rfl
              have hL : takeRL l h = l.take k ++ [h] ++ l.drop k := by unfold takeRL; rw [hN, if_pos rfl, ← HP.out]
              have HN := Lib.hid hN
              have HL := Lib.hid hL
              clear hN hL
              go_wp2_with fail
              obtain ⟨W8, hW8⟩ : ∃ W8, W8 = v2.drew := ⟨_, rfl⟩
              have hT8 : Touch (fun _ => False) w W8 := by rw [hW8]; exact HV2.out.drew
              have hb8 : Blk W8 p 40 h.cells := by rw [hW8]; exact HB2.out.drew
              have H8 := Lib.hid (And.intro (H.out.1.touch hT8 (fun _ _ h => h)) hT8)
              obtain ⟨S8, HS8⟩ : ∃ S : World → Prop, Hid (∀ w', S w' ↔ Touch (fun _ => False) W8 w') := ⟨_, fun _ => Iff.rfl⟩
              have z0 : ∀ x : SW S8, x.w.cell? ⟨p, 0, none⟩ = some (.int .i64 h.n) := fun x => (hb8.touch ((HS8.out _).1 x.ok) (fun h => h)).cell 0
              have z1 : ∀ x : SW S8, x.w.cell? ⟨p, 1, none⟩ = some (.slice h.A h.r.length h.ca) := fun x => (hb8.touch ((HS8.out _).1 x.ok) (fun h => h)).cell 1
              have z2 : ∀ x : SW S8, x.w.cell? ⟨p, 2, none⟩ = some (.slice h.B h.t.length h.cb) := fun x => (hb8.touch ((HS8.out _).1 x.ok) (fun h => h)).cell 2
              clear hT8
              refine wp_region_tr S8 (.q 1 (.q 2 (.q 3 (.q 5 (.b 0 6 (.b 4 6 (.e 6 (.e 7 (.e 8 .nil))) (.e 4 (.e 7 (.e 8 .nil)))) (.e 0 (.e 4 (.e 7 (.e 8 .nil))))))))) (by kernel_rfl) (by kernel_rfl) ((HS8.out _).2 (by rw [← hW8]; exact Touch.refl _ W8)) (fun hne => ?_)
              rw [← hW8]
              clear hW8
              repeat (refine wpTr_q (by simp only [List.getElem?_toArray, List.getElem?_cons_zero, List.getElem?_cons_succ]; rfl) ?_; (first | go_big_quiet_skip | (go_big_quiet_want; go_big_quiet_op; go_big_quiet_on)); refine wpQuiet_nil ?_)
              clear z0 z1 z2 hb8
              refine wpTr_b (by simp only [List.getElem?_toArray, List.getElem?_cons_zero]; rfl) (by simp only [List.getElem?_toArray, List.getElem?_cons_zero, List.getElem?_cons_succ]; rfl) (fun K1 hK1 => ?_) (fun K1 hK1 => ?_)
              · skip
                go_wp2_with fail
                obtain ⟨x1, hx1⟩ : ∃ x, x = W8.alloc (.cells #[] 40) := ⟨_, rfl⟩
                rw [← hx1]
                have hA1 : Touch (fun _ => False) W8 x1 := by rw [hx1]; exact (Touch.refl _ _).alloc _
                have ht1 : Touch (fun _ => False) W8 x1 := hA1
                have hr0 : Rw3 x1 (some ⟨W8.heap.size, 0, none⟩) 0 [] := by rw [hx1]; exact Rw3.new W8 [] (by simp)
                have hs0 : W8.heap.size ≤ W8.heap.size := Nat.le_refl _
                have HZ := Lib.hid (hr0.lt rfl)
                clear hx1
                refine ⟨(HS8.out _).2 ht1, ?_⟩
                refine wpTr_b (by simp only [List.getElem?_toArray, List.getElem?_cons_zero, List.getElem?_cons_succ]; rfl) (by simp only [List.getElem?_toArray, List.getElem?_cons_zero, List.getElem?_cons_succ]; rfl) (fun K2 hK2 => ?_) (fun K2 hK2 => ?_)
                · skip
                  refine wp_rw3_push rfl (.tmp 50) (.tmp 53) rfl (some ⟨W8.heap.size, 0, none⟩) 0 0 k [] (l.take k) rfl HK.out.1 rfl _ rfl (src3_nil _ _ HK.out.2.2.1 HK.out.2.2.2.1) hr0 (by omega) ?_
                  intro A2 cap2 x2 hr4 hQ2 hf4
                  dsimp only [Act.put]
                  simp only [List.setIfInBounds_toArray, List.set_cons_succ, List.set_cons_zero, Nat.zero_add]
                  rw [List.nil_append] at hr4
                  have ht2 : Touch (fun _ => False) W8 x2 := ht1.trans hQ2 (fun b hb ⟨a, ha, e⟩ => by injection ha with ha; subst ha; dsimp only at e; omega)
                  have hf4' : ∀ a, A2 = some a → W8.heap.size ≤ a.block := fun a ha => by
                    rcases hf4 a ha with ⟨a0, h0, e⟩ | hh
                    · injection h0 with h0; subst h0; dsimp only at e; omega
                    · have := (ht1).size; omega
                  refine hK2 _ _ ⟨(HS8.out _).2 ht2, ?_⟩
                  refine wpTr_e (by simp only [List.getElem?_toArray, List.getElem?_cons_zero, List.getElem?_cons_succ]; rfl) (fun K3 hK3 => ?_)
                  go_wp2_with fail
                  obtain ⟨x3, hx3⟩ : ∃ x, x = x2.alloc (.cells #[.int .i64 h.n, .slice h.A h.r.length h.ca, .slice h.B h.t.length h.cb] 40) := ⟨_, rfl⟩
                  rw [← hx3]
                  have hA3 : Touch (fun _ => False) x2 x3 := by rw [hx3]; exact (Touch.refl _ _).alloc _
                  have ht3 : Touch (fun _ => False) W8 x3 := ht2.trans hA3 (fun _ _ h => h)
                  have hb6 : Blk x3 x2.heap.size 40 h.cells := by rw [hx3]; exact Blk.new _ _ _
                  skip
                  clear hx3
                  refine ⟨(HS8.out _).2 ht3, ?_⟩
                  refine wpTr_e (by simp only [List.getElem?_toArray, List.getElem?_cons_zero, List.getElem?_cons_succ]; rfl) (fun K4 hK4 => ?_)
                  refine wp_rw3_push rfl (.tmp 54) (.tmp 56) rfl A2 cap2 k 1 (l.take k) [h] HK.out.1 rfl rfl _ rfl (src3_one hb6) (hr4.touch hA3 (fun _ _ h => h)) (by omega) ?_
                  intro A3 cap3 x4 hr7 hQ4 hf7
                  dsimp only [Act.put]
                  simp only [List.setIfInBounds_toArray, List.set_cons_succ, List.set_cons_zero]
                  have ht4 : Touch (fun _ => False) W8 x4 := ht3.trans hQ4 (fun b hb ⟨a, ha, e⟩ => by have := hf4' a ha; omega)
                  have hf7' : ∀ a, A3 = some a → W8.heap.size ≤ a.block := fun a ha => by
                    rcases hf7 a ha with ⟨a0, h0, e⟩ | hh
                    · have := hf4' a0 h0; omega
                    · have := (ht3).size; omega
                  refine hK4 _ _ ⟨(HS8.out _).2 ht4, ?_⟩
                  have HE := Lib.hid (And.intro hr7 (And.intro ht4 hf7'))
                  refine wpTr_e (by simp only [List.getElem?_toArray, List.getElem?_cons_zero, List.getElem?_cons_succ]; rfl) (fun K5 hK5 => ?_)
                  clear hr4 hf4 hf4' hr7 hf7 hf7' hr0 hb6 hs0
                  go_wp2_with fail
                  try refine ⟨(HS8.out _).2 HE.out.2.1, wpTr_nil ?_⟩
                  have hrl := H8.out.1.touch HE.out.2.1 (fun _ _ h => h)
                  have HR := Lib.hid hrl
                  clear hrl
                  go_wp2_with (first | (at_builtin; refine wpList_rw3_push rfl (.tmp 58) (.tmp 61) rfl A3 cap3 (k + 1) (n - k) (l.take k ++ [h]) (l.drop k) (by rw [List.length_append, HK.out.1]; simp) HK.out.2.1 rfl _ rfl (by first | exact src3_nil _ _ HK.out.2.2.2.2 (List.eq_nil_of_length_eq_zero (by rw [HK.out.2.1]; exact HK.out.2.2.2.2)) | (split <;> exact src3_nil _ _ HK.out.2.2.2.2 (List.eq_nil_of_length_eq_zero (by rw [HK.out.2.1]; exact HK.out.2.2.2.2)))) HE.out.1 (by omega) ?_; intro A9 cap9 x9 hr9 hQ9 hf9) | go_in)
                  all_goals go_ret2
                  all_goals unfold RowPost
                  all_goals rw [HN.out, HL.out]
                  all_goals exact take_end HE.out.1 HE.out.2.1 HE.out.2.2 hr9 hQ9 hf9 H8.out.2 HK.out.2.1 (by rw [H.out.2.1]; exact hkn)
                · skip
                  go_wp2_with fail
                  obtain ⟨x2, hx2⟩ : ∃ x, x = x1.alloc (.cells #[.int .i64 h.n, .slice h.A h.r.length h.ca, .slice h.B h.t.length h.cb] 40) := ⟨_, rfl⟩
                  rw [← hx2]
                  have hA2 : Touch (fun _ => False) x1 x2 := by rw [hx2]; exact (Touch.refl _ _).alloc _
                  have ht2 : Touch (fun _ => False) W8 x2 := ht1.trans hA2 (fun _ _ h => h)
                  have hb6 : Blk x2 x1.heap.size 40 h.cells := by rw [hx2]; exact Blk.new _ _ _
                  skip
                  clear hx2
                  refine ⟨(HS8.out _).2 ht2, ?_⟩
                  refine wpTr_e (by simp only [List.getElem?_toArray, List.getElem?_cons_zero, List.getElem?_cons_succ]; rfl) (fun K3 hK3 => ?_)
                  refine wp_rw3_push rfl (.tmp 50) (.tmp 53) rfl (some ⟨W8.heap.size, 0, none⟩) 0 0 k [] (l.take k) rfl HK.out.1 rfl _ rfl (src3_nil _ _ HK.out.2.2.1 HK.out.2.2.2.1) (hr0.touch hA2 (fun _ _ h => h)) (by omega) ?_
                  intro A2 cap2 x3 hr4 hQ3 hf4
                  dsimp only [Act.put]
                  simp only [List.setIfInBounds_toArray, List.set_cons_succ, List.set_cons_zero, Nat.zero_add]
                  rw [List.nil_append] at hr4
                  have ht3 : Touch (fun _ => False) W8 x3 := ht2.trans hQ3 (fun b hb ⟨a, ha, e⟩ => by injection ha with ha; subst ha; dsimp only at e; omega)
                  have hf4' : ∀ a, A2 = some a → W8.heap.size ≤ a.block := fun a ha => by
                    rcases hf4 a ha with ⟨a0, h0, e⟩ | hh
                    · injection h0 with h0; subst h0; dsimp only at e; omega
                    · have := (ht2).size; omega
                  refine hK3 _ _ ⟨(HS8.out _).2 ht3, ?_⟩
                  refine wpTr_e (by simp only [List.getElem?_toArray, List.getElem?_cons_zero, List.getElem?_cons_succ]; rfl) (fun K4 hK4 => ?_)
                  refine wp_rw3_push rfl (.tmp 54) (.tmp 56) rfl A2 cap2 k 1 (l.take k) [h] HK.out.1 rfl rfl _ rfl (src3_one (hb6.touch hQ3 (fun ⟨a, ha, e⟩ => by injection ha with ha; subst ha; dsimp only at e; have hz : W8.heap.size < x1.heap.size := HZ.out; omega))) hr4 (by omega) ?_
                  intro A3 cap3 x4 hr7 hQ4 hf7
                  dsimp only [Act.put]
                  simp only [List.setIfInBounds_toArray, List.set_cons_succ, List.set_cons_zero]
                  have ht4 : Touch (fun _ => False) W8 x4 := ht3.trans hQ4 (fun b hb ⟨a, ha, e⟩ => by have := hf4' a ha; omega)
                  have hf7' : ∀ a, A3 = some a → W8.heap.size ≤ a.block := fun a ha => by
                    rcases hf7 a ha with ⟨a0, h0, e⟩ | hh
                    · have := hf4' a0 h0; omega
                    · have := (ht3).size; omega
                  refine hK4 _ _ ⟨(HS8.out _).2 ht4, ?_⟩
                  have HE := Lib.hid (And.intro hr7 (And.intro ht4 hf7'))
                  refine wpTr_e (by simp only [List.getElem?_toArray, List.getElem?_cons_zero, List.getElem?_cons_succ]; rfl) (fun K5 hK5 => ?_)
                  clear hr4 hf4 hf4' hr7 hf7 hf7' hr0 hb6 hs0
                  go_wp2_with fail
                  try refine ⟨(HS8.out _).2 HE.out.2.1, wpTr_nil ?_⟩
                  have hrl := H8.out.1.touch HE.out.2.1 (fun _ _ h => h)
                  have HR := Lib.hid hrl
                  clear hrl
                  go_wp2_with (first | (at_builtin; refine wpList_rw3_push rfl (.tmp 58) (.tmp 61) rfl A3 cap3 (k + 1) (n - k) (l.take k ++ [h]) (l.drop k) (by rw [List.length_append, HK.out.1]; simp) HK.out.2.1 rfl _ rfl (by first | exact src3_nil _ _ HK.out.2.2.2.2 (List.eq_nil_of_length_eq_zero (by rw [HK.out.2.1]; exact HK.out.2.2.2.2)) | (split <;> exact src3_nil _ _ HK.out.2.2.2.2 (List.eq_nil_of_length_eq_zero (by rw [HK.out.2.1]; exact HK.out.2.2.2.2)))) HE.out.1 (by omega) ?_; intro A9 cap9 x9 hr9 hQ9 hf9) | go_in)
                  all_goals go_ret2
                  all_goals unfold RowPost
                  all_goals rw [HN.out, HL.out]
                  all_goals exact take_end HE.out.1 HE.out.2.1 HE.out.2.2 hr9 hQ9 hf9 H8.out.2 HK.out.2.1 (by rw [H.out.2.1]; exact hkn)
              · skip
                go_wp2_with fail
                obtain ⟨x1, hx1⟩ : ∃ x, x = W8.alloc (.cells #[.int .i64 h.n, .slice h.A h.r.length h.ca, .slice h.B h.t.length h.cb] 40) := ⟨_, rfl⟩
                rw [← hx1]
                have hA1 : Touch (fun _ => False) W8 x1 := by rw [hx1]; exact (Touch.refl _ _).alloc _
                have ht1 : Touch (fun _ => False) W8 x1 := (Touch.refl (fun _ => False) W8).trans hA1 (fun _ _ h => h)
                have hb6 : Blk x1 W8.heap.size 40 h.cells := by rw [hx1]; exact Blk.new _ _ _
                have HZ := Lib.hid hb6.lt
                clear hx1
                refine ⟨(HS8.out _).2 ht1, ?_⟩
                refine wpTr_e (by simp only [List.getElem?_toArray, List.getElem?_cons_zero, List.getElem?_cons_succ]; rfl) (fun K2 hK2 => ?_)
                go_wp2_with fail
                obtain ⟨x2, hx2⟩ : ∃ x, x = x1.alloc (.cells #[] 40) := ⟨_, rfl⟩
                rw [← hx2]
                have hA2 : Touch (fun _ => False) x1 x2 := by rw [hx2]; exact (Touch.refl _ _).alloc _
                have ht2 : Touch (fun _ => False) W8 x2 := ht1.trans hA2 (fun _ _ h => h)
                have hr0 : Rw3 x2 (some ⟨x1.heap.size, 0, none⟩) 0 [] := by rw [hx2]; exact Rw3.new x1 [] (by simp)
                have hs0 : W8.heap.size ≤ x1.heap.size := (ht1).size
                clear hx2
                refine ⟨(HS8.out _).2 ht2, ?_⟩
                refine wpTr_e (by simp only [List.getElem?_toArray, List.getElem?_cons_zero, List.getElem?_cons_succ]; rfl) (fun K3 hK3 => ?_)
                refine wp_rw3_push rfl (.tmp 50) (.tmp 53) rfl (some ⟨x1.heap.size, 0, none⟩) 0 0 k [] (l.take k) rfl HK.out.1 rfl _ rfl (src3_nil _ _ HK.out.2.2.1 HK.out.2.2.2.1) hr0 (by omega) ?_
                intro A2 cap2 x3 hr4 hQ3 hf4
                dsimp only [Act.put]
                simp only [List.setIfInBounds_toArray, List.set_cons_succ, List.set_cons_zero, Nat.zero_add]
                rw [List.nil_append] at hr4
                have ht3 : Touch (fun _ => False) W8 x3 := ht2.trans hQ3 (fun b hb ⟨a, ha, e⟩ => by injection ha with ha; subst ha; dsimp only at e; omega)
                have hf4' : ∀ a, A2 = some a → W8.heap.size ≤ a.block := fun a ha => by
                  rcases hf4 a ha with ⟨a0, h0, e⟩ | hh
                  · injection h0 with h0; subst h0; dsimp only at e; omega
                  · have := (ht2).size; omega
                refine hK3 _ _ ⟨(HS8.out _).2 ht3, ?_⟩
                refine wpTr_e (by simp only [List.getElem?_toArray, List.getElem?_cons_zero, List.getElem?_cons_succ]; rfl) (fun K4 hK4 => ?_)
                refine wp_rw3_push rfl (.tmp 54) (.tmp 56) rfl A2 cap2 k 1 (l.take k) [h] HK.out.1 rfl rfl _ rfl (src3_one ((hb6.touch hA2 (fun h => h)).touch hQ3 (fun ⟨a, ha, e⟩ => by injection ha with ha; subst ha; dsimp only at e; have hz : W8.heap.size < x1.heap.size := HZ.out; omega))) hr4 (by omega) ?_
                intro A3 cap3 x4 hr7 hQ4 hf7
                dsimp only [Act.put]
                simp only [List.setIfInBounds_toArray, List.set_cons_succ, List.set_cons_zero]
                have ht4 : Touch (fun _ => False) W8 x4 := ht3.trans hQ4 (fun b hb ⟨a, ha, e⟩ => by have := hf4' a ha; omega)
                have hf7' : ∀ a, A3 = some a → W8.heap.size ≤ a.block := fun a ha => by
                  rcases hf7 a ha with ⟨a0, h0, e⟩ | hh
                  · have := hf4' a0 h0; omega
                  · have := (ht3).size; omega
                refine hK4 _ _ ⟨(HS8.out _).2 ht4, ?_⟩
                have HE := Lib.hid (And.intro hr7 (And.intro ht4 hf7'))
                refine wpTr_e (by simp only [List.getElem?_toArray, List.getElem?_cons_zero, List.getElem?_cons_succ]; rfl) (fun K5 hK5 => ?_)
                clear hr4 hf4 hf4' hr7 hf7 hf7' hr0 hb6 hs0
                go_wp2_with fail
                try refine ⟨(HS8.out _).2 HE.out.2.1, wpTr_nil ?_⟩
                have hrl := H8.out.1.touch HE.out.2.1 (fun _ _ h => h)
                have HR := Lib.hid hrl
                clear hrl
                go_wp2_with (first | (at_builtin; refine wpList_rw3_push rfl (.tmp 58) (.tmp 61) rfl A3 cap3 (k + 1) (n - k) (l.take k ++ [h]) (l.drop k) (by rw [List.length_append, HK.out.1]; simp) HK.out.2.1 rfl _ rfl (by first | exact src3_nil _ _ HK.out.2.2.2.2 (List.eq_nil_of_length_eq_zero (by rw [HK.out.2.1]; exact HK.out.2.2.2.2)) | (split <;> exact src3_nil _ _ HK.out.2.2.2.2 (List.eq_nil_of_length_eq_zero (by rw [HK.out.2.1]; exact HK.out.2.2.2.2)))) HE.out.1 (by omega) ?_; intro A9 cap9 x9 hr9 hQ9 hf9) | go_in)
                all_goals go_ret2
                all_goals unfold RowPost
                all_goals rw [HN.out, HL.out]
                all_goals exact take_end HE.out.1 HE.out.2.1 HE.out.2.2 hr9 hQ9 hf9 H8.out.2 HK.out.2.1 (by rw [H.out.2.1]; exact hkn)
        · obtain ⟨g, rfl⟩ : ∃ g, a = ⟨g, 0, none⟩ := by
            rcases H.out.1 with ⟨e, _⟩ | ⟨g, cur, e, _⟩
            · cases e
            · injection e with e; exact ⟨g, e⟩
          have HK := Lib.hid (And.intro htk (And.intro hdp True.intro))
          have hTd : Touch (fun _ => False) wr wr.drew.drew := ((Touch.refl _ wr).drew).drew
          have hTw : Touch (fun _ => False) w wr.drew.drew := HO.out.2.trans hTd (fun _ _ h => h)
          have hbd := HO.out.1.touch hTd (fun h => h)
          have e1 : wr.drew.drew.cell? ⟨p, 1, none⟩ = some (.slice h.A h.r.length h.ca) := hbd.cell 1
          have e2 := fun w' (T : Touch (fun _ => False) wr.drew.drew w') => (show w'.cell? ⟨p, 2, none⟩ = some (.slice h.B h.t.length h.cb) from (hbd.touch T (fun h => h)).cell 2)
          have by1 := busyR_any wr.drew.drew (some ⟨g, 0, none⟩) h.A cap h.ca n h.r.length l h.r false (H.out.1.touch hTw (fun _ _ h => h)) H.out.2.1 hlen (H.out.2.2.1.touch hTw) rfl H.out.2.2.2.2.1 (H.out.2.2.2.1.row.touch0 hTw)
          have by2 := fun w' (T : Touch (fun _ => False) wr.drew.drew w') => busyR_any w' (some ⟨g, 0, none⟩) h.B cap h.cb n h.t.length l h.t true ((H.out.1.touch hTw (fun _ _ h => h)).touch T (fun _ _ h => h)) H.out.2.1 hlen ((H.out.2.2.1.touch hTw).touch T) rfl H.out.2.2.2.2.2 ((H.out.2.2.2.1.row2.touch0 hTw).touch0 T)
          obtain ⟨y1, hy1⟩ : ∃ y1, y1 = busyI l h.r false := ⟨_, rfl⟩
          obtain ⟨y2, hy2⟩ : ∃ y2, y2 = busyI l h.t true := ⟨_, rfl⟩
          rw [← hy1] at by1
          rw [← hy2] at by2
          have HB := Lib.hid (And.intro by1 (And.intro by2 (And.intro hTw (And.intro e2 (And.intro hbd (And.intro hy1 hy2))))))
          clear by1 by2 hTw e2 hbd hTd hy1 hy2
          go_wp2_with fail
          refine HB.out.1.mono ?_
          rintro e v1 ⟨rfl, hV1⟩
          have e2 := HB.out.2.2.2.1 _ hV1
          have HV1 := Lib.hid (And.intro hV1 (HB.out.2.2.1.trans hV1 (fun _ _ h => h)))
          clear hV1 e1
          cases y1 with
          | true =>
            have hN : takeRN l h = 13 := by unfold takeRN; rw [HTH.out, ← HB.out.2.2.2.2.2.1]; rfl
            have hL : takeRL l h = l := by unfold takeRL; rw [hN]; rfl
            have HN := Lib.hid hN
            have HL := Lib.hid hL
            clear hN hL
            go_wp2_with fail
            go_ret2
            unfold RowPost
            rw [HN.out, HL.out, H.out.2.1]
            exact ⟨⟨(some ⟨g, 0, none⟩), cap, rfl, H.out.1.touch HV1.out.2 (fun _ _ h => h), fun a ha => .inl ha⟩, HV1.out.2⟩
          | false =>
            go_wp2_with fail
            refine (HB.out.2.1 _ HV1.out.1).mono ?_
            rintro e v2 ⟨rfl, hV2⟩
            have HV2 := Lib.hid (HV1.out.2.trans hV2 (fun _ _ h => h))
            have hb2 := (HB.out.2.2.2.2.1.touch HV1.out.1 (fun h => h)).touch hV2 (fun h => h)
            have HB2 := Lib.hid hb2
            clear hV2 e2 hb2
            cases y2 with
            | true =>
              have hN : takeRN l h = 13 := by unfold takeRN; rw [HTH.out, ← HB.out.2.2.2.2.2.1, ← HB.out.2.2.2.2.2.2]; rfl
              have hL : takeRL l h = l := by unfold takeRL; rw [hN]; rfl
              have HN := Lib.hid hN
              have HL := Lib.hid hL
              clear hN hL
              go_wp2_with fail
              go_ret2
              unfold RowPost
              rw [HN.out, HL.out, H.out.2.1]
              exact ⟨⟨(some ⟨g, 0, none⟩), cap, rfl, H.out.1.touch HV2.out (fun _ _ h => h), fun a ha => .inl ha⟩, HV2.out⟩
            | false =>
              have hN : takeRN l h = 0 := by unfold takeRN; rw [HTH.out, ← HB.out.2.2.2.2.2.1, ← HB.out.2.2.2.2.2.2]; rfl
              have hL : takeRL l h = l.take k ++ [h] ++ l.drop k := by unfold takeRL; rw [hN, if_pos rfl, ← HP.out]
              have HN := Lib.hid hN
              have HL := Lib.hid hL
              clear hN hL
              go_wp2_with fail
              obtain ⟨W8, hW8⟩ : ∃ W8, W8 = v2.drew := ⟨_, rfl⟩
              have hT8 : Touch (fun _ => False) w W8 := by rw [hW8]; exact HV2.out.drew
              have hb8 : Blk W8 p 40 h.cells := by rw [hW8]; exact HB2.out.drew
              have H8 := Lib.hid (And.intro (H.out.1.touch hT8 (fun _ _ h => h)) hT8)
              obtain ⟨S8, HS8⟩ : ∃ S : World → Prop, Hid (∀ w', S w' ↔ Touch (fun _ => False) W8 w') := ⟨_, fun _ => Iff.rfl⟩
              have z0 : ∀ x : SW S8, x.w.cell? ⟨p, 0, none⟩ = some (.int .i64 h.n) := fun x => (hb8.touch ((HS8.out _).1 x.ok) (fun h => h)).cell 0
              have z1 : ∀ x : SW S8, x.w.cell? ⟨p, 1, none⟩ = some (.slice h.A h.r.length h.ca) := fun x => (hb8.touch ((HS8.out _).1 x.ok) (fun h => h)).cell 1
              have z2 : ∀ x : SW S8, x.w.cell? ⟨p, 2, none⟩ = some (.slice h.B h.t.length h.cb) := fun x => (hb8.touch ((HS8.out _).1 x.ok) (fun h => h)).cell 2
              clear hT8
              refine wp_region_tr S8 (.q 1 (.q 2 (.q 3 (.q 5 (.b 0 6 (.b 4 6 (.e 6 (.e 7 (.e 8 .nil))) (.e 4 (.e 7 (.e 8 .nil)))) (.e 0 (.e 4 (.e 7 (.e 8 .nil))))))))) (by kernel_rfl) (by kernel_rfl) ((HS8.out _).2 (by rw [← hW8]; exact Touch.refl _ W8)) (fun hne => ?_)
              rw [← hW8]
              clear hW8
              repeat (refine wpTr_q (by simp only [List.getElem?_toArray, List.getElem?_cons_zero, List.getElem?_cons_succ]; rfl) ?_; (first | go_big_quiet_skip | (go_big_quiet_want; go_big_quiet_op; go_big_quiet_on)); refine wpQuiet_nil ?_)
              clear z0 z1 z2 hb8
              refine wpTr_b (by simp only [List.getElem?_toArray, List.getElem?_cons_zero]; rfl) (by simp only [List.getElem?_toArray, List.getElem?_cons_zero, List.getElem?_cons_succ]; rfl) (fun K1 hK1 => ?_) (fun K1 hK1 => ?_)
              · skip
                go_wp2_with fail
                obtain ⟨x1, hx1⟩ : ∃ x, x = W8.alloc (.cells #[] 40) := ⟨_, rfl⟩
                rw [← hx1]
                have hA1 : Touch (fun _ => False) W8 x1 := by rw [hx1]; exact (Touch.refl _ _).alloc _
                have ht1 : Touch (fun _ => False) W8 x1 := hA1
                have hr0 : Rw3 x1 (some ⟨W8.heap.size, 0, none⟩) 0 [] := by rw [hx1]; exact Rw3.new W8 [] (by simp)
                have hs0 : W8.heap.size ≤ W8.heap.size := Nat.le_refl _
                have HZ := Lib.hid (hr0.lt rfl)
                clear hx1
                refine ⟨(HS8.out _).2 ht1, ?_⟩
                refine wpTr_b (by simp only [List.getElem?_toArray, List.getElem?_cons_zero, List.getElem?_cons_succ]; rfl) (by simp only [List.getElem?_toArray, List.getElem?_cons_zero, List.getElem?_cons_succ]; rfl) (fun K2 hK2 => ?_) (fun K2 hK2 => ?_)
                · skip
                  refine wp_rw3_push rfl (.tmp 50) (.tmp 53) rfl (some ⟨W8.heap.size, 0, none⟩) 0 0 k [] (l.take k) rfl HK.out.1 rfl _ rfl (src3_take (H8.out.1.touch ht1 (fun _ _ h => h)) _ HK.out.1) hr0 (by omega) ?_
                  intro A2 cap2 x2 hr4 hQ2 hf4
                  dsimp only [Act.put]
                  simp only [List.setIfInBounds_toArray, List.set_cons_succ, List.set_cons_zero, Nat.zero_add]
                  rw [List.nil_append] at hr4
                  have ht2 : Touch (fun _ => False) W8 x2 := ht1.trans hQ2 (fun b hb ⟨a, ha, e⟩ => by injection ha with ha; subst ha; dsimp only at e; omega)
                  have hf4' : ∀ a, A2 = some a → W8.heap.size ≤ a.block := fun a ha => by
                    rcases hf4 a ha with ⟨a0, h0, e⟩ | hh
                    · injection h0 with h0; subst h0; dsimp only at e; omega
                    · have := (ht1).size; omega
                  refine hK2 _ _ ⟨(HS8.out _).2 ht2, ?_⟩
                  refine wpTr_e (by simp only [List.getElem?_toArray, List.getElem?_cons_zero, List.getElem?_cons_succ]; rfl) (fun K3 hK3 => ?_)
                  go_wp2_with fail
                  obtain ⟨x3, hx3⟩ : ∃ x, x = x2.alloc (.cells #[.int .i64 h.n, .slice h.A h.r.length h.ca, .slice h.B h.t.length h.cb] 40) := ⟨_, rfl⟩
                  rw [← hx3]
                  have hA3 : Touch (fun _ => False) x2 x3 := by rw [hx3]; exact (Touch.refl _ _).alloc _
                  have ht3 : Touch (fun _ => False) W8 x3 := ht2.trans hA3 (fun _ _ h => h)
                  have hb6 : Blk x3 x2.heap.size 40 h.cells := by rw [hx3]; exact Blk.new _ _ _
                  skip
                  clear hx3
                  refine ⟨(HS8.out _).2 ht3, ?_⟩
                  refine wpTr_e (by simp only [List.getElem?_toArray, List.getElem?_cons_zero, List.getElem?_cons_succ]; rfl) (fun K4 hK4 => ?_)
                  refine wp_rw3_push rfl (.tmp 54) (.tmp 56) rfl A2 cap2 k 1 (l.take k) [h] HK.out.1 rfl rfl _ rfl (src3_one hb6) (hr4.touch hA3 (fun _ _ h => h)) (by omega) ?_
                  intro A3 cap3 x4 hr7 hQ4 hf7
                  dsimp only [Act.put]
                  simp only [List.setIfInBounds_toArray, List.set_cons_succ, List.set_cons_zero]
                  have ht4 : Touch (fun _ => False) W8 x4 := ht3.trans hQ4 (fun b hb ⟨a, ha, e⟩ => by have := hf4' a ha; omega)
                  have hf7' : ∀ a, A3 = some a → W8.heap.size ≤ a.block := fun a ha => by
                    rcases hf7 a ha with ⟨a0, h0, e⟩ | hh
                    · have := hf4' a0 h0; omega
                    · have := (ht3).size; omega
                  refine hK4 _ _ ⟨(HS8.out _).2 ht4, ?_⟩
                  have HE := Lib.hid (And.intro hr7 (And.intro ht4 hf7'))
                  refine wpTr_e (by simp only [List.getElem?_toArray, List.getElem?_cons_zero, List.getElem?_cons_succ]; rfl) (fun K5 hK5 => ?_)
                  clear hr4 hf4 hf4' hr7 hf7 hf7' hr0 hb6 hs0
                  go_wp2_with fail
                  try refine ⟨(HS8.out _).2 HE.out.2.1, wpTr_nil ?_⟩
                  have hrl := H8.out.1.touch HE.out.2.1 (fun _ _ h => h)
                  have HR := Lib.hid hrl
                  clear hrl
                  go_wp2_with (first | (at_builtin; refine wpList_rw3_push rfl (.tmp 58) (.tmp 61) rfl A3 cap3 (k + 1) (n - k) (l.take k ++ [h]) (l.drop k) (by rw [List.length_append, HK.out.1]; simp) HK.out.2.1 rfl _ rfl (by split; (· exact src3_nil _ _ (by omega) (List.eq_nil_of_length_eq_zero (by rw [HK.out.2.1]; omega))); (· exact src3_some HR.out k _ _ (by rw [List.take_of_length_le (by rw [HK.out.2.1]; omega)]) HK.out.2.1)) HE.out.1 (by omega) ?_; intro A9 cap9 x9 hr9 hQ9 hf9) | go_in)
                  all_goals go_ret2
                  all_goals unfold RowPost
                  all_goals rw [HN.out, HL.out]
                  all_goals exact take_end HE.out.1 HE.out.2.1 HE.out.2.2 hr9 hQ9 hf9 H8.out.2 HK.out.2.1 (by rw [H.out.2.1]; exact hkn)
                · skip
                  go_wp2_with fail
                  obtain ⟨x2, hx2⟩ : ∃ x, x = x1.alloc (.cells #[.int .i64 h.n, .slice h.A h.r.length h.ca, .slice h.B h.t.length h.cb] 40) := ⟨_, rfl⟩
                  rw [← hx2]
                  have hA2 : Touch (fun _ => False) x1 x2 := by rw [hx2]; exact (Touch.refl _ _).alloc _
                  have ht2 : Touch (fun _ => False) W8 x2 := ht1.trans hA2 (fun _ _ h => h)
                  have hb6 : Blk x2 x1.heap.size 40 h.cells := by rw [hx2]; exact Blk.new _ _ _
                  skip
                  clear hx2
                  refine ⟨(HS8.out _).2 ht2, ?_⟩
                  refine wpTr_e (by simp only [List.getElem?_toArray, List.getElem?_cons_zero, List.getElem?_cons_succ]; rfl) (fun K3 hK3 => ?_)
                  refine wp_rw3_push rfl (.tmp 50) (.tmp 53) rfl (some ⟨W8.heap.size, 0, none⟩) 0 0 k [] (l.take k) rfl HK.out.1 rfl _ rfl (src3_take (H8.out.1.touch ht2 (fun _ _ h => h)) _ HK.out.1) (hr0.touch hA2 (fun _ _ h => h)) (by omega) ?_
                  intro A2 cap2 x3 hr4 hQ3 hf4
                  dsimp only [Act.put]
                  simp only [List.setIfInBounds_toArray, List.set_cons_succ, List.set_cons_zero, Nat.zero_add]
                  rw [List.nil_append] at hr4
                  have ht3 : Touch (fun _ => False) W8 x3 := ht2.trans hQ3 (fun b hb ⟨a, ha, e⟩ => by injection ha with ha; subst ha; dsimp only at e; omega)
                  have hf4' : ∀ a, A2 = some a → W8.heap.size ≤ a.block := fun a ha => by
                    rcases hf4 a ha with ⟨a0, h0, e⟩ | hh
                    · injection h0 with h0; subst h0; dsimp only at e; omega
                    · have := (ht2).size; omega
                  refine hK3 _ _ ⟨(HS8.out _).2 ht3, ?_⟩
                  refine wpTr_e (by simp only [List.getElem?_toArray, List.getElem?_cons_zero, List.getElem?_cons_succ]; rfl) (fun K4 hK4 => ?_)
                  refine wp_rw3_push rfl (.tmp 54) (.tmp 56) rfl A2 cap2 k 1 (l.take k) [h] HK.out.1 rfl rfl _ rfl (src3_one (hb6.touch hQ3 (fun ⟨a, ha, e⟩ => by injection ha with ha; subst ha; dsimp only at e; have hz : W8.heap.size < x1.heap.size := HZ.out; omega))) hr4 (by omega) ?_
                  intro A3 cap3 x4 hr7 hQ4 hf7
                  dsimp only [Act.put]
                  simp only [List.setIfInBounds_toArray, List.set_cons_succ, List.set_cons_zero]
                  have ht4 : Touch (fun _ => False) W8 x4 := ht3.trans hQ4 (fun b hb ⟨a, ha, e⟩ => by have := hf4' a ha; omega)
                  have hf7' : ∀ a, A3 = some a → W8.heap.size ≤ a.block := fun a ha => by
                    rcases hf7 a ha with ⟨a0, h0, e⟩ | hh
                    · have := hf4' a0 h0; omega
                    · have := (ht3).size; omega
                  refine hK4 _ _ ⟨(HS8.out _).2 ht4, ?_⟩
                  have HE := Lib.hid (And.intro hr7 (And.intro ht4 hf7'))
                  refine wpTr_e (by simp only [List.getElem?_toArray, List.getElem?_cons_zero, List.getElem?_cons_succ]; rfl) (fun K5 hK5 => ?_)
                  clear hr4 hf4 hf4' hr7 hf7 hf7' hr0 hb6 hs0
                  go_wp2_with fail
                  try refine ⟨(HS8.out _).2 HE.out.2.1, wpTr_nil ?_⟩
                  have hrl := H8.out.1.touch HE.out.2.1 (fun _ _ h => h)
                  have HR := Lib.hid hrl
                  clear hrl
                  go_wp2_with (first | (at_builtin; refine wpList_rw3_push rfl (.tmp 58) (.tmp 61) rfl A3 cap3 (k + 1) (n - k) (l.take k ++ [h]) (l.drop k) (by rw [List.length_append, HK.out.1]; simp) HK.out.2.1 rfl _ rfl (by split; (· exact src3_nil _ _ (by omega) (List.eq_nil_of_length_eq_zero (by rw [HK.out.2.1]; omega))); (· exact src3_some HR.out k _ _ (by rw [List.take_of_length_le (by rw [HK.out.2.1]; omega)]) HK.out.2.1)) HE.out.1 (by omega) ?_; intro A9 cap9 x9 hr9 hQ9 hf9) | go_in)
                  all_goals go_ret2
                  all_goals unfold RowPost
                  all_goals rw [HN.out, HL.out]
                  all_goals exact take_end HE.out.1 HE.out.2.1 HE.out.2.2 hr9 hQ9 hf9 H8.out.2 HK.out.2.1 (by rw [H.out.2.1]; exact hkn)
              · skip
                go_wp2_with fail
                obtain ⟨x1, hx1⟩ : ∃ x, x = W8.alloc (.cells #[.int .i64 h.n, .slice h.A h.r.length h.ca, .slice h.B h.t.length h.cb] 40) := ⟨_, rfl⟩
                rw [← hx1]
                have hA1 : Touch (fun _ => False) W8 x1 := by rw [hx1]; exact (Touch.refl _ _).alloc _
                have ht1 : Touch (fun _ => False) W8 x1 := (Touch.refl (fun _ => False) W8).trans hA1 (fun _ _ h => h)
                have hb6 : Blk x1 W8.heap.size 40 h.cells := by rw [hx1]; exact Blk.new _ _ _
                have HZ := Lib.hid hb6.lt
                clear hx1
                refine ⟨(HS8.out _).2 ht1, ?_⟩
                refine wpTr_e (by simp only [List.getElem?_toArray, List.getElem?_cons_zero, List.getElem?_cons_succ]; rfl) (fun K2 hK2 => ?_)
                go_wp2_with fail
                obtain ⟨x2, hx2⟩ : ∃ x, x = x1.alloc (.cells #[] 40) := ⟨_, rfl⟩
                rw [← hx2]
                have hA2 : Touch (fun _ => False) x1 x2 := by rw [hx2]; exact (Touch.refl _ _).alloc _
                have ht2 : Touch (fun _ => False) W8 x2 := ht1.trans hA2 (fun _ _ h => h)
                have hr0 : Rw3 x2 (some ⟨x1.heap.size, 0, none⟩) 0 [] := by rw [hx2]; exact Rw3.new x1 [] (by simp)
                have hs0 : W8.heap.size ≤ x1.heap.size := (ht1).size
                clear hx2
                refine ⟨(HS8.out _).2 ht2, ?_⟩
                refine wpTr_e (by simp only [List.getElem?_toArray, List.getElem?_cons_zero, List.getElem?_cons_succ]; rfl) (fun K3 hK3 => ?_)
                refine wp_rw3_push rfl (.tmp 50) (.tmp 53) rfl (some ⟨x1.heap.size, 0, none⟩) 0 0 k [] (l.take k) rfl HK.out.1 rfl _ rfl (src3_take (H8.out.1.touch ht2 (fun _ _ h => h)) _ HK.out.1) hr0 (by omega) ?_
                intro A2 cap2 x3 hr4 hQ3 hf4
                dsimp only [Act.put]
                simp only [List.setIfInBounds_toArray, List.set_cons_succ, List.set_cons_zero, Nat.zero_add]
                rw [List.nil_append] at hr4
                have ht3 : Touch (fun _ => False) W8 x3 := ht2.trans hQ3 (fun b hb ⟨a, ha, e⟩ => by injection ha with ha; subst ha; dsimp only at e; omega)
                have hf4' : ∀ a, A2 = some a → W8.heap.size ≤ a.block := fun a ha => by
                  rcases hf4 a ha with ⟨a0, h0, e⟩ | hh
                  · injection h0 with h0; subst h0; dsimp only at e; omega
                  · have := (ht2).size; omega
                refine hK3 _ _ ⟨(HS8.out _).2 ht3, ?_⟩
                refine wpTr_e (by simp only [List.getElem?_toArray, List.getElem?_cons_zero, List.getElem?_cons_succ]; rfl) (fun K4 hK4 => ?_)
                refine wp_rw3_push rfl (.tmp 54) (.tmp 56) rfl A2 cap2 k 1 (l.take k) [h] HK.out.1 rfl rfl _ rfl (src3_one ((hb6.touch hA2 (fun h => h)).touch hQ3 (fun ⟨a, ha, e⟩ => by injection ha with ha; subst ha; dsimp only at e; have hz : W8.heap.size < x1.heap.size := HZ.out; omega))) hr4 (by omega) ?_
                intro A3 cap3 x4 hr7 hQ4 hf7
                dsimp only [Act.put]
                simp only [List.setIfInBounds_toArray, List.set_cons_succ, List.set_cons_zero]
                have ht4 : Touch (fun _ => False) W8 x4 := ht3.trans hQ4 (fun b hb ⟨a, ha, e⟩ => by have := hf4' a ha; omega)
                have hf7' : ∀ a, A3 = some a → W8.heap.size ≤ a.block := fun a ha => by
                  rcases hf7 a ha with ⟨a0, h0, e⟩ | hh
                  · have := hf4' a0 h0; omega
                  · have := (ht3).size; omega
                refine hK4 _ _ ⟨(HS8.out _).2 ht4, ?_⟩
                have HE := Lib.hid (And.intro hr7 (And.intro ht4 hf7'))
                refine wpTr_e (by simp only [List.getElem?_toArray, List.getElem?_cons_zero, List.getElem?_cons_succ]; rfl) (fun K5 hK5 => ?_)
                clear hr4 hf4 hf4' hr7 hf7 hf7' hr0 hb6 hs0
                go_wp2_with fail
                try refine ⟨(HS8.out _).2 HE.out.2.1, wpTr_nil ?_⟩
                have hrl := H8.out.1.touch HE.out.2.1 (fun _ _ h => h)
                have HR := Lib.hid hrl
                clear hrl
                go_wp2_with (first | (at_builtin; refine wpList_rw3_push rfl (.tmp 58) (.tmp 61) rfl A3 cap3 (k + 1) (n - k) (l.take k ++ [h]) (l.drop k) (by rw [List.length_append, HK.out.1]; simp) HK.out.2.1 rfl _ rfl (by split; (· exact src3_nil _ _ (by omega) (List.eq_nil_of_length_eq_zero (by rw [HK.out.2.1]; omega))); (· exact src3_some HR.out k _ _ (by rw [List.take_of_length_le (by rw [HK.out.2.1]; omega)]) HK.out.2.1)) HE.out.1 (by omega) ?_; intro A9 cap9 x9 hr9 hQ9 hf9) | go_in)
                all_goals go_ret2
                all_goals unfold RowPost
                all_goals rw [HN.out, HL.out]
                all_goals exact take_end HE.out.1 HE.out.2.1 HE.out.2.2 hr9 hQ9 hf9 H8.out.2 HK.out.2.1 (by rw [H.out.2.1]; exact hkn)
end Go.Proofs.Ytgoeocfgajbldaa
