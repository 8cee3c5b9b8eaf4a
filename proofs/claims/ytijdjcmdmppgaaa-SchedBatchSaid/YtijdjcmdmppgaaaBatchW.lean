/- SchedBatch's walk. -/
import Derived.Test.YtijdjcmdmppgaaaX
namespace Go.Proofs.Ytijdjcmdmppgaaa
open Go.RowKit
set_option linter.unusedVariables false

theorem Rw.take {w : World} {t : TypeId} {A : Option Addr} {cap : Nat} {vs : List Value} (h : Rw w t A cap vs) (i : Nat) : Rw w t A cap (vs.take i) := by
  rcases h with ⟨h1, h2, h3⟩ | ⟨g, cur, h1, h2, h3, h4, h5, h6⟩
  · exact .inl ⟨h1, h2, by rw [h3]; simp⟩
  · refine .inr ⟨g, cur, h1, h2, by simp; omega, h4, h5, fun j hj => ?_⟩
    simp at hj
    rw [h6 j (by omega), List.getElem?_take, if_pos (by omega)]

theorem some1_le (P : Nat → List Jb) : ∀ d, some1 P d ≤ d
  | 0 => by simp [some1]
  | d + 1 => by have := some1_le P d; rw [some1, List.length_take]; omega
theorem one_iv (xs : List Int) : ∀ u ∈ iv xs, u.oneCell' = true := by
  intro u hu
  obtain ⟨x, _, rfl⟩ := List.mem_map.1 hu
  rfl

/-- What the acts' loop keeps. -/
def QI (w : World) (q C k bt j : Nat) (wr : World) : Prop := ∃ (S : Nat → Prop) (nx : Nat) (P : Nat → List Jb), Qm wr S q C k bt nx j P ∧ (∀ b, S b → w.heap.size ≤ b) ∧ Touch (fun _ => False) w wr

set_option maxRecDepth 100000 in
set_option maxHeartbeats 4000000 in
theorem batch_walk (w : World) (A : Option Addr) (n c : Nat) (C k bt : Int) (xs : Nat → Ac) (hA : Acts w A n xs) (hn : n ≤ 9223372036854775807) :
    Calls Try.prog 6 #[.agg #[.int .i64 C, .int .i64 k, .int .i64 bt, .slice A n c]] w fun e w' => e = .returned (.bool true) ∧ Touch (fun _ => False) w w' := by
  obtain ⟨w1, hw1⟩ : ∃ w1, w1 = w.alloc (.cells #[.int .i64 C, .int .i64 k, .int .i64 bt, .slice A n c] 24) := ⟨_, rfl⟩
  have hT1 : Touch (fun _ => False) w w1 := by rw [hw1]; exact (Touch.refl _ w).alloc _
  have hL1 : Blk w1 w.heap.size 24 #[.int .i64 C, .int .i64 k, .int .i64 bt, .slice A n c] := by rw [hw1]; exact Blk.new _ _ _
  have l0 := hL1.cell 0
  have l1 := hL1.cell 1
  have l2 := hL1.cell 2
  have l3 := hL1.cell 3
  simp at l0 l1 l2 l3
  rw [hw1] at l0 l1 l2 l3
  have HW := Lib.hid hw1
  have HL := Lib.hid hL1
  clear hw1 hL1
  by_cases h200 : n ≤ 200
  · have HA := Lib.hid hA
    clear hA
    by_cases hok : 1 ≤ C ∧ C ≤ 8 ∧ 1 ≤ k ∧ k ≤ 4096 ∧ 1 ≤ bt ∧ bt ≤ 16
    · obtain ⟨h1, h2, h3, h4, h5, h6⟩ := hok
      obtain ⟨C, rfl⟩ := Int.eq_ofNat_of_zero_le (show 0 ≤ C by omega)
      obtain ⟨k, rfl⟩ := Int.eq_ofNat_of_zero_le (show 0 ≤ k by omega)
      obtain ⟨bt, rfl⟩ := Int.eq_ofNat_of_zero_le (show 0 ≤ bt by omega)
      go_enter Try.func6, Try.ntmps6
      go_wp2_with fail
      rw [← HW.out]
      refine (newP _ C k bt (by omega) (by omega) (by omega) (by omega) (by omega) (by omega)).mono ?_
      rintro e w2 ⟨S2, q, rfl, hQ2, hT2, hF2⟩
      have hsz1 := hT1.size
      have hI0 : QI w1 q C k bt 0 w2 := ⟨S2, 0, _, hQ2, hF2, hT2⟩
      have HI0 := Lib.hid hI0
      clear l0 l1 l2 l3 hQ2 hF2 hT2 hI0 HW
      go_wp2_with fail
      go_loopw [5] (fun u wr => ∃ j : Nat, j ≤ n ∧ u = .int .i64 j ∧ QI w1 q C k bt j wr) (fun u _ => n - (intOf u).toNat)
      case atStart => exact ⟨0, by omega, rfl, HI0.out⟩
      case round =>
        obtain ⟨j, hj, rfl, S, nx, P, hQ, hF, hT⟩ := hrel
        obtain ⟨wo, rfl⟩ : ∃ wo : World, wo = wr := ⟨_, rfl⟩
        have hLo := HL.out.touch hT (fun h => h)
        have l0 := hLo.cell 0
        have l2 := hLo.cell 2
        have l3 := hLo.cell 3
        simp at l0 l2 l3
        have HQ := Lib.hid hQ
        have HLO := Lib.hid hLo
        clear hQ hLo
        by_cases hjn : j < n
        · obtain ⟨b, off, rfl, hb, hact⟩ := HA.out (by omega)
          obtain ⟨⟨x1, x2, x3, x4, x5⟩, a0, a1, a2, a3, a4⟩ := (hact j hjn).touch (hT1.trans hT (fun _ _ h => h))
          obtain ⟨⟨what, id, cl, cls, by'⟩, hx⟩ : ∃ x, x = xs j := ⟨_, rfl⟩
          rw [← hx] at x1 x2 x3 x4 x5 a0 a1 a2 a3 a4
          clear hact hx
          by_cases hw2 : what < 2
          · go_wp2_with fail
            refine (of_any _ id cl cls by').mono ?_
            rintro e w3 ⟨rfl, hT3⟩
            have HQ3 := Lib.hid (HQ.out.touch hT3 (fun _ _ h => h))
            go_wp2_with fail
            refine (addAny _ S q C k bt nx j P id cl cls by' HQ3.out (by omega) x5.2).mono ?_
            rintro e w4 ⟨r, S', P', rfl, hQ4, hT4, hF4, _⟩
            have hsz := hT.size
            have hsz3 := hT3.size
            have hI : QI w1 q C k bt (j + 1) w4 := ⟨S', nx, P', hQ4, fun x hx => by
              rcases hF4 x hx with h | h
              · exact hF x h
              · omega, (hT.trans hT3 (fun _ _ h => h)).trans hT4 (fun x hx h => by have := hF x h; omega)⟩
            have HI := Lib.hid hI
            clear hI hQ4 hF4 hT4 a0 a1 a2 a3 a4 l0 l2 l3
            go_wp2
            go_roundw
            case rel => exact ⟨j + 1, by omega, by go_num, HI.out⟩
            case measure => simp [intOf]; omega
          · by_cases hw3 : what = 2
            · have hwe : ((what : Int) == 2) = true := by simp [hw3]
              have hwl : decide ((what : Int) < 2) = false := by simp; omega
              clear hw3 hw2
              go_wp2_with fail
              refine (dropAny _ S q C k bt nx j P id HQ.out (by omega)).mono ?_
              rintro e w4 ⟨r, P', rfl, hQ4, hT4, _⟩
              have hI : QI w1 q C k bt (j + 1) w4 := ⟨S, nx, P', hQ4.mono (by omega), hF, hT.trans hT4 (fun x hx h => by have := hF x h; omega)⟩
              have HI := Lib.hid hI
              clear hI hQ4 hT4 a0 a1 a2 a3 a4 l0 l2 l3
              go_wp2
              go_roundw
              case rel => exact ⟨j + 1, by omega, by go_num, HI.out⟩
              case measure => simp [intOf]; omega
            · have hwe : ((what : Int) == 2) = false := by rw [beq_eq_false_iff_ne]; omega
              have hwl : decide ((what : Int) < 2) = false := by simp; omega
              clear hw3 hw2
              have hl0 := HLO.out
              go_wp2_with fail
              clear a0 a1 a2 a3 a4 l0 l2 l3
              go_loopw [6, 7] (fun v u wr => ∃ (d n6 : Nat) (A6 : Option Addr) (c6 : Nat), d ≤ C ∧ u = .int .i64 d ∧ v = .slice A6 n6 c6 ∧ ((firsts P d).map (·.id)).length = n6 ∧ Rw wr 3 A6 c6 (iv ((firsts P d).map (·.id))) ∧ (∀ a, A6 = some a → wo.heap.size ≤ a.block) ∧ Touch (fun _ => False) wo wr) (fun _ u _ => C - (intOf u).toNat)
              case atStart => exact ⟨0, 0, none, 0, by omega, rfl, rfl, rfl, Rw.nil _ _, (fun a h => by cases h), Touch.refl _ _⟩
              case round =>
                obtain ⟨d, n6, A6, c6, hd, rfl, rfl, hn6, hR6, hF6, hT6⟩ := hrel
                have l0' := (hl0.touch hT6 (fun h => h)).cell 0
                simp at l0'
                have HR6 := Lib.hid (And.intro hn6 (And.intro hR6 hF6))
                clear hn6 hR6 hF6
                have HQ6 := Lib.hid (HQ.out.touch hT6 (fun _ _ h => h))
                have hn6d : n6 ≤ d := by
                  have h1 := HR6.out.1
                  rw [List.length_map, firsts_len] at h1
                  rw [← h1]
                  exact some1_le P d
                by_cases hdC : d < C
                · go_wp2_with fail
                  refine (jobsP _ S q C k bt nx j d P HQ6.out (by omega) hdC).mono ?_
                  rintro e w7 ⟨A8, c8, rfl, hR8, hF8, hT8⟩
                  have hT67 : Touch (fun _ => False) wo w7 := hT6.trans hT8 (fun _ _ h => h)
                  have hr6 := HR6.out.2.1.touch hT8 (fun _ _ h => h)
                  cases hP : P d with
                  | nil =>
                    have HP := Lib.hid hP
                    have HR7 := Lib.hid hr6
                    clear hP hR8 hr6
                    go_wp2
                    go_roundw
                    case rel =>
                      refine ⟨d + 1, n6, A6, c6, by omega, by go_num, rfl, ?_, ?_, HR6.out.2.2, hT67⟩
                      · rw [firsts, HP.out, List.take_nil, List.append_nil]; exact HR6.out.1
                      · rw [firsts, HP.out, List.take_nil, List.append_nil]; exact HR7.out
                    case measure => simp [intOf]; omega
                  | cons y t =>
                    rw [hP] at hR8
                    obtain ⟨g8, rfl, hg8⟩ := hR8.cell (i := 0) (v := idJ y) rfl
                    unfold idJ at hg8
                    have HP := Lib.hid hP
                    have hnw : (w7.alloc (.cells #[.int .i64 y.id] 3)).cell? ⟨w7.heap.size, 0, none⟩ = some (.int .i64 y.id) := (Blk.new w7 3 #[.int .i64 y.id]).cell 0
                    have hTa : Touch (fun _ => False) w7 (w7.alloc (.cells #[.int .i64 y.id] 3)) := (Touch.refl _ w7).alloc _
                    have HR7 := Lib.hid (And.intro (hr6.touch hTa (fun _ _ h => h)) (And.intro hnw hTa))
                    have hiv : (iv ((firsts P d).map (·.id))).length = n6 := by rw [iv, List.length_map]; exact HR6.out.1
                    have HIV := Lib.hid hiv
                    clear hP hR8 hr6 hnw hTa hiv
                    go_wp2_with (at_builtin; refine wpList_rw_push elem38 rfl (.tmp 54) (.tmp 58) rfl A6 c6 n6 (iv ((firsts P d).map (·.id))) HIV.out rfl w7.heap.size (.int .i64 y.id) rfl HR7.out.2.1 rfl HR7.out.1 (one_iv _) (by omega) ?_; intro A9 c9 w8 hr9 hT9 hf9; have HR9 := Lib.hid (And.intro hr9 (And.intro hT9 hf9)); clear hr9 hT9 hf9)
                    go_roundw
                    case rel =>
                      have e1 : (firsts P (d + 1)).map (·.id) = (firsts P d).map (·.id) ++ [y.id] := by rw [firsts, HP.out, List.map_append]; rfl
                      refine ⟨d + 1, n6 + 1, A9, c9, by omega, by go_num, rfl, ?_, ?_, fun a ha => ?_, ?_⟩
                      · rw [e1, List.length_append, HR6.out.1]; rfl
                      · rw [e1, iv, List.map_append]; exact HR9.out.1
                      · rcases HR9.out.2.2 a ha with ⟨a0, h0, h1⟩ | h
                        · rw [← h1]; exact HR6.out.2.2 a0 h0
                        · have := hT67.size
                          have h' : w7.heap.size + 1 ≤ a.block := by simpa using h
                          omega
                      · exact (hT67.trans HR7.out.2.2 (fun _ _ h => h)).trans HR9.out.2.1 (fun x hx ⟨a, ha, e⟩ => by have := HR6.out.2.2 a ha; omega)
                    case measure => simp [intOf]; omega
                · have hdC' : d = C := by omega
                  rw [hdC'] at HR6 hn6d ⊢
                  clear hdC' hdC hd
                  go_wp2_with fail
                  refine (lenP _ S q C k bt nx j P HQ6.out (by omega)).mono ?_
                  rintro e w7 ⟨rfl, rfl⟩
                  obtain ⟨T, hTt⟩ : ∃ T, T = totP P C := ⟨_, rfl⟩
                  rw [← hTt]
                  have HTt := Lib.hid hTt
                  clear hTt
                  go_wp2_with fail
                  obtain ⟨B, hB⟩ : ∃ B, B = batchP P C nx bt := ⟨_, rfl⟩
                  refine (tickP _ S q C k bt nx j P HQ6.out (by omega) B hB).mono ?_
                  rintro e w7 ⟨A1, c1, A2, c2, rfl, hr1, hr2, hf1, hf2, hQ7, hT7⟩
                  have hIB := HQ6.out.batch
                  have hnums := HQ6.out.nums
                  have hbf := batch_facts hnums.2.2.1 hnums.2.2.2.2.2.1 P
                  have hTt := HTt.out
                  rw [← hB] at hIB hbf
                  rw [← hTt] at hbf
                  have hT' := tot_hits k C B P hIB.head hIB.pair
                  rw [← hTt] at hT'
                  obtain ⟨D, hD⟩ : ∃ D, D = doneP k B := ⟨_, rfl⟩
                  obtain ⟨T', hTT⟩ : ∃ T', T' = totP (hitsP k P B) C := ⟨_, rfl⟩
                  rw [← hD] at hr2 ⊢
                  rw [← hD, ← hTT] at hT'
                  have hSw : ∀ b, S b → b < wo.heap.size := HQ.out.lt
                  have hwr := hT6.size
                  have hw7 := hT7.size
                  have hwW : w.heap.size < w1.heap.size := HL.out.lt
                  have hr6 := HR6.out.2.1.touch hT7 (fun a ha hs => by have := hSw _ hs; have := HR6.out.2.2 a ha; omega)
                  have hbox := (hl0.touch hT6 (fun h => h)).touch hT7 (fun hs => by have := hF _ hs; omega)
                  have l2 := hbox.cell 2
                  simp at l2
                  obtain ⟨zb, hz1⟩ : ∃ zb, zb = ((B.length : Int) == 0) := ⟨_, rfl⟩
                  have hz2 : ((T : Int) == 0) = zb := by
                    rw [hz1, Bool.eq_iff_iff, beq_iff_eq, beq_iff_eq]
                    have := hbf.2.2
                    omega
                  have hz1' : ((B.length : Int) == 0) = zb := hz1.symm
                  have hn6 : n6 = some1 P C := by have := HR6.out.1; rw [List.length_map, firsts_len] at this; omega
                  have d1 : decide (bt < B.length) = false := by simp; exact hbf.1
                  have d2 : decide (n6 < B.length) = false := by simp; rw [hn6]; exact hbf.2.1
                  have e4 : ((T' : Int) != (T : Int) - (D.length : Int)) = false := by rw [bne_eq_false_iff_eq]; omega
                  have hBC : B.length ≤ 8 := by have := some1_le P C; omega
                  have hDB : D.length ≤ B.length := by rw [hD]; exact List.length_filter_le _ _
                  have hT9 : T ≤ 100000 := by
                    have h1 : ∀ c, c ≤ C → totP P c ≤ c * j := by
                      intro c
                      induction c with
                      | zero => intro _; simp [totP]
                      | succ c ih => intro hc; have h3 := ih (by omega); have h4 := HQ6.out.len (c := c) (by omega); rw [totP, Nat.succ_mul]; omega
                    have h2 := h1 C (Nat.le_refl _)
                    have h3 : C * j ≤ 8 * 200 := Nat.mul_le_mul (by omega) (by omega)
                    omega
                  have hQ7' : Qm w7 S q C k bt (nextP C nx B) (j + 1) (hitsP k P B) := hQ7.mono (by omega)
                  have HQ7 := Lib.hid (And.intro hQ7 hQ7')
                  have HRows := Lib.hid (And.intro hr6 (And.intro hr1 hr2))
                  have HBB := Lib.hid (And.intro hB (And.intro hIB (And.intro hD (And.intro hTT (And.intro hTt (And.intro hT' hn6))))))
                  have hT07 : Touch (fun _ => False) w1 w7 := (hT.trans hT6 (fun _ _ h => h)).trans hT7 (fun b hb h => by have := hF b h; omega)
                  clear hB hIB hbf hD hTT hTt hT' hr6 hr1 hr2 hz1 hQ7 hQ7' hn6 l0' hbox hf1 hf2 hT7
                  go_wp2_with fail
                  refine (lenP _ S q C k bt (nextP C nx B) j _ HQ7.out.1 (by omega)).mono ?_
                  rintro e w8 ⟨rfl, rfl⟩
                  rw [← HBB.out.2.2.2.1]
                  go_wp2_with fail
                  clear d1 d2 hz1' hz2 e4 l2
                  go_loopw [12] (fun u w2 => ∃ i : Nat, i ≤ B.length ∧ u = .int .i64 i ∧ Touch (fun _ => False) w7 w2) (fun u _ => B.length - (intOf u).toNat)
                  case atStart => exact ⟨0, by omega, rfl, Touch.refl _ _⟩
                  case round =>
                    obtain ⟨i, hi, rfl, hTi⟩ := hrel
                    obtain ⟨w2, rfl⟩ : ∃ w2 : World, w2 = wr := ⟨_, rfl⟩
                    by_cases hiB : i < B.length
                    · obtain ⟨y, hy⟩ : ∃ y, B[i]? = some y := ⟨_, List.getElem?_eq_getElem hiB⟩
                      have hTd : Touch (fun _ => False) w7 w2.drew := hTi.drew
                      have hr1 := HRows.out.2.1.touch hTd (fun _ _ h => h)
                      have hr6 := HRows.out.1.touch hTd (fun _ _ h => h)
                      rw [iv_ids] at hr1
                      have hyi : (B.map (·.id))[i]? = some y.id := by rw [List.getElem?_map, hy]; rfl
                      obtain ⟨g1, rfl, hg1⟩ := hr1.cell (iv_get hyi)
                      have hyB := HBB.out.2.1.head y (List.mem_of_getElem? hy)
                      have hm : y.id ∈ (firsts P C).map (·.id) := List.mem_map.2 ⟨y, firsts_mem hyB.1 hyB.2, rfl⟩
                      have hnm : y.id ∉ (B.map (·.id)).take i := by
                        intro hmem
                        obtain ⟨z, hz⟩ := List.getElem?_of_mem hmem
                        have hzi : z < i := by
                          rcases Nat.lt_or_ge z i with h | h
                          · exact h
                          · rw [List.getElem?_eq_none (by simp; omega)] at hz; cases hz
                        rw [List.getElem?_take, if_pos hzi, List.getElem?_map, List.getElem?_eq_getElem (show z < B.length by omega)] at hz
                        rw [List.getElem?_eq_getElem hiB] at hy
                        have := List.pairwise_iff_getElem.1 HBB.out.2.1.ids z i (by omega) hiB hzi
                        simp at hz hy
                        rw [hz, hy] at this
                        exact this rfl
                      have hlt' : ((B.map (·.id)).take i).length = i := by simp; omega
                      have hic : i ≤ c1 := by have := hr1.le.1; simp [iv] at this; omega
                      have hrt := hr1.take i
                      rw [show (iv (B.map (·.id))).take i = iv ((B.map (·.id)).take i) from by simp [iv]] at hrt
                      have HH := Lib.hid (And.intro hr6 (And.intro hrt (And.intro hm (And.intro hnm hlt'))))
                      clear hr6 hrt hm hnm hlt' hr1 hy hyi hyB
                      go_wp2
                      refine wp_region_qall (by kernel_rfl) (by kernel_rfl) ?_
                      repeat (first | go_big_quiet_skip | (go_big_quiet_want; go_big_quiet_op; go_big_quiet_on))
                      go_big_quiet_want
                      go_big_quiet_op
                      refine ⟨_, in_mem' _ A6 c6 n6 _ y.id HR6.out.1 HH.out.1 (by omega) HH.out.2.2.1, ?_⟩
                      go_big_quiet_on
                      repeat (first | go_big_quiet_skip | (go_big_quiet_want; go_big_quiet_op; go_big_quiet_on))
                      go_big_quiet_want
                      go_big_quiet_op
                      refine ⟨_, in_not' _ (some ⟨g1, 0, none⟩) c1 i _ y.id HH.out.2.2.2.2 HH.out.2.1 (by omega) HH.out.2.2.2.1, ?_⟩
                      go_big_quiet_on
                      repeat (first | go_big_quiet_skip | (go_big_quiet_want; go_big_quiet_op; go_big_quiet_on))
                      refine wpQuiet_nil ?_
                      go_wp2
                      go_roundw
                      case rel => exact ⟨i + 1, by omega, by go_num, hTd⟩
                      case measure => simp [intOf]; omega
                    · go_wp2_with fail
                      go_loopw [13] (fun u w3 => ∃ z : Nat, z ≤ D.length ∧ u = .int .i64 z ∧ Touch (fun _ => False) w7 w3) (fun u _ => D.length - (intOf u).toNat)
                      case atStart => exact ⟨0, by omega, rfl, hTi⟩
                      case round =>
                        obtain ⟨z, hz, rfl, hTz⟩ := hrel
                        obtain ⟨w3, rfl⟩ : ∃ w3 : World, w3 = wr := ⟨_, rfl⟩
                        by_cases hzD : z < D.length
                        · obtain ⟨y, hy⟩ : ∃ y, D[z]? = some y := ⟨_, List.getElem?_eq_getElem hzD⟩
                          have hr1 := HRows.out.2.1.touch hTz (fun _ _ h => h)
                          have hr2 := HRows.out.2.2.touch hTz (fun _ _ h => h)
                          rw [iv_ids] at hr1 hr2
                          obtain ⟨g2, rfl, hg2⟩ := hr2.cell (iv_get (show (D.map (·.id))[z]? = some y.id by rw [List.getElem?_map, hy]; rfl))
                          have hm : y.id ∈ B.map (·.id) := by
                            have h1 := List.mem_of_getElem? hy
                            rw [HBB.out.2.2.1] at h1
                            exact List.mem_map.2 ⟨y, (List.mem_filter.1 h1).1, rfl⟩
                          have HH := Lib.hid (And.intro hr1 hm)
                          clear hr1 hr2 hm hy
                          go_wp2_with fail
                          refine (in_mem' _ A1 c1 B.length _ y.id (by simp) HH.out.1 (by omega) HH.out.2).mono ?_
                          rintro e w4 ⟨rfl, rfl⟩
                          go_wp2
                          go_roundw
                          case rel => exact ⟨z + 1, by omega, by go_num, hTz⟩
                          case measure => simp [intOf]; omega
                        · have hI : QI w1 q C k bt (j + 1) w3 := ⟨S, _, _, HQ7.out.2.touch hTz (fun _ _ h => h), hF, hT07.trans hTz (fun _ _ h => h)⟩
                          have HI := Lib.hid hI
                          clear hI
                          go_wp2
                          go_roundw
                          case rel => exact ⟨j + 1, by omega, by go_num, HI.out⟩
                          case measure => simp [intOf]; omega
        · go_wp2_with fail
          refine (awake_any _).mono ?_
          rintro e w9 ⟨rfl, hT9⟩
          go_wp2
          go_ret
          exact ⟨rfl, (hT1.trans hT (fun _ _ h => h)).trans hT9 (fun _ _ h => h)⟩
    · go_enter Try.func6, Try.ntmps6
      go_wp2_with fail
      rw [← HW.out]
      refine (new_no _ C k bt hok).mono ?_
      rintro e w2 ⟨rfl, rfl⟩
      clear hok
      go_wp2_with fail
      refine (awake_any _).mono ?_
      rintro e w3 ⟨rfl, hT3⟩
      go_wp2
      go_ret
      exact ⟨rfl, hT1.trans hT3 (fun _ _ h => h)⟩
  · go_enter Try.func6, Try.ntmps6
    go_wp2
    rw [← HW.out]
    go_ret
    exact ⟨rfl, hT1⟩
end Go.Proofs.Ytijdjcmdmppgaaa
