/- Tick's walk. -/
import Derived.Test.YtijdjcmdmppgaaaP
import Derived.Deep.DeepCutAuto
namespace Go.Proofs.Ytijdjcmdmppgaaa
open Go.RowKit
set_option linter.unusedVariables false

theorem tick_any (w : World) (S : Nat → Prop) (q o C k bt nx M : Nat) (L : Nat → List (Nat × Jb)) (h : Que w S q o C k bt nx M L) (hM : M ≤ 10000) (B : List (Nat × Jb)) (hB : B = picks bt (heads L C nx C)) :
    Calls Try.prog 13 #[.pointer (some ⟨q, 0, none⟩)] w (TickPost S q o C k bt nx M L B w) := by
  have hIB : IsBatch C L B := by
    obtain ⟨A, cp, h⟩ := h
    rw [hB]; exact isBatch h.hnx h.hcl
  have hn8 : B.length ≤ 8 := by
    obtain ⟨A, cp, h⟩ := h
    have := picks_len bt (heads L C nx C)
    have := heads_len L C nx C
    have := h.hC
    rw [hB]; omega
  have hk : 1 ≤ k ∧ k ≤ 4096 := by obtain ⟨A, cp, h⟩ := h; exact h.hk
  have hC : 1 ≤ C ∧ C ≤ 8 := by obtain ⟨A, cp, h⟩ := h; exact h.hC
  have hSlt : ∀ b, S b → b < w.heap.size := by obtain ⟨A, cp, h⟩ := h; exact h.slt
  have HQ := Lib.hid h
  have HI := Lib.hid hIB
  have HB := Lib.hid hB
  clear h hIB
  go_enter Try.func13, Try.ntmps13
  go_wp2_with fail
  refine (picked_any _ S q o C k bt nx M L HQ.out hM).mono ?_
  rintro e w1 ⟨Ab, cb, rfl, hRb, hFb, hT1⟩
  rw [← hB] at hRb ⊢
  clear hB
  obtain ⟨n, hn⟩ : ∃ n, n = B.length := ⟨_, rfl⟩
  rw [← hn] at hn8 ⊢
  have hQ1 := HQ.out.touch hT1 (fun _ _ h => h)
  have hcl0 : ∀ p ∈ B, ∃ cs, Blk w1 p.1 34 cs ∧ cs[1]? = some (.int .i64 p.2.client) := by
    intro p hp
    obtain ⟨A, cp, h⟩ := hQ1
    obtain ⟨h1, h2⟩ := HI.out.head p hp
    exact ⟨_, h.hj _ h1 p (List.mem_of_getElem? h2), rfl⟩
  have hI0 : TickI w1 S q o C k bt nx M L B 0 none 0 none 0 0 w1 := ⟨Rw.nil _ _, Rw.nil _ _, rfl, (fun a h => by cases h), (fun a h => by cases h), (fun a a' h => by cases h), hQ1, hcl0, Touch.refl _ _⟩
  have HN := Lib.hid hn
  have HR := Lib.hid (And.intro hRb hFb)
  clear hn hRb hFb hQ1 hcl0
  go_wp2_with fail
  go_loopw [2, 3, 13] (fun r d u wr => ∃ (m : Nat) (A1 : Option Addr) (c1 : Nat) (A2 : Option Addr) (c2 n2 : Nat), m ≤ n ∧ u = .int .i64 m ∧ r = .slice A1 m c1 ∧ d = .slice A2 n2 c2 ∧ TickI w1 S q o C k bt nx M L B m A1 c1 A2 c2 n2 wr) (fun _ _ u _ => n - (intOf u).toNat)
  case atStart => exact ⟨0, none, 0, none, 0, 0, by omega, rfl, rfl, rfl, hI0⟩
  case round =>
    obtain ⟨m, A1, c1, A2, c2, n2, hm, rfl, rfl, rfl, hT⟩ := hrel
    by_cases hmn : m < n
    · obtain ⟨p, hp⟩ : ∃ p, B[m]? = some p := ⟨_, List.getElem?_eq_getElem (by rw [← HN.out]; exact hmn)⟩
      obtain ⟨hc, _⟩ := HI.out.head p (List.mem_of_getElem? hp)
      have hst := HI.out.still (k := k) hp
      obtain ⟨A, cp, hq⟩ := hT.que
      have hpm := List.mem_of_getElem? hst
      have hsp := hq.sj _ hc p hpm
      have hbk := hq.hj _ hc p hpm
      have hRb := HR.out.1.touch hT.t (fun a ha hs => by have := hSlt _ hs; have := HR.out.2 a ha; omega)
      obtain ⟨g, rfl, hcell⟩ := hRb.cell (i := m) (v := pv p) (by rw [List.getElem?_map, hp]; rfl)
      unfold pv at hcell
      have hid := hbk.cell 0
      simp [jc] at hid
      have hlen : ((B.take m).map idv).length = m := by simp; have := HN.out; omega
      have HL := Lib.hid (And.intro hlen (And.intro hp (And.intro hst hsp)))
      have HT := Lib.hid hT
      have HQ4 := Lib.hid hq
      have HBK := Lib.hid hbk
      have hn5 : (wr.alloc (.cells #[idv p] 3)).cell? ⟨wr.heap.size, 0, none⟩ = some (idv p) := (Blk.new wr 3 #[idv p]).cell 0
      have hTa : Touch (fun _ => False) wr (wr.alloc (.cells #[idv p] 3)) := (Touch.refl _ wr).alloc _
      have HTA := Lib.hid (And.intro hn5 hTa)
      clear hlen hp hst hT hq hpm hbk hRb hn5 hTa
      go_wp2_with (at_builtin; refine wpList_rw_push elem38 rfl (.tmp 17) (.tmp 22) rfl A1 c1 m ((B.take m).map idv) HL.out.1 rfl wr.heap.size (idv p) rfl HTA.out.1 rfl (HT.out.r1.touch HTA.out.2 (fun _ _ h => h)) (one_idv _) (by omega) ?_; intro A3 c3 w3 hr3 hT3 hf3; have HR3 := Lib.hid (And.intro hr3 (And.intro hT3 hf3)); clear hr3 hT3 hf3)
      have hSw : ∀ b, S b → b < w1.heap.size := fun b hb => Nat.lt_of_lt_of_le (hSlt b hb) hT1.size
      have hT13 : Touch (fun b => ∃ a, A1 = some a ∧ a.block = b) wr w3 := (HTA.out.2.weaken (fun _ _ h => h.elim)).trans HR3.out.2.1 (fun _ _ h => h)
      have hq3 := HQ4.out.touch hT13 (fun b hb ⟨a, ha, e⟩ => by have := hSw b hb; have := HT.out.f1 a ha; omega)
      have hb3 := HBK.out.touch hT13 (fun ⟨a, ha, e⟩ => HT.out.r1.ne_blk HBK.out (by decide) a ha e)
      have k3 := hq3.hq.cell 1
      have b3 := hb3.cell 3
      have z3 := hb3.frozen 3
      have bmax := hq3.hb _ hc p (List.mem_of_getElem? HL.out.2.2.1)
      simp [jc] at k3 b3
      have HQ3 := Lib.hid (And.intro hq3 hb3)
      clear hT13 hq3 hb3 hcell hid
      obtain ⟨v, hv⟩ : ∃ v : Nat, v = p.2.bytes - k := ⟨_, rfl⟩
      have hvi : (if (p.2.bytes : Int) - k < 0 then (0 : Int) else (p.2.bytes : Int) - k) = (v : Int) := by split <;> omega
      have HV := Lib.hid (And.intro hv hvi)
      clear hv hvi
      refine wp_region_qtail 13 (by kernel_rfl) (by kernel_rfl) ?_
      simp only [List.take_succ_cons, List.take_zero, List.drop_succ_cons, List.drop_zero]
      repeat (first | go_big_quiet_skip | (go_big_quiet_want; go_big_quiet_op; go_big_quiet_on))
      refine wpQuiet_nil ?_
      go_upto_region 9 with (fail)
      rw [HV.out.2]
      obtain ⟨w4, hw4⟩ : ∃ w4, w4 = (w3.setCell ⟨p.1, 3, none⟩ (.int .i64 (v : Int))).drew := ⟨_, rfl⟩
      rw [← hw4]
      have hT4 : Touch (fun b => b = p.1) w3 w4 := by rw [hw4]; exact ((Touch.refl (fun b => b = p.1) w3).setCell (p := ⟨p.1, 3, none⟩) (.inr rfl) _).drew
      have hq4 := ((HQ3.out.1.setb _ hc 0 p HL.out.2.2.1 v (by have := HV.out.1; omega)).touch (Touch.refl (fun _ => False) _).drew (fun _ _ h => h))
      rw [← hw4] at hq4
      have hb4 : Blk w4 p.1 34 (jc { p.2 with bytes := v }) := by
        rw [hw4]
        have := (HQ3.out.2.set_ 3 (.int .i64 (v : Int))).drew
        simpa [jc] using this
      obtain ⟨tl, htl⟩ : ∃ tl, hits k L (B.take m) p.2.client = p :: tl := by
        have := HL.out.2.2.1
        cases hh : hits k L (B.take m) p.2.client with
        | nil => rw [hh] at this; cases this
        | cons y t => rw [hh] at this; injection this with this; exact ⟨t, by rw [this]⟩
      have HQ4' := Lib.hid (And.intro hq4 (And.intro hb4 (And.intro hT4 htl)))
      have i4 := hb4.cell 0
      have v4 := hb4.cell 3
      simp [jc] at i4 v4
      have hmid := HT.out.mid hSw HL.out.2.1 HL.out.2.2.2 HTA.out.2 HR3.out.1 HR3.out.2.1 HR3.out.2.2 hT4 v hb4
      have HM := Lib.hid hmid
      clear hq4 hb4 hT4 htl hw4 k3 b3 z3 bmax hmid
      by_cases hbk : p.2.bytes ≤ k
      · have hv0 : v = 0 := by have := HV.out.1; omega
        subst hv0
        have hn6 : (w4.alloc (.cells #[idv p] 3)).cell? ⟨w4.heap.size, 0, none⟩ = some (idv p) := (Blk.new w4 3 #[idv p]).cell 0
        have hTb : Touch (fun _ => False) w4 (w4.alloc (.cells #[idv p] 3)) := (Touch.refl _ w4).alloc _
        have HTB := Lib.hid (And.intro hn6 hTb)
        have hn2 : n2 ≤ 8 := by
          have h1 := HT.out.l2
          have h2 : (doneL k (B.take m)).length ≤ (B.take m).length := List.length_filter_le _ _
          have := HN.out
          simp at h1 h2; omega
        clear hn6 hTb
        go_wp2_with (at_builtin; refine wpList_rw_push elem38 rfl (.tmp 42) (.tmp 47) rfl A2 c2 n2 ((doneL k (B.take m)).map idv) HT.out.l2 rfl w4.heap.size (idv p) rfl HTB.out.1 rfl (HM.out.2.1.touch HTB.out.2 (fun _ _ h => h)) (one_idv _) (by omega) ?_; intro A5 c5 w5 hr5 hT5 hf5; have i5 := hT5.cell (HTB.out.2.cell i4 (fun h => h)) (fun ⟨a, ha, e⟩ => HM.out.2.1.ne_blk HQ4'.out.2.1 (by decide) a ha e); have HR5 := Lib.hid (And.intro hr5 (And.intro hT5 hf5)); clear hr5 hT5 hf5)
        obtain ⟨hq4, hb4, hT4, htl⟩ := HQ4'.out
        have hT45 : Touch (fun b => ∃ a, A2 = some a ∧ a.block = b) w4 w5 := (HTB.out.2.weaken (fun _ _ h => h.elim)).trans HR5.out.2.1 (fun _ _ h => h)
        have hq5 : Que w5 S q o C k bt nx M (upd (hits k L (B.take m)) p.2.client ((hits k L (B.take m) p.2.client).set 0 (p.1, { p.2 with bytes := 0 }))) :=
          ⟨_, _, hq4.touch hT45 (fun b hb ⟨a, ha, e⟩ => by have := hSw b hb; have := HT.out.f2 a ha; omega)⟩
        have hat : (upd (hits k L (B.take m)) p.2.client ((hits k L (B.take m) p.2.client).set 0 (p.1, { p.2 with bytes := 0 })) p.2.client)[0]? = some (p.1, { p.2 with bytes := 0 }) := by rw [upd_same, htl]; rfl
        have HQ5 := Lib.hid (And.intro hq5 hat)
        clear hq4 hb4 hT4 htl hT45 hq5 hat i4 v4 i5
        refine (drop_yes w5 S q o C k bt nx M p.2.client 0 (p.1, { p.2 with bytes := 0 }) _ p.2.id HQ5.out.1 hM hc HQ5.out.2 rfl).mono ?_
        rintro e w6 ⟨rfl, hq6, hT6, h34⟩
        have hfin : Que w6 S q o C k bt nx M (hits k L (B.take (m + 1))) := by
          rw [upd_same, HQ4'.out.2.2.2, upd_upd] at hq6
          rw [hits_take HL.out.2.1, hitL, if_pos hbk, HQ4'.out.2.2.2]
          exact hq6
        have HFN := Lib.hid (And.intro hfin (And.intro hT6 h34))
        clear hfin hT6 h34 hq6
        go_wp2
        go_roundw
        case rel => exact ⟨m + 1, A3, c3, A5, c5, n2 + 1, by omega, by go_num, rfl, rfl, HT.out.step_yes hSw HL.out.2.1 HL.out.2.2.2 HTA.out.2 HR3.out.1 HR3.out.2.1 HR3.out.2.2 HQ4'.out.2.2.1 0 HQ4'.out.2.1 hbk HTB.out.2 HR5.out.1 HR5.out.2.1 HR5.out.2.2 HFN.out.2.1 HFN.out.2.2 HFN.out.1⟩
        case measure => simp [intOf]; omega
      · have ez : ((v : Int) == 0) = false := by rw [beq_eq_false_iff_ne]; have := HV.out.1; omega
        have hfin : Que w4 S q o C k bt nx M (hits k L (B.take (m + 1))) := by
          have hq4 := HQ4'.out.1
          rw [HQ4'.out.2.2.2, HV.out.1] at hq4
          rw [hits_take HL.out.2.1, hitL, if_neg hbk, HQ4'.out.2.2.2]
          exact ⟨_, _, hq4⟩
        have HFN := Lib.hid hfin
        clear hfin
        go_wp2
        go_roundw
        case rel => exact ⟨m + 1, A3, c3, A2, c2, n2, by omega, by go_num, rfl, rfl, HT.out.step_no hSw HL.out.2.1 HL.out.2.2.2 HTA.out.2 HR3.out.1 HR3.out.2.1 HR3.out.2.2 HQ4'.out.2.2.1 v HQ4'.out.2.1 hbk HFN.out⟩
        case measure => simp [intOf]; omega
    · have hmn' : m = n := by omega
      have htk : B.take m = B := List.take_of_length_le (by have := HN.out; omega)
      obtain ⟨r1, r2, l2, f1, f2, hne, que, cl, ht⟩ := hT
      rw [htk] at r1 r2 l2 que
      have hfr : ∀ a, A1 = some a → w.heap.size ≤ a.block := fun a ha => Nat.le_trans hT1.size (f1 a ha)
      have hfr2 : ∀ a, A2 = some a → w.heap.size ≤ a.block := fun a ha => Nat.le_trans hT1.size (f2 a ha)
      have hTT : Touch S w wr := (hT1.weaken (fun _ _ h => h.elim)).trans ht (fun _ _ h => h)
      rw [hmn']
      rw [List.length_map] at l2
      have HF := Lib.hid (And.intro r1 (And.intro r2 (And.intro l2 (And.intro hfr (And.intro hfr2 (And.intro que hTT))))))
      have hRb := HR.out.1.touch ht (fun a ha hs => by have := hSlt _ hs; have := HR.out.2 a ha; omega)
      clear hmn' htk r1 r2 l2 f1 f2 hne ht hfr hfr2 hTT hmn
      cases hBB : B with
      | nil =>
        have hn0 : n = 0 := by rw [HN.out, hBB]; rfl
        subst hn0
        have HBB := Lib.hid hBB
        clear hBB
        go_wp2
        go_ret2
        refine ⟨A1, c1, A2, c2, ?_, ?_, ?_, HF.out.2.2.2.1, HF.out.2.2.2.2.1, ?_, HF.out.2.2.2.2.2.2⟩
        · rw [HF.out.2.2.1, ← HN.out]; rfl
        · exact HF.out.1
        · exact HF.out.2.1
        · have := HF.out.2.2.2.2.2.1
          rw [HBB.out] at this ⊢
          exact this
      | cons p0 t =>
        have hpos : 0 < n := by rw [HN.out, hBB]; simp
        obtain ⟨g, rfl, hcell⟩ := hRb.cell (i := 0) (v := pv p0) (by rw [hBB]; rfl)
        unfold pv at hcell
        have hp0 : p0 ∈ B := by rw [hBB]; simp
        obtain ⟨cs, hb0, hcs⟩ := cl p0 hp0
        have hc1 := hb0.cell 1
        rw [hcs] at hc1
        have hc0 := (HI.out.head p0 hp0).1
        obtain ⟨A, cp, hq⟩ := que
        have c0 := hq.hq.cell 0
        have z3 := hq.hq.frozen 3
        have c3 := hq.hq.cell 3
        simp at c0 c3
        obtain ⟨x, hx⟩ : ∃ x : Nat, x = (p0.2.client + 1) % C := ⟨_, rfl⟩
        have hxi : ((p0.2.client : Int) + 1) % C = (x : Int) := by rw [hx]; simp
        have hxC : x < C := by rw [hx]; exact Nat.mod_lt _ (by omega)
        have HBB := Lib.hid hBB
        have HX := Lib.hid (And.intro hx hxi)
        have HQF := Lib.hid hq
        clear hBB hRb hp0 cl hb0 hcs hx hxi hq
        go_wp2
        refine wp_region_qtail 16 (by kernel_rfl) (by kernel_rfl) ?_
        simp only [List.take_succ_cons, List.take_zero, List.drop_succ_cons, List.drop_zero]
        repeat (first | go_big_quiet_skip | (go_big_quiet_want; go_big_quiet_op; go_big_quiet_on))
        refine wpQuiet_nil ?_
        go_upto_region 15 with (fail)
        rw [HX.out.2]
        have hqn := (HQF.out.setn x hxC).touch (Touch.refl (fun _ => False) _).drew (fun _ _ h => h)
        have hTn : Touch (fun b => b = q) wr (wr.setCell ⟨q, 3, none⟩ (.int .i64 (x : Int))).drew := ((Touch.refl (fun b => b = q) wr).setCell (p := ⟨q, 3, none⟩) (.inr rfl) _).drew
        obtain ⟨w8, hw8⟩ : ∃ w8, w8 = (wr.setCell ⟨q, 3, none⟩ (.int .i64 (x : Int))).drew := ⟨_, rfl⟩
        rw [← hw8] at hqn hTn ⊢
        clear hw8 c0 z3 c3 hc1 hcell
        go_wp2
        go_ret2
        have hqS : q < w.heap.size := hSlt _ HQF.out.sq
        refine ⟨A1, c1, A2, c2, ?_, ?_, ?_, HF.out.2.2.2.1, HF.out.2.2.2.2.1, ?_, HF.out.2.2.2.2.2.2.trans hTn (fun b _ e => e ▸ HQF.out.sq)⟩
        · rw [HF.out.2.2.1, ← HN.out]; rfl
        · exact HF.out.1.touch hTn (fun a ha e => by have := HF.out.2.2.2.1 a ha; omega)
        · exact HF.out.2.1.touch hTn (fun a ha e => by have := HF.out.2.2.2.2.1 a ha; omega)
        · have e : nextN C nx B = x := by rw [HBB.out, HX.out.1]; rfl
          rw [e]
          exact ⟨_, _, hqn⟩
end Go.Proofs.Ytijdjcmdmppgaaa
