/- sha: Sum. -/
import Derived.Test.YtelmjlfhmbicjaaDoorJ
namespace Go.Proofs.YtelmjlfhmbicjaaDoor
open Go.RowKit
set_option linter.unusedVariables false

theorem Rest.inb {w : World} {A : Option Addr} {cap : Nat} {xs : List Int} (h : Rest w A cap xs) : Inb w A xs := by
  rcases h with ⟨rfl, _, rfl⟩ | ⟨g, off, cur, rfl, hb, _, _, _, hx⟩
  · exact .inl rfl
  · exact .inr ⟨g, off, rfl, fun i hi => by rw [hb.cell, hx i hi]⟩

theorem wp_rest_append {o : Oper} {a : Act} {w : World} {K : Act → World → Prop} {Q : Exit → Act → World → Prop} (s x : Operand)
    (ho : o.op = .call { callee := .builtin .append, args := #[s, x], argTypes := #[23, 23] }) (A : Option Addr) (cap : Nat) (xs : List Int) (hv : a.eval s = .slice A xs.length cap) (B : Option Addr) (c : Nat) (ys : List Int) (hx : a.eval x = .slice B ys.length c)
    (h : Rest w A cap xs) (hs : Inb w B ys) (hb : xs.length + ys.length ≤ 100000)
    (hK : ∀ A' cap' w', Rest w' A' cap' (xs ++ ys) → Touch (fun b => ∃ a, A = some a ∧ a.block = b) w w' → (∀ a, A' = some a → (∃ a0, A = some a0 ∧ a0.block = a.block) ∨ w.heap.size ≤ a.block) → K (a.put o.dst (.slice A' (xs.length + ys.length) cap')) w') : o.wp Tryd.prog a w K Q := by
  have hty : ∀ ty, (Builtin.append_ #[23, 23] ty #[.slice A xs.length cap, .slice B ys.length c]) = (Builtin.append_ #[23, 23] 23 #[.slice A xs.length cap, .slice B ys.length c]) := fun ty => rfl
  obtain ⟨A', cap', w', hrun, hr, hT, hf⟩ := rest_append w A cap xs h (.slice B ys.length c) ys.length ys (hs.src c) hb
  unfold Oper.wp
  simp [execOp, ho, resolve, invoke, builtin, hv, hx, hty, hrun, Result.andThen]
  exact hK A' cap' w' hr hT hf

theorem padF_len (n : Nat) : (padF n).length ≤ 80 := by
  simp [padF, beL_len]; omega

/-- The sum. -/
def digest (K xs : List Int) (N : Nat) : List Int := outF (hK K (xs ++ padF N) ((xs ++ padF N).length / 64))

set_option maxHeartbeats 800000 in
theorem sum_any (K : List Int) (w : World) (sb : Nat) (xs : List Int) (N : Nat) (h : Sha K w sb xs N) (hK0 : Tab K w) (hb : xs.length ≤ 10000) (hN : N ≤ 10000) :
    Calls Tryd.prog 6 #[.pointer (some ⟨sb, 0, none⟩)] w fun e w' => e = .returned (.agg (U8A (digest K xs N))) ∧ Touch (fun _ => False) w w' := by
  obtain ⟨hk0, A, cap, hbk, hrest, hAs⟩ := h
  obtain ⟨a0, a1, a2, a3, a4, a5, a6, a7, hh⟩ : ∃ a0 a1 a2 a3 a4 a5 a6 a7, hK K xs (xs.length / 64) = [a0, a1, a2, a3, a4, a5, a6, a7] := ⟨_, _, _, _, _, _, _, _, list8 _ (hK_len K xs _)⟩
  obtain ⟨rs, hrs⟩ : ∃ rs, rs = xs.drop (64 * (xs.length / 64)) := ⟨_, rfl⟩
  rw [hh, ← hrs] at hbk
  rw [← hrs] at hrest
  have hrl : rs.length ≤ xs.length := by rw [hrs]; simp
  obtain ⟨w1, hw1⟩ : ∃ w1, w1 = w.alloc (.cells (U8A (List.replicate 32 0)) 27) := ⟨_, rfl⟩
  have hT1 : Touch (fun _ => False) w w1 := by rw [hw1]; exact (Touch.refl _ w).alloc _
  have hr1 : Blk w1 w.heap.size 27 (U8A (List.replicate 32 0)) := by rw [hw1]; exact Blk.new _ _ _
  have hs1 : w1.heap.size = w.heap.size + 1 := by rw [hw1]; simp
  have hb1 := hbk.touch hT1 (by simp)
  have hrest1 := hrest.touch hT1 (by simp)
  simp only [shaA, List.map_cons, List.map_nil, List.cons_append, List.nil_append] at hb1
  have HW1 := Lib.hid hw1
  have HT1 := Lib.hid hT1
  have HR1 := Lib.hid hr1
  have HB1 := Lib.hid hb1
  have HRE := Lib.hid hrest1
  have HZ := Lib.hid hs1
  have HH := Lib.hid (And.intro hh hrs)
  have HK := Lib.hid hK0
  clear hw1 hT1 hr1 hs1 hb1 hrest1 hrest hh hrs hK0 hAs
  go_enter Tryd.func6, Tryd.ntmps6
  go_upto_region 1 with (fail)
  rw [show (w.alloc (.cells #[.int .u8 0, .int .u8 0, .int .u8 0, .int .u8 0, .int .u8 0, .int .u8 0, .int .u8 0, .int .u8 0, .int .u8 0, .int .u8 0, .int .u8 0, .int .u8 0, .int .u8 0, .int .u8 0, .int .u8 0, .int .u8 0, .int .u8 0, .int .u8 0, .int .u8 0, .int .u8 0, .int .u8 0, .int .u8 0, .int .u8 0, .int .u8 0, .int .u8 0, .int .u8 0, .int .u8 0, .int .u8 0, .int .u8 0, .int .u8 0, .int .u8 0, .int .u8 0] 27)) = w1 from HW1.out.symm]
  go_wp2_with fail
  obtain ⟨S, HS⟩ : ∃ S : World → Prop, Hid (∀ w', S w' ↔ (Blk w' sb 36 #[.int .u32 a0, .int .u32 a1, .int .u32 a2, .int .u32 a3, .int .u32 a4, .int .u32 a5, .int .u32 a6, .int .u32 a7, .slice A rs.length cap, .int .i64 N])) := ⟨_, fun _ => Iff.rfl⟩
  refine wp_region_gr S 12 [(0, false), (1, false), (2, false), (3, false), (5, false), (6, false), (7, false), (8, false), (4, true), (9, true), (10, false), (11, true), (12, true)] (by kernel_rfl) (by kernel_rfl) ((HS.out _).2 HB1.out.drew) (fun hne => ?_)
  have s0 : ∀ x : SW S, x.w.cell? ⟨sb, 0, none⟩ = some (.int .u32 a0) := fun x => ((HS.out _).1 x.ok).cell 0
  have s1 : ∀ x : SW S, x.w.cell? ⟨sb, 1, none⟩ = some (.int .u32 a1) := fun x => ((HS.out _).1 x.ok).cell 1
  have s2 : ∀ x : SW S, x.w.cell? ⟨sb, 2, none⟩ = some (.int .u32 a2) := fun x => ((HS.out _).1 x.ok).cell 2
  have s3 : ∀ x : SW S, x.w.cell? ⟨sb, 3, none⟩ = some (.int .u32 a3) := fun x => ((HS.out _).1 x.ok).cell 3
  have s4 : ∀ x : SW S, x.w.cell? ⟨sb, 4, none⟩ = some (.int .u32 a4) := fun x => ((HS.out _).1 x.ok).cell 4
  have s5 : ∀ x : SW S, x.w.cell? ⟨sb, 5, none⟩ = some (.int .u32 a5) := fun x => ((HS.out _).1 x.ok).cell 5
  have s6 : ∀ x : SW S, x.w.cell? ⟨sb, 6, none⟩ = some (.int .u32 a6) := fun x => ((HS.out _).1 x.ok).cell 6
  have s7 : ∀ x : SW S, x.w.cell? ⟨sb, 7, none⟩ = some (.int .u32 a7) := fun x => ((HS.out _).1 x.ok).cell 7
  have s8 : ∀ x : SW S, x.w.cell? ⟨sb, 8, none⟩ = some (.slice A rs.length cap) := fun x => ((HS.out _).1 x.ok).cell 8
  simp only [withOps, List.filterMap_cons, List.filterMap_nil, Option.map_some, List.getElem?_cons_zero, List.getElem?_cons_succ]
  repeat (refine wpGr_q ?_; (first | go_big_quiet_skip | (go_big_quiet_want; go_big_quiet_op; go_big_quiet_on)); refine wpQuiet_nil ?_)
  refine wpGr_eff rfl (fun K1 hK1 => ?_)
  go_wp2_with fail
  have hb2 : Blk (w1.alloc (.cells #[] 5)).drew sb 36 #[.int .u32 a0, .int .u32 a1, .int .u32 a2, .int .u32 a3, .int .u32 a4, .int .u32 a5, .int .u32 a6, .int .u32 a7, .slice A rs.length cap, .int .i64 N] := (HB1.out.alloc _).drew
  have hT2 : Touch (fun _ => False) w1 (w1.alloc (.cells #[] 5)).drew := ((Touch.refl _ w1).alloc _).drew
  have hn2 : Blk (w1.alloc (.cells #[] 5)).drew w1.heap.size 5 #[] := (Blk.new _ _ _).drew
  obtain ⟨w2, hw2⟩ : ∃ w2, w2 = (w1.alloc (.cells #[] 5)).drew := ⟨_, rfl⟩
  rw [← hw2] at hb2 hT2 hn2 ⊢
  have hs2 : w2.heap.size = w1.heap.size + 1 := by rw [hw2]; simp
  have HZ2 := Lib.hid hs2
  clear hw2 hs2
  refine ⟨.inr ((HS.out _).2 hb2), ?_⟩
  refine wpGr_eff rfl (fun K2 hK2 => ?_)
  have hbase : Rest w2 (some ⟨w1.heap.size, 0, none⟩) 0 [] := .inr ⟨w1.heap.size, 0, #[], rfl, hn2, Nat.le_refl _, by omega, by simp, fun i hi => by simp at hi⟩
  have hin : Inb w2 A rs := (HRE.out.touch hT2 (by simp)).inb
  refine wp_rest_append (.tmp 11) (.tmp 15) rfl (some ⟨w1.heap.size, 0, none⟩) 0 [] rfl A cap rs rfl hbase hin (by simp; omega) ?_
  intro A' cap' w3 hr3 hT3 hf3
  dsimp only [Act.put]
  simp only [List.nil_append, List.length_nil, Nat.zero_add, List.setIfInBounds_toArray, List.set_cons_succ, List.set_cons_zero] at hr3 ⊢
  have hsb1 : sb < w1.heap.size := HB1.out.lt
  have hb3 := hb2.touch hT3 (fun ⟨a, ha, e⟩ => by injection ha with ha; subst ha; simp at e; omega)
  have hnew3 : ∀ a, A' = some a → w1.heap.size ≤ a.block := fun a ha => by
    rcases hf3 a ha with ⟨a0, h1, h2⟩ | h
    · injection h1 with h1; subst h1; simp at h2; omega
    · have := HZ2.out; omega
  have hT13 : Touch (fun _ => False) w1 w3 := hT2.trans hT3 (fun b hb ⟨a, ha, e⟩ => by injection ha with ha; subst ha; simp at e; omega)
  refine hK2 _ _ ⟨.inr ((HS.out _).2 hb3), ?_⟩
  have HR3 := Lib.hid hr3
  have HN3 := Lib.hid hnew3
  have HT13 := Lib.hid hT13
  have HB3 := Lib.hid hb3
  clear hr3 hnew3 hT13 hT3 hf3 hT2 hb2 hn2 hbase hin hb3 HRE
  repeat (refine wpGr_q ?_; (first | go_big_quiet_skip | (go_big_quiet_want; go_big_quiet_op; go_big_quiet_on)); refine wpQuiet_nil ?_)
  refine wpGr_eff rfl (fun K3 hK3 => ?_)
  go_wp2_with fail
  refine ⟨.inr ((HS.out _).2 (HB3.out.alloc _)), ?_⟩
  refine wpGr_eff rfl (fun K4 hK4 => ?_)
  go_wp2_with fail
  refine wpGr_nil ?_
  have htb : Blk (w3.alloc (.cells #[.int .u32 a0, .int .u32 a1, .int .u32 a2, .int .u32 a3, .int .u32 a4, .int .u32 a5, .int .u32 a6, .int .u32 a7, .slice A' rs.length cap', .int .i64 0] 36)) w3.heap.size 36 (shaA [a0, a1, a2, a3, a4, a5, a6, a7] (.slice A' rs.length cap') 0) := Blk.new _ _ _
  have hT4 : Touch (fun _ => False) w3 (w3.alloc (.cells #[.int .u32 a0, .int .u32 a1, .int .u32 a2, .int .u32 a3, .int .u32 a4, .int .u32 a5, .int .u32 a6, .int .u32 a7, .slice A' rs.length cap', .int .i64 0] 36)) := (Touch.refl _ w3).alloc _
  have hb4 := HB3.out.alloc (.cells #[.int .u32 a0, .int .u32 a1, .int .u32 a2, .int .u32 a3, .int .u32 a4, .int .u32 a5, .int .u32 a6, .int .u32 a7, .slice A' rs.length cap', .int .i64 0] 36)
  obtain ⟨w4, hw4⟩ : ∃ w4, w4 = (w3.alloc (.cells #[.int .u32 a0, .int .u32 a1, .int .u32 a2, .int .u32 a3, .int .u32 a4, .int .u32 a5, .int .u32 a6, .int .u32 a7, .slice A' rs.length cap', .int .i64 0] 36)) := ⟨_, rfl⟩
  rw [← hw4] at htb hT4 hb4 ⊢
  have hs4 : w4.heap.size = w3.heap.size + 1 := by rw [hw4]; simp
  obtain ⟨tb, htb'⟩ : ∃ tb, tb = w3.heap.size := ⟨_, rfl⟩
  rw [← htb'] at htb hs4 ⊢
  have hr4 := HR3.out.touch hT4 (by simp)
  have hT14 : Touch (fun _ => False) w w4 := (HT1.out.trans HT13.out (by simp)).trans hT4 (by simp)
  have htbs : w1.heap.size ≤ tb := by rw [htb']; exact HT13.out.size
  have hsha4 : Sha K w4 tb xs 0 := by
    refine ⟨by omega, A', cap', ?_, ?_, fun a ha e => ?_⟩
    · rw [← HH.out.2, HH.out.1]; exact htb
    · rw [← HH.out.2]; exact hr4
    · have h1 := HR3.out.lt ha
      omega
  have hown4 : ∀ b, OwnS w4 tb b → w1.heap.size ≤ b ∧ b < w4.heap.size := fun b ho => by
    rcases (OwnS.of (hs := [a0, a1, a2, a3, a4, a5, a6, a7]) htb rfl).1 ho with h | ⟨a, ha, h⟩
    · omega
    · have h1 := HN3.out a ha
      have h2 := HR3.out.lt ha
      omega
  have c9 := hb4.cell 9
  simp only [List.getElem?_toArray, List.getElem?_cons_succ, List.getElem?_cons_zero] at c9
  have HS4 := Lib.hid (And.intro hsha4 (And.intro hown4 (And.intro hT14 hs4)))
  have HTB := Lib.hid htbs
  have HR5 := Lib.hid ((HR1.out.touch HT13.out (by simp)).touch hT4 (by simp))
  clear hw4 htb' hr4 htb hT4 hb4 hsha4 hown4 hT14 hs4 htbs s0 s1 s2 s3 s4 s5 s6 s7 s8
  go_wp2_with fail
  refine (pad_any _ N hN).mono ?_
  rintro e w5 ⟨PA, pc, rfl, hpr, hT5, hpn⟩
  go_wp2_with fail
  have hT05 := HS4.out.2.2.1.trans hT5 (by simp)
  have htab5 : Tab K w5 := HK.out.touch hT05 (by simp)
  have hown5 : ∀ b, OwnS w5 tb b → w1.heap.size ≤ b ∧ b < w4.heap.size := fun b ho => by
    refine HS4.out.2.1 b ?_
    rcases ho with h | ⟨v, hv, h⟩
    · exact .inl h
    · refine .inr ⟨v, ?_, h⟩
      have hlt : tb < w4.heap.size := by have := HS4.out.2.2.2; omega
      have : w5.cell? ⟨tb, 8, none⟩ = w4.cell? ⟨tb, 8, none⟩ := by unfold World.cell?; rw [hT5.block tb hlt (by simp)]
      rw [← this]; exact hv
  have hsha5 : Sha K w5 tb xs 0 := by
    obtain ⟨h1, A5, c5, h2, h3, h4⟩ := HS4.out.1
    exact ⟨h1, A5, c5, h2.touch hT5 (by simp), h3.touch hT5 (by simp), h4⟩
  refine (write_any K w5 tb xs (padF N) PA pc 0 hsha5 hpr.inb (fun a ha _ ho => by have h1 := hpn a ha; have h2 := hown5 _ ho; omega) htab5 (fun ho => by have h2 := hown5 _ ho; have := HZ.out; omega) (by have := padF_len N; omega) (by omega)).mono ?_
  rintro e w6 ⟨rfl, hsha6, hT6, hf6⟩
  obtain ⟨zs, hzs⟩ : ∃ zs, zs = xs ++ padF N := ⟨_, rfl⟩
  rw [← hzs] at hsha6
  obtain ⟨_, A6, c6, hb6, _, _⟩ := hsha6
  obtain ⟨f0, f1, f2, f3, f4, f5, f6, f7, hf⟩ : ∃ f0 f1 f2 f3 f4 f5 f6 f7, hK K zs (zs.length / 64) = [f0, f1, f2, f3, f4, f5, f6, f7] := ⟨_, _, _, _, _, _, _, _, list8 _ (hK_len K zs _)⟩
  rw [hf] at hb6
  simp only [shaA, List.map_cons, List.map_nil, List.cons_append, List.nil_append] at hb6
  have g0 := hb6.cell 0
  have g1 := hb6.cell 1
  have g2 := hb6.cell 2
  have g3 := hb6.cell 3
  have g4 := hb6.cell 4
  have g5 := hb6.cell 5
  have g6 := hb6.cell 6
  have g7 := hb6.cell 7
  simp only [List.getElem?_toArray, List.getElem?_cons_succ, List.getElem?_cons_zero] at g0 g1 g2 g3 g4 g5 g6 g7
  have hT06 : Touch (fun _ => False) w w6 := hT05.trans hT6 (fun b hb ho => by have h2 := hown5 b ho; have := HZ.out; omega)
  have hr6 : Blk w6 w.heap.size 27 (U8A (List.replicate 32 0)) := (HR5.out.touch hT5 (by simp)).touch hT6 (fun ho => by have h2 := hown5 _ ho; have := HZ.out; omega)
  have HF := Lib.hid (And.intro hf (And.intro hzs (And.intro hr6 hT06)))
  clear hf hzs hr6 hT06 hb6 hT6 hf6 hT05 hT5 hown5 hsha5 htab5 hpr hpn
  go_wp2_with fail
  refine (out_any w6 [f0, f1, f2, f3, f4, f5, f6, f7] rfl).mono ?_
  rintro e w7 ⟨rfl, hT7⟩
  have hdig : outF [f0, f1, f2, f3, f4, f5, f6, f7] = digest K xs N := by rw [digest, ← HF.out.2.1, HF.out.1]
  rw [hdig]
  have hdl : (digest K xs N).length = 32 := outS_iter _ 8 (by omega)
  have hr7 := HF.out.2.2.1.touch hT7 (by simp)
  have hi : (Tryd.prog.info? 27).map (·.size) = some (U8A (digest K xs N)).size := by rw [U8A_size, hdl]; kernel_rfl
  have hsz : (U8A (List.replicate 32 0)).size = (U8A (digest K xs N)).size := by rw [U8A_size, U8A_size, hdl]; rfl
  have HI2 := Lib.hid (And.intro hi hsz)
  clear hi hsz hdl hdig
  go_wp2_with (refine wpList_store_row rfl 27 (.tmp 2) (.tmp 30) rfl w.heap.size (U8A (digest K xs N)) rfl rfl 27 _ hr7 HI2.out.1 HI2.out.2 (U8A_one _) ?_)
  refine bodyPost_ret (v := .agg (U8A (digest K xs N))) (results_cell_row (P := Tryd.prog) rfl _ _ w.heap.size 27 _ (0, 0) (.array 32 5) rfl (hr7.row _) (by kernel_rfl) rfl HI2.out.1) rfl ⟨rfl, ?_⟩
  exact (HF.out.2.2.2.trans hT7 (by simp)).row (.inl (Nat.le_refl _)) _
end Go.Proofs.YtelmjlfhmbicjaaDoor
