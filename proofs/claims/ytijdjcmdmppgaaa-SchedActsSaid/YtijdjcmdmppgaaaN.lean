/- picked. -/
import Derived.Test.YtijdjcmdmppgaaaM
import Derived.WalkMore
import Derived.ScopeJumps
namespace Go.Proofs.Ytijdjcmdmppgaaa
open Go.RowKit
set_option linter.unusedVariables false

attribute [local go_sem] Oper.semAt_some

theorem enter34 (cap : Array Value) (w : World) : (callFunc 34 cap).run Try.prog w = .ok (.enter 34 cap) w := by kernel_rfl

theorem pk_nil {b : Nat} {x : Nat × Jb} (h : ¬ 0 = b) : pk b [] x = [x] := by
  unfold pk
  rw [List.length_nil, if_neg h]
theorem pk_same {b : Nat} {x y : Nat × Jb} {t : List (Nat × Jb)} (h : ¬ t.length + 1 = b) (hc : x.2.cls = y.2.cls) : pk b (y :: t) x = y :: t ++ [x] := by
  unfold pk
  rw [List.length_cons, if_neg h]
  exact if_pos hc
theorem pk_other {b : Nat} {x y : Nat × Jb} {t : List (Nat × Jb)} (h : ¬ t.length + 1 = b) (hc : ¬ x.2.cls = y.2.cls) : pk b (y :: t) x = y :: t := by
  unfold pk
  rw [List.length_cons, if_neg h]
  exact if_neg hc

/-- The batch. -/
def PickPost (C bt nx : Nat) (L : Nat → List (Nat × Jb)) (w : World) (e : Ending) (w' : World) : Prop :=
  ∃ (A : Option Addr) (cap : Nat), e = .returned (.slice A (picks bt (heads L C nx C)).length cap) ∧ Rw w' 68 A cap ((picks bt (heads L C nx C)).map pv) ∧ (∀ a, A = some a → w.heap.size ≤ a.block) ∧ Touch (fun _ => False) w w'

set_option maxHeartbeats 2000000 in
theorem picked_any (w : World) (S : Nat → Prop) (q o C k bt nx M : Nat) (L : Nat → List (Nat × Jb)) (h : Que w S q o C k bt nx M L) (hM : M ≤ 10000) :
    Calls Try.prog 28 #[.pointer (some ⟨q, 0, none⟩)] w (PickPost C bt nx L w) := by
  obtain ⟨w1, hw1⟩ : ∃ w1, w1 = (w.alloc (.cells #[.pointer (some ⟨q, 0, none⟩)] 25)).alloc (.cells #[.slice none 0 0] 67) := ⟨_, rfl⟩
  have hT1 : Touch (fun _ => False) w w1 := by rw [hw1]; exact ((Touch.refl _ w).alloc _).alloc _
  have hs1 : w1.heap.size = w.heap.size + 2 := by rw [hw1]; simp
  have hbq : Blk w1 w.heap.size 25 #[.pointer (some ⟨q, 0, none⟩)] := by rw [hw1]; exact (Blk.new _ _ _).alloc _
  have hbo : Blk w1 (w.heap.size + 1) 67 #[.slice none 0 0] := by
    have := Blk.new (w.alloc (.cells #[.pointer (some ⟨q, 0, none⟩)] 25)) 67 #[.slice none 0 0]
    rw [World.size_alloc] at this
    rw [hw1]; exact this
  have hQ1 := h.touch hT1 (fun _ _ h => h)
  have HQ := Lib.hid hQ1
  have HW := Lib.hid (And.intro hw1 hs1)
  have HB := Lib.hid (And.intro hbq hbo)
  have H0 := Lib.hid h
  clear hw1 hs1 hbq hbo hQ1 h
  refine callsIn_wide.1 (?_ : CallsIn Fence.wide 3 Try.prog 28 _ w _)
  refine callsIn_of_wp_marks Try.func28 rfl trivial ?_ rfl
  simp only [Try.ntmps28, List.size_toArray, List.length_cons, List.length_nil, Nat.reduceAdd, Nat.reduceSub, Array.replicate_succ, Array.replicate_zero, List.push_toArray, List.append_toArray, List.nil_append, List.cons_append]
  refine wpIn_wide.2 ?_
  go_wp2
  go_step3
  go_wp2
  go_step3
  go_wp2
  rw [← HW.out.1]
  obtain ⟨A, cp, hQ⟩ := HQ.out
  have b1 := hQ.hq.cell 3
  have b2 := HB.out.1.cell 0
  simp at b1 b2
  have HA := Lib.hid hQ
  clear hQ
  refine wp_region_qtail 5 (by kernel_rfl) (by kernel_rfl) ?_
  simp only [List.take_succ_cons, List.take_zero, List.drop_succ_cons, List.drop_zero]
  repeat (first | go_big_quiet_skip | (go_big_quiet_want; go_big_quiet_op; go_big_quiet_on))
  refine wpQuiet_nil ?_
  go_wp2_with fail
  refine (oldest_any _ q nx).mono ?_
  rintro e w2 ⟨rfl, hw2⟩
  have hT2 : Touch (fun _ => False) w1 w2 := by rw [hw2]; exact (((Touch.refl _ w1).drew).alloc _).alloc _
  have hs2 : w2.heap.size = w1.heap.size + 2 := by rw [hw2]; simp
  have hc1 : w2.cell? ⟨w1.heap.size, 0, none⟩ = some (.pointer (some ⟨q, 0, none⟩)) := by
    rw [hw2]
    exact ((Blk.new w1.drew 25 #[.pointer (some ⟨q, 0, none⟩)]).alloc _).cell 0
  have hc2 : w2.cell? ⟨w1.heap.size + 1, 0, none⟩ = some (.int .i64 nx) := by
    rw [hw2]
    have := (Blk.new (w1.drew.alloc (.cells #[.pointer (some ⟨q, 0, none⟩)] 25)) 3 #[.int .i64 nx]).cell 0
    rw [World.size_alloc] at this
    exact this
  have HW2 := Lib.hid (And.intro hs2 (And.intro hc1 hc2))
  clear hw2 hs2 hc1 hc2 b1 b2
  go_wp2
  have nq : ¬ (w1.heap.size = w.heap.size + 1 ∨ w2.heap.size ≤ w1.heap.size) := by have := HW.out.2; have := HW2.out.1; omega
  have nf : ¬ (w1.heap.size + 1 = w.heap.size + 1 ∨ w2.heap.size ≤ w1.heap.size + 1) := by have := HW.out.2; have := HW2.out.1; omega
  have hSlt : ∀ b, S b → b < w.heap.size := by obtain ⟨A0, cp0, h0⟩ := H0.out; exact h0.slt
  have nS : ∀ b, S b → ¬ (b = w.heap.size + 1 ∨ w2.heap.size ≤ b) := fun b hb => by have := hSlt b hb; have := HW.out.2; have := HW2.out.1; omega
  have hQ2 : Que w2 S q o C k bt nx M L := HQ.out.touch hT2 (fun _ _ h => h)
  have hI0 : PkI C bt (w.heap.size + 1) w2.heap.size L w2 [] w2 := ⟨none, 0, HB.out.2.touch hT2 (fun h => h), Rw.nil _ _, (fun a h => by cases h), Touch.refl _ _⟩
  refine wpIn_wide.1 (wpIn_rangeFunc_ownF (F := Fence.wide) (n := 3) rfl (by omega) (gf := 34) (lb := #[.pointer (some ⟨w1.heap.size, 0, none⟩), .pointer (some ⟨w1.heap.size + 1, 0, none⟩)]) rfl trivial enter34
    (oldest1_stops 2 (by omega) w1.heap.size (w1.heap.size + 1) (w.heap.size + 1) w2.heap.size S q o C k bt nx M L w2 hQ2 hM HW2.out.2.1 HW2.out.2.2 nq nf nS)
    (fun h k => Touch.trans h k (fun _ _ h => h)) (fun W l o o' hl ho _ _ => touch_grown (Touch.refl _ W) (grownBy_putObj' W l o') (fun r e => by cases e; exact .inr hl)) (Below.refl _ _) (fun _ => rfl)
    (PkI C bt (w.heap.size + 1) w2.heap.size L w2) (fun c pre W => c = .exit 0 ∧ PkI C bt (w.heap.size + 1) w2.heap.size L w2 pre W ∧ (picks bt (pre.map (·.1))).length = bt)
    (pkI_own _ _ _ _ _ _) (fun c s X Y row ⟨h1, h2, h3⟩ hg hr => ⟨h1, pkI_own _ _ _ _ _ _ s X Y row h2 hg hr, h3⟩) hI0
    (fun x => { tmps := #[.pointer (some ⟨q, 0, none⟩), .pointer (some ⟨w.heap.size, 0, none⟩), .slice none 0 0, .pointer (some ⟨w.heap.size + 1, 0, none⟩), pv x.1, .pointer (some ⟨q, 0, none⟩), .pointer (some ⟨q, 0, none⟩), .pointer (some ⟨q, 0, none⟩), .pointer (some ⟨q, 3, none⟩), .int .i64 nx, .func (.func 34) #[] #[.pointer (some ⟨w1.heap.size, 0, none⟩), .pointer (some ⟨w1.heap.size + 1, 0, none⟩)], pv x.1, undef, undef, undef, undef, undef, undef, undef, undef, undef, undef, undef, undef, undef, undef, undef, undef, undef, undef, undef, undef, undef, undef, undef, undef, undef, undef, undef, undef, undef, undef], defers := [] }) ?assign ?body ?done ?stop)
  case assign =>
    intro l x W K hK
    gi_wp2
    exact hK
  case body =>
    rintro l pre x W ⟨A2, cap2, hb, hr, hf, hT⟩ hlen
    obtain ⟨c, hcC, hxL⟩ := x.2
    have hP1 : picks bt ((pre ++ [x]).map (·.1)) = pk bt (picks bt (pre.map (·.1))) x.1 := by rw [List.map_append]; exact picks_snoc _ _ _
    obtain ⟨P, hP⟩ : ∃ P, P = picks bt (pre.map (·.1)) := ⟨_, rfl⟩
    rw [← hP] at hb hr hP1
    have hPl : P.length ≤ 8 := by have := picks_len bt (pre.map (·.1)); have := HA.out.hC; rw [hP]; simp at *; omega
    have hQW : QueA W S q o C k bt nx M A cp L := (HA.out.touch hT2 (fun _ _ h => h)).touch hT nS
    have b2 := hQW.hq.cell 2
    have bx := (hQW.hj c hcC x.1 hxL).cell 2
    have bq := (((HB.out.1.touch hT2 (fun h => h)).touch hT (by have := HW.out.2; have := HW2.out.1; omega))).cell 0
    have bo := hb.cell 0
    have bz := hb.frozen 0
    have hx0 : pv x.1 = .pointer (some ⟨x.1.1, 0, none⟩) := rfl
    simp [jc] at b2 bx bq bo
    have HI := Lib.hid (And.intro hb (And.intro hr (And.intro hf hT)))
    have HP := Lib.hid (And.intro hP1 hP)
    clear hb hr hf hT hP1 hP hQW
    rw [hx0]
    clear hx0
    gi_wp2
    have hWN : w2.heap.size ≤ W.heap.size := HI.out.2.2.2.size
    by_cases hful : P.length = bt
    · have e1 : ((P.length : Int) == (bt : Int)) = true := by simp [hful]
      have HF := Lib.hid hful
      clear hful
      refine wpIn_region_qall (by kernel_rfl) (by kernel_rfl) (by kernel_rfl) ?_
      repeat (first | go_big_quiet_skip | (go_big_quiet_want; go_big_quiet_op; go_big_quiet_on))
      refine wpQuiet_nil ?_
      gi_wp2
      have hPx : picks bt ((pre ++ [x]).map (·.1)) = P := by rw [HP.out.1]; unfold pk; rw [if_pos HF.out]
      refine ⟨KeepsOthers.drew W, rfl, ⟨A2, cap2, ?_, ?_, HI.out.2.2.1, HI.out.2.2.2.drew⟩, by rw [hPx]; exact HF.out⟩
      · rw [hPx]; exact HI.out.1.drew
      · rw [hPx]; exact HI.out.2.1.touch (Touch.refl (fun _ => False) W).drew (fun _ _ h => h)
    · have e1 : ((P.length : Int) == (bt : Int)) = false := by simp; omega
      have HF := Lib.hid hful
      clear hful
      have hTd : Touch (fun _ => False) W W.drew := (Touch.refl _ W).drew
      refine wpIn_region_qall (by kernel_rfl) (by kernel_rfl) (by kernel_rfl) ?_
      repeat (first | go_big_quiet_skip | (go_big_quiet_want; go_big_quiet_op; go_big_quiet_on))
      refine wpQuiet_nil ?_
      gi_wp2
      rcases P with _ | ⟨y, t⟩
      · simp only [List.length_nil] at *
        refine wpIn_region_qall (by kernel_rfl) (by kernel_rfl) (by kernel_rfl) ?_
        repeat (first | go_big_quiet_skip | (go_big_quiet_want; go_big_quiet_op; go_big_quiet_on))
        refine wpQuiet_nil ?_
        have hw5T : Touch (fun _ => False) W (W.alloc (.cells #[pv x.1] 68)).drew.drew := ((Touch.refl _ W).alloc _).drew.drew
        have hr5 := HI.out.2.1.touch hw5T (fun _ _ h => h)
        have hob : ∀ a, A2 = some a → a.block ≠ w.heap.size + 1 := HI.out.2.1.ne_blk HI.out.1 (by decide)
        have hc5 := hw5T.cell bo (fun h => h)
        have hn5 : (W.alloc (.cells #[pv x.1] 68)).drew.drew.cell? ⟨W.heap.size, 0, none⟩ = some (pv x.1) := ((Blk.new W 68 #[pv x.1]).drew.drew).cell 0
        have HR5 := Lib.hid (And.intro hr5 (And.intro hw5T (And.intro hob (And.intro hc5 hn5))))
        clear hr5 hw5T hob hc5 hn5
        gi_wp2_with (gi_at_builtin; refine wpListIn_rw_push elem67 rfl (.tmp 37) (.tmp 39) rfl (A2) cap2 (0) ((([] : List (Nat × Jb)).map pv)) (by simp) rfl W.heap.size (pv x.1) rfl HR5.out.2.2.2.2 rfl HR5.out.1 (one_pv _) (by omega) ?_; intro A3 cap3 w3 hr3 hT3 hf3; have hc3 := hT3.cell HR5.out.2.2.2.1 (fun ⟨a, ha, e⟩ => HR5.out.2.2.1 a ha e); have hz3 := (((HI.out.1.touch HR5.out.2.1 (fun h => h)).touch hT3 (fun ⟨a, ha, e⟩ => HR5.out.2.2.1 a ha e))).frozen 0; have HR3 := Lib.hid (And.intro hr3 (And.intro hT3 hf3)); clear hr3 hT3 hf3)
        exact pk_push HI.out.1 HI.out.2.1 HI.out.2.2.1 HI.out.2.2.2 hWN (by rw [HP.out.1]; exact pk_nil HF.out) HR5.out.2.1 HR3.out.1 HR3.out.2.1 HR3.out.2.2
      · simp only [List.length_cons] at *
        have hy : y ∈ pre.map (·.1) := picks_mem bt _ y (by rw [← HP.out.2]; simp)
        obtain ⟨y', hy1, hy2⟩ := List.mem_map.1 hy
        obtain ⟨d, hd, hyL⟩ := y'.2
        rw [hy2] at hyL
        have by2 := (((HA.out.touch hT2 (fun _ _ h => h)).touch HI.out.2.2.2 nS).hj d hd y hyL).cell 2
        obtain ⟨g, rfl, hg⟩ := HI.out.2.1.cell (i := 0) (v := pv y) rfl
        unfold pv at hg
        simp [jc] at by2
        clear hy hy1 hy2
        by_cases hcl : x.1.2.cls = y.2.cls
        · have e2 : (x.1.2.cls != y.2.cls) = false := by simp [hcl]
          have HC := Lib.hid hcl
          clear hcl
          refine wpIn_region_qall (by kernel_rfl) (by kernel_rfl) (by kernel_rfl) ?_
          repeat (first | go_big_quiet_skip | (go_big_quiet_want; go_big_quiet_op; go_big_quiet_on))
          refine wpQuiet_nil ?_
          have hw5T : Touch (fun _ => False) W (W.alloc (.cells #[pv x.1] 68)).drew.drew := ((Touch.refl _ W).alloc _).drew.drew
          have hr5 := HI.out.2.1.touch hw5T (fun _ _ h => h)
          have hob : ∀ a, some (⟨g, 0, none⟩ : Addr) = some a → a.block ≠ w.heap.size + 1 := HI.out.2.1.ne_blk HI.out.1 (by decide)
          have hc5 := hw5T.cell bo (fun h => h)
          have hn5 : (W.alloc (.cells #[pv x.1] 68)).drew.drew.cell? ⟨W.heap.size, 0, none⟩ = some (pv x.1) := ((Blk.new W 68 #[pv x.1]).drew.drew).cell 0
          have HR5 := Lib.hid (And.intro hr5 (And.intro hw5T (And.intro hob (And.intro hc5 hn5))))
          clear hr5 hw5T hob hc5 hn5
          gi_wp2_with (gi_at_builtin; refine wpListIn_rw_push elem67 rfl (.tmp 37) (.tmp 39) rfl (some ⟨g, 0, none⟩) cap2 (t.length + 1) (((y :: t).map pv)) (by simp) rfl W.heap.size (pv x.1) rfl HR5.out.2.2.2.2 rfl HR5.out.1 (one_pv _) (by omega) ?_; intro A3 cap3 w3 hr3 hT3 hf3; have hc3 := hT3.cell HR5.out.2.2.2.1 (fun ⟨a, ha, e⟩ => HR5.out.2.2.1 a ha e); have hz3 := (((HI.out.1.touch HR5.out.2.1 (fun h => h)).touch hT3 (fun ⟨a, ha, e⟩ => HR5.out.2.2.1 a ha e))).frozen 0; have HR3 := Lib.hid (And.intro hr3 (And.intro hT3 hf3)); clear hr3 hT3 hf3)
          exact pk_push HI.out.1 HI.out.2.1 HI.out.2.2.1 HI.out.2.2.2 hWN (by rw [HP.out.1]; exact pk_same HF.out HC.out) HR5.out.2.1 HR3.out.1 HR3.out.2.1 HR3.out.2.2
        · have e2 : (x.1.2.cls != y.2.cls) = true := by simpa using hcl
          have HC := Lib.hid hcl
          clear hcl
          refine wpIn_region_qall (by kernel_rfl) (by kernel_rfl) (by kernel_rfl) ?_
          repeat (first | go_big_quiet_skip | (go_big_quiet_want; go_big_quiet_op; go_big_quiet_on))
          refine wpQuiet_nil ?_
          gi_wp2
          have hTdd : Touch (fun _ => False) W W.drew.drew := (Touch.refl _ W).drew.drew
          have hPx : picks bt ((pre ++ [x]).map (·.1)) = y :: t := by rw [HP.out.1]; exact pk_other HF.out HC.out
          refine ⟨(KeepsOthers.drew W).trans (KeepsOthers.drew _), Touch.weaken hTdd (fun _ _ h => h.elim), some ⟨g, 0, none⟩, cap2, ?_, ?_, HI.out.2.2.1, HI.out.2.2.2.trans hTdd (fun _ _ h => h.elim)⟩
          · rw [hPx]; exact HI.out.1.drew.drew
          · rw [hPx]; exact HI.out.2.1.touch hTdd (fun _ _ h => h)
  case done =>
    rintro D xs W hD hS ⟨A2, cap2, hb, hr, hf, hT⟩ hK
    rw [hS] at hb hr
    have hc := hb.cell 0
    simp at hc
    go_wp2
    rw [Exit.noGoto_ret]
    refine ⟨by simp, .inl ⟨_, _, rfl, run_takeDeferred hK, ?_⟩⟩
    have hT' : Touch (fun b => b = w.heap.size + 1 ∨ w2.heap.size ≤ b) w2 (W.putObj D (.deferred none)) := touch_grown hT (grownBy_putObj' W D _) (fun r e => by cases e; exact .inr hD)
    have hr' : Rw (W.putObj D (.deferred none)) 68 A2 cap2 ((picks bt (heads L C nx C)).map pv) := rw_grown hr (grownBy_putObj' W D _) (fun r e => by cases e; exact ⟨_, hK, rfl⟩)
    refine ⟨_, results_tmp rfl _ _ _, A2, cap2, rfl, hr', fun a ha => ?_, ?_⟩
    · have := hf a ha; have := HW.out.2; have := HW2.out.1; omega
    · exact (hT1.trans hT2 (fun _ _ h => h)).trans hT' (fun b hb h => by have := HW.out.2; have := HW2.out.1; omega)
  case stop =>
    rintro D c pre W hD hS ⟨rfl, ⟨A2, cap2, hb, hr, hf, hT⟩, hful⟩ hK
    have e : picks bt (pre.map (·.1)) = picks bt (heads L C nx C) := by
      obtain ⟨r, hr⟩ := hS
      rw [← hr, picks_full _ _ _ hful]
    rw [e] at hb hr
    have hc := hb.cell 0
    simp at hc
    clear hful e
    refine wpIn_wide.2 ?_
    go_wp2
    rw [Exit.noGoto_ret]
    refine ⟨by simp, .inl ⟨_, _, rfl, run_takeDeferred hK, ?_⟩⟩
    have hT' : Touch (fun b => b = w.heap.size + 1 ∨ w2.heap.size ≤ b) w2 (W.putObj D (.deferred none)) := touch_grown hT (grownBy_putObj' W D _) (fun r e => by cases e; exact .inr hD)
    have hr' : Rw (W.putObj D (.deferred none)) 68 A2 cap2 ((picks bt (heads L C nx C)).map pv) := rw_grown hr (grownBy_putObj' W D _) (fun r e => by cases e; exact ⟨_, hK, rfl⟩)
    refine ⟨_, results_tmp rfl _ _ _, A2, cap2, rfl, hr', fun a ha => ?_, ?_⟩
    · have := hf a ha; have := HW.out.2; have := HW2.out.1; omega
    · exact (hT1.trans hT2 (fun _ _ h => h)).trans hT' (fun b hb h => by have := HW.out.2; have := HW2.out.1; omega)
end Go.Proofs.Ytijdjcmdmppgaaa
