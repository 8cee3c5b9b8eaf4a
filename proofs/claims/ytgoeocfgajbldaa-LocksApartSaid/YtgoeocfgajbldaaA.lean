/- Spans: reach. -/
import Derived.Test.YtgoeocfgajbldaaF
import Derived.Test.YtgoeocfgajbldaaRegT
import Derived.Test.YtgoeocfgajbldaaRows
import Derived.Deep.DeepCutAuto
namespace Go.Proofs.Ytgoeocfgajbldaa
open Go.RowKit
set_option linter.unusedVariables false

/-- A span: a place and a length. -/
abbrev Sp : Type := Nat × Nat
/-- Its numbers are small. -/
def Small (s : Sp) : Prop := s.1 < 2147483648 ∧ s.2 < 2147483648
def spV (s : Sp) : Value := .agg #[.int .i64 s.1, .int .i64 s.2]
/-- Do two meet? -/
def meetsB (s t : Sp) : Bool := decide (0 < s.2) && decide (0 < t.2) && decide (s.1 < t.1 + t.2) && decide (t.1 < s.1 + s.2)

theorem reach_any (w : World) (s : Sp) (hs : Small s) : Calls Try.prog 44 #[spV s] w fun e w' => e = .returned (.complex .f64 (floatOfInt .f64 (s.1 : Nat)) (floatOfInt .f64 (s.1 + s.2 : Nat))) ∧ Touch (fun _ => False) w w' := by
  obtain ⟨a, n⟩ := s
  obtain ⟨h1, h2⟩ := hs
  dsimp only at h1 h2
  have hw : wrap64 ((a : Int) + n) = ((a + n : Nat) : Int) := by unfold wrap64; omega
  unfold spV
  go_enter Try.func44, Try.ntmps44
  go_wp2
  go_ret
  exact ⟨rfl, (Touch.refl _ w).alloc _⟩

/-- The comparison of two whole numbers as floats. -/
theorem lss_nat (a b : Nat) (ha : a < 2 ^ 52) (hb : b < 2 ^ 52) : (FloatKind.f64.format.order (floatOfInt .f64 (a : Nat)) (floatOfInt .f64 (b : Nat)) == some Ordering.lt) = decide (a < b) := by
  have ho := order_nat a b ha hb
  show (Ieee.double.order _ _ == some Ordering.lt) = _
  rw [ho]
  by_cases h : a < b
  · rw [decide_eq_true h, Nat.compare_eq_lt.2 h]; rfl
  · rw [decide_eq_false h]
    cases hc : compare a b with
    | lt => exact absurd (Nat.compare_eq_lt.1 hc) h
    | eq => rfl
    | gt => rfl

set_option maxHeartbeats 1000000 in
theorem meets_any (w : World) (s t : Sp) (hs : Small s) (ht : Small t) : Calls Try.prog 39 #[spV s, spV t] w fun e w' => e = .returned (.bool (meetsB s t)) ∧ Touch (fun _ => False) w w' := by
  have hr := fun w => reach_any w s hs
  have hr2 := fun w => reach_any w t ht
  obtain ⟨a, n⟩ := s
  obtain ⟨b, m⟩ := t
  obtain ⟨h1, h2⟩ := hs
  obtain ⟨h3, h4⟩ := ht
  obtain ⟨R, hR⟩ : ∃ R, R = meetsB (a, n) (b, m) := ⟨_, rfl⟩
  rw [← hR]
  unfold meetsB at hR
  have HR := Lib.hid hR
  clear hR
  dsimp only at h1 h2 h3 h4 hr hr2 ⊢
  unfold spV at hr hr2 ⊢
  dsimp only at hr hr2 ⊢
  have l1 := lss_nat a (b + m) (by omega) (by omega)
  have l2 := lss_nat b (a + n) (by omega) (by omega)
  generalize floatOfInt .f64 ((a : Nat) : Int) = fa at *
  generalize floatOfInt .f64 ((b : Nat) : Int) = fb at *
  generalize floatOfInt .f64 ((a + n : Nat) : Int) = fan at *
  generalize floatOfInt .f64 ((b + m : Nat) : Int) = fbm at *
  obtain ⟨W, hW⟩ : ∃ W, W = ((w.alloc (Obj.cells #[.int .i64 a, .int .i64 n] 52)).alloc (Obj.cells #[.int .i64 b, .int .i64 m] 52)) := ⟨_, rfl⟩
  have hT : Touch (fun _ => False) w W := by rw [hW]; exact ((Touch.refl _ w).alloc _).alloc _
  have hb1 : Blk W w.heap.size 52 #[.int .i64 a, .int .i64 n] := by rw [hW]; exact (Blk.new w 52 _).alloc _
  have hb2 : Blk W (w.heap.size + 1) 52 #[.int .i64 b, .int .i64 m] := by
    have := Blk.new (w.alloc (Obj.cells #[.int .i64 a, .int .i64 n] 52)) 52 #[.int .i64 b, .int .i64 m]
    rw [World.size_alloc] at this
    rw [hW]; exact this
  obtain ⟨g, hg⟩ : ∃ g, g = w.heap.size := ⟨_, rfl⟩
  rw [← hg] at hb1 hb2
  have H := Lib.hid (And.intro hT (And.intro hb1 (And.intro hb2 (And.intro hr hr2))))
  have HL := Lib.hid (And.intro l1 l2)
  clear hT hb1 hb2 hr hr2 h1 h2 h3 h4 l1 l2
  go_enter Try.func39, Try.ntmps39
  go_upto_region 1 with fail
  refine Eq.mp (congrArg (fun x => Code.wp _ _ _ _ x) hW) ?_
  rw [← hg]
  clear hW hg
  obtain ⟨S, HS⟩ : ∃ S : World → Prop, Hid (∀ w', S w' ↔ (Blk w' g 52 #[.int .i64 a, .int .i64 n] ∧ Blk w' (g + 1) 52 #[.int .i64 b, .int .i64 m])) := ⟨_, fun _ => Iff.rfl⟩
  have hSS : ∀ w', Touch (fun _ => False) W w' → S w' := fun w' ht => (HS.out _).2 ⟨H.out.2.1.touch ht (fun h => h), H.out.2.2.1.touch ht (fun h => h)⟩
  refine wp_region_tr S (.q 0 (.q 2 (.e 1 (.e 3 (.e 4 (.e 5 .nil)))))) (by kernel_rfl) (by kernel_rfl) (hSS _ (Touch.refl _ _).drew) (fun hne => ?_)
  have z0 : ∀ x : SW S, x.w.cell? ⟨g, 0, none⟩ = some (.int .i64 a) := fun x => ((HS.out _).1 x.ok).1.cell 0
  have z1 : ∀ x : SW S, x.w.cell? ⟨g, 1, none⟩ = some (.int .i64 n) := fun x => ((HS.out _).1 x.ok).1.cell 1
  have z2 : ∀ x : SW S, x.w.cell? ⟨g + 1, 0, none⟩ = some (.int .i64 b) := fun x => ((HS.out _).1 x.ok).2.cell 0
  have z3 : ∀ x : SW S, x.w.cell? ⟨g + 1, 1, none⟩ = some (.int .i64 m) := fun x => ((HS.out _).1 x.ok).2.cell 1
  repeat (refine wpTr_q (by simp only [List.getElem?_toArray, List.getElem?_cons_zero, List.getElem?_cons_succ]; rfl) ?_; (first | go_big_quiet_skip | (go_big_quiet_want; go_big_quiet_op; go_big_quiet_on)); refine wpQuiet_nil ?_)
  have HSS := Lib.hid hSS
  clear z0 z1 z2 z3 hSS
  refine wpTr_e (by simp only [List.getElem?_toArray, List.getElem?_cons_zero, List.getElem?_cons_succ]; rfl) (fun K1 hK1 => ?_)
  go_wp2_with fail
  refine (H.out.2.2.2.1 _).mono ?_
  rintro e w1 ⟨rfl, hT1⟩
  have hT01 : Touch (fun _ => False) W w1 := (Touch.refl _ W).drew.trans hT1 (fun _ _ h => h)
  refine hK1 _ _ ⟨HSS.out _ hT01, ?_⟩
  refine wpTr_e (by simp only [List.getElem?_toArray, List.getElem?_cons_zero, List.getElem?_cons_succ]; rfl) (fun K2 hK2 => ?_)
  clear hT1
  go_wp2_with fail
  refine (H.out.2.2.2.2 _).mono ?_
  rintro e w2 ⟨rfl, hT2⟩
  have hT02 : Touch (fun _ => False) W w2 := hT01.trans hT2 (fun _ _ h => h)
  clear hT01 hT2
  refine hK2 _ _ ⟨HSS.out _ hT02, ?_⟩
  refine wpTr_e (by simp only [List.getElem?_toArray, List.getElem?_cons_zero, List.getElem?_cons_succ]; rfl) (fun K3 hK3 => ?_)
  go_wp2_with fail
  try refine ⟨HSS.out _ hT02, ?_⟩
  refine wpTr_e (by simp only [List.getElem?_toArray, List.getElem?_cons_zero, List.getElem?_cons_succ]; rfl) (fun K4 hK4 => ?_)
  go_wp2_with fail
  try refine ⟨HSS.out _ hT02, wpTr_nil ?_⟩
  have c0 := (H.out.2.1.touch hT02 (fun h => h)).cell 1
  have c1 := (H.out.2.2.1.touch hT02 (fun h => h)).cell 1
  simp only [List.getElem?_toArray, List.getElem?_cons_zero, List.getElem?_cons_succ] at c0 c1
  have HT := Lib.hid (H.out.1.trans hT02 (fun _ _ h => h))
  have l1 := HL.out.1
  have l2 := HL.out.2
  clear hT02 hne hK1 hK2
  by_cases p1 : 0 < n
  · have p1' : (0 : Int) < n := by omega
    by_cases p2 : 0 < m
    · have p2' : (0 : Int) < m := by omega
      by_cases p3 : a < b + m
      · have hR : R = decide (b < a + n) := by rw [HR.out]; simp [p1, p2, p3]
        rw [decide_eq_true p3] at l1
        rw [← hR] at l2
        have HE := Lib.hid hR
        clear p1 p2 p3 hR
        go_wp2
        go_ret
        exact ⟨rfl, HT.out⟩
      · have hR : false = R := by rw [HR.out]; simp [p3]
        rw [decide_eq_false p3] at l1
        have HE := Lib.hid hR
        clear p1 p2 p3 hR l2
        go_wp2
        go_ret
        exact ⟨by rw [← HE.out]; rfl, HT.out⟩
    · have p2' : ¬ (0 : Int) < m := by omega
      have hR : false = R := by rw [HR.out]; simp [p2]
      have HE := Lib.hid hR
      clear p1 p2 hR l2
      go_wp2
      go_ret
      exact ⟨by rw [← HE.out]; rfl, HT.out⟩
  · have p1' : ¬ (0 : Int) < n := by omega
    have hR : false = R := by rw [HR.out]; simp [p1]
    have HE := Lib.hid hR
    clear p1 hR l2
    go_wp2
    go_ret
    exact ⟨by rw [← HE.out]; rfl, HT.out⟩
end Go.Proofs.Ytgoeocfgajbldaa
