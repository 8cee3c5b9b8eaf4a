/- The document's Meet of lists. -/
import Derived.Test.YtgoeocfgajbldaaS
namespace Go.Proofs.Ytgoeocfgajbldaa
open Go.RowKit
set_option linter.unusedVariables false

def meetI (l r : List SI) : Bool := l.any fun s => r.any fun t => mtI s t
theorem any_false_of {α : Type} {l : List α} {p : α → Bool} (h : ∀ i x, i < l.length → l[i]? = some x → p x = false) : l.any p = false := by
  rw [List.any_eq_false]
  intro x hx
  obtain ⟨i, hi⟩ := List.getElem?_of_mem hx
  have hlt : i < l.length := by
    rcases Nat.lt_or_ge i l.length with h | h
    · exact h
    · rw [List.getElem?_eq_none h] at hi; cases hi
  rw [h i x hlt hi]
  decide
theorem any_true_of {α : Type} {l : List α} {p : α → Bool} {i : Nat} {x : α} (h : l[i]? = some x) (hp : p x = true) : l.any p = true :=
  List.any_eq_true.2 ⟨x, List.mem_of_getElem? h, hp⟩

set_option maxHeartbeats 1000000 in
theorem meet19_any (w : World) (A B : Option Addr) (ca cb n m : Nat) (l r : List SI) (hn : l.length = n) (hm : r.length = m) (ln : n ≤ 1000) (lm : m ≤ 1000) (hl : ∀ s ∈ l, smI s = true) (hr : ∀ s ∈ r, smI s = true) (rl : Row2 w A (l.map siV2)) (rr : Row2 w B (r.map siV2)) :
    Calls Try.prog 19 #[.slice A n ca, .slice B m cb] w fun e w' => e = .returned (.bool (meetI l r)) ∧ Touch (fun _ => False) w w' := by
  obtain ⟨R, hR⟩ : ∃ R, R = meetI l r := ⟨_, rfl⟩
  rw [← hR]
  have H := Lib.hid (And.intro hn (And.intro hm (And.intro hl (And.intro hr (And.intro rl (And.intro rr hR))))))
  clear hn hm hl hr rl rr hR
  go_enter Try.func19, Try.ntmps19
  go_wp2_with fail
  go_loopw [5] (fun u wr => ∃ i : Nat, i ≤ n ∧ u = .int .i64 i ∧ (∀ i' s, i' < i → l[i']? = some s → (r.any fun t => mtI s t) = false) ∧ Touch (fun _ => False) w wr) (fun u _ => n - (intOf u).toNat)
  case atStart => exact ⟨0, by omega, rfl, by intro i' s h; omega, Touch.refl _ _⟩
  case round =>
    obtain ⟨i, hi, rfl, hno, hT⟩ := hrel
    have HO := Lib.hid (And.intro hno hT)
    clear hno hT
    by_cases hin : i < n
    · have hin' : (i : Int) < n := by omega
      have hd : decide ((i : Int) < n) = true := decide_eq_true hin'
      obtain ⟨s, hs⟩ : ∃ s, l[i]? = some s := ⟨_, List.getElem?_eq_getElem (by rw [H.out.1]; exact hin)⟩
      obtain ⟨g, off, rfl, c1, c2⟩ := H.out.2.2.2.2.1 i (siV2 s) (by rw [List.getElem?_map, hs]; rfl)
      have HS := Lib.hid (And.intro hs (And.intro c1 c2))
      clear hs c1 c2
      go_wp2_with fail
      go_loopw [6] (fun u wr' => ∃ j : Nat, j ≤ m ∧ u = .int .i64 j ∧ (∀ j' t, j' < j → r[j']? = some t → mtI s t = false) ∧ Touch (fun _ => False) w wr') (fun u _ => m - (intOf u).toNat)
      case atStart => exact ⟨0, by omega, rfl, by intro j' t h; omega, HO.out.2⟩
      case round =>
        obtain ⟨j, hj, rfl, hno2, hT2⟩ := hrel
        have HO2 := Lib.hid (And.intro hno2 hT2)
        clear hno2 hT2
        by_cases hjm : j < m
        · have hjm' : (j : Int) < m := by omega
          obtain ⟨t, ht⟩ : ∃ t, r[j]? = some t := ⟨_, List.getElem?_eq_getElem (by rw [H.out.2.1]; exact hjm)⟩
          obtain ⟨g', off', rfl, d1, d2⟩ := H.out.2.2.2.2.2.1 j (siV2 t) (by rw [List.getElem?_map, ht]; rfl)
          have HT := Lib.hid (And.intro ht (And.intro d1 d2))
          clear ht d1 d2
          obtain ⟨S, HSS⟩ : ∃ S : World → Prop, Hid (∀ w', S w' ↔ Touch (fun _ => False) w w') := ⟨_, fun _ => Iff.rfl⟩
          go_wp2_with fail
          refine wp_region_tr S (.q 0 (.q 1 (.q 2 (.q 3 (.q 4 (.q 5 (.q 6 (.q 7 (.e 8 .nil))))))))) (by kernel_rfl) (by kernel_rfl) ((HSS.out _).2 HO2.out.2.drew) (fun hne => ?_)
          have z0 : ∀ x : SW S, x.w.cell? ⟨g, off + i * 2, none⟩ = some (.int .i64 s.1) := fun x => ((HSS.out _).1 x.ok).cell HS.out.2.1 (fun h => h)
          have z1 : ∀ x : SW S, x.w.cell? ⟨g, off + i * 2 + 1, none⟩ = some (.int .i64 s.2) := fun x => ((HSS.out _).1 x.ok).cell HS.out.2.2 (fun h => h)
          have z2 : ∀ x : SW S, x.w.cell? ⟨g', off' + j * 2, none⟩ = some (.int .i64 t.1) := fun x => ((HSS.out _).1 x.ok).cell HT.out.2.1 (fun h => h)
          have z3 : ∀ x : SW S, x.w.cell? ⟨g', off' + j * 2 + 1, none⟩ = some (.int .i64 t.2) := fun x => ((HSS.out _).1 x.ok).cell HT.out.2.2 (fun h => h)
          repeat (refine wpTr_q (by simp only [List.getElem?_toArray, List.getElem?_cons_zero, List.getElem?_cons_succ]; rfl) ?_; (first | go_big_quiet_skip | (go_big_quiet_want; go_big_quiet_op; go_big_quiet_on)); refine wpQuiet_nil ?_)
          clear z0 z1 z2 z3
          refine wpTr_e (by simp only [List.getElem?_toArray, List.getElem?_cons_zero, List.getElem?_cons_succ]; rfl) (fun K1 hK1 => ?_)
          go_wp2_with fail
          refine (meets28_any _ s t (H.out.2.2.1 s (List.mem_of_getElem? HS.out.1)) (H.out.2.2.2.1 t (List.mem_of_getElem? HT.out.1))).mono ?_
          rintro e v1 ⟨rfl, hV1⟩
          have hV2 : Touch (fun _ => False) w v1 := HO2.out.2.drew.trans hV1 (fun _ _ h => h)
          refine hK1 _ _ ⟨(HSS.out _).2 hV2, wpTr_nil ?_⟩
          have HV := Lib.hid hV2
          clear hV1 hV2 hK1
          cases hmt : mtI s t with
          | true =>
            have hf : true = R := by
              rw [H.out.2.2.2.2.2.2]
              exact (any_true_of HS.out.1 (any_true_of HT.out.1 hmt)).symm
            have HF := Lib.hid (And.intro hf hmt)
            clear hf hmt
            go_wp2_with fail
            go_ret
            exact ⟨by rw [← HF.out.1]; rfl, HV.out⟩
          | false =>
            have HF := Lib.hid hmt
            clear hmt
            go_wp2_with fail
            go_roundw
            case rel =>
              refine ⟨j + 1, by omega, by go_num, fun j' x hj' hx => ?_, HV.out⟩
              rcases Nat.lt_succ_iff_lt_or_eq.1 hj' with h | rfl
              · exact HO2.out.1 j' x h hx
              · rw [HT.out.1] at hx
                injection hx with hx
                subst hx
                exact HF.out
            case measure => simp [intOf]; omega
        · obtain rfl : j = m := by omega
          go_wp2_with fail
          go_roundw
          case rel =>
            refine ⟨i + 1, by omega, by go_num, fun i' x hi' hx => ?_, HO2.out.2⟩
            rcases Nat.lt_succ_iff_lt_or_eq.1 hi' with h | rfl
            · exact HO.out.1 i' x h hx
            · rw [HS.out.1] at hx
              injection hx with hx
              subst hx
              exact any_false_of (fun j' t hj' ht => HO2.out.1 j' t (by rw [← H.out.2.1]; exact hj') ht)
          case measure => simp [intOf]; omega
    · obtain rfl : i = n := by omega
      have hf : false = R := by
        rw [H.out.2.2.2.2.2.2]
        exact (any_false_of (fun i' x hi' hx => HO.out.1 i' x (by rw [← H.out.1]; exact hi') hx)).symm
      have HF := Lib.hid hf
      clear hf
      go_wp2_with fail
      go_ret
      exact ⟨by rw [← HF.out]; rfl, HO.out.2⟩
end Go.Proofs.Ytgoeocfgajbldaa
