/- small. -/
import Derived.Test.YtgoeocfgajbldaaN
namespace Go.Proofs.Ytgoeocfgajbldaa
open Go.RowKit
set_option linter.unusedVariables false

/-- A document's span: any two numbers. -/
abbrev SI : Type := Int × Int
def siV2 (s : SI) : V2 := (.int .i64 s.1, .int .i64 s.2)
def smI (s : SI) : Bool := decide (0 ≤ s.1) && decide (s.1 < 2147483648) && decide (0 ≤ s.2) && decide (s.2 < 2147483648)
def smallI (l : List SI) : Bool := decide (l.length ≤ 12) && l.all smI

set_option maxHeartbeats 1000000 in
theorem small_any (w : World) (A : Option Addr) (c n : Nat) (l : List SI) (hn : l.length = n) (hr : Row2 w A (l.map siV2)) :
    Calls Try.prog 14 #[.slice A n c] w fun e w' => e = .returned (.bool (smallI l)) ∧ w' = w := by
  obtain ⟨R, hR⟩ : ∃ R, R = smallI l := ⟨_, rfl⟩
  rw [← hR]
  have H := Lib.hid (And.intro hn (And.intro hr hR))
  by_cases h12 : n ≤ 12
  · have h12' : ¬ ((12 : Int) < n) := by omega
    clear hn hr hR
    go_enter Try.func14, Try.ntmps14
    go_wp2_with fail
    go_loop [3] (fun u => ∃ i : Nat, i ≤ n ∧ u = .int .i64 i ∧ ∀ j s, j < i → l[j]? = some s → smI s = true) (fun u => n - (intOf u).toNat)
    case atStart => exact ⟨0, by omega, rfl, by intro j s h; omega⟩
    case round =>
      obtain ⟨i, hi, rfl, hall⟩ := hrel
      have HA := Lib.hid hall
      clear hall
      by_cases hin : i < n
      · obtain ⟨⟨a, b⟩, hs⟩ : ∃ s, l[i]? = some s := ⟨_, List.getElem?_eq_getElem (by rw [H.out.1]; exact hin)⟩
        obtain ⟨g, off, rfl, c1, c2⟩ := H.out.2.1 i (siV2 (a, b)) (by rw [List.getElem?_map, hs]; rfl)
        dsimp only [siV2] at c1 c2
        have hbad : smI (a, b) = false → R = false := fun hb => by
          rw [H.out.2.2]
          unfold smallI
          rw [Bool.and_eq_false_iff]
          exact .inr (List.all_eq_false.2 ⟨_, List.mem_of_getElem? hs, by rw [hb]; decide⟩)
        have HS := Lib.hid (And.intro hs hbad)
        clear hs hbad
        have hin' : (i : Int) < n := by omega
        by_cases h1 : a < 0
        · have hf : false = R := by rw [HS.out.2 (by unfold smI; rw [decide_eq_false (by omega)]; rfl)]
          have HF := Lib.hid hf
          clear hf
          go_wp2_with fail
          go_ret
          exact ⟨by rw [← HF.out]; rfl, rfl⟩
        · by_cases h2 : (2147483648 : Int) ≤ a
          · have hf : false = R := by rw [HS.out.2 (by unfold smI; rw [decide_eq_false (show ¬ a < 2147483648 by omega)]; simp)]
            have HF := Lib.hid hf
            clear hf
            go_wp2_with fail
            go_ret
            exact ⟨by rw [← HF.out]; rfl, rfl⟩
          · by_cases h3 : b < 0
            · have hf : false = R := by rw [HS.out.2 (by unfold smI; rw [decide_eq_false (show ¬ 0 ≤ b by omega)]; simp)]
              have HF := Lib.hid hf
              clear hf
              go_wp2_with fail
              go_ret
              exact ⟨by rw [← HF.out]; rfl, rfl⟩
            · by_cases h4 : (2147483648 : Int) ≤ b
              · have hf : false = R := by rw [HS.out.2 (by unfold smI; rw [decide_eq_false (show ¬ b < 2147483648 by omega)]; simp)]
                have HF := Lib.hid hf
                clear hf
                go_wp2_with fail
                go_ret
                exact ⟨by rw [← HF.out]; rfl, rfl⟩
              · go_wp2_with fail
                go_round
                case rel =>
                  refine ⟨i + 1, by omega, by go_num, fun j s hj hs => ?_⟩
                  rcases Nat.lt_succ_iff_lt_or_eq.1 hj with h | rfl
                  · exact HA.out j s h hs
                  · rw [HS.out.1] at hs
                    injection hs with hs
                    subst hs
                    unfold smI
                    simp
                    omega
                case measure => simp [intOf]; omega
      · obtain rfl : i = n := by omega
        have hf : true = R := by
          rw [H.out.2.2]
          unfold smallI
          rw [decide_eq_true (by rw [H.out.1]; exact h12), Bool.true_and]
          symm
          rw [List.all_eq_true]
          intro s hs
          obtain ⟨j, hj⟩ := List.getElem?_of_mem hs
          have hlt : j < l.length := by
            rcases Nat.lt_or_ge j l.length with h | h
            · exact h
            · rw [List.getElem?_eq_none h] at hj; cases hj
          exact HA.out j s (by rw [← H.out.1]; exact hlt) hj
        have HF := Lib.hid hf
        clear hf
        go_wp2_with fail
        go_ret
        exact ⟨by rw [← HF.out]; rfl, rfl⟩
  · have h12' : (12 : Int) < n := by omega
    have hf : false = R := by
      rw [hR]
      unfold smallI
      rw [decide_eq_false (by rw [hn]; exact h12)]
      rfl
    have HF := Lib.hid hf
    clear hn hr hR hf
    go_enter Try.func14, Try.ntmps14
    go_wp2_with fail
    go_ret
    exact ⟨by rw [← HF.out]; rfl, rfl⟩
end Go.Proofs.Ytgoeocfgajbldaa
