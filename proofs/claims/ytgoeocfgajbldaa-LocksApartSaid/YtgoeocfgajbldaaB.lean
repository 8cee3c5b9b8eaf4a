/- Rows of structs of two cells; slices.IndexFunc, slices.ContainsFunc. (Printed by genB.py.) -/
import Derived.Test.YtgoeocfgajbldaaA
namespace Go.Proofs.Ytgoeocfgajbldaa
open Go.RowKit
set_option linter.unusedVariables false

abbrev V2 : Type := Value × Value
def agg2 (p : V2) : Value := .agg #[p.1, p.2]
/-- Each of L lies in the row at A. -/
def Row2 (w : World) (A : Option Addr) (L : List V2) : Prop := ∀ i p, L[i]? = some p → ∃ g off, A = some ⟨g, off, none⟩ ∧ w.cell? ⟨g, off + i * 2, none⟩ = some p.1 ∧ w.cell? ⟨g, off + i * 2 + 1, none⟩ = some p.2
theorem Touch.cell {S : Nat → Prop} {w w' : World} (ht : Touch S w w') {b i : Nat} {v : Value} (h : w.cell? ⟨b, i, none⟩ = some v) (hS : ¬ S b) : w'.cell? ⟨b, i, none⟩ = some v := by
  have hlt := block_lt_of_cell h
  rw [← h]
  unfold World.cell?
  rw [ht.block b hlt hS]
theorem Row2.touch {w w' : World} {S : Nat → Prop} {A : Option Addr} {L : List V2} (h : Row2 w A L) (ht : Touch S w w') (hS : ∀ a, A = some a → L ≠ [] → a.block < w.heap.size → ¬ S a.block) : Row2 w' A L := fun i p hp => by
  obtain ⟨g, off, hA, h1, h2⟩ := h i p hp
  have hn : ¬ S g := hS _ hA (by rintro rfl; simp at hp) (show g < w.heap.size from block_lt_of_cell h1)
  exact ⟨g, off, hA, ht.cell h1 hn, ht.cell h2 hn⟩
theorem Row2.touch0 {w w' : World} {A : Option Addr} {L : List V2} (h : Row2 w A L) (ht : Touch (fun _ => False) w w') : Row2 w' A L := h.touch ht (fun _ _ _ _ h => h)
theorem Row2.lt {w : World} {A : Option Addr} {L : List V2} (h : Row2 w A L) (hL : L ≠ []) {a : Addr} (ha : A = some a) : a.block < w.heap.size := by
  cases L with
  | nil => exact absurd rfl hL
  | cons p t =>
    obtain ⟨g, off, hA, h1, h2⟩ := h 0 p rfl
    rw [hA] at ha
    injection ha with ha
    subst ha
    exact block_lt_of_cell h1

/-- Where the first of a row stands for which a function says yes. -/
theorem idx43_any (w : World) (A : Option Addr) (cap n f : Nat) (L : List V2) (hn : L.length = n) (hr : Row2 w A L) (c : Array Value) (P : V2 → Bool) (hle : n ≤ 100000)
    (he : ∀ (v : Value) (w : World), (callFunc f (#[v] ++ c)).run Try.prog w = .ok (.enter f (#[v] ++ c)) w)
    (hf : ∀ p ∈ L, ∀ w', Touch (fun _ => False) w w' → Calls Try.prog f (#[agg2 p] ++ c) w' fun e w'' => e = .returned (.bool (P p)) ∧ Touch (fun _ => False) w' w'') :
    Calls Try.prog 43 #[.slice A n cap, .func (.func f) #[] c] w fun e w' => (∃ i : Int, e = .returned (.int .i64 i) ∧ -1 ≤ i ∧ decide (0 ≤ i) = L.any P) ∧ Touch (fun _ => False) w w' := by
  have H := Lib.hid (And.intro hn (And.intro hr (And.intro he hf)))
  clear hn hr he hf
  go_enter Try.func43, Try.ntmps43
  go_wp2_with fail
  go_loopw [8] (fun u wr => ∃ k : Nat, k ≤ n ∧ u = .int .i64 k ∧ (∀ i p, i < k → L[i]? = some p → P p = false) ∧ Touch (fun _ => False) w wr) (fun u _ => n - (intOf u).toNat)
  case atStart => exact ⟨0, by omega, rfl, by intro i p h; omega, Touch.refl _ _⟩
  case round =>
    obtain ⟨k, hk, rfl, hno, hT⟩ := hrel
    have HO := Lib.hid hno
    clear hno
    by_cases hkn : k < n
    · obtain ⟨p, hp⟩ : ∃ p, L[k]? = some p := ⟨_, List.getElem?_eq_getElem (by rw [H.out.1]; exact hkn)⟩
      obtain ⟨g, off, rfl, h1, h2⟩ := H.out.2.1 k p hp
      have c1 := hT.cell h1 (fun h => h)
      have c2 := hT.cell h2 (fun h => h)
      have hen : ∀ W, (callFunc f (#[agg2 p] ++ c)).run Try.prog W = .ok (.enter f (#[agg2 p] ++ c)) W := fun W => H.out.2.2.1 _ W
      have hc := H.out.2.2.2 p (List.mem_of_getElem? hp) wr hT
      have HP := Lib.hid (And.intro hp hc)
      clear hp h1 h2 hc
      unfold agg2 at hen HP
      obtain ⟨x, y⟩ := p
      dsimp only at c1 c2 hen HP
      go_wp2_with fail
      refine HP.out.2.mono ?_
      rintro e w' ⟨rfl, hT'⟩
      have HT := Lib.hid (hT.trans hT' (fun _ _ h => h))
      clear hT' hT c1 c2 hen
      cases hP : P (x, y) with
      | true =>
        have HPP := Lib.hid hP
        clear hP
        go_wp2
        go_ret
        refine ⟨⟨k, rfl, by omega, ?_⟩, HT.out⟩
        rw [List.any_eq_true.2 ⟨_, List.mem_of_getElem? HP.out.1, HPP.out⟩]
        simp
      | false =>
        have HPP := Lib.hid hP
        clear hP
        go_wp2
        go_roundw
        case rel =>
          refine ⟨k + 1, by omega, by go_num, fun i q hi hq => ?_, HT.out⟩
          rcases Nat.lt_succ_iff_lt_or_eq.1 hi with h | rfl
          · exact HO.out i q h hq
          · rw [HP.out.1] at hq; injection hq with hq; subst hq; exact HPP.out
        case measure => simp [intOf]; omega
    · go_wp2
      go_ret
      refine ⟨⟨-1, rfl, by omega, ?_⟩, hT⟩
      have : L.any P = false := by
        rw [List.any_eq_false]
        intro p hp
        obtain ⟨i, hi⟩ := List.getElem?_of_mem hp
        have hlt : i < L.length := by
          rcases Nat.lt_or_ge i L.length with h | h
          · exact h
          · rw [List.getElem?_eq_none h] at hi; cases hi
        rw [HO.out i p (by have := H.out.1; omega) hi]
        decide
      rw [this]
      decide

theorem has36_any (w : World) (A : Option Addr) (cap n f : Nat) (L : List V2) (hn : L.length = n) (hr : Row2 w A L) (c : Array Value) (P : V2 → Bool) (hle : n ≤ 100000)
    (he : ∀ (v : Value) (w : World), (callFunc f (#[v] ++ c)).run Try.prog w = .ok (.enter f (#[v] ++ c)) w)
    (hf : ∀ p ∈ L, ∀ w', Touch (fun _ => False) w w' → Calls Try.prog f (#[agg2 p] ++ c) w' fun e w'' => e = .returned (.bool (P p)) ∧ Touch (fun _ => False) w' w'') :
    Calls Try.prog 36 #[.slice A n cap, .func (.func f) #[] c] w fun e w' => e = .returned (.bool (L.any P)) ∧ Touch (fun _ => False) w w' := by
  obtain ⟨R, hR⟩ : ∃ R, R = L.any P := ⟨_, rfl⟩
  have H := idx43_any w A cap n f L hn hr c P hle he hf
  rw [← hR] at H ⊢
  have H := Lib.hid H
  clear hR hn hr he hf
  go_enter Try.func36, Try.ntmps36
  go_wp2_with fail
  refine H.out.mono ?_
  rintro e w1 ⟨⟨i, rfl, hi, hb⟩, hT⟩
  have HB := Lib.hid (And.intro hb hT)
  clear hb hT
  go_wp2
  go_ret
  refine ⟨?_, HB.out.2⟩
  rw [← HB.out.1]
  rfl

/-- Where the first of a row stands for which a function says yes. -/
theorem idx31_any (w : World) (A : Option Addr) (cap n f : Nat) (L : List V2) (hn : L.length = n) (hr : Row2 w A L) (c : Array Value) (P : V2 → Bool) (hle : n ≤ 100000)
    (he : ∀ (v : Value) (w : World), (callFunc f (#[v] ++ c)).run Try.prog w = .ok (.enter f (#[v] ++ c)) w)
    (hf : ∀ p ∈ L, ∀ w', Touch (fun _ => False) w w' → Calls Try.prog f (#[agg2 p] ++ c) w' fun e w'' => e = .returned (.bool (P p)) ∧ Touch (fun _ => False) w' w'') :
    Calls Try.prog 31 #[.slice A n cap, .func (.func f) #[] c] w fun e w' => (∃ i : Int, e = .returned (.int .i64 i) ∧ -1 ≤ i ∧ decide (0 ≤ i) = L.any P) ∧ Touch (fun _ => False) w w' := by
  have H := Lib.hid (And.intro hn (And.intro hr (And.intro he hf)))
  clear hn hr he hf
  go_enter Try.func31, Try.ntmps31
  go_wp2_with fail
  go_loopw [8] (fun u wr => ∃ k : Nat, k ≤ n ∧ u = .int .i64 k ∧ (∀ i p, i < k → L[i]? = some p → P p = false) ∧ Touch (fun _ => False) w wr) (fun u _ => n - (intOf u).toNat)
  case atStart => exact ⟨0, by omega, rfl, by intro i p h; omega, Touch.refl _ _⟩
  case round =>
    obtain ⟨k, hk, rfl, hno, hT⟩ := hrel
    have HO := Lib.hid hno
    clear hno
    by_cases hkn : k < n
    · obtain ⟨p, hp⟩ : ∃ p, L[k]? = some p := ⟨_, List.getElem?_eq_getElem (by rw [H.out.1]; exact hkn)⟩
      obtain ⟨g, off, rfl, h1, h2⟩ := H.out.2.1 k p hp
      have c1 := hT.cell h1 (fun h => h)
      have c2 := hT.cell h2 (fun h => h)
      have hen : ∀ W, (callFunc f (#[agg2 p] ++ c)).run Try.prog W = .ok (.enter f (#[agg2 p] ++ c)) W := fun W => H.out.2.2.1 _ W
      have hc := H.out.2.2.2 p (List.mem_of_getElem? hp) wr hT
      have HP := Lib.hid (And.intro hp hc)
      clear hp h1 h2 hc
      unfold agg2 at hen HP
      obtain ⟨x, y⟩ := p
      dsimp only at c1 c2 hen HP
      go_wp2_with fail
      refine HP.out.2.mono ?_
      rintro e w' ⟨rfl, hT'⟩
      have HT := Lib.hid (hT.trans hT' (fun _ _ h => h))
      clear hT' hT c1 c2 hen
      cases hP : P (x, y) with
      | true =>
        have HPP := Lib.hid hP
        clear hP
        go_wp2
        go_ret
        refine ⟨⟨k, rfl, by omega, ?_⟩, HT.out⟩
        rw [List.any_eq_true.2 ⟨_, List.mem_of_getElem? HP.out.1, HPP.out⟩]
        simp
      | false =>
        have HPP := Lib.hid hP
        clear hP
        go_wp2
        go_roundw
        case rel =>
          refine ⟨k + 1, by omega, by go_num, fun i q hi hq => ?_, HT.out⟩
          rcases Nat.lt_succ_iff_lt_or_eq.1 hi with h | rfl
          · exact HO.out i q h hq
          · rw [HP.out.1] at hq; injection hq with hq; subst hq; exact HPP.out
        case measure => simp [intOf]; omega
    · go_wp2
      go_ret
      refine ⟨⟨-1, rfl, by omega, ?_⟩, hT⟩
      have : L.any P = false := by
        rw [List.any_eq_false]
        intro p hp
        obtain ⟨i, hi⟩ := List.getElem?_of_mem hp
        have hlt : i < L.length := by
          rcases Nat.lt_or_ge i L.length with h | h
          · exact h
          · rw [List.getElem?_eq_none h] at hi; cases hi
        rw [HO.out i p (by have := H.out.1; omega) hi]
        decide
      rw [this]
      decide

theorem has23_any (w : World) (A : Option Addr) (cap n f : Nat) (L : List V2) (hn : L.length = n) (hr : Row2 w A L) (c : Array Value) (P : V2 → Bool) (hle : n ≤ 100000)
    (he : ∀ (v : Value) (w : World), (callFunc f (#[v] ++ c)).run Try.prog w = .ok (.enter f (#[v] ++ c)) w)
    (hf : ∀ p ∈ L, ∀ w', Touch (fun _ => False) w w' → Calls Try.prog f (#[agg2 p] ++ c) w' fun e w'' => e = .returned (.bool (P p)) ∧ Touch (fun _ => False) w' w'') :
    Calls Try.prog 23 #[.slice A n cap, .func (.func f) #[] c] w fun e w' => e = .returned (.bool (L.any P)) ∧ Touch (fun _ => False) w w' := by
  obtain ⟨R, hR⟩ : ∃ R, R = L.any P := ⟨_, rfl⟩
  have H := idx31_any w A cap n f L hn hr c P hle he hf
  rw [← hR] at H ⊢
  have H := Lib.hid H
  clear hR hn hr he hf
  go_enter Try.func23, Try.ntmps23
  go_wp2_with fail
  refine H.out.mono ?_
  rintro e w1 ⟨⟨i, rfl, hi, hb⟩, hT⟩
  have HB := Lib.hid (And.intro hb hT)
  clear hb hT
  go_wp2
  go_ret
  refine ⟨?_, HB.out.2⟩
  rw [← HB.out.1]
  rfl
end Go.Proofs.Ytgoeocfgajbldaa
