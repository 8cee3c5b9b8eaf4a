/- One list of requests and a list for each client: the plain law. -/
import Derived.Test.YtijdjcmdmppgaaaRefD
import Derived.Test.YtijdjcmdmppgaaaBoundP
namespace Go.Proofs.Ytijdjcmdmppgaaa
open Go.RowKit
set_option linter.unusedVariables false

def isC (c : Nat) (j : Jb) : Bool := decide (j.client = c)
/-- Each client's list is the one list's. -/
def Fl (C : Nat) (l : List Jb) (P : Nat → List Jb) : Prop := ∀ c, c < C → l.filter (isC c) = P c
def Uq (l : List Jb) : Prop := ∀ (i i' : Nat) (j j' : Jb), l[i]? = some j → l[i']? = some j' → j.id = j'.id → i = i'

theorem first_of (q : Jb → Bool) : ∀ (l : List Jb) (j : Jb) (t : List Jb), l.filter q = j :: t → ∃ i, l[i]? = some j ∧ q j = true ∧ ∀ (i' : Nat) (y : Jb), i' < i → l[i']? = some y → q y = false
  | [], j, t, h => by simp at h
  | x :: l, j, t, h => by
    by_cases hx : q x = true
    · rw [List.filter_cons_of_pos hx] at h
      injection h with h1 h2
      exact ⟨0, by simp [h1], by rw [← h1]; exact hx, fun i' y h => by omega⟩
    · rw [List.filter_cons_of_neg hx] at h
      obtain ⟨i, h1, h2, h3⟩ := first_of q l j t h
      refine ⟨i + 1, by simpa using h1, h2, fun i' y hi hy => ?_⟩
      cases i' with
      | zero => simp at hy; subst hy; simpa using hx
      | succ i' => exact h3 i' y (by omega) (by simpa using hy)

theorem Fl.none {C : Nat} {l : List Jb} {P : Nat → List Jb} (h : Fl C l P) {c : Nat} (hc : c < C) (hP : P c = []) : ∀ (i : Nat) (y : Jb), l[i]? = some y → jcl y ≠ (c : Int) := by
  intro i y hy e
  have hm : y ∈ l.filter (isC c) := List.mem_filter.2 ⟨List.mem_of_getElem? hy, by unfold isC; unfold jcl at e; simp; omega⟩
  rw [h c hc, hP] at hm
  cases hm
theorem Fl.head {C : Nat} {l : List Jb} {P : Nat → List Jb} (h : Fl C l P) {c : Nat} (hc : c < C) {j : Jb} {t : List Jb} (hP : P c = j :: t) :
    ∃ i : Nat, l[i]? = some j ∧ j.client = c ∧ ∀ (i' : Nat) (y : Jb), i' < i → l[i']? = some y → y.client ≠ c := by
  obtain ⟨i, h1, h2, h3⟩ := first_of (isC c) l j t (by rw [h c hc, hP])
  refine ⟨i, h1, by simpa [isC] using h2, fun i' y hi hy => ?_⟩
  have := h3 i' y hi hy
  simpa [isC] using this
theorem Fl.app {C : Nat} {l : List Jb} {P : Nat → List Jb} (h : Fl C l P) (x : Jb) : Fl C (l ++ [x]) (upd P x.client (P x.client ++ [x])) := by
  intro c hc
  rw [List.filter_append, h c hc]
  by_cases e : c = x.client
  · subst e; rw [upd_same]; simp [isC]
  · rw [upd_ne _ _ e]; simp [isC]; exact fun h => e h.symm
theorem erase_eq : ∀ (l : List Jb) (i : Nat) (j : Jb), Uq l → l[i]? = some j → l.eraseIdx i = l.filter (fun x => decide (x.id ≠ j.id))
  | [], i, j, _, h => by simp at h
  | x :: l, 0, j, hu, h => by
    simp at h; subst h
    rw [List.eraseIdx_cons_zero, List.filter_cons_of_neg (by simp)]
    refine (List.filter_eq_self.2 fun y hy => ?_).symm
    obtain ⟨i, hi⟩ := List.getElem?_of_mem hy
    simp only [decide_eq_true_eq]
    intro e
    have := hu (i + 1) 0 y x (by simpa using hi) (by simp) e
    omega
  | x :: l, i + 1, j, hu, h => by
    have hx : x.id ≠ j.id := fun e => by
      have := hu 0 (i + 1) x j (by simp) h e; omega
    rw [List.eraseIdx_cons_succ, List.filter_cons_of_pos (by simpa using hx), erase_eq l i j (fun a b y z hy hz e => by
      have := hu (a + 1) (b + 1) y z (by simpa using hy) (by simpa using hz) e; omega) (by simpa using h)]
theorem filter_uq {l : List Jb} (q : Jb → Bool) (h : Uq l) : Uq (l.filter q) := by
  have key : ∀ l : List Jb, Uq l ↔ l.Pairwise (fun a b => a.id ≠ b.id) := by
    intro l
    rw [List.pairwise_iff_getElem]
    constructor
    · intro h i j hi hj hij e
      have := h i j _ _ (List.getElem?_eq_getElem hi) (List.getElem?_eq_getElem hj) e
      omega
    · intro h i i' j j' hi hi' e
      obtain ⟨hi1, rfl⟩ := List.getElem?_eq_some_iff.1 hi
      obtain ⟨hi2, rfl⟩ := List.getElem?_eq_some_iff.1 hi'
      rcases Nat.lt_trichotomy i i' with h1 | h1 | h1
      · exact absurd e (h i i' hi1 hi2 h1)
      · exact h1
      · exact absurd e.symm (h i' i hi2 hi1 h1)
  rw [key] at h ⊢
  exact h.filter q
theorem Fl.erase {C : Nat} {l : List Jb} {P : Nat → List Jb} (h : Fl C l P) (hu : Uq l) {i i' : Nat} {j : Jb} (hi : l[i]? = some j) (hc : j.client < C) (hi' : (P j.client)[i']? = some j) : Fl C (l.eraseIdx i) (upd P j.client ((P j.client).eraseIdx i')) := by
  intro c hcC
  rw [erase_eq l i j hu hi, List.filter_filter]
  have e : (l.filter fun a => isC c a && decide (a.id ≠ j.id)) = (P c).filter (fun x => decide (x.id ≠ j.id)) := by
    rw [← h c hcC, List.filter_filter]
    congr 1
    funext a
    rw [Bool.and_comm]
  have hPu : Uq (P c) := by rw [← h c hcC]; exact filter_uq _ hu
  rw [e]
  by_cases ec : c = j.client
  · subst ec
    rw [upd_same, erase_eq (P j.client) i' j hPu hi']
  · rw [upd_ne _ _ ec]
    refine List.filter_eq_self.2 fun y hy => ?_
    simp only [decide_eq_true_eq]
    intro ee
    rw [← h c hcC] at hy
    obtain ⟨hy1, hy2⟩ := List.mem_filter.1 hy
    obtain ⟨k, hk⟩ := List.getElem?_of_mem hy1
    have := hu k i y j hk hi ee
    subst this
    rw [hi] at hk
    injection hk with hk
    subst hk
    unfold isC at hy2
    exact ec (of_decide_eq_true hy2).symm
theorem set_filter (q : Jb → Bool) (x j : Jb) (hx : q x = q j) : ∀ (l : List Jb) (i : Nat), l[i]? = some j → (∀ (i' : Nat) (y : Jb), i' < i → l[i']? = some y → q y = true → q j = false) → (l.set i x).filter q = if q j then x :: (l.filter q).tail else l.filter q
  | [], i, h, _ => by simp at h
  | y :: l, 0, h, _ => by
    simp at h; subst h
    rw [List.set_cons_zero]
    by_cases hq : q y = true
    · rw [List.filter_cons_of_pos (by rw [hx]; exact hq), List.filter_cons_of_pos hq, if_pos hq]; rfl
    · rw [List.filter_cons_of_neg (by rw [hx]; exact hq), List.filter_cons_of_neg hq, if_neg hq]
  | y :: l, i + 1, h, hno => by
    have ih := set_filter q x j hx l i (by simpa using h) (fun i' z hi hz hqz => hno (i' + 1) z (by omega) (by simpa using hz) hqz)
    rw [List.set_cons_succ]
    by_cases hq : q y = true
    · have hj := hno 0 y (by omega) (by simp) hq
      rw [List.filter_cons_of_pos hq, List.filter_cons_of_pos hq, ih, hj]; simp
    · rw [List.filter_cons_of_neg hq, List.filter_cons_of_neg hq, ih]
theorem Fl.set {C : Nat} {l : List Jb} {P : Nat → List Jb} (h : Fl C l P) {i : Nat} {j x : Jb} (hi : l[i]? = some j) (hx : x.client = j.client) (hno : ∀ (i' : Nat) (y : Jb), i' < i → l[i']? = some y → y.client ≠ j.client) (hc : j.client < C) :
    Fl C (l.set i x) (upd P j.client (x :: (P j.client).tail)) := by
  intro c hcC
  rw [set_filter (isC c) x j (by unfold isC; rw [hx]) l i hi (fun i' y hi' hy hq => by
    have := hno i' y hi' hy
    unfold isC at hq ⊢
    have := of_decide_eq_true hq
    simp; omega), h c hcC]
  by_cases ec : c = j.client
  · subst ec; rw [upd_same]; simp [isC]
  · rw [upd_ne _ _ ec, if_neg (by simp [isC]; omega)]
theorem set_uq {l : List Jb} (hu : Uq l) {i : Nat} {j x : Jb} (hi : l[i]? = some j) (hx : x.id = j.id) : Uq (l.set i x) := by
  have key : ∀ (a : Nat) (y : Jb), (l.set i x)[a]? = some y → ∃ z, l[a]? = some z ∧ z.id = y.id := by
    intro a y h
    rw [List.getElem?_set] at h
    split at h
    · rename_i e
      subst e
      split at h
      · injection h with h; subst h; exact ⟨j, hi, hx.symm⟩
      · cases h
    · exact ⟨y, h, rfl⟩
  intro a b y z hy hz e
  obtain ⟨y', h1, e1⟩ := key a y hy
  obtain ⟨z', h2, e2⟩ := key b z hz
  exact hu a b y' z' h1 h2 (by rw [e1, e2, e])
end Go.Proofs.Ytijdjcmdmppgaaa
