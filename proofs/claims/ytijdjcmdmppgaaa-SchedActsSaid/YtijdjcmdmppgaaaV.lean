/- The batch, in plain lists. -/
import Derived.Test.YtijdjcmdmppgaaaU
namespace Go.Proofs.Ytijdjcmdmppgaaa
open Go.RowKit
set_option linter.unusedVariables false

/-- How many clients below c have any. -/
def some1 (P : Nat → List Jb) : Nat → Nat
  | 0 => 0
  | c + 1 => some1 P c + ((P c).take 1).length
/-- The oldest ones of the clients below c. -/
def firsts (P : Nat → List Jb) : Nat → List Jb
  | 0 => []
  | c + 1 => firsts P c ++ (P c).take 1
theorem firsts_len (P : Nat → List Jb) : ∀ c, (firsts P c).length = some1 P c
  | 0 => rfl
  | c + 1 => by rw [firsts, List.length_append, firsts_len P c, some1]
theorem firsts_mem {P : Nat → List Jb} {C c : Nat} {j : Jb} (hc : c < C) (hj : (P c)[0]? = some j) : j ∈ firsts P C := by
  induction C with
  | zero => omega
  | succ C ih =>
    rw [firsts]
    by_cases h : c = C
    · subst h
      refine List.mem_append_right _ ?_
      cases hL : P c with
      | nil => rw [hL] at hj; cases hj
      | cons y t => rw [hL] at hj; injection hj with hj; simp [hj]
    · exact List.mem_append_left _ (ih (by omega))

theorem headsP_lo (P : Nat → List Jb) {C nx : Nat} (hnx : nx < C) : ∀ i, i ≤ C - nx → (headsP P C nx i).length + some1 P nx = some1 P (nx + i)
  | 0, _ => by simp [headsP]
  | i + 1, h => by
    have ih := headsP_lo P hnx i (by omega)
    rw [headsP, List.length_append, Nat.mod_eq_of_lt (show nx + i < C by omega), show nx + (i + 1) = (nx + i) + 1 from rfl, some1]
    omega
theorem headsP_hi (P : Nat → List Jb) {C nx : Nat} (hnx : nx < C) : ∀ j, j ≤ nx → (headsP P C nx (C - nx + j)).length + some1 P nx = some1 P C + some1 P j
  | 0, _ => by
    have := headsP_lo P hnx (C - nx) (Nat.le_refl _)
    rw [show nx + (C - nx) = C from by omega] at this
    rw [Nat.add_zero, this]; simp [some1]
  | j + 1, h => by
    have ih := headsP_hi P hnx j (by omega)
    rw [show C - nx + (j + 1) = (C - nx + j) + 1 from rfl, headsP, List.length_append]
    have e : (nx + (C - nx + j)) % C = j := by rw [show nx + (C - nx + j) = j + C from by omega, Nat.add_mod_right, Nat.mod_eq_of_lt (by omega)]
    rw [e, some1]
    omega
theorem headsP_len (P : Nat → List Jb) {C nx : Nat} (hnx : nx < C) : (headsP P C nx C).length = some1 P C := by
  have := headsP_hi P hnx nx (Nat.le_refl _)
  rw [show C - nx + nx = C from by omega] at this
  omega

theorem pkP_len (b : Nat) (B : List Jb) (x : Jb) : (pkP b B x).length ≤ B.length + 1 ∧ B.length ≤ (pkP b B x).length ∧ (B.length ≤ b → (pkP b B x).length ≤ b) := by
  unfold pkP
  split
  · exact ⟨by omega, by omega, by omega⟩
  · rename_i hb
    cases B with
    | nil => simp at hb ⊢; omega
    | cons y t =>
      simp only [List.length_cons] at hb ⊢
      split
      · simp; omega
      · simp
theorem picksP_le (b : Nat) (xs : List Jb) : (picksP b xs).length ≤ b ∧ (picksP b xs).length ≤ xs.length := by
  suffices ∀ B : List Jb, B.length ≤ b → (xs.foldl (pkP b) B).length ≤ b ∧ (xs.foldl (pkP b) B).length ≤ B.length + xs.length by
    have := this [] (by simp)
    simpa [picksP] using this
  induction xs with
  | nil => intro B hB; simpa using hB
  | cons x xs ih =>
    intro B hB
    have h := pkP_len b B x
    have := ih (pkP b B x) (h.2.2 hB)
    simp only [List.foldl_cons, List.length_cons]
    omega
theorem picksP_pos {b : Nat} (hb : 1 ≤ b) {xs : List Jb} (hx : xs ≠ []) : 1 ≤ (picksP b xs).length := by
  cases xs with
  | nil => exact absurd rfl hx
  | cons x xs =>
    suffices ∀ (ys : List Jb) (B : List Jb), B.length ≤ (ys.foldl (pkP b) B).length by
      have h := this xs (pkP b [] x)
      have h0 : (pkP b [] x).length = 1 := by
        unfold pkP
        rw [if_neg (by simp; omega)]; rfl
      show 1 ≤ (xs.foldl (pkP b) (pkP b [] x)).length
      omega
    intro ys
    induction ys with
    | nil => intro B; simp
    | cons y ys ih => intro B; exact Nat.le_trans (pkP_len b B y).2.1 (ih _)

/-- What is known of a batch. -/
structure IsB (C : Nat) (P : Nat → List Jb) (B : List Jb) : Prop where
  head : ∀ j ∈ B, j.client < C ∧ (P j.client)[0]? = some j
  pair : B.Pairwise (fun j j' => j.client ≠ j'.client)
  ids : B.Pairwise (fun j j' => j.id ≠ j'.id)

theorem Qm.batch {w : World} {S : Nat → Prop} {q C k bt nx M : Nat} {P : Nat → List Jb} (h : Qm w S q C k bt nx M P) : IsB C P (batchP P C nx bt) := by
  have hu := h
  obtain ⟨o, L, hq, hs⟩ := h
  obtain ⟨A, cp, hq⟩ := hq
  have hC : 0 < C := by have := hq.hC; omega
  have hIB : IsBatch C L (picks bt (heads L C nx C)) := isBatch hq.hnx hq.hcl
  have e : (picks bt (heads L C nx C)).map (·.2) = batchP P C nx bt := by rw [batchP, map_picks, hs.heads hC]
  have hh : ∀ j ∈ batchP P C nx bt, j.client < C ∧ (P j.client)[0]? = some j := by
    intro j hj
    rw [← e] at hj
    obtain ⟨p, hp, rfl⟩ := List.mem_map.1 hj
    obtain ⟨h1, h2⟩ := hIB.head p hp
    refine ⟨h1, ?_⟩
    rw [← hs _ h1, List.getElem?_map, h2]; rfl
  have hp : (batchP P C nx bt).Pairwise (fun j j' => j.client ≠ j'.client) := by
    rw [← e, List.pairwise_map]; exact hIB.pair
  refine ⟨hh, hp, ?_⟩
  refine (List.pairwise_iff_getElem.2 fun i j hi hj hij heq => ?_)
  have h1 := hh _ (List.getElem_mem hi)
  have h2 := hh _ (List.getElem_mem hj)
  exact List.pairwise_iff_getElem.1 hp i j hi hj hij (hu.uniq h1.1 h2.1 h1.2 h2.2 heq).1

theorem tot_upd (P : Nat → List Jb) (c : Nat) (l : List Jb) : ∀ C, totP (upd P c l) C + (if c < C then (P c).length else 0) = totP P C + (if c < C then l.length else 0)
  | 0 => by simp [totP]
  | C + 1 => by
    have ih := tot_upd P c l C
    rw [totP, totP]
    by_cases h : c = C
    · subst h
      rw [upd_same]
      rw [if_neg (by omega), if_neg (by omega)] at ih
      rw [if_pos (by omega), if_pos (by omega)]
      omega
    · rw [upd_ne _ _ (Ne.symm h)]
      by_cases h2 : c < C
      · rw [if_pos h2, if_pos h2] at ih
        rw [if_pos (by omega), if_pos (by omega)]
        omega
      · rw [if_neg h2, if_neg h2] at ih
        rw [if_neg (by omega), if_neg (by omega)]
        omega

theorem tot_hits (k C : Nat) (B : List Jb) : ∀ P : Nat → List Jb, (∀ j ∈ B, j.client < C ∧ (P j.client)[0]? = some j) → B.Pairwise (fun j j' => j.client ≠ j'.client) → totP (hitsP k P B) C + (doneP k B).length = totP P C := by
  induction B with
  | nil => intro P _ _; simp [hitsP, doneP]
  | cons j B ih =>
    intro P hh hp
    rw [List.pairwise_cons] at hp
    obtain ⟨hc, h0⟩ := hh j (List.mem_cons_self ..)
    have hne : 1 ≤ (P j.client).length := by
      cases hL : P j.client with
      | nil => rw [hL] at h0; cases h0
      | cons y t => simp
    have ih' := ih (hitP k P j) (fun x hx => by
      obtain ⟨h1, h2⟩ := hh x (List.mem_cons_of_mem _ hx)
      refine ⟨h1, ?_⟩
      rw [hitP, upd_ne _ _ (Ne.symm (hp.1 x hx))]
      exact h2) hp.2
    have ht := tot_upd P j.client (if j.bytes ≤ k then (P j.client).tail else { j with bytes := j.bytes - k } :: (P j.client).tail) C
    rw [if_pos hc, if_pos hc] at ht
    show totP (hitsP k (hitP k P j) B) C + _ = _
    rw [show hitP k P j = upd P j.client (if j.bytes ≤ k then (P j.client).tail else { j with bytes := j.bytes - k } :: (P j.client).tail) from rfl] at ih' ⊢
    by_cases hb : j.bytes ≤ k
    · have e : doneP k (j :: B) = j :: doneP k B := by simp [doneP, hb]
      rw [e]
      simp only [hb, if_true, List.length_tail, List.length_cons] at ht ih' ⊢
      omega
    · have e : doneP k (j :: B) = doneP k B := by simp [doneP, hb]
      rw [e]
      simp only [hb, if_false, List.length_tail, List.length_cons] at ht ih' ⊢
      omega

theorem some1_zero (P : Nat → List Jb) : ∀ C, some1 P C = 0 ↔ totP P C = 0
  | 0 => by simp [some1, totP]
  | C + 1 => by
    have ih := some1_zero P C
    rw [some1, totP]
    simp only [List.length_take]
    omega

/-- A tick's lists. -/
theorem batch_facts {C nx bt : Nat} (hnx : nx < C) (hbt : 1 ≤ bt) (P : Nat → List Jb) :
    (batchP P C nx bt).length ≤ bt ∧ (batchP P C nx bt).length ≤ some1 P C ∧ ((batchP P C nx bt).length = 0 ↔ totP P C = 0) := by
  have h := picksP_le bt (headsP P C nx C)
  rw [headsP_len P hnx] at h
  refine ⟨h.1, h.2, ?_⟩
  constructor
  · intro h0
    rw [← some1_zero, ← headsP_len P hnx]
    refine Classical.byContradiction fun hn => ?_
    have := picksP_pos hbt (xs := headsP P C nx C) (fun e => hn (by rw [e]; rfl))
    unfold batchP at h0; omega
  · intro h0
    rw [← some1_zero] at h0
    unfold batchP; omega
end Go.Proofs.Ytijdjcmdmppgaaa
