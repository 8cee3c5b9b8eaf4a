/- What a tick does to the lists; a request's bytes, and who is next, are set. -/
import Derived.Test.YtijdjcmdmppgaaaN
namespace Go.Proofs.Ytijdjcmdmppgaaa
open Go.RowKit
set_option linter.unusedVariables false

section
variable {w : World} {S : Nat → Prop} {q o C k bt nx M : Nat} {A : Nat → Option Addr} {cp : Nat → Nat} {L : Nat → List (Nat × Jb)}
theorem map_set_pv (l : List (Nat × Jb)) (i : Nat) (p x : Nat × Jb) (hi : l[i]? = some p) (hx : x.1 = p.1) : (l.set i x).map pv = l.map pv := by
  apply List.ext_getElem?
  intro j
  simp only [List.getElem?_map, List.getElem?_set]
  split
  · rename_i h
    subst h
    split
    · rw [hi]; simp [pv, hx]
    · rename_i h; rw [List.getElem?_eq_none (by omega)]
  · rfl

theorem QueA.setb (h : QueA w S q o C k bt nx M A cp L) (c : Nat) (hc : c < C) (i : Nat) (p : Nat × Jb) (hi : (L c)[i]? = some p) (v : Nat) (hv : v ≤ 9223372036854775807) :
    QueA (w.setCell ⟨p.1, 3, none⟩ (.int .i64 v)) S q o C k bt nx M A cp (upd L c ((L c).set i (p.1, { p.2 with bytes := v }))) := by
  have hpL : p ∈ L c := List.mem_of_getElem? hi
  have hb := h.hj c hc p hpL
  have hT : Touch (fun b => b = p.1) w (w.setCell ⟨p.1, 3, none⟩ (.int .i64 v)) := (Touch.refl (fun b => b = p.1) w).setCell (p := ⟨p.1, 3, none⟩) (.inr rfl) _
  obtain ⟨cs, ho, hcs, hce⟩ := h.ho
  have get : ∀ (d j : Nat) (x : Nat × Jb), (upd L c ((L c).set i (p.1, { p.2 with bytes := v })) d)[j]? = some x → (d = c ∧ j = i ∧ x = (p.1, { p.2 with bytes := v })) ∨ ((L d)[j]? = some x ∧ ¬ (d = c ∧ j = i)) := by
    intro d j x hx
    by_cases hdc : d = c
    · subst hdc
      rw [upd_same, List.getElem?_set] at hx
      by_cases hij : i = j
      · subst hij
        rw [if_pos rfl] at hx
        split at hx
        · injection hx with hx; exact .inl ⟨rfl, rfl, hx.symm⟩
        · cases hx
      · rw [if_neg hij] at hx
        exact .inr ⟨hx, fun ⟨_, e⟩ => hij e.symm⟩
    · rw [upd_ne _ _ hdc] at hx
      exact .inr ⟨hx, fun ⟨e, _⟩ => hdc e⟩
  have gmem : ∀ (d : Nat) (x : Nat × Jb), x ∈ upd L c ((L c).set i (p.1, { p.2 with bytes := v })) d → ∃ y, y ∈ L d ∧ x.1 = y.1 ∧ x.2.client = y.2.client ∧ (x = y ∨ (d = c ∧ x = (p.1, { p.2 with bytes := v }))) := by
    intro d x hx
    obtain ⟨j, hj⟩ := List.getElem?_of_mem hx
    rcases get d j x hj with ⟨rfl, rfl, rfl⟩ | ⟨hj', _⟩
    · exact ⟨p, hpL, rfl, rfl, .inr ⟨rfl, rfl⟩⟩
    · exact ⟨x, List.mem_of_getElem? hj', rfl, rfl, .inl rfl⟩
  have old : ∀ (d j : Nat) (x : Nat × Jb), (upd L c ((L c).set i (p.1, { p.2 with bytes := v })) d)[j]? = some x → ∃ y, (L d)[j]? = some y ∧ x.1 = y.1 ∧ x.2.id = y.2.id := by
    intro d j x hx
    rcases get d j x hx with ⟨rfl, rfl, rfl⟩ | ⟨hj', _⟩
    · exact ⟨p, hi, rfl, rfl⟩
    · exact ⟨x, hj', rfl, rfl⟩
  have hlen : ∀ d, (upd L c ((L c).set i (p.1, { p.2 with bytes := v })) d).length = (L d).length := by
    intro d
    by_cases hdc : d = c
    · subst hdc; rw [upd_same, List.length_set]
    · rw [upd_ne _ _ hdc]
  have hmap : ∀ d, (upd L c ((L c).set i (p.1, { p.2 with bytes := v })) d).map pv = (L d).map pv := by
    intro d
    by_cases hdc : d = c
    · subst hdc; rw [upd_same]; exact map_set_pv _ _ p _ hi rfl
    · rw [upd_ne _ _ hdc]
  exact
    { hq := h.hq.touch hT (h.hq.ne_ hb (by decide))
      ho := ⟨cs, ho.touch hT (ho.ne_ hb (by decide)), hcs, fun d hd => by rw [hlen]; exact hce d hd⟩
      hr := fun d hd => by
        rw [hmap]
        exact (h.hr d hd).touch hT (fun a ha e => (h.hr d hd).ne_blk hb (by decide) a ha e)
      hj := fun d hd x hx => by
        obtain ⟨j, hj⟩ := List.getElem?_of_mem hx
        rcases get d j x hj with ⟨rfl, rfl, rfl⟩ | ⟨hj', hne⟩
        · have := hb.set_ 3 (.int .i64 v)
          simpa [jc] using this
        · have hxL := List.mem_of_getElem? hj'
          refine (h.hj d hd x hxL).touch hT (fun e => hne ?_)
          exact h.hd d c j i x p hd hc hj' hi (.inl e)
      hcl := fun d hd x hx => by
        obtain ⟨y, hy, _, e, _⟩ := gmem d x hx
        rw [e]; exact h.hcl d hd y hy
      ha := h.ha
      hd := fun d e j j' x x' hd he hx hx' heq => by
        obtain ⟨y, hy, y1, y2⟩ := old d j x hx
        obtain ⟨y', hy', y1', y2'⟩ := old e j' x' hx'
        exact h.hd d e j j' y y' hd he hy hy' (by rw [← y1, ← y1', ← y2, ← y2']; exact heq)
      hC := h.hC, hnx := h.hnx, hk := h.hk, hbt := h.hbt
      hb := fun d hd x hx => by
        obtain ⟨y, hy, _, _, e | ⟨_, e⟩⟩ := gmem d x hx
        · rw [e]; exact h.hb d hd y hy
        · rw [e]; exact hv
      hl := fun d hd => by rw [hlen]; exact h.hl d hd
      sq := h.sq, so := h.so, sa := h.sa
      sj := fun d hd x hx => by
        obtain ⟨y, hy, e, _⟩ := gmem d x hx
        rw [e]; exact h.sj d hd y hy
      slt := fun b hb => by
        rw [show (w.setCell ⟨p.1, 3, none⟩ (.int .i64 v)).heap.size = w.heap.size from by simp [World.setCell]]
        exact h.slt b hb }

theorem QueA.setn (h : QueA w S q o C k bt nx M A cp L) (n : Nat) (hn : n < C) : QueA (w.setCell ⟨q, 3, none⟩ (.int .i64 n)) S q o C k bt n M A cp L := by
  have hT : Touch (fun b => b = q) w (w.setCell ⟨q, 3, none⟩ (.int .i64 n)) := (Touch.refl (fun b => b = q) w).setCell (p := ⟨q, 3, none⟩) (.inr rfl) _
  obtain ⟨cs, ho, hcs, hce⟩ := h.ho
  exact
    { hq := by
        have := h.hq.set_ 3 (.int .i64 n)
        simpa using this
      ho := ⟨cs, ho.touch hT (ho.ne_ h.hq (by decide)), hcs, hce⟩
      hr := fun d hd => (h.hr d hd).touch hT (fun a ha e => (h.hr d hd).ne_blk h.hq (by decide) a ha e)
      hj := fun d hd x hx => (h.hj d hd x hx).touch hT ((h.hj d hd x hx).ne_ h.hq (by decide))
      hcl := h.hcl, ha := h.ha, hd := h.hd, hC := h.hC, hnx := hn, hk := h.hk, hbt := h.hbt, hb := h.hb, hl := h.hl, sq := h.sq, so := h.so, sa := h.sa, sj := h.sj
      slt := fun b hb => by
        rw [show (w.setCell ⟨q, 3, none⟩ (.int .i64 n)).heap.size = w.heap.size from by simp [World.setCell]]
        exact h.slt b hb }
end

/-! ### The lists -/
/-- A request of the batch goes on. -/
def hitL (k : Nat) (L : Nat → List (Nat × Jb)) (p : Nat × Jb) : Nat → List (Nat × Jb) :=
  upd L p.2.client (if p.2.bytes ≤ k then (L p.2.client).tail else (p.1, { p.2 with bytes := p.2.bytes - k }) :: (L p.2.client).tail)
/-- So does the batch. -/
def hits (k : Nat) (L : Nat → List (Nat × Jb)) (B : List (Nat × Jb)) : Nat → List (Nat × Jb) := B.foldl (hitL k) L
theorem hits_snoc (k : Nat) (L : Nat → List (Nat × Jb)) (B : List (Nat × Jb)) (p : Nat × Jb) : hits k L (B ++ [p]) = hitL k (hits k L B) p := by simp [hits]
theorem hits_other (k : Nat) (L : Nat → List (Nat × Jb)) (B : List (Nat × Jb)) (c : Nat) (h : ∀ p ∈ B, p.2.client ≠ c) : hits k L B c = L c := by
  suffices ∀ L, (B.foldl (hitL k) L) c = L c from this L
  induction B with
  | nil => intro L; rfl
  | cons p B ih =>
    intro L
    rw [List.foldl_cons, ih (fun x hx => h x (List.mem_cons_of_mem _ hx)), hitL, upd_ne _ _ (Ne.symm (h p (List.mem_cons_self ..)))]

theorem picks_sub (b : Nat) (xs : List (Nat × Jb)) : (picks b xs).Sublist xs := by
  suffices ∀ P, (xs.foldl (pk b) P).Sublist (P ++ xs) by simpa [picks] using this []
  induction xs with
  | nil => intro P; simp
  | cons x xs ih =>
    intro P
    refine (ih (pk b P x)).trans ?_
    have : (pk b P x).Sublist (P ++ [x]) := by
      unfold pk
      split
      · exact List.sublist_append_left _ _
      · cases P with
        | nil => exact List.Sublist.refl _
        | cons y t =>
          dsimp only
          split
          · exact List.Sublist.refl _
          · exact List.sublist_append_left _ _
    have h2 := this.append_right xs
    simpa using h2

theorem mod_inj {C nx i j : Nat} (hnx : nx < C) (hi : i < C) (hj : j < C) (h : (nx + i) % C = (nx + j) % C) : i = j := by
  have e : ∀ x, x < C → (nx + x) % C = if nx + x < C then nx + x else nx + x - C := by
    intro x hx
    split
    · exact Nat.mod_eq_of_lt ‹_›
    · rw [Nat.mod_eq_sub_mod (by omega), Nat.mod_eq_of_lt (by omega)]
  rw [e i hi, e j hj] at h
  split at h <;> split at h <;> omega

theorem heads_mem {L : Nat → List (Nat × Jb)} {C nx : Nat} (hC : 0 < C) : ∀ (i : Nat) (p : Nat × Jb), p ∈ heads L C nx i → ∃ j, j < i ∧ (L ((nx + j) % C))[0]? = some p
  | 0, p, h => by simp [heads] at h
  | i + 1, p, h => by
    rw [heads] at h
    rcases List.mem_append.1 h with h | h
    · obtain ⟨j, hj, e⟩ := heads_mem hC i p h
      exact ⟨j, by omega, e⟩
    · refine ⟨i, by omega, ?_⟩
      cases hL : L ((nx + i) % C) with
      | nil => rw [hL] at h; simp at h
      | cons y t => rw [hL] at h; simp at h; simp [h]

theorem heads_pair {L : Nat → List (Nat × Jb)} {C nx : Nat} (hnx : nx < C) (hcl : ∀ c, c < C → ∀ p ∈ L c, p.2.client = c) : ∀ i, i ≤ C → (heads L C nx i).Pairwise (fun p p' => p.2.client ≠ p'.2.client)
  | 0, _ => by simp [heads]
  | i + 1, hi => by
    have hC : 0 < C := by omega
    have cl : ∀ j p, (L ((nx + j) % C))[0]? = some p → p.2.client = (nx + j) % C := fun j p h => hcl _ (Nat.mod_lt _ hC) p (List.mem_of_getElem? h)
    rw [heads, List.pairwise_append]
    refine ⟨heads_pair hnx hcl i (by omega), ?_, ?_⟩
    · cases hL : L ((nx + i) % C) with
      | nil => simp
      | cons y t => simp
    · intro p hp p' hp' e
      obtain ⟨j, hj, hpj⟩ := heads_mem hC i p hp
      have hp'i : (L ((nx + i) % C))[0]? = some p' := by
        cases hL : L ((nx + i) % C) with
        | nil => rw [hL] at hp'; simp at hp'
        | cons y t => rw [hL] at hp'; simp at hp'; simp [hp']
      rw [cl j p hpj, cl i p' hp'i] at e
      have := mod_inj hnx (by omega) (by omega) e
      omega

/-- What is known of the batch. -/
structure IsBatch (C : Nat) (L : Nat → List (Nat × Jb)) (B : List (Nat × Jb)) : Prop where
  head : ∀ p ∈ B, p.2.client < C ∧ (L p.2.client)[0]? = some p
  pair : B.Pairwise (fun p p' => p.2.client ≠ p'.2.client)

theorem isBatch {L : Nat → List (Nat × Jb)} {C nx bt : Nat} (hnx : nx < C) (hcl : ∀ c, c < C → ∀ p ∈ L c, p.2.client = c) : IsBatch C L (picks bt (heads L C nx C)) := by
  refine ⟨fun p hp => ?_, (heads_pair hnx hcl C (Nat.le_refl _)).sublist (picks_sub _ _)⟩
  obtain ⟨j, hj, e⟩ := heads_mem (by omega) C p (picks_mem _ _ p hp)
  have hlt : (nx + j) % C < C := Nat.mod_lt _ (by omega)
  have hc := hcl _ hlt p (List.mem_of_getElem? e)
  rw [hc]
  exact ⟨hlt, e⟩

/-- The m-th one still stands at the head. -/
theorem IsBatch.still {C k : Nat} {L : Nat → List (Nat × Jb)} {B : List (Nat × Jb)} (h : IsBatch C L B) {m : Nat} {p : Nat × Jb} (hp : B[m]? = some p) : (hits k L (B.take m) p.2.client)[0]? = some p := by
  have hm : m < B.length := by
    rcases Nat.lt_or_ge m B.length with h | h
    · exact h
    · rw [List.getElem?_eq_none h] at hp; cases hp
  rw [hits_other]
  · exact (h.head p (List.mem_of_getElem? hp)).2
  · intro x hx
    obtain ⟨j, hj⟩ := List.getElem?_of_mem hx
    have hjm : j < m := by
      rcases Nat.lt_or_ge j m with h | h
      · exact h
      · rw [List.getElem?_eq_none (by simp; omega)] at hj; cases hj
    rw [List.getElem?_take, if_pos hjm] at hj
    have := List.pairwise_iff_getElem.1 h.pair j m (by omega) hm hjm
    rw [List.getElem?_eq_getElem (by omega)] at hj hp
    injection hj with hj
    injection hp with hp
    rw [hj, hp] at this
    exact this
end Go.Proofs.Ytijdjcmdmppgaaa
