/- A request leaves in time: the plain law. -/
import Derived.Test.YtijdjcmdmppgaaaX
namespace Go.Proofs.Ytijdjcmdmppgaaa
open Go.RowKit
set_option linter.unusedVariables false

/-- How many times it must go on. -/
def goes (k b : Nat) : Nat := max ((b + k - 1) / k) 1
theorem goes_one {k b : Nat} (hk : 1 ≤ k) : goes k b = 1 ↔ b ≤ k := by
  unfold goes
  constructor
  · intro h
    refine Classical.byContradiction fun hn => ?_
    have : 2 ≤ (b + k - 1) / k := (Nat.le_div_iff_mul_le (by omega)).2 (by omega)
    omega
  · intro h
    have : (b + k - 1) / k ≤ 1 := by
      refine Nat.lt_succ_iff.1 ((Nat.div_lt_iff_lt_mul (by omega)).2 ?_)
      omega
    omega
theorem goes_step {k b : Nat} (hk : 1 ≤ k) (h : ¬ b ≤ k) : goes k b = goes k (b - k) + 1 := by
  unfold goes
  have e : (b + k - 1) / k = (b - k + k - 1) / k + 1 := by
    rw [← Nat.add_div_right _ (show 0 < k by omega)]
    congr 1; omega
  have : 1 ≤ (b - k + k - 1) / k := (Nat.le_div_iff_mul_le (by omega)).2 (by omega)
  omega
theorem goes_le {k b : Nat} (hk : k ≤ 50) (hk1 : 1 ≤ k) (hb : b ≤ 100) : goes k b ≤ (100 + k - 1) / k := by
  unfold goes
  have h1 : (b + k - 1) / k ≤ (100 + k - 1) / k := Nat.div_le_div_right (by omega)
  have h2 : 1 ≤ (100 + k - 1) / k := (Nat.le_div_iff_mul_le (by omega)).2 (by omega)
  omega
theorem goes_pos (k b : Nat) : 1 ≤ goes k b := by unfold goes; omega
/-- All of them. -/
def work (k : Nat) : List Jb → Nat
  | [] => 0
  | j :: l => goes k j.bytes + work k l
theorem work_le {k h : Nat} : ∀ l : List Jb, (∀ j ∈ l, goes k j.bytes ≤ h) → work k l ≤ l.length * h
  | [], _ => by simp [work]
  | j :: l, H => by
    have h1 := work_le l (fun x hx => H x (List.mem_cons_of_mem _ hx))
    have h2 := H j (List.mem_cons_self ..)
    rw [work, List.length_cons, Nat.succ_mul]; omega

theorem hitsP_other (k : Nat) (B : List Jb) (c : Nat) : ∀ P : Nat → List Jb, (∀ j ∈ B, j.client ≠ c) → hitsP k P B c = P c := by
  induction B with
  | nil => intro P _; rfl
  | cons j B ih =>
    intro P h
    show hitsP k (hitP k P j) B c = P c
    rw [ih _ (fun x hx => h x (List.mem_cons_of_mem _ hx)), hitP, upd_ne _ _ (Ne.symm (h j (List.mem_cons_self ..)))]
theorem hitsP_hit (k : Nat) (B : List Jb) (j : Jb) : ∀ P : Nat → List Jb, B.Pairwise (fun j j' => j.client ≠ j'.client) → j ∈ B →
    hitsP k P B j.client = if j.bytes ≤ k then (P j.client).tail else { j with bytes := j.bytes - k } :: (P j.client).tail := by
  induction B with
  | nil => intro P _ h; simp at h
  | cons x B ih =>
    intro P hp hj
    rw [List.pairwise_cons] at hp
    show hitsP k (hitP k P x) B j.client = _
    rcases List.mem_cons.1 hj with rfl | hj
    · rw [hitsP_other k B j.client _ (fun y hy => Ne.symm (hp.1 y hy)), hitP, upd_same]
    · rw [ih _ hp.2 hj, hitP, upd_ne _ _ (Ne.symm (hp.1 j hj))]

/-- What a tick does to one client. -/
theorem tick_client {C k : Nat} {P : Nat → List Jb} {B : List Jb} (hB : IsB C P B) (c : Nat) :
    ((∀ j ∈ B, j.client ≠ c) ∧ hitsP k P B c = P c) ∨ ∃ j t, P c = j :: t ∧ j ∈ B ∧ j.client = c ∧ hitsP k P B c = if j.bytes ≤ k then t else { j with bytes := j.bytes - k } :: t := by
  by_cases h : ∃ j ∈ B, j.client = c
  · obtain ⟨j, hj, rfl⟩ := h
    obtain ⟨_, h0⟩ := hB.head j hj
    cases hL : P j.client with
    | nil => rw [hL] at h0; cases h0
    | cons y t =>
      rw [hL] at h0
      injection h0 with h0
      subst h0
      refine .inr ⟨y, t, rfl, hj, rfl, ?_⟩
      rw [hitsP_hit k B y P hB.pair hj, hL]; rfl
  · have h' : ∀ j ∈ B, j.client ≠ c := fun j hj e => h ⟨j, hj, e⟩
    exact .inl ⟨h', hitsP_other k B c P h'⟩

/-- The first one of the batch. -/
theorem picks_head {b : Nat} (hb : 1 ≤ b) (x : Jb) (xs : List Jb) : ∃ t, picksP b (x :: xs) = x :: t := by
  suffices ∀ (ys : List Jb) (t : List Jb), ∃ t', ys.foldl (pkP b) (x :: t) = x :: t' by
    have h0 : pkP b [] x = [x] := by unfold pkP; rw [if_neg (by simp; omega)]
    obtain ⟨t, ht⟩ := this xs []
    exact ⟨t, by show xs.foldl (pkP b) (pkP b [] x) = _; rw [h0]; exact ht⟩
  intro ys
  induction ys with
  | nil => intro t; exact ⟨t, rfl⟩
  | cons y ys ih =>
    intro t
    have : ∃ t', pkP b (x :: t) y = x :: t' := by
      unfold pkP
      split
      · exact ⟨t, rfl⟩
      · dsimp only
        split
        · exact ⟨t ++ [y], rfl⟩
        · exact ⟨t, rfl⟩
    obtain ⟨t', ht'⟩ := this
    rw [List.foldl_cons, ht']
    exact ih t'
theorem heads_first (P : Nat → List Jb) (C nx : Nat) : ∀ (i d : Nat), d < i → P ((nx + d) % C) ≠ [] → ∃ (e : Nat) (j : Jb) (t : List Jb), e ≤ d ∧ (P ((nx + e) % C))[0]? = some j ∧ headsP P C nx i = j :: t
  | 0, d, h, _ => by omega
  | i + 1, d, h, hne => by
    rw [headsP]
    by_cases hd : d < i
    · obtain ⟨e, j, t, h1, h2, h3⟩ := heads_first P C nx i d hd hne
      exact ⟨e, j, _, h1, h2, by rw [h3]; rfl⟩
    · obtain rfl : d = i := by omega
      cases hh : headsP P C nx d with
      | nil =>
        cases hL : P ((nx + d) % C) with
        | nil => exact absurd hL hne
        | cons y t => exact ⟨d, y, _, Nat.le_refl _, by rw [hL]; rfl, rfl⟩
      | cons x xs =>
        -- an earlier client has one
        have : ∃ e, e < d ∧ P ((nx + e) % C) ≠ [] := by
          refine Classical.byContradiction fun hn => ?_
          have hz : ∀ m, m ≤ d → headsP P C nx m = [] := by
            intro m
            induction m with
            | zero => intro _; rfl
            | succ m ih =>
              intro hm
              have : P ((nx + m) % C) = [] := Classical.byContradiction fun hx => hn ⟨m, by omega, hx⟩
              rw [headsP, ih (by omega), this]; rfl
          rw [hz d (Nat.le_refl _)] at hh
          cases hh
        obtain ⟨e, he, hne'⟩ := this
        obtain ⟨e', j, t, h1, h2, h3⟩ := heads_first P C nx d e he hne'
        rw [hh] at h3
        exact ⟨e', j, _, by omega, h2, by rw [h3]; rfl⟩

/-- How far a client is from who is next. -/
def dist (nx c : Nat) : Nat := (c + 4 - nx) % 4

/-- A tick takes a client's turn, or brings it nearer. -/
theorem turn {w : World} {S : Nat → Prop} {q k bt nx M : Nat} {P : Nat → List Jb} (hq : Qm w S q 4 k bt nx M P) {c : Nat} (hc : c < 4) (hne : P c ≠ []) (B : List Jb) (hB : B = batchP P 4 nx bt) :
    dist (nextP 4 nx B) c ≤ 3 ∧ ((∀ j ∈ B, j.client ≠ c) → dist (nextP 4 nx B) c < dist nx c) := by
  have hnums := hq.nums
  have hnx : nx < 4 := hnums.2.2.1
  refine ⟨by unfold dist; omega, fun hno => ?_⟩
  have hd : dist nx c < 4 := by unfold dist; omega
  have e0 : (nx + dist nx c) % 4 = c := by unfold dist; omega
  obtain ⟨e, j, t, h1, h2, h3⟩ := heads_first P 4 nx 4 (dist nx c) hd (by rw [e0]; exact hne)
  obtain ⟨t', ht'⟩ := picks_head (b := bt) hnums.2.2.2.2.2.1 j t
  have hB' : B = j :: t' := by rw [hB, batchP, h3, ht']
  have hjc : j.client = (nx + e) % 4 := hq.client (Nat.mod_lt _ (by omega)) (List.mem_of_getElem? h2)
  have hjne : j.client ≠ c := hno j (by rw [hB']; simp)
  have hn : nextP 4 nx B = (j.client + 1) % 4 := by rw [hB']; rfl
  rw [hn, hjc]
  rw [hjc] at hjne
  unfold dist at *
  omega

/-- What is kept: no client has more than three, none is long. -/
def Fit (P : Nat → List Jb) : Prop := ∀ c, c < 4 → (P c).length ≤ 3 ∧ ∀ j ∈ P c, j.bytes ≤ 100
/-- The request 1 is on its way: n ticks are over, no more than top are. -/
def Way (k own nx n top : Nat) (P : Nat → List Jb) : Prop :=
  ∃ (pre : List Jb) (j1 : Jb) (post : List Jb), P own = pre ++ j1 :: post ∧ j1.id = 1 ∧ n + 4 * (work k pre + goes k j1.bytes - 1) + dist nx own + 1 ≤ top

/-- What one act does. -/
def ActR (P P' : Nat → List Jb) : Prop :=
  P' = P ∨ (∃ (c : Nat) (j : Jb), c < 4 ∧ (P c).length < 3 ∧ j.bytes ≤ 100 ∧ P' = upd P c (P c ++ [j])) ∨ (∃ (c i : Nat) (j : Jb), c < 4 ∧ (P c)[i]? = some j ∧ j.id ≠ 1 ∧ P' = upd P c ((P c).eraseIdx i))
theorem Fit.act {P P' : Nat → List Jb} (h : Fit P) (hr : ActR P P') : Fit P' := by
  rcases hr with rfl | ⟨c, j, hc, hl, hb, rfl⟩ | ⟨c, i, j, hc, hi, hj, rfl⟩
  · exact h
  · intro d hd
    by_cases hdc : d = c
    · subst hdc
      rw [upd_same]
      refine ⟨by simp; omega, fun x hx => ?_⟩
      rcases List.mem_append.1 hx with hx | hx
      · exact (h d hd).2 x hx
      · simp at hx; subst hx; exact hb
    · rw [upd_ne _ _ hdc]; exact h d hd
  · intro d hd
    by_cases hdc : d = c
    · subst hdc
      rw [upd_same]
      refine ⟨?_, fun x hx => (h d hd).2 x (List.mem_of_mem_eraseIdx hx)⟩
      have := (h d hd).1
      rw [List.length_eraseIdx]; split <;> omega
    · rw [upd_ne _ _ hdc]; exact h d hd
theorem work_erase (k : Nat) : ∀ (l : List Jb) (i : Nat), work k (l.eraseIdx i) ≤ work k l
  | [], i => by simp
  | j :: l, 0 => by simp [work]
  | j :: l, i + 1 => by have := work_erase k l i; simp only [List.eraseIdx_cons_succ, work]; omega
theorem Way.act {k own nx n top : Nat} {P P' : Nat → List Jb} (h : Way k own nx n top P) (hr : ActR P P') : Way k own nx n top P' := by
  obtain ⟨pre, j1, post, e, h1, h2⟩ := h
  rcases hr with rfl | ⟨c, j, hc, hl, hb, rfl⟩ | ⟨c, i, j, hc, hi, hj, rfl⟩
  · exact ⟨pre, j1, post, e, h1, h2⟩
  · by_cases hoc : own = c
    · subst hoc
      exact ⟨pre, j1, post ++ [j], by rw [upd_same, e]; simp, h1, h2⟩
    · exact ⟨pre, j1, post, by rw [upd_ne _ _ hoc]; exact e, h1, h2⟩
  · by_cases hoc : own = c
    · subst hoc
      rw [e] at hi
      have hlen : i ≠ pre.length := by
        rintro rfl
        rw [List.getElem?_append_right (Nat.le_refl _)] at hi
        simp at hi
        exact hj (by rw [← hi]; exact h1)
      rcases Nat.lt_or_ge i pre.length with hlt | hge
      · refine ⟨pre.eraseIdx i, j1, post, by rw [upd_same, e, List.eraseIdx_append_of_lt_length hlt], h1, ?_⟩
        have := work_erase k pre i
        omega
      · refine ⟨pre, j1, post.eraseIdx (i - pre.length - 1), ?_, h1, h2⟩
        rw [upd_same, e, List.eraseIdx_append_of_length_le hge, show i - pre.length = (i - pre.length - 1) + 1 from by omega, List.eraseIdx_cons_succ]
        rfl
    · exact ⟨pre, j1, post, by rw [upd_ne _ _ hoc]; exact e, h1, h2⟩

theorem Fit.tick {k : Nat} {P : Nat → List Jb} {B : List Jb} (h : Fit P) (hB : IsB 4 P B) : Fit (hitsP k P B) := by
  intro c hc
  obtain ⟨h1, h2⟩ := h c hc
  rcases tick_client (k := k) hB c with ⟨_, e⟩ | ⟨j, t, e1, _, _, e2⟩
  · rw [e]; exact ⟨h1, h2⟩
  · rw [e2]
    rw [e1] at h1 h2
    simp at h1
    split
    · exact ⟨by omega, fun x hx => h2 x (List.mem_cons_of_mem _ hx)⟩
    · refine ⟨by simp; omega, fun x hx => ?_⟩
      rcases List.mem_cons.1 hx with rfl | hx
      · have := h2 j (List.mem_cons_self ..)
        show j.bytes - k ≤ 100
        omega
      · exact h2 x (List.mem_cons_of_mem _ hx)

/-- A tick in which request 1 does not leave brings it on. -/
theorem Way.tick {w : World} {S : Nat → Prop} {q k bt nx M own n top : Nat} {P : Nat → List Jb} (hq : Qm w S q 4 k bt nx M P) (hown : own < 4) (h : Way k own nx n top P) (B : List Jb) (hB : B = batchP P 4 nx bt) (hno : (1 : Int) ∉ (doneP k B).map (·.id)) :
    Way k own (nextP 4 nx B) (n + 1) top (hitsP k P B) := by
  obtain ⟨pre, j1, post, e, h1, h2⟩ := h
  have hk : 1 ≤ k := hq.nums.2.2.2.1
  have hIB := hq.batch
  rw [← hB] at hIB
  obtain ⟨t1, t2⟩ := turn hq hown (by rw [e]; simp) B hB
  rcases tick_client (k := k) hIB own with ⟨hn, eo⟩ | ⟨j, t, e1, hj, hjc, e2⟩
  · have := t2 hn
    exact ⟨pre, j1, post, by rw [eo]; exact e, h1, by omega⟩
  · cases pre with
    | nil =>
      rw [e1] at e
      injection e with ej et
      subst ej
      have hbk : ¬ j.bytes ≤ k := fun hb => hno (List.mem_map.2 ⟨j, List.mem_filter.2 ⟨hj, by simpa using hb⟩, h1⟩)
      refine ⟨[], { j with bytes := j.bytes - k }, post, by rw [e2, if_neg hbk, et]; rfl, h1, ?_⟩
      have hs := goes_step hk hbk
      have hp := goes_pos k (j.bytes - k)
      simp only [work] at h2 ⊢
      omega
    | cons x pre =>
      rw [e1] at e
      injection e with ej et
      subst ej
      have hp := goes_pos k j1.bytes
      by_cases hbk : j.bytes ≤ k
      · refine ⟨pre, j1, post, by rw [e2, if_pos hbk, et]; rfl, h1, ?_⟩
        have := (goes_one hk).2 hbk
        simp only [work] at h2
        omega
      · refine ⟨{ j with bytes := j.bytes - k } :: pre, j1, post, by rw [e2, if_neg hbk, et]; rfl, h1, ?_⟩
        have hs := goes_step hk hbk
        simp only [work] at h2 ⊢
        omega
end Go.Proofs.Ytijdjcmdmppgaaa
