/- The queue without its blocks: the methods' contracts over plain lists. -/
import Derived.Test.YtijdjcmdmppgaaaQ
namespace Go.Proofs.Ytijdjcmdmppgaaa
open Go.RowKit
set_option linter.unusedVariables false

/-! ### The lists -/
def headsP (P : Nat → List Jb) (C nx : Nat) : Nat → List Jb
  | 0 => []
  | i + 1 => headsP P C nx i ++ ((P ((nx + i) % C)).take 1)
def pkP (b : Nat) (P : List Jb) (x : Jb) : List Jb :=
  if P.length = b then P else match P with
    | [] => [x]
    | y :: t => if x.cls = y.cls then y :: t ++ [x] else y :: t
def picksP (b : Nat) (xs : List Jb) : List Jb := xs.foldl (pkP b) []
def hitP (k : Nat) (P : Nat → List Jb) (j : Jb) : Nat → List Jb :=
  upd P j.client (if j.bytes ≤ k then (P j.client).tail else { j with bytes := j.bytes - k } :: (P j.client).tail)
def hitsP (k : Nat) (P : Nat → List Jb) (B : List Jb) : Nat → List Jb := B.foldl (hitP k) P
def doneP (k : Nat) (B : List Jb) : List Jb := B.filter fun j => decide (j.bytes ≤ k)
def nextP (C nx : Nat) : List Jb → Nat
  | [] => nx
  | j :: _ => (j.client + 1) % C
/-- The batch. -/
def batchP (P : Nat → List Jb) (C nx bt : Nat) : List Jb := picksP bt (headsP P C nx C)
def totP (P : Nat → List Jb) : Nat → Nat
  | 0 => 0
  | c + 1 => totP P c + (P c).length

/-- Alike below C. -/
def Same (C : Nat) (L : Nat → List (Nat × Jb)) (P : Nat → List Jb) : Prop := ∀ c, c < C → (L c).map (·.2) = P c

section
variable {C : Nat} {L : Nat → List (Nat × Jb)} {P : Nat → List Jb}
theorem Same.heads (h : Same C L P) (hC : 0 < C) (nx : Nat) : ∀ i, (heads L C nx i).map (·.2) = headsP P C nx i
  | 0 => rfl
  | i + 1 => by rw [Ytijdjcmdmppgaaa.heads, List.map_append, h.heads hC nx i, headsP, ← h _ (Nat.mod_lt _ hC), List.map_take]
theorem map_pk (b : Nat) (B : List (Nat × Jb)) (x : Nat × Jb) : (pk b B x).map (·.2) = pkP b (B.map (·.2)) x.2 := by
  unfold pk pkP
  rw [List.length_map]
  split
  · rfl
  · cases B with
    | nil => rfl
    | cons y t =>
      simp only [List.map_cons]
      split <;> simp
theorem map_picks (b : Nat) (xs : List (Nat × Jb)) : (picks b xs).map (·.2) = picksP b (xs.map (·.2)) := by
  suffices ∀ B, (xs.foldl (pk b) B).map (·.2) = (xs.map (·.2)).foldl (pkP b) (B.map (·.2)) from this []
  induction xs with
  | nil => intro B; rfl
  | cons x xs ih => intro B; rw [List.foldl_cons, ih, map_pk]; rfl
theorem map_done (k : Nat) (B : List (Nat × Jb)) : (doneL k B).map (·.2) = doneP k (B.map (·.2)) := by
  unfold doneL doneP
  rw [List.filter_map]; rfl
theorem map_next (C nx : Nat) (B : List (Nat × Jb)) : nextN C nx B = nextP C nx (B.map (·.2)) := by cases B <;> rfl
theorem Same.upd (h : Same C L P) (c : Nat) (l : List (Nat × Jb)) (m : List Jb) (hl : l.map (·.2) = m) : Same C (upd L c l) (upd P c m) := by
  intro d hd
  by_cases hdc : d = c
  · subst hdc; rw [upd_same, upd_same, hl]
  · rw [upd_ne _ _ hdc, upd_ne _ _ hdc]; exact h d hd
theorem Same.hits (k : Nat) (B : List (Nat × Jb)) : ∀ {L : Nat → List (Nat × Jb)} {P : Nat → List Jb}, Same C L P → (∀ p ∈ B, p.2.client < C) → Same C (hits k L B) (hitsP k P (B.map (·.2))) := by
  induction B with
  | nil => intro L P h _; exact h
  | cons p B ih =>
    intro L P h hB
    have hp := hB p (List.mem_cons_self ..)
    refine ih ?_ (fun x hx => hB x (List.mem_cons_of_mem _ hx))
    refine h.upd p.2.client _ _ ?_
    rw [← h _ hp]
    split
    · rw [List.map_tail]
    · rw [List.map_cons, List.map_tail]
theorem Same.tot (h : Same C L P) : ∀ c, c ≤ C → tot L c = totP P c
  | 0, _ => rfl
  | c + 1, hc => by rw [Ytijdjcmdmppgaaa.tot, totP, h.tot c (by omega), ← h c (by omega), List.length_map]
end

/-- Block q is a queue that holds P. -/
def Qm (w : World) (S : Nat → Prop) (q C k bt nx M : Nat) (P : Nat → List Jb) : Prop := ∃ o L, Que w S q o C k bt nx M L ∧ Same C L P

section
variable {w w' : World} {S T : Nat → Prop} {q C k bt nx M : Nat} {P : Nat → List Jb}
theorem Qm.touch (h : Qm w S q C k bt nx M P) (ht : Touch T w w') (hS : ∀ b, S b → ¬ T b) : Qm w' S q C k bt nx M P := by
  obtain ⟨o, L, hq, hs⟩ := h
  exact ⟨o, L, hq.touch ht hS, hs⟩
theorem Qm.mono (h : Qm w S q C k bt nx M P) {M' : Nat} (hM : M ≤ M') : Qm w S q C k bt nx M' P := by
  obtain ⟨o, L, hq, hs⟩ := h
  exact ⟨o, L, hq.mono hM, hs⟩
theorem Qm.lt (h : Qm w S q C k bt nx M P) : ∀ b, S b → b < w.heap.size := by
  obtain ⟨o, L, ⟨A, cp, hq⟩, hs⟩ := h
  exact hq.slt
theorem Qm.nums (h : Qm w S q C k bt nx M P) : 1 ≤ C ∧ C ≤ 8 ∧ nx < C ∧ 1 ≤ k ∧ k ≤ 4096 ∧ 1 ≤ bt ∧ bt ≤ 16 := by
  obtain ⟨o, L, ⟨A, cp, hq⟩, hs⟩ := h
  exact ⟨hq.hC.1, hq.hC.2, hq.hnx, hq.hk.1, hq.hk.2, hq.hbt.1, hq.hbt.2⟩
theorem Qm.client (h : Qm w S q C k bt nx M P) {c : Nat} (hc : c < C) {j : Jb} (hj : j ∈ P c) : j.client = c := by
  obtain ⟨o, L, ⟨A, cp, hq⟩, hs⟩ := h
  rw [← hs c hc] at hj
  obtain ⟨p, hp, rfl⟩ := List.mem_map.1 hj
  exact hq.hcl c hc p hp
theorem Qm.bytes (h : Qm w S q C k bt nx M P) {c : Nat} (hc : c < C) {j : Jb} (hj : j ∈ P c) : j.bytes ≤ 9223372036854775807 := by
  obtain ⟨o, L, ⟨A, cp, hq⟩, hs⟩ := h
  rw [← hs c hc] at hj
  obtain ⟨p, hp, rfl⟩ := List.mem_map.1 hj
  exact hq.hb c hc p hp
theorem Qm.len (h : Qm w S q C k bt nx M P) {c : Nat} (hc : c < C) : (P c).length ≤ M := by
  obtain ⟨o, L, ⟨A, cp, hq⟩, hs⟩ := h
  rw [← hs c hc, List.length_map]
  exact hq.hl c hc
theorem Qm.uniq (h : Qm w S q C k bt nx M P) {c d i j : Nat} {x y : Jb} (hc : c < C) (hd : d < C) (hx : (P c)[i]? = some x) (hy : (P d)[j]? = some y) (e : x.id = y.id) : c = d ∧ i = j := by
  obtain ⟨o, L, ⟨A, cp, hq⟩, hs⟩ := h
  rw [← hs c hc, List.getElem?_map, Option.map_eq_some_iff] at hx
  rw [← hs d hd, List.getElem?_map, Option.map_eq_some_iff] at hy
  obtain ⟨p, hp, rfl⟩ := hx
  obtain ⟨p', hp', rfl⟩ := hy
  exact hq.hd c d i j p p' hc hd hp hp' (.inr e)
/-- No request has this number. -/
def Free (C : Nat) (P : Nat → List Jb) (id : Int) : Prop := ∀ c, c < C → ∀ j ∈ P c, j.id ≠ id
end

def NewP (C k bt : Nat) (w : World) (e : Ending) (w' : World) : Prop :=
  ∃ (S : Nat → Prop) (q : Nat), e = .returned (.tuple #[.pointer (some ⟨q, 0, none⟩), .int .i64 0]) ∧ Qm w' S q C k bt 0 0 (fun _ => []) ∧ Touch (fun _ => False) w w' ∧ ∀ b, S b → w.heap.size ≤ b
theorem newP (w : World) (C k bt : Nat) (h1 : 1 ≤ C) (h2 : C ≤ 8) (h3 : 1 ≤ k) (h4 : k ≤ 4096) (h5 : 1 ≤ bt) (h6 : bt ≤ 16) :
    Calls Try.prog 8 #[.int .i64 C, .int .i64 k, .int .i64 bt] w (NewP C k bt w) :=
  (new_yes w C k bt h1 h2 h3 h4 h5 h6).mono fun e w' ⟨S, q, o, he, hq, ht, hs⟩ => ⟨S, q, he, ⟨o, _, hq, fun c _ => rfl⟩, ht, hs⟩

def AddP (S : Nat → Prop) (q C k bt nx M : Nat) (P : Nat → List Jb) (j : Jb) (w : World) (e : Ending) (w' : World) : Prop :=
  ∃ S' : Nat → Prop, e = .returned (.int .i64 0) ∧ Qm w' S' q C k bt nx (M + 1) (upd P j.client (P j.client ++ [j])) ∧ Touch S w w' ∧ ∀ b, S' b → S b ∨ w.heap.size ≤ b
theorem addP (w : World) (S : Nat → Prop) (q C k bt nx M : Nat) (P : Nat → List Jb) (j : Jb) (h : Qm w S q C k bt nx M P) (hM : M ≤ 10000) (hcC : j.client < C) (hb : j.bytes ≤ 9223372036854775807) (hno : Free C P j.id) :
    Calls Try.prog 11 #[.pointer (some ⟨q, 0, none⟩), .agg #[.int .i64 j.id, .int .i64 j.client, .int .i64 j.cls, .int .i64 j.bytes]] w (AddP S q C k bt nx M P j w) := by
  obtain ⟨o, L, hq, hs⟩ := h
  refine (add_ok w S q o C k bt nx M j.client L j hq hM hcC rfl hb (fun d hd p hp => hno d hd p.2 (by rw [← hs d hd]; exact List.mem_map.2 ⟨p, hp, rfl⟩))).mono ?_
  rintro e w' ⟨S', blk, rfl, hq', ht, hf⟩
  exact ⟨S', rfl, ⟨o, _, hq', hs.upd _ _ _ (by rw [List.map_append, hs _ hcC]; rfl)⟩, ht, hf⟩

theorem addP_no (w : World) (S : Nat → Prop) (q C k bt nx M : Nat) (P : Nat → List Jb) (id cl cls b : Int) (h : Qm w S q C k bt nx M P) (hM : M ≤ 10000) (hbm : b ≤ 9223372036854775807) (hbad : cl < 0 ∨ (C : Int) ≤ cl ∨ b < 0 ∨ ¬ Free C P id) :
    Calls Try.prog 11 #[.pointer (some ⟨q, 0, none⟩), .agg #[.int .i64 id, .int .i64 cl, .int .i64 cls, .int .i64 b]] w fun e w' => e = .returned (.int .i64 1) ∧ Touch (fun _ => False) w w' := by
  obtain ⟨o, L, hq, hs⟩ := h
  by_cases h1 : cl < 0
  · exact add_neg w S q o C k bt nx M L id cl cls b hq h1
  · by_cases h2 : (C : Int) ≤ cl
    · exact add_big w S q o C k bt nx M L id cl cls b hq (by omega) h2
    · by_cases h3 : b < 0
      · exact add_less w S q o C k bt nx M L id cl cls b hq (by omega) (by omega) h3
      · have h4 : ¬ Free C P id := by
          rcases hbad with h | h | h | h
          · exact absurd h h1
          · exact absurd h h2
          · exact absurd h h3
          · exact h
        have h5 : ∃ d p, d < C ∧ p ∈ L d ∧ p.2.id = id := by
          refine Classical.byContradiction fun hn => h4 fun c hc j hj e => ?_
          rw [← hs c hc] at hj
          obtain ⟨p, hp, rfl⟩ := List.mem_map.1 hj
          exact hn ⟨c, p, hc, hp, e⟩
        obtain ⟨c, rfl⟩ := Int.eq_ofNat_of_zero_le (show 0 ≤ cl by omega)
        obtain ⟨n, rfl⟩ := Int.eq_ofNat_of_zero_le (show 0 ≤ b by omega)
        exact add_dup w S q o C k bt nx M c L ⟨id, c, cls, n⟩ hq hM (by omega) rfl h5

def DropP (S : Nat → Prop) (q C k bt nx M : Nat) (P : Nat → List Jb) (c i : Nat) (w : World) (e : Ending) (w' : World) : Prop :=
  e = .returned (.int .i64 0) ∧ Qm w' S q C k bt nx M (upd P c ((P c).eraseIdx i)) ∧ Touch S w w'
theorem dropP (w : World) (S : Nat → Prop) (q C k bt nx M c i : Nat) (j : Jb) (P : Nat → List Jb) (h : Qm w S q C k bt nx M P) (hM : M ≤ 10000) (hcC : c < C) (hi : (P c)[i]? = some j) :
    Calls Try.prog 12 #[.pointer (some ⟨q, 0, none⟩), .int .i64 j.id] w (DropP S q C k bt nx M P c i w) := by
  obtain ⟨o, L, hq, hs⟩ := h
  have hi' := hi
  rw [← hs c hcC, List.getElem?_map, Option.map_eq_some_iff] at hi'
  obtain ⟨p, hp, rfl⟩ := hi'
  refine (drop_yes w S q o C k bt nx M c i p L p.2.id hq hM hcC hp rfl).mono ?_
  rintro e w' ⟨rfl, hq', ht, _⟩
  exact ⟨rfl, ⟨o, _, hq', hs.upd _ _ _ (by rw [map_eraseIdx_, hs c hcC])⟩, ht⟩
theorem dropP_no (w : World) (S : Nat → Prop) (q C k bt nx M : Nat) (P : Nat → List Jb) (id : Int) (h : Qm w S q C k bt nx M P) (hM : M ≤ 10000) (hno : Free C P id) :
    Calls Try.prog 12 #[.pointer (some ⟨q, 0, none⟩), .int .i64 id] w fun e w' => e = .returned (.int .i64 15) ∧ Touch (fun _ => False) w w' := by
  obtain ⟨o, L, hq, hs⟩ := h
  exact drop_no w S q o C k bt nx M L id hq hM (fun d hd p hp => hno d hd p.2 (by rw [← hs d hd]; exact List.mem_map.2 ⟨p, hp, rfl⟩))

/-- A request's number as a value. -/
def idJ (j : Jb) : Value := .int .i64 j.id
theorem map_idv (B : List (Nat × Jb)) : B.map idv = (B.map (·.2)).map idJ := by rw [List.map_map]; rfl

def TickP (S : Nat → Prop) (q C k bt nx M : Nat) (P : Nat → List Jb) (B : List Jb) (w : World) (e : Ending) (w' : World) : Prop :=
  ∃ (A1 : Option Addr) (c1 : Nat) (A2 : Option Addr) (c2 : Nat), e = .returned (.tuple #[.slice A1 B.length c1, .slice A2 (doneP k B).length c2]) ∧ Rw w' 3 A1 c1 (B.map idJ) ∧ Rw w' 3 A2 c2 ((doneP k B).map idJ) ∧
    (∀ a, A1 = some a → w.heap.size ≤ a.block) ∧ (∀ a, A2 = some a → w.heap.size ≤ a.block) ∧ Qm w' S q C k bt (nextP C nx B) M (hitsP k P B) ∧ Touch S w w'
theorem tickP (w : World) (S : Nat → Prop) (q C k bt nx M : Nat) (P : Nat → List Jb) (h : Qm w S q C k bt nx M P) (hM : M ≤ 10000) (B : List Jb) (hB : B = batchP P C nx bt) :
    Calls Try.prog 13 #[.pointer (some ⟨q, 0, none⟩)] w (TickP S q C k bt nx M P B w) := by
  obtain ⟨o, L, hq, hs⟩ := h
  have hC : 0 < C := by obtain ⟨A, cp, h⟩ := hq; have := h.hC; omega
  have hIB : IsBatch C L (picks bt (heads L C nx C)) := by
    obtain ⟨A, cp, h⟩ := hq
    exact isBatch h.hnx h.hcl
  have e : (picks bt (heads L C nx C)).map (·.2) = B := by rw [hB, batchP, map_picks, hs.heads hC]
  refine (tick_any w S q o C k bt nx M L hq hM _ rfl).mono ?_
  rintro e' w' ⟨A1, c1, A2, c2, rfl, r1, r2, f1, f2, hq', ht⟩
  refine ⟨A1, c1, A2, c2, ?_, ?_, ?_, f1, f2, ⟨o, hits k L (picks bt (heads L C nx C)), ?_, ?_⟩, ht⟩
  · rw [← e, ← map_done, List.length_map, List.length_map]
  · rw [map_idv, e] at r1; exact r1
  · rw [map_idv, map_done, e] at r2; exact r2
  · rw [map_next, e] at hq'; exact hq'
  · rw [← e]; exact hs.hits k _ (fun p hp => (hIB.head p hp).1)

theorem lenP (w : World) (S : Nat → Prop) (q C k bt nx M : Nat) (P : Nat → List Jb) (h : Qm w S q C k bt nx M P) (hM : M ≤ 10000) :
    Calls Try.prog 16 #[.pointer (some ⟨q, 0, none⟩)] w fun e w' => e = .returned (.int .i64 (totP P C)) ∧ w = w' := by
  obtain ⟨o, L, hq, hs⟩ := h
  rw [← hs.tot C (Nat.le_refl _)]
  exact len_any w S q o C k bt nx M L hq (by omega)

theorem jobsP (w : World) (S : Nat → Prop) (q C k bt nx M c : Nat) (P : Nat → List Jb) (h : Qm w S q C k bt nx M P) (hM : M ≤ 10000) (hcC : c < C) :
    Calls Try.prog 15 #[.pointer (some ⟨q, 0, none⟩), .int .i64 c] w (RowPost ((P c).map idJ) w) := by
  obtain ⟨o, L, hq, hs⟩ := h
  rw [← hs c hcC, ← map_idv]
  exact jobs_any w S q o C k bt nx M c L hq hM hcC
theorem jobsP_none (w : World) (S : Nat → Prop) (q C k bt nx M : Nat) (c : Int) (P : Nat → List Jb) (h : Qm w S q C k bt nx M P) (hc : c < 0 ∨ (C : Int) ≤ c) :
    Calls Try.prog 15 #[.pointer (some ⟨q, 0, none⟩), .int .i64 c] w fun e w' => e = .returned (.slice none 0 0) ∧ w = w' := by
  obtain ⟨o, L, hq, hs⟩ := h
  exact jobs_none w S q o C k bt nx M c L hq hc

theorem leftP (w : World) (S : Nat → Prop) (q C k bt nx M c i : Nat) (j : Jb) (P : Nat → List Jb) (h : Qm w S q C k bt nx M P) (hM : M ≤ 10000) (hcC : c < C) (hi : (P c)[i]? = some j) :
    Calls Try.prog 24 #[.pointer (some ⟨q, 0, none⟩), .int .i64 j.id] w fun e w' => e = .returned (.tuple #[.int .i64 j.bytes, .int .i64 0]) ∧ Touch (fun _ => False) w w' := by
  have hu := h
  obtain ⟨o, L, hq, hs⟩ := h
  refine (left_any w S q o C k bt nx M L j.id hq (by omega)).mono ?_
  rintro e w' ⟨hT, (⟨c', i', p, hc', hi', hid, rfl⟩ | ⟨hall, rfl⟩)⟩
  · have hy : (P c')[i']? = some p.2 := by rw [← hs c' hc', List.getElem?_map, hi']; rfl
    obtain ⟨rfl, rfl⟩ := hu.uniq hcC hc' hi hy hid.symm
    rw [hi] at hy
    injection hy with hy
    exact ⟨by rw [hy], hT⟩
  · have := hi
    rw [← hs c hcC, List.getElem?_map, Option.map_eq_some_iff] at this
    obtain ⟨p, hp, rfl⟩ := this
    exact absurd rfl (hall c hcC p (List.mem_of_getElem? hp))

theorem tick_nil (w : World) : Calls Try.prog 13 #[.pointer none] w fun e w' => e = .returned (.tuple #[.slice none 0 0, .slice none 0 0]) ∧ w = w' := by
  go_enter Try.func13, Try.ntmps13
  go_wp2
  go_ret2
  exact ⟨rfl, rfl⟩
end Go.Proofs.Ytijdjcmdmppgaaa
