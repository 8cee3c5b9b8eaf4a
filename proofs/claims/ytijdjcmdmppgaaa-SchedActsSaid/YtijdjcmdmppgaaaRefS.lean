/- The document's queue: a batch is gone through. -/
import Derived.Test.YtijdjcmdmppgaaaRefP
namespace Go.Proofs.Ytijdjcmdmppgaaa
open Go.RowKit
set_option linter.unusedVariables false

theorem jf_set : ∀ (l : List Jb) (i : Nat) (j : Jb) (b : Nat), l[i]? = some j → jf (l.set i { j with bytes := b }) = (jf l).set (i * 4 + 3) (.int .i64 b)
  | [], i, j, b, h => by simp at h
  | x :: l, 0, j, b, h => by
    simp at h; subst h
    simp [jf, jv]
  | x :: l, i + 1, j, b, h => by
    rw [List.set_cons_succ, jf, jf, jf_set l i j b (by simpa using h), show (i + 1) * 4 + 3 = (i * 4 + 3) + 4 from by omega]
    simp [jv]
theorem RwJ.set {w : World} {g cap : Nat} {l : List Jb} (h : RwJ w (some ⟨g, 0, none⟩) cap l) {i : Nat} {j : Jb} (hi : l[i]? = some j) (b : Nat) : RwJ (w.setCell ⟨g, i * 4 + 3, none⟩ (.int .i64 b)) (some ⟨g, 0, none⟩) cap (l.set i { j with bytes := b }) := by
  rcases h with ⟨h0, _⟩ | ⟨g', cur, hg, hb, h1, h2, h3, h4⟩
  · cases h0
  · injection hg with hg
    injection hg with hg
    subst hg
    refine .inr ⟨g, _, rfl, hb.set_ (i * 4 + 3) (.int .i64 b), by simpa using h1, h2, by simpa using h3, fun x hx => ?_⟩
    rw [List.length_set] at hx
    rw [jf_set l i j b hi, Array.getElem?_setIfInBounds, List.getElem?_set, h4 x hx]
    have hil : i < l.length := by
      rcases Nat.lt_or_ge i l.length with h | h
      · exact h
      · rw [List.getElem?_eq_none h] at hi; cases hi
    rw [jf_len]
    by_cases e : i * 4 + 3 = x
    · subst e; simp; rw [if_pos (by omega), if_pos (by omega)]
    · simp [e]
theorem RwJ.frozen {w : World} {g cap : Nat} {l : List Jb} (h : RwJ w (some ⟨g, 0, none⟩) cap l) (x : Nat) : w.frozen? ⟨g, x, none⟩ = false := by
  rcases h with ⟨h0, _⟩ | ⟨g', cur, hg, hb, _⟩
  · cases h0
  · injection hg with hg
    injection hg with hg
    subst hg
    exact hb.frozen x
theorem RqA.cut {w : World} {T : Nat → Prop} {r C k bt nx M g cap : Nat} {l : List Jb} (h : RqA w T r C k bt nx M l (some ⟨g, 0, none⟩) cap) {i : Nat} {j : Jb} (hi : l[i]? = some j) (b : Nat) (hb : b ≤ 9223372036854775807) :
    RqA (w.setCell ⟨g, i * 4 + 3, none⟩ (.int .i64 b)) T r C k bt nx M (l.set i { j with bytes := b }) (some ⟨g, 0, none⟩) cap := by
  have hgr : g ≠ r := h.row.ne_blk h.blk (by decide) _ rfl
  have ht : Touch (fun x => x = g) w (w.setCell ⟨g, i * 4 + 3, none⟩ (.int .i64 b)) := (Touch.refl (fun x => x = g) w).setCell (p := ⟨g, i * 4 + 3, none⟩) (.inr rfl) _
  refine ⟨?_, h.row.set hi b, h.own, h.mine, fun x hx => Nat.lt_of_lt_of_le (h.lt x hx) ht.size, by simpa using h.len, fun x hx => ?_, fun x hx => ?_, set_uq h.id hi rfl⟩
  · rw [List.length_set]; exact h.blk.touch ht (fun e => hgr e.symm)
  · rcases List.mem_or_eq_of_mem_set hx with hx | rfl
    · exact h.cl x hx
    · exact h.cl j (List.mem_of_getElem? hi)
  · rcases List.mem_or_eq_of_mem_set hx with hx | rfl
    · exact h.byt x hx
    · exact hb
theorem RqA.turn {w : World} {T : Nat → Prop} {r C k bt nx M cap : Nat} {A : Option Addr} {l : List Jb} (h : RqA w T r C k bt nx M l A cap) (nx' : Nat) : RqA (w.setCell ⟨r, 4, none⟩ (.int .i64 nx')) T r C k bt nx' M l A cap := by
  have ht : Touch (fun x => x = r) w (w.setCell ⟨r, 4, none⟩ (.int .i64 nx')) := (Touch.refl (fun x => x = r) w).setCell (p := ⟨r, 4, none⟩) (.inr rfl) _
  have hAr := h.row.ne_blk h.blk (by decide)
  refine ⟨?_, h.row.touch ht (fun a ha e => hAr a ha e), h.own, h.mine, fun x hx => Nat.lt_of_lt_of_le (h.lt x hx) ht.size, h.len, h.cl, h.byt, h.id⟩
  have := h.blk.set_ 4 (.int .i64 nx')
  simpa using this

theorem hitsP_snoc (k : Nat) (P : Nat → List Jb) (B : List Jb) (m : Nat) (y : Jb) (h : B[m]? = some y) : hitsP k P (B.take (m + 1)) = hitP k (hitsP k P (B.take m)) y := by
  rw [List.take_add_one, h]; unfold hitsP; rw [List.foldl_append]; rfl
theorem doneP_snoc (k : Nat) (B : List Jb) (m : Nat) (y : Jb) (h : B[m]? = some y) : doneP k (B.take (m + 1)) = if y.bytes ≤ k then doneP k (B.take m) ++ [y] else doneP k (B.take m) := by
  rw [List.take_add_one, h]; unfold doneP; rw [List.filter_append]
  split <;> simp_all

/-- The second loop: the first m of the batch are gone through. -/
def TJ (w : World) (T : Nat → Prop) (r C k bt nx M : Nat) (P : Nat → List Jb) (B : List Jb) (A4 : Option Addr) (c4 m n5 : Nat) (A5 : Option Addr) (c5 : Nat) (w2 : World) : Prop :=
  ∃ (T' : Nat → Prop) (l' : List Jb), Rq w2 T' r C k bt nx M l' ∧ Fl C l' (hitsP k P (B.take m)) ∧ Rw w2 3 A4 c4 (iv (B.map (·.id))) ∧ (∀ a, A4 = some a → ¬ T' a.block ∧ w.heap.size ≤ a.block) ∧
    (doneP k (B.take m)).length = n5 ∧ Rw w2 3 A5 c5 (iv ((doneP k (B.take m)).map (·.id))) ∧ (∀ a, A5 = some a → ¬ T' a.block ∧ w.heap.size ≤ a.block ∧ ∀ a', A4 = some a' → a'.block ≠ a.block) ∧ Touch T w w2 ∧ (∀ x, T' x → T x ∨ w.heap.size ≤ x)

/-- Who is next in the batch stands first among its client's. -/
theorem batch_next {C k : Nat} {P : Nat → List Jb} {B l' : List Jb} {m : Nat} {y : Jb} (hI : IsB C P B) (hy : B[m]? = some y) (hF : Fl C l' (hitsP k P (B.take m))) :
    y.client < C ∧ (hitsP k P (B.take m) y.client)[0]? = some y ∧ ∃ i : Nat, l'[i]? = some y ∧ ∀ (i' : Nat) (z : Jb), i' < i → l'[i']? = some z → z.client ≠ y.client := by
  obtain ⟨h1, h2⟩ := hI.head y (List.mem_of_getElem? hy)
  have e : hitsP k P (B.take m) y.client = P y.client := by
    refine hitsP_other k _ _ _ (fun j hj => ?_)
    obtain ⟨i, hi⟩ := List.getElem?_of_mem hj
    have him : i < m := by
      rcases Nat.lt_or_ge i m with h | h
      · exact h
      · rw [List.getElem?_eq_none (by rw [List.length_take]; omega)] at hi; cases hi
    rw [List.getElem?_take_of_lt him] at hi
    obtain ⟨a, rfl⟩ := List.getElem?_eq_some_iff.1 hi
    obtain ⟨b, rfl⟩ := List.getElem?_eq_some_iff.1 hy
    exact List.pairwise_iff_getElem.1 hI.pair i m a b him
  refine ⟨h1, by rw [e]; exact h2, ?_⟩
  cases hP : P y.client with
  | nil => rw [hP] at h2; cases h2
  | cons z t =>
    rw [hP] at h2
    injection h2 with h2
    subst h2
    obtain ⟨i, a, _, b⟩ := hF.head h1 (by rw [e]; exact hP)
    exact ⟨i, a, b⟩
end Go.Proofs.Ytijdjcmdmppgaaa
