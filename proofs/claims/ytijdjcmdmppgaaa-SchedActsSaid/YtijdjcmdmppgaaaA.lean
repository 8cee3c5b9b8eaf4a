/- Rows of one-cell values: appended to. -/
import Derived.Test.YtijdjcmdmppgaaaReg
import Derived.Test.YtijdjcmdmppgaaaProg
import Derived.Handy
import Derived.Deep.AppendSrc
import Derived.Deep.Upon
import Derived.Lib.SliceRun
import Derived.OwnWalkIn
namespace Go.Proofs.Ytijdjcmdmppgaaa
open Go.RowKit
set_option linter.unusedVariables false

/-- Many cells are set. -/
def setL (cur : Array Value) : Nat → List Value → Array Value
  | _, [] => cur
  | o, v :: vs => setL (cur.setIfInBounds o v) (o + 1) vs
theorem setL_size (vs : List Value) : ∀ (o : Nat) (cur : Array Value), (setL cur o vs).size = cur.size := by
  induction vs with
  | nil => intro o cur; rfl
  | cons v vs ih => intro o cur; rw [setL, ih]; simp
theorem setL_lo (vs : List Value) : ∀ (o : Nat) (cur : Array Value) (i : Nat), i < o → (setL cur o vs)[i]? = cur[i]? := by
  induction vs with
  | nil => intro o cur i _; rfl
  | cons v vs ih => intro o cur i hi; rw [setL, ih (o + 1) _ i (by omega), Array.getElem?_setIfInBounds_ne (by omega)]
theorem setL_hi (vs : List Value) : ∀ (o : Nat) (cur : Array Value) (i : Nat), o + vs.length ≤ i → (setL cur o vs)[i]? = cur[i]? := by
  induction vs with
  | nil => intro o cur i _; rfl
  | cons v vs ih => intro o cur i hi; simp only [List.length_cons] at hi; rw [setL, ih (o + 1) _ i (by omega), Array.getElem?_setIfInBounds_ne (by omega)]
theorem setL_at (vs : List Value) : ∀ (o : Nat) (cur : Array Value) (i : Nat), i < vs.length → o + vs.length ≤ cur.size → (setL cur o vs)[o + i]? = vs[i]? := by
  induction vs with
  | nil => intro o cur i hi; simp at hi
  | cons v vs ih =>
    intro o cur i hi hs
    simp only [List.length_cons] at hi hs
    cases i with
    | zero => rw [setL, setL_lo vs (o + 1) _ (o + 0) (by omega)]; simp [Array.getElem?_setIfInBounds]; omega
    | succ i => rw [setL, show o + (i + 1) = (o + 1) + i from by omega, ih (o + 1) _ i (by omega) (by simp; omega)]; simp
theorem Blk.setCells {t : TypeId} {g : Nat} (vs : List Value) : ∀ (o : Nat) (w : World) (cur : Array Value), Blk w g t cur → Blk (w.setCells g o vs) g t (setL cur o vs) := by
  induction vs with
  | nil => intro o w cur h; exact h
  | cons v vs ih => intro o w cur h; exact ih (o + 1) _ _ (h.set_ o v)
theorem Touch.setCells {S : Nat → Prop} {w : World} {g : Nat} (hg : w.heap.size ≤ g ∨ S g) (vs : List Value) : ∀ (o : Nat) (w' : World), Touch S w w' → Touch S w (w'.setCells g o vs) := by
  induction vs with
  | nil => intro o w' h; exact h
  | cons v vs ih => intro o w' h; exact ih (o + 1) _ (h.setCell hg v)

/-- The row: its values lie at its head. -/
def Rw (w : World) (t : TypeId) (A : Option Addr) (cap : Nat) (vs : List Value) : Prop :=
  (A = none ∧ cap = 0 ∧ vs = []) ∨ ∃ g cur, A = some ⟨g, 0, none⟩ ∧ Blk w g t cur ∧ vs.length ≤ cap ∧ cap ≤ 9223372036854775807 ∧ cap ≤ cur.size ∧ ∀ i, i < vs.length → cur[i]? = vs[i]?

/-- A one-cell element type. -/
structure Elem (T t : TypeId) (z : Value) : Prop where
  under : Try.prog.underlying T = some (.slice t)
  info : (Try.prog.info? t).map (fun i => (i.zero, i.size, i.bytes)) = some (some z, 1, 8)
  zero : z.cells = #[z]

theorem elem67 : Elem 67 68 (.pointer none) := ⟨by kernel_rfl, by kernel_rfl, rfl⟩
theorem elem38 : Elem 38 3 (.int .i64 0) := ⟨by kernel_rfl, by kernel_rfl, rfl⟩

theorem Rw.touch {w w' : World} {S : Nat → Prop} {t : TypeId} {A : Option Addr} {cap : Nat} {vs : List Value} (h : Rw w t A cap vs) (ht : Touch S w w') (hS : ∀ a, A = some a → ¬ S a.block) : Rw w' t A cap vs := by
  rcases h with h | ⟨g, cur, rfl, hb, hr⟩
  · exact .inl h
  · exact .inr ⟨g, cur, rfl, hb.touch ht (hS _ rfl), hr⟩
theorem Rw.lt {w : World} {t : TypeId} {A : Option Addr} {cap : Nat} {vs : List Value} (h : Rw w t A cap vs) {a : Addr} (ha : A = some a) : a.block < w.heap.size := by
  rcases h with ⟨rfl, _⟩ | ⟨g, cur, rfl, hb, hr⟩
  · cases ha
  · injection ha with ha; subst ha; exact hb.lt
theorem Rw.nil (w : World) (t : TypeId) : Rw w t none 0 [] := .inl ⟨rfl, rfl, rfl⟩
theorem Rw.cell {w : World} {t : TypeId} {A : Option Addr} {cap : Nat} {vs : List Value} (h : Rw w t A cap vs) {i : Nat} {v : Value} (hi : vs[i]? = some v) : ∃ g, A = some ⟨g, 0, none⟩ ∧ w.cell? ⟨g, i, none⟩ = some v := by
  rcases h with ⟨rfl, rfl, rfl⟩ | ⟨g, cur, rfl, hb, hr⟩
  · simp at hi
  · have hlt : i < vs.length := by
      rcases Nat.lt_or_ge i vs.length with h | h
      · exact h
      · rw [List.getElem?_eq_none h] at hi; cases hi
    exact ⟨g, rfl, by rw [hb.cell, hr.2.2.2 i hlt, hi]⟩
theorem Rw.le {w : World} {t : TypeId} {A : Option Addr} {cap : Nat} {vs : List Value} (h : Rw w t A cap vs) : vs.length ≤ cap ∧ cap ≤ 9223372036854775807 := by
  rcases h with ⟨rfl, rfl, rfl⟩ | ⟨g, cur, rfl, hb, hr⟩
  · simp
  · exact ⟨hr.1, hr.2.1⟩

theorem rw_append {T t : TypeId} {z : Value} (hE : Elem T t z) (w : World) (A : Option Addr) (cap : Nat) (xs : List Value) (h : Rw w t A cap xs) (h1 : ∀ u ∈ xs, u.oneCell' = true) (x : Value) (n : Nat) (ys : List Value) (hs : Src Try.prog 1 T x n ys w) (hb : xs.length + n ≤ 100000) (ty : TypeId) :
    ∃ A' cap' w', (Builtin.append_ #[T, T] ty #[.slice A xs.length cap, x]).run Try.prog w = .ok (.slice A' (xs.length + n) cap') w' ∧ Rw w' t A' cap' (xs ++ ys) ∧ Touch (fun b => ∃ a, A = some a ∧ a.block = b) w w' ∧
      (∀ a, A' = some a → (∃ a0, A = some a0 ∧ a0.block = a.block) ∨ w.heap.size ≤ a.block) := by
  have hn : ys.length = n := by have := hs.newsLen; simpa using this
  obtain ⟨i0, hi, hz0, hz1, hz2⟩ := info_parts hE.info
  have h23 := hE.under
  have hs' : Src Try.prog i0.size T x n ys w := by rw [hz1]; exact hs
  have grow : ∀ (olds : List Value) (ho : olds = xs) (hold : (Builtin.firstCells i0.size xs.length (.slice A xs.length cap)).run Try.prog w.drew = .ok olds.toArray w.drew) (hg : cap < xs.length + n),
      ∃ A' cap' w', (Builtin.append_ #[T, T] ty #[.slice A xs.length cap, x]).run Try.prog w = .ok (.slice A' (xs.length + n) cap') w' ∧ Rw w' t A' cap' (xs ++ ys) ∧ Touch (fun b => ∃ a, A = some a ∧ a.block = b) w w' ∧
      (∀ a, A' = some a → (∃ a0, A = some a0 ∧ a0.block = a.block) ∨ w.heap.size ≤ a.block) := by
    intro olds ho hold hg
    have hr := run_append_grow_src (P := Try.prog) w T T ty t i0 _ h23 hi hz0 A xs.length cap olds hold x n ys hs' hg (by omega) (by
      have := nextslicecap_le (need := xs.length + n) (old := cap) hg
      rw [hz2]; omega)
    have hge := grownCap_ge w (xs.length + n) cap t
    have hle := grownCap_le_maxLen w (xs.length + n) cap t (by unfold maxLen; omega)
    refine ⟨_, _, _, hr, .inr ⟨w.heap.size, _, rfl, (Blk.new w.drew _ _), by simp; omega, hle, ?_, ?_⟩, (Touch.refl _ w).drew.alloc _, fun a ha => .inr (by injection ha with ha; subst ha; exact Nat.le_refl _)⟩
    · subst ho
      have : (Builtin.zeroCells z.cells (grownCap w (olds.length + n) cap t - (olds.length + n))).size = (grownCap w (olds.length + n) cap t - (olds.length + n)) := by rw [size_zeroCells]; simp [hE.zero]
      rw [Array.size_append, this]
      simp
      omega
    · intro i hi'
      simp only [List.length_append] at hi'
      subst ho
      rw [Array.getElem?_append_left (by simp; omega)]
      simp
  rcases h with ⟨rfl, rfl, rfl⟩ | ⟨g, cur, rfl, hbk, hle, hmx, hfit, hx⟩
  · by_cases h0 : n = 0
    · subst h0
      have hy : ys = [] := List.eq_nil_of_length_eq_zero hn
      subst hy
      have hr := run_append_nothing (P := Try.prog) w T T ty t i0 h23 hi none 0 0 (Nat.le_refl _) x hs'
      exact ⟨none, 0, w, hr, .inl ⟨rfl, rfl, rfl⟩, Touch.refl _ _, fun a ha => by cases ha⟩
    · exact grow [] rfl (run_firstCells_none w.drew i0.size 0 0 0) (by simp; omega)
  · by_cases hroom : xs.length + n ≤ cap
    · have hr := run_append_room_src (P := Try.prog) w T T ty t i0 h23 hi g 0 xs.length cap x n ys hs' hroom
        (fun j hj => by
          rw [hbk.cell, hz1]
          rw [Array.getElem?_eq_getElem (by omega)]
          rfl)
        (fun j _ => hbk.frozen _)
      rw [hz1, Nat.mul_one, Nat.zero_add] at hr
      refine ⟨_, _, _, hr, .inr ⟨g, _, rfl, hbk.setCells _ _ _, by simp; omega, hmx, by rw [setL_size]; exact hfit, ?_⟩, (Touch.refl _ w).setCells (.inr ⟨_, rfl, rfl⟩) _ _ _, fun a ha => .inl ⟨_, rfl, by injection ha with ha; subst ha; rfl⟩⟩
      intro i hi'
      simp only [List.length_append] at hi'
      by_cases hlo : i < xs.length
      · rw [setL_lo _ _ _ _ (by omega), hx i hlo, List.getElem?_append_left hlo]
      · have e := setL_at ys xs.length cur (i - xs.length) (by omega) (by omega)
        rw [show xs.length + (i - xs.length) = i from by omega] at e
        rw [e, List.getElem?_append_right (by omega)]
    · refine grow xs rfl ?_ (by omega)
      refine run_firstCells_some (P := Try.prog) w.drew i0.size xs.length ⟨g, 0, none⟩ xs.length cap _ (by rw [hz1]; simp) (fun j u hu => ?_)
      have hj : j < xs.length := by
        rcases Nat.lt_or_ge j xs.length with h | h
        · exact h
        · rw [List.getElem?_eq_none h] at hu; cases hu
      rw [Addr.add_mid, Nat.zero_add, hbk.drew.cell, hx j hj, hu]

theorem src_one {T t : TypeId} {z : Value} (hE : Elem T t z) {w : World} {g : Nat} {v : Value} (hc : w.cell? ⟨g, 0, none⟩ = some v) (h1 : v.oneCell' = true) : Src Try.prog 1 T (.slice (some ⟨g, 0, none⟩) 1 1) 1 [v] w := by
  refine Src.ofSlice w hE.under ⟨g, 0, none⟩ 1 1 [v] (by simp) (fun j u hu => ?_) (fun u hu => ?_)
  · cases j with
    | zero => simp at hu; subst hu; rw [Addr.add_mid]; exact hc
    | succ j => simp at hu
  · simp at hu; subst hu; exact h1

/-- One value is appended. -/
theorem wpList_rw_push {T t : TypeId} {z : Value} (hE : Elem T t z) {ops : Array Oper} {rest : List Oper} {o : Oper} {a : Act} {w : World} {Q : Exit → Act → World → Prop} (hgd : o.guard = none) (s x : Operand)
    (ho : o.op = .call { callee := .builtin .append, args := #[s, x], argTypes := #[T, T] }) (A : Option Addr) (cap n : Nat) (xs : List Value) (hn : xs.length = n) (hv : a.eval s = .slice A n cap) (g : Nat) (v : Value) (hx : a.eval x = .slice (some ⟨g, 0, none⟩) 1 1)
    (hc : w.cell? ⟨g, 0, none⟩ = some v) (h1 : v.oneCell' = true) (h : Rw w t A cap xs) (h1s : ∀ u ∈ xs, u.oneCell' = true) (hb : n + 1 ≤ 100000)
    (hK : ∀ A' cap' w', Rw w' t A' cap' (xs ++ [v]) → Touch (fun b => ∃ a, A = some a ∧ a.block = b) w w' → (∀ a, A' = some a → (∃ a0, A = some a0 ∧ a0.block = a.block) ∨ w.heap.size ≤ a.block) → wpList Try.prog ops Q rest (a.put o.dst (.slice A' (n + 1) cap')) w') : wpList Try.prog ops Q (o :: rest) a w := by
  refine wpList_plain hgd fun K hK' => ?_
  subst hn
  obtain ⟨A', cap', w', hrun, hr, hT, hf⟩ := rw_append hE w A cap xs h h1s (.slice (some ⟨g, 0, none⟩) 1 1) 1 [v] (src_one hE hc h1) hb o.type
  unfold Oper.wp
  simp [execOp, ho, resolve, invoke, builtin, hv, hx, hrun, Result.andThen]
  exact hK' _ _ (hK A' cap' w' hr hT hf)
theorem wpListIn_rw_push {F : Fence} {m : Nat} {T t : TypeId} {z : Value} (hE : Elem T t z) {ops : Array Oper} {rest : List Oper} {o : Oper} {a : Act} {w : World} {Q : Exit → Act → World → Prop} (hgd : o.guard = none) (s x : Operand)
    (ho : o.op = .call { callee := .builtin .append, args := #[s, x], argTypes := #[T, T] }) (A : Option Addr) (cap n : Nat) (xs : List Value) (hn : xs.length = n) (hv : a.eval s = .slice A n cap) (g : Nat) (v : Value) (hx : a.eval x = .slice (some ⟨g, 0, none⟩) 1 1)
    (hc : w.cell? ⟨g, 0, none⟩ = some v) (h1 : v.oneCell' = true) (h : Rw w t A cap xs) (h1s : ∀ u ∈ xs, u.oneCell' = true) (hb : n + 1 ≤ 100000)
    (hK : ∀ A' cap' w', Rw w' t A' cap' (xs ++ [v]) → Touch (fun b => ∃ a, A = some a ∧ a.block = b) w w' → (∀ a, A' = some a → (∃ a0, A = some a0 ∧ a0.block = a.block) ∨ w.heap.size ≤ a.block) → wpListIn F m Try.prog ops Q rest (a.put o.dst (.slice A' (n + 1) cap')) w') : wpListIn F m Try.prog ops Q (o :: rest) a w := by
  refine wpListIn_plain hgd fun K hK' => ?_
  subst hn
  obtain ⟨A', cap', w', hrun, hr, hT, hf⟩ := rw_append hE w A cap xs h h1s (.slice (some ⟨g, 0, none⟩) 1 1) 1 [v] (src_one hE hc h1) hb o.type
  unfold Oper.wpIn
  refine ⟨?_, ?_⟩
  · simp [Oper.about, ho, resolve, Target.leads, Sem.run_pure]
  · rw [Oper.semAt_plain F _ _ (by rw [ho]; intro c hc'; cases hc')]
    simp [execOp, ho, resolve, invoke, builtin, hv, hx, hrun, Result.andThen]
    exact hK' _ _ (hK A' cap' w' hr hT hf)
end Go.Proofs.Ytijdjcmdmppgaaa
