/- A row of bytes that is appended to and cut at its head. -/
import Derived.Test.YtelmjlfhmbicjaaF
import Derived.Deep.AppendSrc
import Derived.Deep.Upon
namespace Go.Proofs.Ytelmjlfhmbicjaa
open Go.RowKit
set_option linter.unusedVariables false

/-- Many cells are set. -/
def setL (cur : Array Value) : Nat → List Value → Array Value
  | _, [] => cur
  | o, v :: vs => setL (cur.setIfInBounds o v) (o + 1) vs
theorem setL_size (vs : List Value) : ∀ (o : Nat) (cur : Array Value), (setL cur o vs).size = cur.size := by
  induction vs with
  | nil => intro o cur; rfl
  | cons v vs ih => intro o cur; rw [setL, ih]; simp
theorem setL_lo (vs : List Value) : ∀ (o : Nat) (cur : Array Value) (i : Nat), i < o → (setL cur o vs)[i]? = cur[i]? := by
  induction vs with
  | nil => intro o cur i _; rfl
  | cons v vs ih => intro o cur i hi; rw [setL, ih (o + 1) _ i (by omega), Array.getElem?_setIfInBounds_ne (by omega)]
theorem setL_at (vs : List Value) : ∀ (o : Nat) (cur : Array Value) (i : Nat), i < vs.length → o + vs.length ≤ cur.size → (setL cur o vs)[o + i]? = vs[i]? := by
  induction vs with
  | nil => intro o cur i hi; simp at hi
  | cons v vs ih =>
    intro o cur i hi hs
    simp only [List.length_cons] at hi hs
    cases i with
    | zero => rw [setL, setL_lo vs (o + 1) _ (o + 0) (by omega)]; simp [Array.getElem?_setIfInBounds]; omega
    | succ i => rw [setL, show o + (i + 1) = (o + 1) + i from by omega, ih (o + 1) _ i (by omega) (by simp; omega)]; simp
theorem Blk.setCells {t : TypeId} {g : Nat} (vs : List Value) : ∀ (o : Nat) (w : World) (cur : Array Value), Blk w g t cur → Blk (w.setCells g o vs) g t (setL cur o vs) := by
  induction vs with
  | nil => intro o w cur h; exact h
  | cons v vs ih => intro o w cur h; exact ih (o + 1) _ _ (h.set_ o v)
theorem Touch.setCells {S : Nat → Prop} {w : World} {g : Nat} (hg : w.heap.size ≤ g ∨ S g) (vs : List Value) : ∀ (o : Nat) (w' : World), Touch S w w' → Touch S w (w'.setCells g o vs) := by
  induction vs with
  | nil => intro o w' h; exact h
  | cons v vs ih => intro o w' h; exact ih (o + 1) _ (h.setCell hg v)

/-- The row: its bytes lie at its head. -/
def Rest (w : World) (A : Option Addr) (cap : Nat) (xs : List Int) : Prop :=
  (A = none ∧ cap = 0 ∧ xs = []) ∨ ∃ g off cur, A = some ⟨g, off, none⟩ ∧ Blk w g 5 cur ∧ xs.length ≤ cap ∧ cap ≤ 9223372036854775807 ∧ off + cap ≤ cur.size ∧ ∀ i, i < xs.length → cur[off + i]? = some (.int .u8 (xs.getD i 0))
theorem u8_get (xs : List Int) (i : Nat) (h : i < xs.length) : (xs.map (Value.int .u8))[i]? = some (.int .u8 (xs.getD i 0)) := by
  simp [List.getElem?_eq_getElem h, List.getD]

theorem rest_append (w : World) (A : Option Addr) (cap : Nat) (xs : List Int) (h : Rest w A cap xs) (x : Value) (n : Nat) (ys : List Int) (hs : Src Try.prog 1 26 x n (ys.map (Value.int .u8)) w) (hb : xs.length + n ≤ 100000) :
    ∃ A' cap' w', (Builtin.append_ #[26, 26] 26 #[.slice A xs.length cap, x]).run Try.prog w = .ok (.slice A' (xs.length + n) cap') w' ∧ Rest w' A' cap' (xs ++ ys) ∧ Touch (fun b => ∃ a, A = some a ∧ a.block = b) w w' ∧
      (∀ a, A' = some a → (∃ a0, A = some a0 ∧ a0.block = a.block) ∨ w.heap.size ≤ a.block) := by
  have hn : ys.length = n := by have := hs.newsLen; simpa using this
  obtain ⟨i0, hi, hz0, hz1, hz2⟩ := info_parts Try.info5
  have h23 : Try.prog.underlying 26 = some (.slice 5) := by kernel_rfl
  have hs' : Src Try.prog i0.size 26 x n (ys.map (Value.int .u8)) w := by rw [hz1]; exact hs
  have grow : ∀ (olds : List Value) (ho : olds = xs.map (Value.int .u8)) (hold : (Builtin.firstCells i0.size xs.length (.slice A xs.length cap)).run Try.prog w.drew = .ok olds.toArray w.drew) (hg : cap < xs.length + n),
      ∃ A' cap' w', (Builtin.append_ #[26, 26] 26 #[.slice A xs.length cap, x]).run Try.prog w = .ok (.slice A' (xs.length + n) cap') w' ∧ Rest w' A' cap' (xs ++ ys) ∧ Touch (fun b => ∃ a, A = some a ∧ a.block = b) w w' ∧
      (∀ a, A' = some a → (∃ a0, A = some a0 ∧ a0.block = a.block) ∨ w.heap.size ≤ a.block) := by
    intro olds ho hold hg
    have hr := run_append_grow_src (P := Try.prog) w 26 26 26 5 i0 _ h23 hi hz0 A xs.length cap olds hold x n (ys.map (Value.int .u8)) hs' hg (by omega) (by
      have := nextslicecap_le (need := xs.length + n) (old := cap) hg
      rw [hz2]; omega)
    have hge := grownCap_ge w (xs.length + n) cap 5
    have hle := grownCap_le_maxLen w (xs.length + n) cap 5 (by unfold maxLen; omega)
    refine ⟨_, _, _, hr, .inr ⟨w.heap.size, 0, _, rfl, (Blk.new w.drew _ _), by simp; omega, hle, ?_, ?_⟩, (Touch.refl _ w).drew.alloc _, fun a ha => .inr (by injection ha with ha; subst ha; exact Nat.le_refl _)⟩
    · subst ho
      have : (Builtin.zeroCells (Value.int .u8 0).cells (grownCap w (xs.length + n) cap 5 - (xs.length + n))).size = (grownCap w (xs.length + n) cap 5 - (xs.length + n)) := by rw [size_zeroCells]; simp [Value.cells]
      rw [Array.size_append, this]
      simp
      omega
    · intro i hi'
      simp only [List.length_append] at hi'
      subst ho
      rw [Nat.zero_add, Array.getElem?_append_left (by simp; omega)]
      rw [← List.map_append]
      simp only [List.getElem?_toArray]
      exact u8_get (xs ++ ys) i (by simp; omega)
  rcases h with ⟨rfl, rfl, rfl⟩ | ⟨g, off, cur, rfl, hbk, hle, hmx, hfit, hx⟩
  · by_cases h0 : n = 0
    · subst h0
      have hy : ys = [] := List.eq_nil_of_length_eq_zero hn
      subst hy
      have hr := run_append_nothing (P := Try.prog) w 26 26 26 5 i0 h23 hi none 0 0 (Nat.le_refl _) x hs'
      exact ⟨none, 0, w, hr, .inl ⟨rfl, rfl, rfl⟩, Touch.refl _ _, fun a ha => by cases ha⟩
    · exact grow [] rfl (run_firstCells_none w.drew i0.size 0 0 0) (by simp; omega)
  · by_cases hroom : xs.length + n ≤ cap
    · have hr := run_append_room_src (P := Try.prog) w 26 26 26 5 i0 h23 hi g off xs.length cap x n (ys.map (Value.int .u8)) hs' hroom
        (fun j hj => by
          rw [hbk.cell, hz1]
          simp at hj
          rw [Array.getElem?_eq_getElem (by omega)]
          rfl)
        (fun j _ => hbk.frozen _)
      rw [hz1, Nat.mul_one] at hr
      refine ⟨_, _, _, hr, .inr ⟨g, off, _, rfl, hbk.setCells _ _ _, by simp; omega, hmx, by rw [setL_size]; exact hfit, ?_⟩, (Touch.refl _ w).setCells (.inr ⟨_, rfl, rfl⟩) _ _ _, fun a ha => .inl ⟨_, rfl, by injection ha with ha; subst ha; rfl⟩⟩
      intro i hi'
      simp only [List.length_append] at hi'
      by_cases hlo : i < xs.length
      · rw [setL_lo _ _ _ _ (by omega), hx i hlo]
        simp [List.getD, List.getElem?_append_left hlo]
      · have e := setL_at (ys.map (Value.int .u8)) (off + xs.length) cur (i - xs.length) (by simp; omega) (by simp; omega)
        rw [show off + xs.length + (i - xs.length) = off + i from by omega] at e
        rw [e, u8_get ys _ (by omega)]
        simp [List.getD, List.getElem?_append_right (show xs.length ≤ i by omega)]
    · refine grow (xs.map (Value.int .u8)) rfl ?_ (by omega)
      refine run_firstCells_some (P := Try.prog) w.drew i0.size xs.length ⟨g, off, none⟩ xs.length cap _ (by rw [hz1]; simp) (fun j u hu => ?_)
      have hj : j < xs.length := by
        rcases Nat.lt_or_ge j xs.length with h | h
        · exact h
        · rw [List.getElem?_eq_none (by simpa using h)] at hu; cases hu
      rw [u8_get xs j hj] at hu
      injection hu with hu
      rw [Addr.add_mid, hbk.drew.cell, hx j hj, hu]
theorem Rest.touch {w w' : World} {S : Nat → Prop} {A : Option Addr} {cap : Nat} {xs : List Int} (h : Rest w A cap xs) (ht : Touch S w w') (hS : ∀ a, A = some a → ¬ S a.block) : Rest w' A cap xs := by
  rcases h with h | ⟨g, off, cur, rfl, hb, hr⟩
  · exact .inl h
  · exact .inr ⟨g, off, cur, rfl, hb.touch ht (hS _ rfl), hr⟩
theorem Rest.lt {w : World} {A : Option Addr} {cap : Nat} {xs : List Int} (h : Rest w A cap xs) {a : Addr} (ha : A = some a) : a.block < w.heap.size := by
  rcases h with ⟨rfl, _⟩ | ⟨g, off, cur, rfl, hb, hr⟩
  · cases ha
  · injection ha with ha; subst ha; exact hb.lt

/-- Bytes that came in. -/
def Inb (w : World) (B : Option Addr) (ys : List Int) : Prop := ys = [] ∨ ∃ g off, B = some ⟨g, off, none⟩ ∧ Byt w g off ys
theorem Inb.touch {w w' : World} {S : Nat → Prop} {B : Option Addr} {ys : List Int} (h : Inb w B ys) (ht : Touch S w w') (hS : ∀ a, B = some a → ys ≠ [] → a.block < w.heap.size → ¬ S a.block) : Inb w' B ys := by
  rcases h with h | ⟨g, off, rfl, hb⟩
  · exact .inl h
  · refine .inr ⟨g, off, rfl, fun i hi => ?_⟩
    have h1 := hb i hi
    have hlt := block_lt_of_cell h1
    have : w'.cell? ⟨g, off + i, none⟩ = w.cell? ⟨g, off + i, none⟩ := by unfold World.cell?; rw [ht.block g hlt (hS _ rfl (by rintro rfl; simp at hi) hlt)]
    rw [this]; exact h1
theorem Inb.lt {w : World} {B : Option Addr} {ys : List Int} (h : Inb w B ys) (hy : ys ≠ []) {a : Addr} (ha : B = some a) : a.block < w.heap.size := by
  rcases h with rfl | ⟨g, off, rfl, hb⟩
  · exact absurd rfl hy
  · injection ha with ha
    subst ha
    exact block_lt_of_cell (hb 0 (List.length_pos_iff.2 hy))
theorem Inb.src {w : World} {B : Option Addr} {ys : List Int} (h : Inb w B ys) (c : Nat) : Src Try.prog 1 26 (.slice B ys.length c) ys.length (ys.map (Value.int .u8)) w := by
  have h23 : Try.prog.underlying 26 = some (.slice 5) := by kernel_rfl
  rcases h with rfl | ⟨g, off, rfl, hb⟩
  · cases B with
    | none => exact Src.ofNil w h23 c
    | some a => exact Src.ofSlice w h23 a 0 c [] (by simp) (fun j u hu => by simp at hu) (fun u hu => by simp at hu)
  · refine Src.ofSlice w h23 ⟨g, off, none⟩ ys.length c _ (by simp) (fun j u hu => ?_) (fun u hu => ?_)
    · have hj : j < ys.length := by
        rcases Nat.lt_or_ge j ys.length with h | h
        · exact h
        · rw [List.getElem?_eq_none (by simpa using h)] at hu; cases hu
      rw [u8_get ys j hj] at hu
      injection hu with hu
      rw [Addr.add_mid, hb j hj, hu]
    · simp at hu
      obtain ⟨x, _, rfl⟩ := hu
      rfl

theorem wpList_rest_append {ops : Array Oper} {rest : List Oper} {o : Oper} {a : Act} {w : World} {Q : Exit → Act → World → Prop} (hgd : o.guard = none) (s x : Operand)
    (ho : o.op = .call { callee := .builtin .append, args := #[s, x], argTypes := #[26, 26] }) (A : Option Addr) (cap : Nat) (xs : List Int) (hv : a.eval s = .slice A xs.length cap) (B : Option Addr) (c : Nat) (ys : List Int) (hx : a.eval x = .slice B ys.length c)
    (h : Rest w A cap xs) (hs : Inb w B ys) (hb : xs.length + ys.length ≤ 100000)
    (hK : ∀ A' cap' w', Rest w' A' cap' (xs ++ ys) → Touch (fun b => ∃ a, A = some a ∧ a.block = b) w w' → (∀ a, A' = some a → (∃ a0, A = some a0 ∧ a0.block = a.block) ∨ w.heap.size ≤ a.block) → wpList Try.prog ops Q rest (a.put o.dst (.slice A' (xs.length + ys.length) cap')) w') : wpList Try.prog ops Q (o :: rest) a w := by
  refine wpList_plain hgd fun K hK' => ?_
  have hty : ∀ ty, (Builtin.append_ #[26, 26] ty #[.slice A xs.length cap, .slice B ys.length c]) = (Builtin.append_ #[26, 26] 26 #[.slice A xs.length cap, .slice B ys.length c]) := fun ty => rfl
  obtain ⟨A', cap', w', hrun, hr, hT, hf⟩ := rest_append w A cap xs h (.slice B ys.length c) ys.length ys (hs.src c) hb
  unfold Oper.wp
  simp [execOp, ho, resolve, invoke, builtin, hv, hx, hty, hrun, Result.andThen]
  exact hK' _ _ (hK A' cap' w' hr hT hf)
end Go.Proofs.Ytelmjlfhmbicjaa
