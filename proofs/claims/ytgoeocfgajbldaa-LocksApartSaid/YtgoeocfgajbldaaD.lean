/- Rows of structs of two cells that are appended to; slices.Clone. -/
import Derived.Test.YtgoeocfgajbldaaC
import Derived.Handy
import Derived.Deep.AppendSrc
import Derived.Deep.Upon
import Derived.Lib.SliceRun
import Derived.OwnWalkIn
namespace Go.Proofs.Ytgoeocfgajbldaa
open Go.RowKit
set_option linter.unusedVariables false

/-- Many cells are set. -/
def setL (cur : Array Value) : Nat → List Value → Array Value
  | _, [] => cur
  | o, v :: vs => setL (cur.setIfInBounds o v) (o + 1) vs
theorem setL_size (vs : List Value) : ∀ (o : Nat) (cur : Array Value), (setL cur o vs).size = cur.size := by
  induction vs with
  | nil => intro o cur; rfl
  | cons v vs ih => intro o cur; rw [setL, ih]; simp
theorem setL_lo (vs : List Value) : ∀ (o : Nat) (cur : Array Value) (i : Nat), i < o → (setL cur o vs)[i]? = cur[i]? := by
  induction vs with
  | nil => intro o cur i _; rfl
  | cons v vs ih => intro o cur i hi; rw [setL, ih (o + 1) _ i (by omega), Array.getElem?_setIfInBounds_ne (by omega)]
theorem setL_hi (vs : List Value) : ∀ (o : Nat) (cur : Array Value) (i : Nat), o + vs.length ≤ i → (setL cur o vs)[i]? = cur[i]? := by
  induction vs with
  | nil => intro o cur i _; rfl
  | cons v vs ih => intro o cur i hi; simp only [List.length_cons] at hi; rw [setL, ih (o + 1) _ i (by omega), Array.getElem?_setIfInBounds_ne (by omega)]
theorem setL_at (vs : List Value) : ∀ (o : Nat) (cur : Array Value) (i : Nat), i < vs.length → o + vs.length ≤ cur.size → (setL cur o vs)[o + i]? = vs[i]? := by
  induction vs with
  | nil => intro o cur i hi; simp at hi
  | cons v vs ih =>
    intro o cur i hi hs
    simp only [List.length_cons] at hi hs
    cases i with
    | zero => rw [setL, setL_lo vs (o + 1) _ (o + 0) (by omega)]; simp [Array.getElem?_setIfInBounds]; omega
    | succ i => rw [setL, show o + (i + 1) = (o + 1) + i from by omega, ih (o + 1) _ i (by omega) (by simp; omega)]; simp
theorem Blk.setCells {t : TypeId} {g : Nat} (vs : List Value) : ∀ (o : Nat) (w : World) (cur : Array Value), Blk w g t cur → Blk (w.setCells g o vs) g t (setL cur o vs) := by
  induction vs with
  | nil => intro o w cur h; exact h
  | cons v vs ih => intro o w cur h; exact ih (o + 1) _ _ (h.set_ o v)
theorem Touch.setCells {S : Nat → Prop} {w : World} {g : Nat} (hg : w.heap.size ≤ g ∨ S g) (vs : List Value) : ∀ (o : Nat) (w' : World), Touch S w w' → Touch S w (w'.setCells g o vs) := by
  induction vs with
  | nil => intro o w' h; exact h
  | cons v vs ih => intro o w' h; exact ih (o + 1) _ (h.setCell hg v)

/-- The cells of a row. -/
def cf : List V2 → List Value
  | [] => []
  | p :: l => [p.1, p.2] ++ cf l
theorem cf_app : ∀ a b : List V2, cf (a ++ b) = cf a ++ cf b
  | [], b => rfl
  | p :: a, b => by simp [cf, cf_app a b]
theorem cf_len : ∀ l : List V2, (cf l).length = l.length * 2
  | [] => rfl
  | p :: l => by simp [cf, cf_len l]; omega
theorem cf_get : ∀ (l : List V2) (i : Nat) (p : V2), l[i]? = some p → (cf l)[i * 2]? = some p.1 ∧ (cf l)[i * 2 + 1]? = some p.2
  | [], i, p, h => by simp at h
  | x :: l, 0, p, h => by
    simp at h; subst h
    exact ⟨rfl, rfl⟩
  | x :: l, i + 1, p, h => by
    have e := cf_get l i p (by simpa using h)
    rw [show (i + 1) * 2 = i * 2 + 2 from by omega, show i * 2 + 2 + 1 = i * 2 + 1 + 2 from by omega]
    exact e
def One2 (l : List V2) : Prop := ∀ p ∈ l, p.1.oneCell' = true ∧ p.2.oneCell' = true
theorem cf_one {l : List V2} (h : One2 l) : ∀ u ∈ cf l, u.oneCell' = true := by
  induction l with
  | nil => intro u h; cases h
  | cons p l ih =>
    intro u hu
    have hp := h p (by simp)
    simp only [cf, List.cons_append, List.nil_append, List.mem_cons] at hu
    rcases hu with rfl | rfl | hu
    · exact hp.1
    · exact hp.2
    · exact ih (fun q hq => h q (by simp [hq])) u hu

/-- A type of two cells, and its slices. -/
structure El (ts t : TypeId) (z : Value) (by_ : Nat) : Prop where
  under : Try.prog.underlying ts = some (.slice t)
  info : (Try.prog.info? t).map (fun i => (i.zero, i.size, i.bytes)) = some (some z, 2, by_)
  zc : z.cells.size = 2
  byl : by_ ≤ 64
theorem el52 : El 22 52 (.agg #[.int .i64 0, .int .i64 0]) 16 := ⟨by kernel_rfl, by kernel_rfl, rfl, by decide⟩
theorem el57 : El 60 57 (.agg #[.slice none 0 0, .slice none 0 0]) 48 := ⟨by kernel_rfl, by kernel_rfl, rfl, by decide⟩

/-- A row: its values lie at its head. -/
def Rw2 (w : World) (t : TypeId) (A : Option Addr) (cap : Nat) (l : List V2) : Prop :=
  (A = none ∧ cap = 0 ∧ l = []) ∨ ∃ g cur, A = some ⟨g, 0, none⟩ ∧ Blk w g t cur ∧ l.length ≤ cap ∧ cap ≤ 9223372036854775807 ∧ cap * 2 ≤ cur.size ∧ ∀ i, i < l.length * 2 → cur[i]? = (cf l)[i]?
theorem Rw2.touch {w w' : World} {S : Nat → Prop} {t : TypeId} {A : Option Addr} {cap : Nat} {l : List V2} (h : Rw2 w t A cap l) (ht : Touch S w w') (hS : ∀ a, A = some a → ¬ S a.block) : Rw2 w' t A cap l := by
  rcases h with h | ⟨g, cur, rfl, hb, hr⟩
  · exact .inl h
  · exact .inr ⟨g, cur, rfl, hb.touch ht (hS _ rfl), hr⟩
theorem Rw2.lt {w : World} {t : TypeId} {A : Option Addr} {cap : Nat} {l : List V2} (h : Rw2 w t A cap l) {a : Addr} (ha : A = some a) : a.block < w.heap.size := by
  rcases h with ⟨rfl, _⟩ | ⟨g, cur, rfl, hb, hr⟩
  · cases ha
  · injection ha with ha; subst ha; exact hb.lt
theorem Rw2.nil (w : World) (t : TypeId) : Rw2 w t none 0 [] := .inl ⟨rfl, rfl, rfl⟩
theorem Rw2.row {w : World} {t : TypeId} {A : Option Addr} {cap : Nat} {l : List V2} (h : Rw2 w t A cap l) : Row2 w A l := fun i p hp => by
  have hlt : i < l.length := by
    rcases Nat.lt_or_ge i l.length with h | h
    · exact h
    · rw [List.getElem?_eq_none h] at hp; cases hp
  rcases h with ⟨rfl, rfl, rfl⟩ | ⟨g, cur, rfl, hb, h1, h2, h3, h4⟩
  · simp at hp
  · obtain ⟨e1, e2⟩ := cf_get l i p hp
    refine ⟨g, 0, rfl, ?_, ?_⟩
    · rw [hb.cell, Nat.zero_add, h4 _ (by omega), e1]
    · rw [hb.cell, Nat.zero_add, h4 _ (by omega), e2]
theorem Rw2.le {w : World} {t : TypeId} {A : Option Addr} {cap : Nat} {l : List V2} (h : Rw2 w t A cap l) : l.length ≤ cap := by
  rcases h with ⟨rfl, rfl, rfl⟩ | ⟨g, cur, rfl, hb, h1, h2, _⟩
  · simp
  · exact h1
/-- A new block of some. -/
theorem Rw2.new (w : World) (t : TypeId) (l : List V2) (hl : l.length ≤ 100000) : Rw2 (w.alloc (.cells (cf l).toArray t)) t (some ⟨w.heap.size, 0, none⟩) l.length l :=
  .inr ⟨_, _, rfl, Blk.new _ _ _, Nat.le_refl _, by omega, by simp [cf_len], fun i _ => by simp⟩

theorem rw2_append {ts t : TypeId} {z : Value} {by_ : Nat} (E : El ts t z by_) (w : World) (A : Option Addr) (cap : Nat) (l : List V2) (h : Rw2 w t A cap l) (x : Value) (n : Nat) (ys : List V2) (hn : ys.length = n) (hs' : Src Try.prog 2 ts x n (cf ys) w) (hb : l.length + n ≤ 100000) (ty : TypeId) :
    ∃ A' cap' w', (Builtin.append_ #[ts, ts] ty #[.slice A l.length cap, x]).run Try.prog w = .ok (.slice A' (l.length + n) cap') w' ∧ Rw2 w' t A' cap' (l ++ ys) ∧ Touch (fun b => ∃ a, A = some a ∧ a.block = b) w w' ∧
      (∀ a, A' = some a → (∃ a0, A = some a0 ∧ a0.block = a.block) ∨ w.heap.size ≤ a.block) := by
  obtain ⟨i0, hi, hz0, hz1, hz2⟩ := info_parts E.info
  have hs : Src Try.prog i0.size ts x n (cf ys) w := by rw [hz1]; exact hs'
  have hl2 : (cf l).length = l.length * 2 := cf_len l
  have hy2 : (cf ys).length = n * 2 := by rw [cf_len, hn]
  have grow : ∀ (hold : (Builtin.firstCells i0.size l.length (.slice A l.length cap)).run Try.prog w.drew = .ok (cf l).toArray w.drew) (hg : cap < l.length + n),
      ∃ A' cap' w', (Builtin.append_ #[ts, ts] ty #[.slice A l.length cap, x]).run Try.prog w = .ok (.slice A' (l.length + n) cap') w' ∧ Rw2 w' t A' cap' (l ++ ys) ∧ Touch (fun b => ∃ a, A = some a ∧ a.block = b) w w' ∧
      (∀ a, A' = some a → (∃ a0, A = some a0 ∧ a0.block = a.block) ∨ w.heap.size ≤ a.block) := by
    intro hold hg
    have hr := run_append_grow_src (P := Try.prog) w ts ts ty t i0 _ E.under hi hz0 A l.length cap (cf l) hold x n (cf ys) hs hg (by omega) (by
      have := nextslicecap_le (need := l.length + n) (old := cap) hg
      rw [hz2]
      exact Nat.le_trans (Nat.mul_le_mul (show _ ≤ 200000 by omega) E.byl) (by decide))
    have hge := grownCap_ge w (l.length + n) cap t
    have hle := grownCap_le_maxLen w (l.length + n) cap t (by unfold maxLen; omega)
    have hzs : (Builtin.zeroCells z.cells (grownCap w (l.length + n) cap t - (l.length + n))).size = (grownCap w (l.length + n) cap t - (l.length + n)) * 2 := by
      rw [size_zeroCells, E.zc]
    refine ⟨_, _, _, hr, .inr ⟨w.heap.size, _, rfl, (Blk.new w.drew _ _), by simp [hn]; omega, hle, ?_, ?_⟩, (Touch.refl _ w).drew.alloc _, fun a ha => .inr (by injection ha with ha; subst ha; exact Nat.le_refl _)⟩
    · rw [Array.size_append, hzs]
      simp [hl2, hy2]
      omega
    · intro i hi'
      simp only [List.length_append, hn] at hi'
      rw [Array.getElem?_append_left (by simp [hl2, hy2]; omega), cf_app]
      simp
  rcases h with ⟨rfl, rfl, rfl⟩ | ⟨g, cur, rfl, hbk, hle, hmx, hfit, hx⟩
  · by_cases h0 : n = 0
    · subst h0
      have hy : ys = [] := List.eq_nil_of_length_eq_zero hn
      subst hy
      have hr := run_append_nothing (P := Try.prog) w ts ts ty t i0 E.under hi none 0 0 (Nat.le_refl _) x (by simpa [cf] using hs)
      exact ⟨none, 0, w, hr, .inl ⟨rfl, rfl, rfl⟩, Touch.refl _ _, fun a ha => by cases ha⟩
    · exact grow (run_firstCells_none w.drew i0.size 0 0 0) (by simp; omega)
  · by_cases hroom : l.length + n ≤ cap
    · have hr := run_append_room_src (P := Try.prog) w ts ts ty t i0 E.under hi g 0 l.length cap x n (cf ys) hs hroom
        (fun j hj => by
          rw [hbk.cell, hz1]
          rw [Array.getElem?_eq_getElem (by omega)]
          rfl)
        (fun j _ => hbk.frozen _)
      rw [hz1, Nat.zero_add] at hr
      refine ⟨some ⟨g, 0, none⟩, cap, w.setCells g (l.length * 2) (cf ys), hr, .inr ⟨g, setL cur (l.length * 2) (cf ys), rfl, hbk.setCells _ _ _, by simp [hn]; omega, hmx, by rw [setL_size]; exact hfit, ?_⟩, Touch.setCells (g := g) (.inr ⟨⟨g, 0, none⟩, rfl, rfl⟩) _ _ _ (Touch.refl _ w), fun a ha => .inl ⟨⟨g, 0, none⟩, rfl, congrArg Addr.block (Option.some.inj ha)⟩⟩
      intro i hi'
      simp only [List.length_append, hn] at hi'
      rw [cf_app]
      by_cases hlo : i < l.length * 2
      · rw [setL_lo _ _ _ _ (by omega), hx i hlo, List.getElem?_append_left (by omega)]
      · have e := setL_at (cf ys) (l.length * 2) cur (i - l.length * 2) (by omega) (by omega)
        rw [show l.length * 2 + (i - l.length * 2) = i from by omega] at e
        rw [e, List.getElem?_append_right (by omega), hl2]
    · refine grow ?_ (by omega)
      refine run_firstCells_some (P := Try.prog) w.drew i0.size l.length ⟨g, 0, none⟩ l.length cap _ (by rw [hz1, hl2]) (fun j u hu => ?_)
      have hj : j < l.length * 2 := by
        rcases Nat.lt_or_ge j (l.length * 2) with h | h
        · exact h
        · rw [List.getElem?_eq_none (by omega)] at hu; cases hu
      rw [Addr.add_mid, Nat.zero_add, hbk.drew.cell, hx j hj, hu]


/-- A row is read. -/
theorem src2 {ts t : TypeId} {z : Value} {by_ : Nat} (E : El ts t z by_) {w : World} {A : Option Addr} {l : List V2} (h : Row2 w A l) (h1 : One2 l) (n c : Nat) (hn : l.length = n) : Src Try.prog 2 ts (.slice A n c) n (cf l) w := by
  cases A with
  | none =>
    cases l with
    | nil => subst hn; exact Src.ofNil w E.under c
    | cons p l => obtain ⟨_, _, h, _⟩ := h 0 p rfl; cases h
  | some a =>
    refine Src.ofSlice w E.under a n c (cf l) (by rw [cf_len, hn]) (fun j u hu => ?_) (cf_one h1)
    have hj : j < l.length * 2 := by
      rcases Nat.lt_or_ge j (l.length * 2) with h | h
      · exact h
      · rw [List.getElem?_eq_none (by rw [cf_len]; omega)] at hu; cases hu
    obtain ⟨p, hp⟩ : ∃ p, l[j / 2]? = some p := ⟨_, List.getElem?_eq_getElem (by omega)⟩
    obtain ⟨g, off, ha, c1, c2⟩ := h _ p hp
    injection ha with ha
    subst ha
    obtain ⟨e1, e2⟩ := cf_get l _ p hp
    rw [Addr.add_mid]
    rcases Nat.mod_two_eq_zero_or_one j with hm | hm
    · have : j / 2 * 2 = j := by omega
      rw [this] at e1 c1
      rw [e1] at hu
      rw [c1, hu]
    · have : j / 2 * 2 + 1 = j := by omega
      rw [this] at e2
      rw [Nat.add_assoc, this] at c2
      rw [e2] at hu
      rw [c2, hu]

theorem wp_rw2_push {ts t : TypeId} {z : Value} {by_ : Nat} (E : El ts t z by_) {o : Oper} {a : Act} {w : World} {K : Act → World → Prop} {Q : Exit → Act → World → Prop} (hgd : o.guard = none) (s x : Operand)
    (ho : o.op = .call { callee := .builtin .append, args := #[s, x], argTypes := #[ts, ts] }) (A : Option Addr) (cap n m : Nat) (l ys : List V2) (hn : l.length = n) (hm : ys.length = m) (hv : a.eval s = .slice A n cap) (y : Value) (hx : a.eval x = y) (hy : Src Try.prog 2 ts y m (cf ys) w)
    (h : Rw2 w t A cap l) (hb : n + m ≤ 100000)
    (hK : ∀ A' cap' w', Rw2 w' t A' cap' (l ++ ys) → Touch (fun b => ∃ a, A = some a ∧ a.block = b) w w' → (∀ a, A' = some a → (∃ a0, A = some a0 ∧ a0.block = a.block) ∨ w.heap.size ≤ a.block) → K (a.put o.dst (.slice A' (n + m) cap')) w') : o.wp Try.prog a w K Q := by
  subst hn
  obtain ⟨A', cap', w', hrun, hr, hT, hf⟩ := rw2_append E w A cap l h y m ys hm hy hb o.type
  unfold Oper.wp
  simp [execOp, ho, resolve, invoke, builtin, hv, hx, hrun, Result.andThen]
  exact hK A' cap' w' hr hT hf
theorem wpList_rw2_push {ts t : TypeId} {z : Value} {by_ : Nat} (E : El ts t z by_) {ops : Array Oper} {rest : List Oper} {o : Oper} {a : Act} {w : World} {Q : Exit → Act → World → Prop} (hgd : o.guard = none) (s x : Operand)
    (ho : o.op = .call { callee := .builtin .append, args := #[s, x], argTypes := #[ts, ts] }) (A : Option Addr) (cap n m : Nat) (l ys : List V2) (hn : l.length = n) (hm : ys.length = m) (hv : a.eval s = .slice A n cap) (y : Value) (hx : a.eval x = y) (hy : Src Try.prog 2 ts y m (cf ys) w)
    (h : Rw2 w t A cap l) (hb : n + m ≤ 100000)
    (hK : ∀ A' cap' w', Rw2 w' t A' cap' (l ++ ys) → Touch (fun b => ∃ a, A = some a ∧ a.block = b) w w' → (∀ a, A' = some a → (∃ a0, A = some a0 ∧ a0.block = a.block) ∨ w.heap.size ≤ a.block) → wpList Try.prog ops Q rest (a.put o.dst (.slice A' (n + m) cap')) w') : wpList Try.prog ops Q (o :: rest) a w := by
  refine wpList_plain hgd fun K hK' => ?_
  subst hn
  obtain ⟨A', cap', w', hrun, hr, hT, hf⟩ := rw2_append E w A cap l h y m ys hm hy hb o.type
  unfold Oper.wp
  simp [execOp, ho, resolve, invoke, builtin, hv, hx, hrun, Result.andThen]
  exact hK' _ _ (hK A' cap' w' hr hT hf)
theorem wpListIn_rw2_push {F : Fence} {mm : Nat} {ts t : TypeId} {z : Value} {by_ : Nat} (E : El ts t z by_) {ops : Array Oper} {rest : List Oper} {o : Oper} {a : Act} {w : World} {Q : Exit → Act → World → Prop} (hgd : o.guard = none) (s x : Operand)
    (ho : o.op = .call { callee := .builtin .append, args := #[s, x], argTypes := #[ts, ts] }) (A : Option Addr) (cap n m : Nat) (l ys : List V2) (hn : l.length = n) (hm : ys.length = m) (hv : a.eval s = .slice A n cap) (y : Value) (hx : a.eval x = y) (hy : Src Try.prog 2 ts y m (cf ys) w)
    (h : Rw2 w t A cap l) (hb : n + m ≤ 100000)
    (hK : ∀ A' cap' w', Rw2 w' t A' cap' (l ++ ys) → Touch (fun b => ∃ a, A = some a ∧ a.block = b) w w' → (∀ a, A' = some a → (∃ a0, A = some a0 ∧ a0.block = a.block) ∨ w.heap.size ≤ a.block) → wpListIn F mm Try.prog ops Q rest (a.put o.dst (.slice A' (n + m) cap')) w') : wpListIn F mm Try.prog ops Q (o :: rest) a w := by
  refine wpListIn_plain hgd fun K hK' => ?_
  subst hn
  obtain ⟨A', cap', w', hrun, hr, hT, hf⟩ := rw2_append E w A cap l h y m ys hm hy hb o.type
  unfold Oper.wpIn
  refine ⟨?_, ?_⟩
  · simp [Oper.about, ho, resolve, Target.leads, Sem.run_pure]
  · rw [Oper.semAt_plain F _ _ (by rw [ho]; intro c hc'; cases hc')]
    simp [execOp, ho, resolve, invoke, builtin, hv, hx, hrun, Result.andThen]
    exact hK' _ _ (hK A' cap' w' hr hT hf)
theorem one2_sp (l : List Sp) : One2 (l.map spV2) := fun p hp => by
  obtain ⟨s, _, rfl⟩ := mem_sp hp
  exact ⟨rfl, rfl⟩
theorem One2.app {a b : List V2} (h : One2 a) (k : One2 b) : One2 (a ++ b) := fun p hp => (List.mem_append.1 hp).elim (h p) (k p)
end Go.Proofs.Ytgoeocfgajbldaa
