/- Rows of a document's holds. (Printed by genV.py.) -/
import Derived.Test.YtgoeocfgajbldaaT
import Derived.Test.YtgoeocfgajbldaaU
namespace Go.Proofs.Ytgoeocfgajbldaa
open Go.RowKit
set_option linter.unusedVariables false

theorem under38 : Try.prog.underlying 38 = some (.slice 40) := by kernel_rfl
def zRH : Value := .agg #[.int .i64 0, .slice none 0 0, .slice none 0 0]
theorem info40 : (Try.prog.info? 40).map (fun i => (i.zero, i.size, i.bytes)) = some (some zRH, 3, 56) := by kernel_rfl
/-- The cells of a row. -/
def rf : List RH → List Value
  | [] => []
  | p :: l => [.int .i64 p.n, .slice p.A p.r.length p.ca, .slice p.B p.t.length p.cb] ++ rf l
theorem rf_app : ∀ a b : List RH, rf (a ++ b) = rf a ++ rf b
  | [], b => rfl
  | p :: a, b => by simp [rf, rf_app a b]
theorem rf_len : ∀ l : List RH, (rf l).length = l.length * 3
  | [] => rfl
  | p :: l => by simp [rf, rf_len l]; omega
theorem rf_get : ∀ (l : List RH) (i : Nat) (p : RH), l[i]? = some p → (rf l)[i * 3]? = some (.int .i64 p.n) ∧ (rf l)[i * 3 + 1]? = some (.slice p.A p.r.length p.ca) ∧ (rf l)[i * 3 + 2]? = some (.slice p.B p.t.length p.cb)
  | [], i, p, h => by simp at h
  | x :: l, 0, p, h => by
    simp at h; subst h
    exact ⟨rfl, rfl, rfl⟩
  | x :: l, i + 1, p, h => by
    have e := rf_get l i p (by simpa using h)
    rw [show (i + 1) * 3 = i * 3 + 3 from by omega, show i * 3 + 3 + 1 = i * 3 + 1 + 3 from by omega, show i * 3 + 3 + 2 = i * 3 + 2 + 3 from by omega]
    exact e
theorem rf_one (l : List RH) : ∀ u ∈ rf l, u.oneCell' = true := by
  induction l with
  | nil => intro u h; cases h
  | cons p l ih =>
    intro u hu
    simp only [rf, List.cons_append, List.nil_append, List.mem_cons] at hu
    rcases hu with rfl | rfl | rfl | hu
    · rfl
    · rfl
    · rfl
    · exact ih u hu
/-- A row: its holds lie at its head. -/
def Rw3 (w : World) (A : Option Addr) (cap : Nat) (l : List RH) : Prop :=
  (A = none ∧ cap = 0 ∧ l = []) ∨ ∃ g cur, A = some ⟨g, 0, none⟩ ∧ Blk w g 40 cur ∧ l.length ≤ cap ∧ cap ≤ 9223372036854775807 ∧ cap * 3 ≤ cur.size ∧ ∀ i, i < l.length * 3 → cur[i]? = (rf l)[i]?
theorem Rw3.touch {w w' : World} {S : Nat → Prop} {A : Option Addr} {cap : Nat} {l : List RH} (h : Rw3 w A cap l) (ht : Touch S w w') (hS : ∀ a, A = some a → ¬ S a.block) : Rw3 w' A cap l := by
  rcases h with h | ⟨g, cur, rfl, hb, hr⟩
  · exact .inl h
  · exact .inr ⟨g, cur, rfl, hb.touch ht (hS _ rfl), hr⟩
theorem Rw3.map {w w' : World} {m : Nat} {E : List Ent} {A : Option Addr} {cap : Nat} {l : List RH} (h : Rw3 w A cap l) (hm : Mp w m E) (ht : Touch (fun b => b = m) w w') : Rw3 w' A cap l := by
  rcases h with h | ⟨g, cur, rfl, hb, hr⟩
  · exact .inl h
  · exact .inr ⟨g, cur, rfl, hb.touch ht (hb.ne_map hm), hr⟩
theorem Rw3.lt {w : World} {A : Option Addr} {cap : Nat} {l : List RH} (h : Rw3 w A cap l) {a : Addr} (ha : A = some a) : a.block < w.heap.size := by
  rcases h with ⟨rfl, _⟩ | ⟨g, cur, rfl, hb, hr⟩
  · cases ha
  · injection ha with ha; subst ha; exact hb.lt
theorem Rw3.nil (w : World) : Rw3 w none 0 [] := .inl ⟨rfl, rfl, rfl⟩
theorem Rw3.le {w : World} {A : Option Addr} {cap : Nat} {l : List RH} (h : Rw3 w A cap l) : l.length ≤ cap ∧ cap ≤ 9223372036854775807 := by
  rcases h with ⟨rfl, rfl, rfl⟩ | ⟨g, cur, rfl, hb, h1, h2, _⟩
  · simp
  · exact ⟨h1, h2⟩
theorem Rw3.cell {w : World} {A : Option Addr} {cap : Nat} {l : List RH} (h : Rw3 w A cap l) {i : Nat} {p : RH} (hi : l[i]? = some p) :
    ∃ g, A = some ⟨g, 0, none⟩ ∧ w.cell? ⟨g, i * 3, none⟩ = some (.int .i64 p.n) ∧ w.cell? ⟨g, i * 3 + 1, none⟩ = some (.slice p.A p.r.length p.ca) ∧ w.cell? ⟨g, i * 3 + 2, none⟩ = some (.slice p.B p.t.length p.cb) := by
  rcases h with ⟨rfl, rfl, rfl⟩ | ⟨g, cur, rfl, hb, h1, h2, h3, h4⟩
  · simp at hi
  · have hlt : i < l.length := by
      rcases Nat.lt_or_ge i l.length with h | h
      · exact h
      · rw [List.getElem?_eq_none h] at hi; cases hi
    obtain ⟨e1, e2, e3⟩ := rf_get l i p hi
    exact ⟨g, rfl, by rw [hb.cell, h4 _ (by omega), e1], by rw [hb.cell, h4 _ (by omega), e2], by rw [hb.cell, h4 _ (by omega), e3]⟩
theorem Rw3.new (w : World) (l : List RH) (hl : l.length ≤ 100000) : Rw3 (w.alloc (.cells (rf l).toArray 40)) (some ⟨w.heap.size, 0, none⟩) l.length l :=
  .inr ⟨_, _, rfl, Blk.new _ _ _, Nat.le_refl _, by omega, by simp [rf_len], fun i _ => by simp⟩

theorem rw3_append (w : World) (A : Option Addr) (cap : Nat) (l : List RH) (h : Rw3 w A cap l) (x : Value) (n : Nat) (ys : List RH) (hn : ys.length = n) (hs' : Src Try.prog 3 38 x n (rf ys) w) (hb : l.length + n ≤ 100000) (ty : TypeId) :
    ∃ A' cap' w', (Builtin.append_ #[38, 38] ty #[.slice A l.length cap, x]).run Try.prog w = .ok (.slice A' (l.length + n) cap') w' ∧ Rw3 w' A' cap' (l ++ ys) ∧ Touch (fun b => ∃ a, A = some a ∧ a.block = b) w w' ∧
      (∀ a, A' = some a → (∃ a0, A = some a0 ∧ a0.block = a.block) ∨ w.heap.size ≤ a.block) := by
  obtain ⟨i0, hi, hz0, hz1, hz2⟩ := info_parts info40
  have hs : Src Try.prog i0.size 38 x n (rf ys) w := by rw [hz1]; exact hs'
  have hl3 : (rf l).length = l.length * 3 := rf_len l
  have hy3 : (rf ys).length = n * 3 := by rw [rf_len, hn]
  have grow : ∀ (hold : (Builtin.firstCells i0.size l.length (.slice A l.length cap)).run Try.prog w.drew = .ok (rf l).toArray w.drew) (hg : cap < l.length + n),
      ∃ A' cap' w', (Builtin.append_ #[38, 38] ty #[.slice A l.length cap, x]).run Try.prog w = .ok (.slice A' (l.length + n) cap') w' ∧ Rw3 w' A' cap' (l ++ ys) ∧ Touch (fun b => ∃ a, A = some a ∧ a.block = b) w w' ∧
      (∀ a, A' = some a → (∃ a0, A = some a0 ∧ a0.block = a.block) ∨ w.heap.size ≤ a.block) := by
    intro hold hg
    have hr := run_append_grow_src (P := Try.prog) w 38 38 ty 40 i0 _ under38 hi hz0 A l.length cap (rf l) hold x n (rf ys) hs hg (by omega) (by
      have := nextslicecap_le (need := l.length + n) (old := cap) hg
      rw [hz2]
      exact Nat.le_trans (Nat.mul_le_mul (show _ ≤ 200000 by omega) (by decide : (56 : Nat) ≤ 64)) (by decide))
    have hge := grownCap_ge w (l.length + n) cap 40
    have hle := grownCap_le_maxLen w (l.length + n) cap 40 (by unfold maxLen; omega)
    have hzs : (Builtin.zeroCells zRH.cells (grownCap w (l.length + n) cap 40 - (l.length + n))).size = (grownCap w (l.length + n) cap 40 - (l.length + n)) * 3 := by
      rw [size_zeroCells, show zRH.cells.size = 3 from rfl]
    refine ⟨_, _, _, hr, .inr ⟨w.heap.size, _, rfl, (Blk.new w.drew _ _), by simp [hn]; omega, hle, ?_, ?_⟩, (Touch.refl _ w).drew.alloc _, fun a ha => .inr (by injection ha with ha; subst ha; exact Nat.le_refl _)⟩
    · rw [Array.size_append, hzs]
      simp [hl3, hy3]
      omega
    · intro i hi'
      simp only [List.length_append, hn] at hi'
      rw [Array.getElem?_append_left (by simp [hl3, hy3]; omega), rf_app]
      simp
  rcases h with ⟨rfl, rfl, rfl⟩ | ⟨g, cur, rfl, hbk, hle, hmx, hfit, hx⟩
  · by_cases h0 : n = 0
    · subst h0
      have hy : ys = [] := List.eq_nil_of_length_eq_zero hn
      subst hy
      have hr := run_append_nothing (P := Try.prog) w 38 38 ty 40 i0 under38 hi none 0 0 (Nat.le_refl _) x (by simpa [rf] using hs)
      exact ⟨none, 0, w, hr, .inl ⟨rfl, rfl, rfl⟩, Touch.refl _ _, fun a ha => by cases ha⟩
    · exact grow (run_firstCells_none w.drew i0.size 0 0 0) (by simp; omega)
  · by_cases hroom : l.length + n ≤ cap
    · have hr := run_append_room_src (P := Try.prog) w 38 38 ty 40 i0 under38 hi g 0 l.length cap x n (rf ys) hs hroom
        (fun j hj => by
          rw [hbk.cell, hz1]
          rw [Array.getElem?_eq_getElem (by omega)]
          rfl)
        (fun j _ => hbk.frozen _)
      rw [hz1, Nat.zero_add] at hr
      refine ⟨some ⟨g, 0, none⟩, cap, w.setCells g (l.length * 3) (rf ys), hr, .inr ⟨g, setL cur (l.length * 3) (rf ys), rfl, hbk.setCells _ _ _, by simp [hn]; omega, hmx, by rw [setL_size]; exact hfit, ?_⟩, Touch.setCells (g := g) (.inr ⟨⟨g, 0, none⟩, rfl, rfl⟩) _ _ _ (Touch.refl _ w), fun a ha => .inl ⟨⟨g, 0, none⟩, rfl, congrArg Addr.block (Option.some.inj ha)⟩⟩
      intro i hi'
      simp only [List.length_append, hn] at hi'
      rw [rf_app]
      by_cases hlo : i < l.length * 3
      · rw [setL_lo _ _ _ _ (by omega), hx i hlo, List.getElem?_append_left (by omega)]
      · have e := setL_at (rf ys) (l.length * 3) cur (i - l.length * 3) (by omega) (by omega)
        rw [show l.length * 3 + (i - l.length * 3) = i from by omega] at e
        rw [e, List.getElem?_append_right (by omega), hl3]
    · refine grow ?_ (by omega)
      refine run_firstCells_some (P := Try.prog) w.drew i0.size l.length ⟨g, 0, none⟩ l.length cap _ (by rw [hz1, hl3]) (fun j u hu => ?_)
      have hj : j < l.length * 3 := by
        rcases Nat.lt_or_ge j (l.length * 3) with h | h
        · exact h
        · rw [List.getElem?_eq_none (by omega)] at hu; cases hu
      rw [Addr.add_mid, Nat.zero_add, hbk.drew.cell, hx j hj, hu]



theorem rf_drop : ∀ (l : List RH) (a : Nat), rf (l.drop a) = (rf l).drop (a * 3)
  | [], a => by simp [rf]
  | j :: l, 0 => by simp
  | j :: l, a + 1 => by
    rw [List.drop_succ_cons, rf_drop l a, rf, show (a + 1) * 3 = a * 3 + 3 from by omega, List.drop_append]
    simp
theorem rf_take : ∀ (l : List RH) (a : Nat), rf (l.take a) = (rf l).take (a * 3)
  | [], a => by simp [rf]
  | j :: l, 0 => by simp [rf]
  | j :: l, a + 1 => by
    rw [List.take_succ_cons, rf, rf, rf_take l a, show (a + 1) * 3 = a * 3 + 3 from by omega, List.take_append]
    simp
/-- Some of a row are read. -/
theorem src3_some {w : World} {g cap : Nat} {l ys : List RH} (h : Rw3 w (some ⟨g, 0, none⟩) cap l) (a n c : Nat) (hy : (l.drop a).take n = ys) (hn : ys.length = n) : Src Try.prog 3 38 (.slice (some ⟨g, a * 3, none⟩) n c) n (rf ys) w := by
  refine Src.ofSlice w under38 ⟨g, a * 3, none⟩ n c (rf ys) (by rw [rf_len, hn]) (fun j u hu => ?_) (rf_one _)
  have hj : j < n * 3 := by
    rcases Nat.lt_or_ge j (n * 3) with h | h
    · exact h
    · rw [List.getElem?_eq_none (by rw [rf_len, hn]; omega)] at hu; cases hu
  rcases h with ⟨h0, _⟩ | ⟨g', cur, hg, hb, h1, h2, h3, h4⟩
  · cases h0
  · injection hg with hg
    injection hg with hg
    subst hg
    have hal : a + n ≤ l.length := by
      have := congrArg List.length hy
      rw [List.length_take, List.length_drop, hn] at this
      omega
    rw [Addr.add_mid, hb.cell, h4 _ (by omega), ← hu, ← hy, rf_take, rf_drop, List.getElem?_take_of_lt (by omega), List.getElem?_drop]
theorem src3_one {w : World} {g : Nat} {p : RH} (h : Blk w g 40 p.cells) : Src Try.prog 3 38 (.slice (some ⟨g, 0, none⟩) 1 1) 1 (rf [p]) w := by
  refine Src.ofSlice w under38 ⟨g, 0, none⟩ 1 1 (rf [p]) (by simp [rf]) (fun i u hu => ?_) (rf_one _)
  rw [Addr.add_mid, Nat.zero_add, h.cell, ← hu]
  simp [rf, RH.cells]
theorem src3_take {w : World} {g cap i : Nat} {l : List RH} (h : Rw3 w (some ⟨g, 0, none⟩) cap l) (c : Nat) (hn : (l.take i).length = i) : Src Try.prog 3 38 (.slice (some ⟨g, 0, none⟩) i c) i (rf (l.take i)) w := by
  have := src3_some h 0 i c (ys := l.take i) (by simp) hn
  simpa using this
theorem src3_nil {w : World} (a : Option Addr) (c : Nat) {n : Nat} {ys : List RH} (hn : n = 0) (hy : ys = []) : Src Try.prog 3 38 (.slice a n c) n (rf ys) w := by
  subst hn hy
  cases a with
  | none => exact Src.ofNil w under38 c
  | some a => exact Src.ofSlice w under38 a 0 c [] rfl (fun j u h => by simp at h) (fun u h => by cases h)

theorem wp_rw3_push {o : Oper} {a : Act} {w : World} {K : Act → World → Prop} {Q : Exit → Act → World → Prop} (hgd : o.guard = none) (s x : Operand)
    (ho : o.op = .call { callee := .builtin .append, args := #[s, x], argTypes := #[38, 38] }) (A : Option Addr) (cap n m : Nat) (l ys : List RH) (hn : l.length = n) (hm : ys.length = m) (hv : a.eval s = .slice A n cap) (y : Value) (hx : a.eval x = y) (hy : Src Try.prog 3 38 y m (rf ys) w)
    (h : Rw3 w A cap l) (hb : n + m ≤ 100000)
    (hK : ∀ A' cap' w', Rw3 w' A' cap' (l ++ ys) → Touch (fun b => ∃ a, A = some a ∧ a.block = b) w w' → (∀ a, A' = some a → (∃ a0, A = some a0 ∧ a0.block = a.block) ∨ w.heap.size ≤ a.block) → K (a.put o.dst (.slice A' (n + m) cap')) w') : o.wp Try.prog a w K Q := by
  subst hn
  obtain ⟨A', cap', w', hrun, hr, hT, hf⟩ := rw3_append w A cap l h y m ys hm hy hb o.type
  unfold Oper.wp
  simp [execOp, ho, resolve, invoke, builtin, hv, hx, hrun, Result.andThen]
  exact hK A' cap' w' hr hT hf
theorem wpList_rw3_push {ops : Array Oper} {rest : List Oper} {o : Oper} {a : Act} {w : World} {Q : Exit → Act → World → Prop} (hgd : o.guard = none) (s x : Operand)
    (ho : o.op = .call { callee := .builtin .append, args := #[s, x], argTypes := #[38, 38] }) (A : Option Addr) (cap n m : Nat) (l ys : List RH) (hn : l.length = n) (hm : ys.length = m) (hv : a.eval s = .slice A n cap) (y : Value) (hx : a.eval x = y) (hy : Src Try.prog 3 38 y m (rf ys) w)
    (h : Rw3 w A cap l) (hb : n + m ≤ 100000)
    (hK : ∀ A' cap' w', Rw3 w' A' cap' (l ++ ys) → Touch (fun b => ∃ a, A = some a ∧ a.block = b) w w' → (∀ a, A' = some a → (∃ a0, A = some a0 ∧ a0.block = a.block) ∨ w.heap.size ≤ a.block) → wpList Try.prog ops Q rest (a.put o.dst (.slice A' (n + m) cap')) w') : wpList Try.prog ops Q (o :: rest) a w := by
  refine wpList_plain hgd fun K hK' => ?_
  subst hn
  obtain ⟨A', cap', w', hrun, hr, hT, hf⟩ := rw3_append w A cap l h y m ys hm hy hb o.type
  unfold Oper.wp
  simp [execOp, ho, resolve, invoke, builtin, hv, hx, hrun, Result.andThen]
  exact hK' _ _ (hK A' cap' w' hr hT hf)
end Go.Proofs.Ytgoeocfgajbldaa
