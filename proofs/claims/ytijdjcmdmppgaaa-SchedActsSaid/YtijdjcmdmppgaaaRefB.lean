/- The document's queue: rows of requests are appended to. -/
import Derived.Test.YtijdjcmdmppgaaaRefA
namespace Go.Proofs.Ytijdjcmdmppgaaa
open Go.RowKit
set_option linter.unusedVariables false

def zJ : Value := .agg #[.int .i64 0, .int .i64 0, .int .i64 0, .int .i64 0]
theorem under71 : Try.prog.underlying 71 = some (.slice 31) := by kernel_rfl
theorem info31 : (Try.prog.info? 31).map (fun i => (i.zero, i.size, i.bytes)) = some (some zJ, 4, 32) := by kernel_rfl

theorem rwj_append (w : World) (A : Option Addr) (cap : Nat) (l : List Jb) (h : RwJ w A cap l) (x : Value) (n : Nat) (ys : List Jb) (hn : ys.length = n) (hs' : Src Try.prog 4 71 x n (jf ys) w) (hb : l.length + n ≤ 100000) (ty : TypeId) :
    ∃ A' cap' w', (Builtin.append_ #[71, 71] ty #[.slice A l.length cap, x]).run Try.prog w = .ok (.slice A' (l.length + n) cap') w' ∧ RwJ w' A' cap' (l ++ ys) ∧ Touch (fun b => ∃ a, A = some a ∧ a.block = b) w w' ∧
      (∀ a, A' = some a → (∃ a0, A = some a0 ∧ a0.block = a.block) ∨ w.heap.size ≤ a.block) := by
  obtain ⟨i0, hi, hz0, hz1, hz2⟩ := info_parts info31
  have hs : Src Try.prog i0.size 71 x n (jf ys) w := by rw [hz1]; exact hs'
  have hl4 : (jf l).length = l.length * 4 := jf_len l
  have hy4 : (jf ys).length = n * 4 := by rw [jf_len, hn]
  have grow : ∀ (hold : (Builtin.firstCells i0.size l.length (.slice A l.length cap)).run Try.prog w.drew = .ok (jf l).toArray w.drew) (hg : cap < l.length + n),
      ∃ A' cap' w', (Builtin.append_ #[71, 71] ty #[.slice A l.length cap, x]).run Try.prog w = .ok (.slice A' (l.length + n) cap') w' ∧ RwJ w' A' cap' (l ++ ys) ∧ Touch (fun b => ∃ a, A = some a ∧ a.block = b) w w' ∧
      (∀ a, A' = some a → (∃ a0, A = some a0 ∧ a0.block = a.block) ∨ w.heap.size ≤ a.block) := by
    intro hold hg
    have hr := run_append_grow_src (P := Try.prog) w 71 71 ty 31 i0 _ under71 hi hz0 A l.length cap (jf l) hold x n (jf ys) hs hg (by omega) (by
      have := nextslicecap_le (need := l.length + n) (old := cap) hg
      rw [hz2]; omega)
    have hge := grownCap_ge w (l.length + n) cap 31
    have hle := grownCap_le_maxLen w (l.length + n) cap 31 (by unfold maxLen; omega)
    have hzs : (Builtin.zeroCells zJ.cells (grownCap w (l.length + n) cap 31 - (l.length + n))).size = (grownCap w (l.length + n) cap 31 - (l.length + n)) * 4 := by
      rw [size_zeroCells]; rfl
    refine ⟨_, _, _, hr, .inr ⟨w.heap.size, _, rfl, (Blk.new w.drew _ _), by simp [hn]; omega, hle, ?_, ?_⟩, (Touch.refl _ w).drew.alloc _, fun a ha => .inr (by injection ha with ha; subst ha; exact Nat.le_refl _)⟩
    · rw [Array.size_append, hzs]
      simp [hl4, hy4]
      omega
    · intro i hi'
      simp only [List.length_append, hn] at hi'
      rw [Array.getElem?_append_left (by simp [hl4, hy4]; omega), jf_app]
      simp
  rcases h with ⟨rfl, rfl, rfl⟩ | ⟨g, cur, rfl, hbk, hle, hmx, hfit, hx⟩
  · by_cases h0 : n = 0
    · subst h0
      have hy : ys = [] := List.eq_nil_of_length_eq_zero hn
      subst hy
      have hr := run_append_nothing (P := Try.prog) w 71 71 ty 31 i0 under71 hi none 0 0 (Nat.le_refl _) x (by simpa [jf] using hs)
      exact ⟨none, 0, w, hr, .inl ⟨rfl, rfl, rfl⟩, Touch.refl _ _, fun a ha => by cases ha⟩
    · exact grow (run_firstCells_none w.drew i0.size 0 0 0) (by simp; omega)
  · by_cases hroom : l.length + n ≤ cap
    · have hr := run_append_room_src (P := Try.prog) w 71 71 ty 31 i0 under71 hi g 0 l.length cap x n (jf ys) hs hroom
        (fun j hj => by
          rw [hbk.cell, hz1]
          rw [Array.getElem?_eq_getElem (by omega)]
          rfl)
        (fun j _ => hbk.frozen _)
      rw [hz1, Nat.zero_add] at hr
      refine ⟨_, _, _, hr, .inr ⟨g, _, rfl, hbk.setCells _ _ _, by simp [hn]; omega, hmx, by rw [setL_size]; exact hfit, ?_⟩, (Touch.refl _ w).setCells (.inr ⟨_, rfl, rfl⟩) _ _ _, fun a ha => .inl ⟨_, rfl, by injection ha with ha; subst ha; rfl⟩⟩
      intro i hi'
      simp only [List.length_append, hn] at hi'
      rw [jf_app]
      by_cases hlo : i < l.length * 4
      · rw [setL_lo _ _ _ _ (by omega), hx i hlo, List.getElem?_append_left (by omega)]
      · have e := setL_at (jf ys) (l.length * 4) cur (i - l.length * 4) (by omega) (by omega)
        rw [show l.length * 4 + (i - l.length * 4) = i from by omega] at e
        rw [e, List.getElem?_append_right (by omega), hl4]
    · refine grow ?_ (by omega)
      refine run_firstCells_some (P := Try.prog) w.drew i0.size l.length ⟨g, 0, none⟩ l.length cap _ (by rw [hz1, hl4]) (fun j u hu => ?_)
      have hj : j < l.length * 4 := by
        rcases Nat.lt_or_ge j (l.length * 4) with h | h
        · exact h
        · rw [List.getElem?_eq_none (by omega)] at hu; cases hu
      rw [Addr.add_mid, Nat.zero_add, hbk.drew.cell, hx j hj, hu]

theorem jf_drop : ∀ (l : List Jb) (a : Nat), jf (l.drop a) = (jf l).drop (a * 4)
  | [], a => by simp [jf]
  | j :: l, 0 => by simp
  | j :: l, a + 1 => by
    rw [List.drop_succ_cons, jf_drop l a, jf, show (a + 1) * 4 = a * 4 + 4 from by omega, List.drop_append]
    simp [jv]
theorem jf_take : ∀ (l : List Jb) (a : Nat), jf (l.take a) = (jf l).take (a * 4)
  | [], a => by simp [jf]
  | j :: l, 0 => by simp [jf]
  | j :: l, a + 1 => by
    rw [List.take_succ_cons, jf, jf, jf_take l a, show (a + 1) * 4 = a * 4 + 4 from by omega, List.take_append]
    simp [jv]

/-- Some requests of a row are read. -/
theorem srcj_some {w : World} {g cap : Nat} {l ys : List Jb} (h : RwJ w (some ⟨g, 0, none⟩) cap l) (a n c : Nat) (hy : (l.drop a).take n = ys) (hn : ys.length = n) : Src Try.prog 4 71 (.slice (some ⟨g, a * 4, none⟩) n c) n (jf ys) w := by
  refine Src.ofSlice w under71 ⟨g, a * 4, none⟩ n c (jf ys) (by rw [jf_len, hn]) (fun j u hu => ?_) (jf_one _)
  have hj : j < n * 4 := by
    rcases Nat.lt_or_ge j (n * 4) with h | h
    · exact h
    · rw [List.getElem?_eq_none (by rw [jf_len, hn]; omega)] at hu; cases hu
  rcases h with ⟨h0, _⟩ | ⟨g', cur, hg, hb, h1, h2, h3, h4⟩
  · cases h0
  · injection hg with hg
    injection hg with hg
    subst hg
    have hal : a + n ≤ l.length := by
      have := congrArg List.length hy
      rw [List.length_take, List.length_drop, hn] at this
      omega
    rw [Addr.add_mid, hb.cell, h4 _ (by omega), ← hu, ← hy, jf_take, jf_drop, List.getElem?_take_of_lt (by omega), List.getElem?_drop]
theorem srcj_one {w : World} {g : Nat} {j : Jb} (h : Blk w g 31 (jv j).toArray) : Src Try.prog 4 71 (.slice (some ⟨g, 0, none⟩) 1 1) 1 (jf [j]) w := by
  refine Src.ofSlice w under71 ⟨g, 0, none⟩ 1 1 (jf [j]) (by simp [jf, jv]) (fun i u hu => ?_) (jf_one _)
  rw [Addr.add_mid, Nat.zero_add, h.cell, ← hu]
  simp [jf]

theorem wp_rwj_push {o : Oper} {a : Act} {w : World} {K : Act → World → Prop} {Q : Exit → Act → World → Prop} (hgd : o.guard = none) (s x : Operand)
    (ho : o.op = .call { callee := .builtin .append, args := #[s, x], argTypes := #[71, 71] }) (A : Option Addr) (cap n m : Nat) (l ys : List Jb) (hn : l.length = n) (hm : ys.length = m) (hv : a.eval s = .slice A n cap) (y : Value) (hx : a.eval x = y) (hy : Src Try.prog 4 71 y m (jf ys) w)
    (h : RwJ w A cap l) (hb : n + m ≤ 100000)
    (hK : ∀ A' cap' w', RwJ w' A' cap' (l ++ ys) → Touch (fun b => ∃ a, A = some a ∧ a.block = b) w w' → (∀ a, A' = some a → (∃ a0, A = some a0 ∧ a0.block = a.block) ∨ w.heap.size ≤ a.block) → K (a.put o.dst (.slice A' (n + m) cap')) w') : o.wp Try.prog a w K Q := by
  subst hn
  obtain ⟨A', cap', w', hrun, hr, hT, hf⟩ := rwj_append w A cap l h y m ys hm hy hb o.type
  unfold Oper.wp
  simp [execOp, ho, resolve, invoke, builtin, hv, hx, hrun, Result.andThen]
  exact hK A' cap' w' hr hT hf
end Go.Proofs.Ytijdjcmdmppgaaa
