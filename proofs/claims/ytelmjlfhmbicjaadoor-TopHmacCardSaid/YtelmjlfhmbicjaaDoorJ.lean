/- sha: Pad. -/
import Derived.Test.YtelmjlfhmbicjaaDoorI
import Derived.Lib.AppendZerosOnto
namespace Go.Proofs.YtelmjlfhmbicjaaDoor
open Go.RowKit
set_option linter.unusedVariables false

theorem zeroCells_one (z : Value) (n : Nat) : Builtin.zeroCells #[z] n = (List.replicate n z).toArray := by
  apply Array.ext
  · simp [size_zeroCells]
  · intro i h1 h2
    simp [Builtin.zeroCells, Nat.mod_one]

theorem rest_zeros (w : World) (A : Option Addr) (xs : List Int) (k : Nat) (h : Rest w A xs.length xs) (hb : xs.length + k ≤ 100000) : ∃ A' cap' w', (Builtin.append_ #[23, 3] 23 #[.slice A xs.length xs.length, .int .i64 k]).run Tryd.prog w = .ok (.slice A' (xs.length + k) cap') w' ∧ Rest w' A' cap' (xs ++ List.replicate k 0) ∧ Touch (fun _ => False) w w' ∧
      (∀ a, A' = some a → (∃ a0, A = some a0 ∧ a0.block = a.block) ∨ w.heap.size ≤ a.block) := by
  obtain ⟨i0, hi, hz0, hz1, hz2⟩ := info_parts Tryd.info5
  have h23 : Tryd.prog.underlying 23 = some (.slice 5) := by kernel_rfl
  have h3 : Tryd.prog.underlying 3 = some (.int .i64) := by kernel_rfl
  have hold : (Builtin.firstCells i0.size xs.length (.slice A xs.length xs.length)).run Tryd.prog w.drew = .ok (xs.map (Value.int .u8)).toArray w.drew := by
    rcases h with ⟨rfl, _, rfl⟩ | ⟨g, off, cur, rfl, hbk, hle, hmx, hfit, hx⟩
    · exact run_firstCells_none w.drew i0.size 0 0 0
    · refine run_firstCells_some (P := Tryd.prog) w.drew i0.size xs.length ⟨g, off, none⟩ xs.length xs.length _ (by rw [hz1]; simp) (fun j u hu => ?_)
      have hj : j < xs.length := by
        rcases Nat.lt_or_ge j xs.length with h | h
        · exact h
        · rw [List.getElem?_eq_none (by simpa using h)] at hu; cases hu
      rw [u8_get xs j hj] at hu
      injection hu with hu
      rw [Addr.add_mid, hbk.drew.cell, hx j hj, hu]
  by_cases hk : k = 0
  · subst hk
    refine ⟨A, xs.length, w, ?_, by simpa using h, Touch.refl _ _, fun a ha => .inl ⟨a, ha, rfl⟩⟩
    cases A <;> simp [Builtin.append_, run_underlying h23, run_underlying h3, sizeOf, typeInfo, hi, asInt, asIntOf, storeCells, IntKind.wrap_i64]
  · have hr := Lib.run_append_grow_zeros (P := Tryd.prog) w 23 3 23 5 i0 _ .i64 .i64 h23 h3 hi hz0 A xs.length xs.length _ hold k (by omega) (by omega) (by omega) (by omega) (by rw [hz2]; omega) (by
      have := nextslicecap_le (need := xs.length + k) (old := xs.length) (by omega)
      rw [hz2]; omega)
    have hge := grownCap_ge w (xs.length + k) xs.length 5
    have hle := grownCap_le_maxLen w (xs.length + k) xs.length 5 (by unfold maxLen; omega)
    refine ⟨_, _, _, hr, .inr ⟨w.heap.size, 0, _, rfl, (Blk.new w.drew _ _), by simp; omega, hle, ?_, ?_⟩, (Touch.refl _ w).drew.alloc _, fun a ha => .inr (by injection ha with ha; subst ha; exact Nat.le_refl _)⟩
    · rw [Array.size_append, Array.size_append, size_zeroCells, size_zeroCells]
      simp [Value.cells]
      omega
    · intro i hi'
      simp only [List.length_append, List.length_replicate] at hi'
      have hz : Builtin.zeroCells (Value.int .u8 0).cells k = ((List.replicate k (0 : Int)).map (Value.int .u8)).toArray := by
        have := zeroCells_one (.int .u8 0) k
        rw [show (Value.int .u8 0).cells = #[.int .u8 0] from rfl]
        simp [this]
      rw [Nat.zero_add, Array.getElem?_append_left (by rw [Array.size_append, size_zeroCells]; simp [Value.cells]; omega), hz, List.append_toArray, ← List.map_append]
      simp only [List.getElem?_toArray]
      exact u8_get (xs ++ List.replicate k 0) i (by simp; omega)
theorem wpList_rest_zeros {ops : Array Oper} {rest : List Oper} {o : Oper} {a : Act} {w : World} {Q : Exit → Act → World → Prop} (hgd : o.guard = none) (s x : Operand)
    (ho : o.op = .call { callee := .builtin .append, args := #[s, x], argTypes := #[23, 3] }) (A : Option Addr) (xs : List Int) (hv : a.eval s = .slice A xs.length xs.length) (k : Nat) (hx : a.eval x = .int .i64 k)
    (h : Rest w A xs.length xs) (hb : xs.length + k ≤ 100000)
    (hK : ∀ A' cap' w', Rest w' A' cap' (xs ++ List.replicate k 0) → Touch (fun _ => False) w w' → (∀ a, A' = some a → (∃ a0, A = some a0 ∧ a0.block = a.block) ∨ w.heap.size ≤ a.block) → wpList Tryd.prog ops Q rest (a.put o.dst (.slice A' (xs.length + k) cap')) w') : wpList Tryd.prog ops Q (o :: rest) a w := by
  refine wpList_plain hgd fun K hK' => ?_
  have hty : ∀ ty, (Builtin.append_ #[23, 3] ty #[.slice A xs.length xs.length, .int .i64 k]) = (Builtin.append_ #[23, 3] 23 #[.slice A xs.length xs.length, .int .i64 k]) := fun ty => rfl
  obtain ⟨A', cap', w', hrun, hr, hT, hf⟩ := rest_zeros w A xs k h hb
  unfold Oper.wp
  simp [execOp, ho, resolve, invoke, builtin, hv, hx, hty, hrun, Result.andThen]
  exact hK' _ _ (hK A' cap' w' hr hT hf)

/-- What is put behind a message. -/
def padF (n : Nat) : List Int := [128] ++ List.replicate ((119 - n % 64) % 64) 0 ++ beL (8 * (n : Int)) 8

set_option maxHeartbeats 400000 in
theorem pad_any (w : World) (n : Nat) (hn : n ≤ 10000) :
    Calls Tryd.prog 11 #[.int .i64 n] w fun e w' => ∃ A cap, e = .returned (.slice A (padF n).length cap) ∧ Rest w' A cap (padF n) ∧ Touch (fun _ => False) w w' ∧ ∀ a, A = some a → w.heap.size ≤ a.block := by
  obtain ⟨q, hq⟩ : ∃ q : Nat, q = (119 - n % 64) % 64 := ⟨_, rfl⟩
  have hq1 : ((119 : Int) - (n : Int) % 64) % 64 = q := by omega
  have HQ1 := Lib.hid hq1
  have hq2 : q < 64 := by omega
  have hR0 : Rest (w.alloc (.cells #[.int .u8 128] 5)) (some ⟨w.heap.size, 0, none⟩) [(128 : Int)].length [128] := .inr ⟨w.heap.size, 0, _, rfl, Blk.new _ _ _, Nat.le_refl _, by simp, by simp, fun i hi => by
    have : i = 0 := by simp at hi; omega
    subst this; rfl⟩
  have HR0 := Lib.hid hR0
  have HQ := Lib.hid hq
  clear hq hR0 hq1
  go_enter Tryd.func11, Tryd.ntmps11
  go_wp2_with (at_builtin; go_loud (refine wpList_rest_zeros rfl (.tmp 10) (.tmp 11) rfl (some ⟨w.heap.size, 0, none⟩) [128] rfl q (congrArg (Value.int .i64) HQ1.out) HR0.out (by simp; omega) ?_); intro A2 cap2 w2 hr2 hT2 hf2; have HR2 := Lib.hid hr2; have HT2 := Lib.hid hT2; have HF2 := Lib.hid hf2; clear hr2 hT2 hf2)
  refine (big_put _ _ 8 (by omega) (by omega)).mono ?_
  rintro e w3 ⟨rfl, hb3, hT3⟩
  obtain ⟨bs, hbs⟩ : ∃ bs, bs = beL (8 * (n : Int)) 8 := ⟨_, rfl⟩
  have hbl : bs.length = 8 := by rw [hbs, beL_len]
  rw [← hbs] at hb3
  have hr3 : Rest w3 A2 cap2 ([128] ++ List.replicate q 0) := HR2.out.touch hT3 (by simp)
  have hin3 : Inb w3 (some ⟨w2.heap.size + 1, 0, none⟩) bs := .inr ⟨_, _, rfl, fun i hi => by rw [hb3.cell, Nat.zero_add, U8A_get hi]⟩
  have hT03 : Touch (fun _ => False) w w3 := ((((Touch.refl _ w).alloc (.cells #[.int .u8 128] 5)).trans HT2.out (by simp))).trans hT3 (by simp)
  have HB := Lib.hid (And.intro hbs hbl)
  have HR3 := Lib.hid (And.intro hr3 hin3)
  have HT3 := Lib.hid hT03
  have hle : ([(128 : Int)] ++ List.replicate q 0).length = 1 + q := by simp; omega
  have HL := Lib.hid hle
  clear hbs hbl hr3 hin3 hb3 hT3 hT03 hle
  go_wp2_with (at_builtin; refine wpList_rest_append rfl (.tmp 12) (.tmp 16) rfl A2 cap2 ([128] ++ List.replicate q 0) (by rw [HL.out]; rfl) (some ⟨w2.heap.size + 1, 0, none⟩) 8 bs (by rw [HB.out.2]; rfl) HR3.out.1 HR3.out.2 (by rw [HL.out, HB.out.2]; omega) ?_; intro A4 cap4 w4 hr4 hT4 hf4; have HR4 := Lib.hid hr4; have HT4 := Lib.hid hT4; have HF4 := Lib.hid hf4; clear hr4 hT4 hf4)
  go_ret
  have hp : padF n = [128] ++ List.replicate q 0 ++ bs := by rw [padF, HB.out.1, HQ.out]
  have hnew : ∀ a, A2 = some a → w.heap.size ≤ a.block := fun a ha => by
    rcases HF2.out a ha with ⟨a0, h1, h2⟩ | h
    · injection h1 with h1
      subst h1
      simp at h2
      omega
    · simp at h; omega
  refine ⟨A4, cap4, ?_, by rw [hp]; exact HR4.out, HT3.out.trans HT4.out (fun b hb ⟨a, ha, e⟩ => by have := hnew a ha; omega), fun a ha => ?_⟩
  · rw [hp, List.length_append, HL.out, Nat.add_comm 1 q]
    rfl
  · rcases HF4.out a ha with ⟨a0, h1, h2⟩ | h
    · have := hnew a0 h1; omega
    · have := HT3.out.size; omega
end Go.Proofs.YtelmjlfhmbicjaaDoor
