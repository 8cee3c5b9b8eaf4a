/- oldest's iterator. -/
import Derived.Test.YtijdjcmdmppgaaaK
namespace Go.Proofs.Ytijdjcmdmppgaaa
open Go.RowKit
set_option linter.unusedVariables false

attribute [local go_sem] Oper.semAt_some

/-- The oldest ones of the first i clients from nx on. -/
def heads (L : Nat → List (Nat × Jb)) (C nx : Nat) : Nat → List (Nat × Jb)
  | 0 => []
  | i + 1 => heads L C nx i ++ ((L ((nx + i) % C)).take 1)
theorem heads_len (L : Nat → List (Nat × Jb)) (C nx : Nat) : ∀ i, (heads L C nx i).length ≤ i
  | 0 => by simp [heads]
  | i + 1 => by
    have := heads_len L C nx i
    simp [heads]; omega
theorem heads_pre (L : Nat → List (Nat × Jb)) (C nx i : Nat) : ∀ k, heads L C nx i <+: heads L C nx (i + k)
  | 0 => List.prefix_refl _
  | k + 1 => (heads_pre L C nx i k).trans (List.prefix_append _ _)

/-- What a round keeps. -/
def Kp (ob N0 : Nat) (W W' : World) : Prop := Touch (fun b => b = ob ∨ N0 ≤ b) W W'

theorem abides_drew {β : Type} {B : Nat} {J : β → World → Prop} (h : AbidesFrom B J) {s : β} {W : World} (hs : J s W) : J s W.drew :=
  h s W W.drew none hs ⟨rfl, rfl, rfl, Nat.le_refl _, fun _ _ _ => rfl⟩ (fun r e => by cases e)

set_option maxHeartbeats 2000000 in
theorem oldest1_in (n : Nat) (hn : 1 ≤ n) (l bq bf ob N0 : Nat) (S : Nat → Prop) (q o C k bt nx M : Nat) (L : Nat → List (Nat × Jb)) (J Jx : List (Nat × Jb) → World → Prop) (W : World)
    (hQ : Que W S q o C k bt nx M L) (hM : M ≤ 10000) (hbq : W.cell? ⟨bq, 0, none⟩ = some (.pointer (some ⟨q, 0, none⟩))) (hbf : W.cell? ⟨bf, 0, none⟩ = some (.int .i64 nx))
    (nq : ¬ (bq = ob ∨ N0 ≤ bq)) (nf : ¬ (bf = ob ∨ N0 ≤ bf)) (nS : ∀ b, S b → ¬ (b = ob ∨ N0 ≤ b)) (hJ : AbidesFrom W.heap.size J)
    (hY : ∀ pre x W1, (∃ c, c < C ∧ x ∈ L c) → J pre W1 → pre.length < C → YieldAt Fence.wide (n - 1) Try.prog l #[pv x] W1 fun e W' =>
      (e = .returned (.bool true) ∧ J (pre ++ [x]) W' ∧ Kp ob N0 W1 W') ∨ (e = .returned (.bool false) ∧ Jx (pre ++ [x]) W'))
    (h0 : J [] W) :
    CallsIn Fence.wide n Try.prog 34 #[.func (.yield l) #[] #[], .pointer (some ⟨bq, 0, none⟩), .pointer (some ⟨bf, 0, none⟩)] W fun e W' => (∃ v, e = .returned v) ∧
      ((∃ ys, ys = heads L C nx C ∧ J ys W') ∨ (∃ pre, pre <+: heads L C nx C ∧ Jx pre W')) := by
  obtain ⟨A, cp, h⟩ := hQ
  have hC := h.hC
  have hnx := h.hnx
  have c0 := h.hq.cell 0
  simp at c0
  have HQ := Lib.hid h
  have HJ := Lib.hid hJ
  have HY := Lib.hid hY
  have HB := Lib.hid (And.intro hbq hbf)
  have HN := Lib.hid (And.intro nq (And.intro nf nS))
  clear h hJ hY nq nf nS
  refine callsIn_of_wp Try.func34 rfl trivial ?_ rfl
  simp only [Try.ntmps34, List.size_toArray, List.length_cons, List.length_nil, Nat.reduceAdd, Nat.reduceSub, Array.replicate_succ, Array.replicate_zero, List.push_toArray, List.append_toArray, List.nil_append, List.cons_append]
  gi_wp2
  clear c0 hbq hbf
  gi_loopw [11] (fun u wr => ∃ i : Nat, i ≤ C ∧ u = .int .i64 i ∧ J (heads L C nx i) wr ∧ Kp ob N0 W wr) (fun u _ => C - (intOf u).toNat)
  case atStart => exact ⟨0, Nat.zero_le _, rfl, h0, Touch.refl _ _⟩
  case round =>
    obtain ⟨i, hi, rfl, hJs, hK⟩ := hrel
    have HK := Lib.hid hK
    have HJs := Lib.hid hJs
    clear hK hJs
    by_cases hlt : i < C
    · obtain ⟨c, hc⟩ : ∃ c, c = (nx + i) % C := ⟨_, rfl⟩
      have hcC : c < C := by rw [hc]; exact Nat.mod_lt _ (by omega)
      have hci : ((nx : Int) + i) % C = c := by rw [hc]; simp
      have HC := Lib.hid hc
      have h1 := HQ.out.touch HK.out (fun b hb => HN.out.2.2 b hb)
      have c0 := h1.hq.cell 0
      simp at c0
      have cq := Touch.cell HK.out HB.out.1 HN.out.1
      have cf := Touch.cell HK.out HB.out.2 HN.out.2.1
      obtain ⟨cs, ho, hcs, hce⟩ := h1.ho
      have hco := ho.cell c
      rw [hce c hcC] at hco
      have hrr := h1.hr c hcC
      have hll := h1.hl c hcC
      obtain ⟨Ac, hAc⟩ : ∃ x, x = A c := ⟨_, rfl⟩
      obtain ⟨cpc, hcpc⟩ : ∃ x, x = cp c := ⟨_, rfl⟩
      rw [← hAc, ← hcpc] at hco hrr
      clear hc h1 ho hcs hce hAc hcpc
      gi_wp2
      refine wpIn_wide.2 ?_
      refine wp_region_qall (by kernel_rfl) (by kernel_rfl) ?_
      repeat (first | go_big_quiet_skip | (go_big_quiet_want; go_big_quiet_op; go_big_quiet_on))
      refine wpQuiet_nil ?_
      clear c0 cq cf hci hco
      have hKd : Kp ob N0 W wr.drew := Touch.drew HK.out
      have HKd := Lib.hid hKd
      clear hKd
      cases hLc : L c with
      | nil =>
        have HL := Lib.hid hLc
        have hl0 : (L c).length = 0 := by rw [hLc]; rfl
        clear hLc
        gi_wp2
        refine ⟨fun _ h => (by cases h), ?_⟩
        gi_wp2
        go_roundw
        case rel =>
          refine ⟨i + 1, by omega, by go_num, ?_, HKd.out⟩
          rw [heads, ← HC.out, HL.out, List.take_nil, List.append_nil]
          exact abides_drew HJ.out HJs.out
        case measure => simp [intOf]; omega
      | cons p t =>
        have HL := Lib.hid hLc
        obtain ⟨g, rfl, hcell⟩ := hrr.cell (i := 0) (v := pv p) (by rw [hLc]; rfl)
        have hl0 : 0 < (L c).length := by rw [hLc]; simp
        obtain ⟨fn, tmps, assign, body, hy, hR⟩ := HY.out (heads L C nx i) p wr.drew ⟨c, hcC, by rw [hLc]; simp⟩ (abides_drew HJ.out HJs.out) (by have := heads_len L C nx i; omega)
        unfold pv at hcell hy
        clear hLc hrr
        gi_wp2
        refine hR.mono ?_
        rintro e W3 (⟨rfl, hJ3, hk3⟩ | ⟨rfl, hJx3⟩)
        · gi_wp2
          go_roundw
          case rel =>
            refine ⟨i + 1, by omega, by go_num, ?_, Touch.trans HKd.out hk3 (fun _ _ h => h)⟩
            rw [heads, ← HC.out, HL.out]
            exact hJ3
          case measure => simp [intOf]; omega
        · gi_wp2
          refine bodyPost_ret (results_none rfl _ _ _) rfl ?_
          refine ⟨⟨_, rfl⟩, .inr ⟨_, ?_, hJx3⟩⟩
          have e1 : heads L C nx (i + 1) = heads L C nx i ++ [p] := by rw [heads, ← HC.out, HL.out]; rfl
          rw [← e1]
          have := heads_pre L C nx (i + 1) (C - (i + 1))
          rwa [show i + 1 + (C - (i + 1)) = C from by omega] at this
    · obtain rfl : i = C := by omega
      gi_wp2
      go_end0
      exact ⟨⟨_, rfl⟩, .inl ⟨_, rfl, HJs.out⟩⟩
end Go.Proofs.Ytijdjcmdmppgaaa
