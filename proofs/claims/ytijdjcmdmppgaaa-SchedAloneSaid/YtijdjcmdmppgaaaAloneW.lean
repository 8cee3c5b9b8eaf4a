/- SchedAlone's walk. -/
import Derived.Test.YtijdjcmdmppgaaaU
namespace Go.Proofs.Ytijdjcmdmppgaaa
open Go.RowKit
set_option linter.unusedVariables false

/-- Bytes that came in. -/
def U8s (w : World) (A : Option Addr) (n : Nat) (bs : Nat → Nat) : Prop := 0 < n → ∃ b off, A = some ⟨b, off, none⟩ ∧ b < w.heap.size ∧ ∀ i, i < n → bs i < 256 ∧ w.cell? ⟨b, off + i, none⟩ = some (.int .u8 (bs i))

/-- Only client 1 has any. -/
def PA (l : List Jb) : Nat → List Jb := upd (fun _ => []) 1 l
def jobA (bs : Nat → Nat) (i : Nat) : Jb := ⟨i, 1, (i : Int) % 3, bs i % 200⟩
/-- The requests from s on. -/
def jobsA (bs : Nat → Nat) (s c : Nat) : List Jb := (List.range c).map fun q => jobA bs (s + q)
theorem jobsA_snoc (bs : Nat → Nat) (s c : Nat) : jobsA bs s (c + 1) = jobsA bs s c ++ [jobA bs (s + c)] := by simp [jobsA, List.range_succ]
theorem jobsA_cons (bs : Nat → Nat) (s c : Nat) : jobsA bs s (c + 1) = jobA bs s :: jobsA bs (s + 1) c := by
  simp only [jobsA, List.range_succ_eq_map, List.map_cons, List.map_map, Nat.add_zero]
  congr 1
  apply List.map_congr_left
  intro q _
  simp only [Function.comp, Nat.succ_eq_add_one]
  congr 1
  omega
theorem PA_add (l : List Jb) (j : Jb) (hj : j.client = 1) : upd (PA l) j.client (PA l j.client ++ [j]) = PA (l ++ [j]) := by
  rw [hj, PA, upd_upd, upd_same]; rfl
theorem PA_free (l : List Jb) (id : Int) (h : ∀ j ∈ l, j.id ≠ id) : Free 3 (PA l) id := by
  intro c hc j hj
  by_cases h1 : c = 1
  · subst h1; rw [PA, upd_same] at hj; exact h j hj
  · rw [PA, upd_ne _ _ h1] at hj; simp at hj
theorem PA_batch (nx : Nat) (hnx : nx < 3) (j : Jb) (t : List Jb) : batchP (PA (j :: t)) 3 nx 2 = [j] := by
  have : nx = 0 ∨ nx = 1 ∨ nx = 2 := by omega
  rcases this with rfl | rfl | rfl <;> rfl
theorem PA_hits (k : Nat) (j : Jb) (t : List Jb) (hj : j.client = 1) : hitsP k (PA (j :: t)) [j] = PA (if j.bytes ≤ k then t else { j with bytes := j.bytes - k } :: t) := by
  show hitP k (PA (j :: t)) j = _
  rw [hitP, hj, PA, upd_upd, upd_same]; rfl
theorem PA_tot (l : List Jb) : totP (PA l) 3 = l.length := by
  simp [totP, PA, upd]

/-- How many ticks. -/
def need (k b : Nat) : Nat := max ((b + k - 1) / k) 1
theorem need_le {k x : Nat} (hk : k ≤ 256) (hx : x < 200) : need k x ≤ 1000 := by
  unfold need
  have := Nat.div_le_self (x + k - 1) k
  omega
theorem need_one {k b : Nat} (hk : 1 ≤ k) : need k b = 1 ↔ b ≤ k := by
  unfold need
  constructor
  · intro h
    refine Classical.byContradiction fun hn => ?_
    have : 2 ≤ (b + k - 1) / k := (Nat.le_div_iff_mul_le (by omega)).2 (by omega)
    omega
  · intro h
    have : (b + k - 1) / k ≤ 1 := by
      refine Nat.lt_succ_iff.1 ((Nat.div_lt_iff_lt_mul (by omega)).2 ?_)
      omega
    omega
theorem need_step {k b : Nat} (hk : 1 ≤ k) (h : ¬ b ≤ k) : need k b = need k (b - k) + 1 := by
  unfold need
  have e : (b + k - 1) / k = (b - k + k - 1) / k + 1 := by
    rw [← Nat.add_div_right _ (show 0 < k by omega)]
    congr 1; omega
  have : 1 ≤ (b - k + k - 1) / k := (Nat.le_div_iff_mul_le (by omega)).2 (by omega)
  omega

/-- What the inner loop keeps. -/
def AloneI (w : World) (S : Nat → Prop) (q k i : Nat) (cls : Int) (rest : List Jb) (mm : Nat) (wr : World) : Prop :=
  mm ≤ 1000 ∧ (∃ nx, (mm = 0 ∧ Qm wr S q 3 k 2 nx 30 (PA rest)) ∨ ∃ b, mm = need k b ∧ Qm wr S q 3 k 2 nx 30 (PA (⟨i, 1, cls, b⟩ :: rest))) ∧ Touch (fun _ => False) w wr

set_option maxHeartbeats 1000000 in
theorem alone_walk (w : World) (A : Option Addr) (n c chunk : Nat) (bs : Nat → Nat) (hA : U8s w A n bs) (hn : n ≤ 9223372036854775807) (hchunk : chunk < 256) :
    Calls Try.prog 5 #[.slice A n c, .int .u8 chunk] w fun e w' => e = .returned (.bool true) ∧ Touch (fun _ => False) w w' := by
  by_cases h30 : n ≤ 30
  · obtain ⟨k, hk⟩ : ∃ k, k = chunk + 1 := ⟨_, rfl⟩
    have hki : (chunk : Int) + 1 = (k : Int) := by omega
    have hk1 : 1 ≤ k := by omega
    have hk2 : k ≤ 256 := by omega
    have HA := Lib.hid hA
    clear hk hA
    go_enter Try.func5, Try.ntmps5
    go_wp2_with fail
    refine (newP _ 3 k 2 (by omega) (by omega) (by omega) (by omega) (by omega) (by omega)).mono ?_
    rintro e w1 ⟨S1, q, rfl, hQ1, hT1, hF1⟩
    have HQ1 := Lib.hid hQ1
    clear hQ1
    go_wp2_with fail
    go_loopw [8] (fun u wr => ∃ (j : Nat) (S : Nat → Prop), j ≤ n ∧ u = .int .i64 j ∧ Qm wr S q 3 k 2 0 j (PA (jobsA bs 0 j)) ∧ (∀ b, S b → w.heap.size ≤ b) ∧ Touch (fun _ => False) w wr) (fun u _ => n - (intOf u).toNat)
    case atStart => exact ⟨0, S1, by omega, rfl, by
      have := HQ1.out
      rw [show (PA (jobsA bs 0 0)) = fun _ => [] from by funext d; simp [PA, jobsA, upd]]
      exact this, hF1, hT1⟩
    case round =>
      obtain ⟨j, S, hj, rfl, hQ, hF, hT⟩ := hrel
      have HQ := Lib.hid hQ
      clear hQ
      by_cases hjn : j < n
      · obtain ⟨b, off, rfl, hb, hcell⟩ := HA.out (by omega)
        obtain ⟨h256, hc⟩ := hcell j hjn
        have hc1 := hT.cell hc (fun h => h)
        obtain ⟨x, hx⟩ : ∃ x, x = bs j % 200 := ⟨_, rfl⟩
        have hxi : ((bs j : Nat) : Int) % 200 = (x : Int) := by omega
        have hx2 : x < 200 := by omega
        have HX := Lib.hid hx
        clear hx hc hcell
        go_wp2_with fail
        refine (addP _ S q 3 k 2 0 j _ ⟨j, 1, (j : Int) % 3, x⟩ HQ.out (by omega) (show 1 < 3 by omega) (by show x ≤ _; omega) (PA_free _ _ (fun y hy => ?_))).mono ?_
        · simp only [jobsA, List.mem_map, List.mem_range] at hy
          obtain ⟨z, hz, rfl⟩ := hy
          show ((0 + z : Nat) : Int) ≠ (j : Int)
          omega
        rintro e w2 ⟨S2, rfl, hQ2, hT2, hF2⟩
        rw [PA_add _ _ rfl] at hQ2
        have HQ2 := Lib.hid hQ2
        clear hQ2
        have hsz := hT.size
        go_wp2
        go_roundw
        case rel =>
          refine ⟨j + 1, S2, by omega, by go_num, ?_, fun b hb => ?_, hT.trans hT2 (fun b hb h => by have := hF b h; omega)⟩
          · rw [jobsA_snoc, Nat.zero_add]
            have := HQ2.out
            rw [HX.out] at this
            exact this
          · rcases hF2 b hb with h | h
            · exact hF b h
            · omega
        case measure => simp [intOf]; omega
      · obtain rfl : n = j := by omega
        have HQ30 := Lib.hid (HQ.out.mono h30)
        clear HQ
        go_wp2_with fail
        go_loopw [9] (fun u wr => ∃ (i nx : Nat), i ≤ n ∧ u = .int .i64 i ∧ Qm wr S q 3 k 2 nx 30 (PA (jobsA bs i (n - i))) ∧ Touch (fun _ => False) w wr) (fun u _ => n - (intOf u).toNat)
        case atStart => exact ⟨0, 0, by omega, rfl, by rw [Nat.sub_zero]; exact HQ30.out, hT⟩
        case round =>
          obtain ⟨i, nx, hi, rfl, hQ, hT5⟩ := hrel
          obtain ⟨wo, rfl⟩ : ∃ wo : World, wo = wr := ⟨_, rfl⟩
          have HQ := Lib.hid hQ
          clear hQ
          by_cases hin : i < n
          · obtain ⟨b, off, rfl, hb, hcell⟩ := HA.out (by omega)
            obtain ⟨h256, hc⟩ := hcell i hin
            have hc1 := hT5.cell hc (fun h => h)
            obtain ⟨x, hx⟩ : ∃ x, x = bs i % 200 := ⟨_, rfl⟩
            have hxi : ((bs i : Nat) : Int) % 200 = (x : Int) := by omega
            have hx2 : x < 200 := by omega
            have HX := Lib.hid hx
            clear hx hc hcell
            have hpos : (0 : Int) < (k : Int) := by omega
            have hdiv : ((x : Int) + k - 1) / k = (((x + k - 1) / k : Nat) : Int) := by rw [Int.natCast_ediv]; congr 1; omega
            have hcase : (((x : Int) + k - 1) / k < 1 ∧ (1 : Int) = (need k x : Int)) ∨ ((1 : Int) ≤ ((x : Int) + k - 1) / k ∧ ((x : Int) + k - 1) / k = (need k x : Int)) := by
              rw [hdiv]
              unfold need
              by_cases h : (x + k - 1) / k < 1
              · exact .inl ⟨by omega, by omega⟩
              · exact .inr ⟨by omega, by omega⟩
            clear hdiv
            have hst : Qm wo S q 3 k 2 nx 30 (PA (⟨i, 1, (i : Int) % 3, x⟩ :: jobsA bs (i + 1) (n - (i + 1)))) := by
              have := HQ.out
              rw [show n - i = (n - (i + 1)) + 1 from by omega, jobsA_cons] at this
              rw [HX.out]
              exact this
            have HST := Lib.hid hst
            clear hst HQ
            rcases hcase with ⟨hlt, hm⟩ | ⟨hlt, hm⟩
            all_goals
              have HM := Lib.hid hm
              clear hm
              go_wp2_with fail
              have HXI := Lib.hid hxi
              clear hxi
              go_loopw [10] (fun u wr => ∃ mm : Nat, u = .int .i64 mm ∧ AloneI w S q k i ((i : Int) % 3) (jobsA bs (i + 1) (n - (i + 1))) mm wr) (fun u _ => (intOf u).toNat)
              case atStart => exact ⟨need k x, by rw [HM.out], need_le hk2 hx2, ⟨nx, .inr ⟨x, rfl, HST.out⟩⟩, hT5⟩
              case round =>
                obtain ⟨mm, rfl, hI⟩ := hrel
                obtain ⟨hmb, ⟨nx', hI⟩, hTr⟩ := hI
                rcases hI with ⟨rfl, hQ0⟩ | ⟨b', hmm, hQb⟩
                · have HQ0 := Lib.hid hQ0
                  clear hQ0
                  go_wp2
                  go_roundw
                  case rel => exact ⟨i + 1, nx', by omega, by go_num, HQ0.out, hTr⟩
                  case measure => simp [intOf]; omega
                · have hnx' := hQb.nums.2.2.1
                  have HQB := Lib.hid hQb
                  clear hQb
                  by_cases hbk : b' ≤ k
                  · have hm1 : mm = 1 := by rw [hmm]; exact (need_one hk1).2 hbk
                    subst hm1
                    clear hmm
                    go_wp2_with fail
                    refine (tickD _ S q 3 k 2 nx' 30 _ (PA (jobsA bs (i + 1) (n - (i + 1)))) [⟨i, 1, (i : Int) % 3, b'⟩] [⟨i, 1, (i : Int) % 3, b'⟩] 1 1 2 HQB.out (by omega) (PA_batch nx' hnx' _ _).symm (by simp [doneP, hbk]) (by rw [PA_hits _ _ _ rfl]; simp [hbk]) rfl rfl rfl).mono ?_
                    rintro e w2 ⟨A1, c1, A2, c2, rfl, r1, r2, f1, f2, hQ2, hT2⟩
                    obtain ⟨g, rfl, hg⟩ := r1.cell (i := 0) (v := .int .i64 i) rfl
                    have hT02 : Touch (fun _ => False) w w2 := hTr.trans hT2 (fun b hb h => by have := hF b h; omega)
                    have HQ2 := Lib.hid hQ2
                    clear hQ2 r1 r2 f1 f2 hT2
                    go_wp2
                    go_roundw
                    case rel => exact ⟨0, by go_num, by omega, ⟨2, .inl ⟨rfl, HQ2.out⟩⟩, hT02⟩
                    case measure => simp [intOf]
                  · obtain ⟨m', hm'⟩ : ∃ m', m' = need k (b' - k) := ⟨_, rfl⟩
                    have hm1 : mm = m' + 1 := by rw [hmm, hm']; exact need_step hk1 hbk
                    subst hm1
                    have hne1 : m' ≠ 0 := by rw [hm']; unfold need; omega
                    have em : (((m' + 1 : Nat) : Int) == 1) = false := by rw [beq_eq_false_iff_ne]; omega
                    have em' : ((m' : Int) + 1 == 1) = false := by rw [beq_eq_false_iff_ne]; omega
                    have HM' := Lib.hid hm'
                    clear hmm hm'
                    go_wp2_with fail
                    refine (tickD _ S q 3 k 2 nx' 30 _ (PA (⟨i, 1, (i : Int) % 3, b' - k⟩ :: jobsA bs (i + 1) (n - (i + 1)))) [⟨i, 1, (i : Int) % 3, b'⟩] [] 1 0 2 HQB.out (by omega) (PA_batch nx' hnx' _ _).symm (by simp [doneP]; omega) (by rw [PA_hits _ _ _ rfl]; simp [hbk]) rfl rfl rfl).mono ?_
                    rintro e w2 ⟨A1, c1, A2, c2, rfl, r1, r2, f1, f2, hQ2, hT2⟩
                    obtain ⟨g, rfl, hg⟩ := r1.cell (i := 0) (v := .int .i64 i) rfl
                    have hT02 : Touch (fun _ => False) w w2 := hTr.trans hT2 (fun b hb h => by have := hF b h; omega)
                    have HQ2 := Lib.hid hQ2
                    clear hQ2 r1 r2 f1 f2 hT2
                    go_wp2
                    go_roundw
                    case rel => exact ⟨m', by go_num, by omega, ⟨2, .inr ⟨b' - k, HM'.out, HQ2.out⟩⟩, hT02⟩
                    case measure => simp [intOf]
          · have hi' : i = n := by omega
            have hQn : Qm wo S q 3 k 2 nx 30 (PA []) := by
              have := HQ.out
              rw [hi', Nat.sub_self] at this
              exact this
            have HQN := Lib.hid hQn
            clear hQn hi'
            go_wp2_with fail
            refine (lenP _ S q 3 k 2 nx 30 _ HQN.out (by omega)).mono ?_
            rintro e w8 ⟨rfl, rfl⟩
            rw [PA_tot]
            go_wp2_with fail
            refine (awake_any _).mono ?_
            rintro e w9 ⟨rfl, hT9⟩
            go_wp2
            go_ret
            exact ⟨rfl, hT5.trans hT9 (fun _ _ h => h)⟩
  · go_enter Try.func5, Try.ntmps5
    go_wp2
    go_ret
    exact ⟨rfl, Touch.refl _ _⟩
end Go.Proofs.Ytijdjcmdmppgaaa
