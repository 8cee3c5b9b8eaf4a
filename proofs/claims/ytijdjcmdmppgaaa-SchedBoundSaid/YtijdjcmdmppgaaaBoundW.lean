/- SchedBound's walk. -/
import Derived.Test.YtijdjcmdmppgaaaBoundA
namespace Go.Proofs.Ytijdjcmdmppgaaa
open Go.RowKit
set_option linter.unusedVariables false

/-- What is kept ahead of request 1. -/
def BoI (w : World) (q k j : Nat) (wr : World) : Prop := ∃ (S : Nat → Prop) (nx : Nat) (P : Nat → List Jb), Qm wr S q 4 k 3 nx j P ∧ Fit P ∧ (∀ b, S b → w.heap.size ≤ b) ∧ Touch (fun _ => False) w wr
/-- What is kept behind it. -/
def BoJ (w : World) (q k j own m top : Nat) (wr : World) : Prop := ∃ (S : Nat → Prop) (nx : Nat) (P : Nat → List Jb), Qm wr S q 4 k 3 nx j P ∧ Fit P ∧ Way k own nx m top P ∧ (∀ b, S b → w.heap.size ≤ b) ∧ Touch (fun _ => False) w wr

theorem BoI.act {w wr w' : World} {q k j id : Nat} {S : Nat → Prop} {nx : Nat} {P : Nat → List Jb} (hF : Fit P) (hS : ∀ b, S b → w.heap.size ≤ b) (hT : Touch (fun _ => False) w wr) {e : Ending} (hp : ActPost S q k 3 nx j P id wr e w') :
    e = .returned (.int .i64 ((id : Int) + 1)) ∧ BoI w q k (j + 1) w' := by
  obtain ⟨S', P', rfl, hQ, hT', hF', hR⟩ := hp
  refine ⟨rfl, S', nx, P', hQ, hF.act hR, fun b hb => ?_, hT.trans hT' (fun b hb h => by have := hS b h; omega)⟩
  rcases hF' b hb with h | h
  · exact hS b h
  · have := hT.size; omega
theorem BoJ.act {w wr w' : World} {q k j id own m top : Nat} {S : Nat → Prop} {nx : Nat} {P : Nat → List Jb} (hF : Fit P) (hW : Way k own nx m top P) (hS : ∀ b, S b → w.heap.size ≤ b) (hT : Touch (fun _ => False) w wr) {e : Ending} (hp : ActPost S q k 3 nx j P id wr e w') :
    e = .returned (.int .i64 ((id : Int) + 1)) ∧ BoJ w q k (j + 1) own m top w' := by
  obtain ⟨S', P', rfl, hQ, hT', hF', hR⟩ := hp
  refine ⟨rfl, S', nx, P', hQ, hF.act hR, hW.act hR, fun b hb => ?_, hT.trans hT' (fun b hb h => by have := hS b h; omega)⟩
  rcases hF' b hb with h | h
  · exact hS b h
  · have := hT.size; omega

set_option maxRecDepth 100000 in
set_option maxHeartbeats 8000000 in
theorem bound_walk (w : World) (A : Option Addr) (n c own bytes chunk : Nat) (xs : Nat → Ac) (hA : Acts w A n xs) (hn : n ≤ 9223372036854775807) (ho : own < 256) (hby : bytes < 256) (hch : chunk < 256) :
    Calls Try.prog 4 #[.agg #[.slice A n c, .int .u8 own, .int .u8 bytes, .int .u8 chunk]] w fun e w' => e = .returned (.bool true) ∧ Touch (fun _ => False) w w' := by
  obtain ⟨w1, hw1⟩ : ∃ w1, w1 = w.alloc (.cells #[.slice A n c, .int .u8 own, .int .u8 bytes, .int .u8 chunk] 43) := ⟨_, rfl⟩
  have hT1 : Touch (fun _ => False) w w1 := by rw [hw1]; exact (Touch.refl _ w).alloc _
  have hL1 : Blk w1 w.heap.size 43 #[.slice A n c, .int .u8 own, .int .u8 bytes, .int .u8 chunk] := by rw [hw1]; exact Blk.new _ _ _
  have l0 := hL1.cell 0
  have l1 := hL1.cell 1
  have l2 := hL1.cell 2
  have l3 := hL1.cell 3
  simp at l0 l1 l2 l3
  have HW := Lib.hid hw1
  have HA := Lib.hid hA
  clear hw1 hL1 hA
  obtain ⟨k, hk⟩ : ∃ k, k = chunk % 50 + 1 := ⟨_, rfl⟩
  have hki : (chunk : Int) % 50 + 1 = (k : Int) := by omega
  have hk1 : 1 ≤ k := by omega
  have hk2 : k ≤ 50 := by omega
  obtain ⟨o, hoo⟩ : ∃ o, o = own % 4 := ⟨_, rfl⟩
  have hoi : (own : Int) % 4 = (o : Int) := by omega
  have ho4 : o < 4 := by omega
  obtain ⟨n2, hn2⟩ : ∃ n2, n2 = n / 2 := ⟨_, rfl⟩
  have hn2i : (n : Int) / 2 = (n2 : Int) := by omega
  have hn2n : 2 * n2 ≤ n := by omega
  clear hk hoo hn2
  by_cases h200 : n ≤ 200
  · go_enter Try.func4, Try.ntmps4
    go_wp2
    rw [← HW.out]
    refine wp_region_qall (by kernel_rfl) (by kernel_rfl) ?_
    repeat (first | go_big_quiet_skip | (go_big_quiet_want; go_big_quiet_op; go_big_quiet_on))
    refine wpQuiet_nil ?_
    clear l0 l1 l2 l3
    go_wp2_with fail
    refine (newP _ 4 k 3 (by omega) (by omega) (by omega) (by omega) (by omega) (by omega)).mono ?_
    rintro e w2 ⟨S2, q, rfl, hQ2, hT2, hF2⟩
    have hI0 : BoI w1 q k 0 w2 := ⟨S2, 0, _, hQ2, fun d hd => by simp, hF2, (Touch.refl (fun _ => False) w1).drew.trans hT2 (fun _ _ h => h)⟩
    have HI0 := Lib.hid hI0
    clear hI0 hQ2 hF2 hT2
    go_wp2_with fail
    try rw [hoi]
    have HOI := Lib.hid (And.intro hoi hki)
    clear hoi hki
    go_loopw [11, 12] (fun v u wr => ∃ j : Nat, j ≤ n2 ∧ u = .int .i64 j ∧ v = .int .i64 ((10 + j : Nat) : Int) ∧ BoI w1 q k j wr) (fun _ u _ => n2 - (intOf u).toNat)
    case atStart => exact ⟨0, by omega, rfl, rfl, HI0.out⟩
    case round =>
      obtain ⟨j, hj, rfl, rfl, S, nx, P, hQ, hF, hS, hT⟩ := hrel
      have HQ := Lib.hid (And.intro hQ (And.intro hF (And.intro hS hT)))
      clear hQ hF hS hT
      by_cases hjn : j < n2
      · obtain ⟨b, off, rfl, hb, hact⟩ := HA.out (by omega)
        obtain ⟨hxb, a0, a1, a2, a3, a4⟩ := (hact j (by omega)).touch (hT1.trans HQ.out.2.2.2 (fun _ _ h => h))
        clear hact
        go_wp2_with fail
        refine (act_any _ S q k 3 nx j P (xs j) (10 + j) HQ.out.1 (by omega) HQ.out.2.1 (by omega) hxb).mono ?_
        intro e w3 hp
        obtain ⟨rfl, hI⟩ := BoI.act HQ.out.2.1 HQ.out.2.2.1 HQ.out.2.2.2 hp
        have HI := Lib.hid hI
        clear hI hp a0 a1 a2 a3 a4
        go_wp2
        go_roundw
        case rel => exact ⟨j + 1, by omega, by go_num, by go_num, HI.out⟩
        case measure => simp [intOf]; omega
      · have hjj : j = n2 := by omega
        subst hjj
        go_wp2_with fail
        obtain ⟨ln, hln⟩ : ∃ ln, ((P o).map idJ).length = ln := ⟨_, rfl⟩
        have hln' : (P o).length = ln := by rw [← hln, List.length_map]
        have hl3 : ln ≤ 3 := by rw [← hln']; exact (HQ.out.2.1 o ho4).1
        have HLN := Lib.hid (And.intro hln hln')
        clear hln hln' 
        refine (jobsP _ S q 4 k 3 nx j o P HQ.out.1 (by omega) ho4).mono ?_
        rintro e w3 ⟨A8, c8, rfl, hR8, hF8, hT8⟩
        rw [HLN.out.1]
        have hT3 : Touch (fun _ => False) w1 w3 := HQ.out.2.2.2.trans hT8 (fun _ _ h => h)
        have HQ3 := Lib.hid (HQ.out.1.touch hT8 (fun _ _ h => h))
        clear hR8 hF8 hT8
        by_cases hl : ln = 3
        · have hle : ((ln : Int) == 3) = true := by simp; omega
          go_wp2_with fail
          refine (awake_any _).mono ?_
          rintro e w4 ⟨rfl, hT4⟩
          go_wp2
          go_ret
          exact ⟨rfl, (hT1.trans hT3 (fun _ _ h => h)).trans hT4 (fun _ _ h => h)⟩
        have hle : ((ln : Int) == 3) = false := by rw [beq_eq_false_iff_ne]; omega
        go_wp2_with fail
        obtain ⟨b, hb⟩ : ∃ b : Nat, (bytes : Int) % 101 = (b : Int) := ⟨bytes % 101, by omega⟩
        have hb100 : b ≤ 100 := by omega
        rw [hb]
        have HBB := Lib.hid hb
        clear hb
        refine (addAny _ S q 4 k 3 nx j P 1 o 1 b HQ3.out (by omega) (by omega)).mono ?_
        rintro e w4 ⟨r, S', P', rfl, hQ4, hT4, hF4, hres⟩
        have hFS := HQ.out.2.2.1
        have hT04 : Touch (fun _ => False) w1 w4 := hT3.trans hT4 (fun x hx hs => by have := hFS x hs; omega)
        have hsz3 := hT3.size
        have hF4' : ∀ x, S' x → w1.heap.size ≤ x := fun x hx => by
          rcases hF4 x hx with h | h
          · exact hFS x h
          · omega
        rcases hres with ⟨rfl, hok, hP'⟩ | ⟨rfl, _, _⟩
        case inr =>
          clear hF4' hF4 hT4 hQ4 hFS
          go_wp2_with fail
          refine (awake_any _).mono ?_
          rintro e w5 ⟨rfl, hT5⟩
          go_wp2
          go_ret
          exact ⟨rfl, (hT1.trans hT04 (fun _ _ h => h)).trans hT5 (fun _ _ h => h)⟩
        obtain ⟨h, hh⟩ : ∃ h : Nat, (100 + (k : Int) - 1) / (k : Int) = (h : Int) := ⟨(100 + k - 1) / k, by
          rw [show (100 + (k : Int) - 1) = ((100 + k - 1 : Nat) : Int) from by omega]; rfl⟩
        have hhn : h = (100 + k - 1) / k := by
          rw [show (100 + (k : Int) - 1) = ((100 + k - 1 : Nat) : Int) from by omega] at hh
          have : (((100 + k - 1) / k : Nat) : Int) = (h : Int) := hh
          omega
        have hh100 : h ≤ 200 := by
          rw [hhn]; exact Nat.le_trans (Nat.div_le_self _ _) (by omega)
        have hbd : 0 ≤ h := by omega
        have hP1 : Fit P' ∧ Way k o nx 0 (12 * (h + 1)) P' := by
          have hFit := HQ.out.2.1
          have hPo : P' = upd P o (P o ++ [⟨1, o, 1, b⟩]) := hP'
          have hlt : (P o).length < 3 := by rw [HLN.out.2]; omega
          refine ⟨hFit.act (.inr (.inl ⟨o, _, ho4, hlt, hb100, hPo⟩)), P o, ⟨1, o, 1, b⟩, [], by rw [hPo, upd_same], rfl, ?_⟩
          have hw := work_le (k := k) (h := h) (P o) (fun x hx => by rw [hhn]; exact goes_le hk2 hk1 ((hFit o ho4).2 x hx))
          have hg : goes k b ≤ h := by rw [hhn]; exact goes_le hk2 hk1 hb100
          have hgp := goes_pos k b
          have hd : dist nx o ≤ 3 := by unfold dist; omega
          have hm : (P o).length * h ≤ 2 * h := Nat.mul_le_mul_right _ (by omega)
          show 0 + 4 * (work k (P o) + goes k b - 1) + dist nx o + 1 ≤ 12 * (h + 1)
          omega
        have HI1 := Lib.hid (show BoJ w1 q k (j + 1) o 0 (12 * (h + 1)) w4 from ⟨S', nx, P', hQ4, hP1.1, hP1.2, hF4', hT04⟩)
        have HHN := Lib.hid hhn
        clear hP1 hF4' hF4 hT4 hQ4 hFS hhn hT04 hsz3 hok hP' hT3 HQ3 hle hl
        go_wp2_with fail
        have HN2 := Lib.hid (And.intro hn2i hh)
        clear hn2i hh
        have HJ0 := HI1
        clear HI1
        -- LOOP2
        go_loopw [11, 14] (fun v u wr => ∃ m id : Nat, id ≤ 10 + j + m ∧ u = .int .i64 m ∧ v = .int .i64 id ∧ BoJ w1 q k (j + 1 + m) o m (12 * (h + 1)) wr) (fun _ u _ => 12 * (h + 1) - (intOf u).toNat)
        case atStart => exact ⟨0, 10 + j, by omega, rfl, by go_num, HJ0.out⟩
        case round =>
          obtain ⟨m, id, hid, rfl, rfl, S, nx, P, hQ, hF, hWy, hS, hT⟩ := hrel
          have hmt : m + 1 ≤ 12 * (h + 1) := by
            obtain ⟨pre, j1, post, _, _, hle⟩ := hWy
            omega
          have HQ := Lib.hid (And.intro hQ (And.intro hF (And.intro hWy (And.intro hS hT))))
          clear hQ hF hWy hS hT
          by_cases hn0 : 0 < n
          · obtain ⟨b, off, rfl, hb, hact⟩ := HA.out hn0
            obtain ⟨mi, hmi⟩ : ∃ mi : Nat, (m : Int) % (n : Int) = (mi : Int) := ⟨m % n, rfl⟩
            have hmin : mi < n := by
              have : mi = m % n := by
                have : ((m % n : Nat) : Int) = (mi : Int) := hmi
                omega
              rw [this]; exact Nat.mod_lt _ hn0
            obtain ⟨hxb, a0, a1, a2, a3, a4⟩ := (hact mi hmin).touch (hT1.trans HQ.out.2.2.2.2 (fun _ _ h => h))
            clear hact
            go_wp2_with fail
            refine (act_any _ S q k 3 nx (j + 1 + m) P (xs mi) id HQ.out.1 (by omega) HQ.out.2.1 (by omega) hxb).mono ?_
            intro e w5 hp
            obtain ⟨rfl, hI⟩ := BoJ.act HQ.out.2.1 HQ.out.2.2.1 HQ.out.2.2.2.1 HQ.out.2.2.2.2 hp
            have HJ := Lib.hid (show BoJ w1 q k (j + 2 + m) o m (12 * (h + 1)) w5 from by rw [show j + 2 + m = j + 1 + m + 1 from by omega]; exact hI)
            have HMI := Lib.hid hmi
            clear hI hp a0 a1 a2 a3 a4 hmi
            obtain ⟨S5, nx5, P5, hQ5, hF5, hW5, hS5, hT5⟩ := HJ.out
            obtain ⟨B, hB⟩ : ∃ B, B = batchP P5 4 nx5 3 := ⟨_, rfl⟩
            obtain ⟨D, hD⟩ : ∃ D, D = doneP k B := ⟨_, rfl⟩
            obtain ⟨n1, h1⟩ : ∃ n1, B.length = n1 := ⟨_, rfl⟩
            obtain ⟨n2, h2⟩ : ∃ n2, D.length = n2 := ⟨_, rfl⟩
            have hn1 : n1 ≤ 16 := by
              have := (batch_facts (hQ5.nums.2.2.1) (by omega) P5 (bt := 3)).1
              rw [← hB, h1] at this
              omega
            have hn2 : n2 ≤ n1 := by
              have : D.length ≤ B.length := by rw [hD]; exact List.length_filter_le _ _
              omega
            have HB5 := Lib.hid (And.intro hQ5 (And.intro hF5 (And.intro hW5 (And.intro hS5 (And.intro hT5 (And.intro hB (And.intro hD (And.intro h1 h2))))))))
            clear hQ5 hF5 hW5 hS5 hT5 hB hD h1 h2
            go_wp2_with fail
            refine (tickD _ S5 q 4 k 3 nx5 (j + 2 + m) P5 _ B D n1 n2 (nextP 4 nx5 B) HB5.out.1 (by omega) HB5.out.2.2.2.2.2.1 HB5.out.2.2.2.2.2.2.1 rfl rfl HB5.out.2.2.2.2.2.2.2.1 HB5.out.2.2.2.2.2.2.2.2).mono ?_
            rintro e w6 ⟨A1, c1, A2, c2, rfl, ha1, ha2, f1, f2, hQ6, hT6⟩
            have HR := Lib.hid (And.intro ha2 (And.intro hQ6 (HB5.out.2.2.2.2.1.trans hT6 (fun b hb hs => by have := HB5.out.2.2.2.1 b hs; omega))))
            clear ha1 ha2 f1 f2 hQ6 hT6
            go_wp2_with fail
            go_loopw [17] (fun u w10 => ∃ i : Nat, i ≤ n2 ∧ u = .int .i64 i ∧ (∀ i' y, i' < i → D[i']? = some y → y.id ≠ 1) ∧ Touch (fun _ => False) w6 w10) (fun u _ => n2 - (intOf u).toNat)
            case atStart => exact ⟨0, by omega, rfl, fun _ _ h => by omega, Touch.refl _ _⟩
            case round =>
              obtain ⟨i, hi, rfl, hno, hTi⟩ := hrel
              obtain ⟨w10, rfl⟩ : ∃ w10 : World, w10 = wr := ⟨_, rfl⟩
              by_cases hin : i < n2
              · obtain ⟨y, hy⟩ : ∃ y, D[i]? = some y := ⟨_, List.getElem?_eq_getElem (by rw [HB5.out.2.2.2.2.2.2.2.2]; exact hin)⟩
                obtain ⟨g1, rfl, hg1⟩ := (HR.out.1.touch hTi (fun _ _ h => h)).cell (iv_get (show (D.map (·.id))[i]? = some y.id by rw [List.getElem?_map, hy]; rfl))
                obtain ⟨x, hx⟩ : ∃ x, x = y.id := ⟨_, rfl⟩
                rw [← hx] at hg1
                have HY := Lib.hid (And.intro hy hx)
                clear hy hx
                by_cases hx1 : x = 1
                · subst hx1
                  go_wp2_with fail
                  refine (awake_any _).mono ?_
                  rintro e w11 ⟨rfl, hT11⟩
                  go_wp2
                  go_ret
                  exact ⟨rfl, ((hT1.trans HR.out.2.2 (fun _ _ h => h)).trans hTi (fun _ _ h => h)).trans hT11 (fun _ _ h => h)⟩
                · have hxe : (x == 1) = false := by rw [beq_eq_false_iff_ne]; exact hx1
                  go_wp2
                  go_roundw
                  case rel =>
                    refine ⟨i + 1, by omega, by go_num, fun i' y' hi' hy' => ?_, hTi⟩
                    rcases Nat.lt_or_ge i' i with h | h
                    · exact hno i' y' h hy'
                    · have : i' = i := by omega
                      subst this
                      have := HY.out.1.symm.trans hy'
                      injection this with this
                      rw [← this, ← HY.out.2]; exact hx1
                  case measure => simp [intOf]; omega
              · have hI : BoJ w1 q k (j + 1 + (m + 1)) o (m + 1) (12 * (h + 1)) w10 := by
                  obtain ⟨hQ5, hF5, hW5, hS5, hT5, hB, hD, h1, h2⟩ := HB5.out
                  refine ⟨S5, _, _, (HR.out.2.1.touch hTi (fun _ _ h => h)).mono (by omega), ?_, ?_, hS5, HR.out.2.2.trans hTi (fun _ _ h => h)⟩
                  · rw [hB]; exact hF5.tick hQ5.batch
                  · refine Way.tick hQ5 ho4 hW5 B hB (fun hm => ?_)
                    rw [← hD] at hm
                    obtain ⟨y, hy, he⟩ := List.mem_map.1 hm
                    obtain ⟨z, hz, hzy⟩ := List.getElem_of_mem hy
                    exact hno z y (by omega) (by rw [List.getElem?_eq_getElem hz, hzy]) he
                have HI2 := Lib.hid hI
                clear hI hno
                go_wp2
                go_roundw
                case rel => exact ⟨m + 1, id + 1, by omega, by go_num, by go_num, HI2.out⟩
                case measure => simp [intOf]; omega
          · have hn00 : ¬ (0 : Int) < (n : Int) := by omega
            have HJ := Lib.hid (show BoJ w1 q k (j + 2 + m) o m (12 * (h + 1)) wr from ⟨S, nx, P, HQ.out.1.mono (by omega), HQ.out.2⟩)
            obtain ⟨S5, nx5, P5, hQ5, hF5, hW5, hS5, hT5⟩ := HJ.out
            obtain ⟨B, hB⟩ : ∃ B, B = batchP P5 4 nx5 3 := ⟨_, rfl⟩
            obtain ⟨D, hD⟩ : ∃ D, D = doneP k B := ⟨_, rfl⟩
            obtain ⟨n1, h1⟩ : ∃ n1, B.length = n1 := ⟨_, rfl⟩
            obtain ⟨n2, h2⟩ : ∃ n2, D.length = n2 := ⟨_, rfl⟩
            have hn1 : n1 ≤ 16 := by
              have := (batch_facts (hQ5.nums.2.2.1) (by omega) P5 (bt := 3)).1
              rw [← hB, h1] at this
              omega
            have hn2 : n2 ≤ n1 := by
              have : D.length ≤ B.length := by rw [hD]; exact List.length_filter_le _ _
              omega
            have HB5 := Lib.hid (And.intro hQ5 (And.intro hF5 (And.intro hW5 (And.intro hS5 (And.intro hT5 (And.intro hB (And.intro hD (And.intro h1 h2))))))))
            clear hQ5 hF5 hW5 hS5 hT5 hB hD h1 h2
            go_wp2_with fail
            refine (tickD _ S5 q 4 k 3 nx5 (j + 2 + m) P5 _ B D n1 n2 (nextP 4 nx5 B) HB5.out.1 (by omega) HB5.out.2.2.2.2.2.1 HB5.out.2.2.2.2.2.2.1 rfl rfl HB5.out.2.2.2.2.2.2.2.1 HB5.out.2.2.2.2.2.2.2.2).mono ?_
            rintro e w6 ⟨A1, c1, A2, c2, rfl, ha1, ha2, f1, f2, hQ6, hT6⟩
            have HR := Lib.hid (And.intro ha2 (And.intro hQ6 (HB5.out.2.2.2.2.1.trans hT6 (fun b hb hs => by have := HB5.out.2.2.2.1 b hs; omega))))
            clear ha1 ha2 f1 f2 hQ6 hT6
            go_wp2_with fail
            go_loopw [17] (fun u w10 => ∃ i : Nat, i ≤ n2 ∧ u = .int .i64 i ∧ (∀ i' y, i' < i → D[i']? = some y → y.id ≠ 1) ∧ Touch (fun _ => False) w6 w10) (fun u _ => n2 - (intOf u).toNat)
            case atStart => exact ⟨0, by omega, rfl, fun _ _ h => by omega, Touch.refl _ _⟩
            case round =>
              obtain ⟨i, hi, rfl, hno, hTi⟩ := hrel
              obtain ⟨w10, rfl⟩ : ∃ w10 : World, w10 = wr := ⟨_, rfl⟩
              by_cases hin : i < n2
              · obtain ⟨y, hy⟩ : ∃ y, D[i]? = some y := ⟨_, List.getElem?_eq_getElem (by rw [HB5.out.2.2.2.2.2.2.2.2]; exact hin)⟩
                obtain ⟨g1, rfl, hg1⟩ := (HR.out.1.touch hTi (fun _ _ h => h)).cell (iv_get (show (D.map (·.id))[i]? = some y.id by rw [List.getElem?_map, hy]; rfl))
                obtain ⟨x, hx⟩ : ∃ x, x = y.id := ⟨_, rfl⟩
                rw [← hx] at hg1
                have HY := Lib.hid (And.intro hy hx)
                clear hy hx
                by_cases hx1 : x = 1
                · subst hx1
                  go_wp2_with fail
                  refine (awake_any _).mono ?_
                  rintro e w11 ⟨rfl, hT11⟩
                  go_wp2
                  go_ret
                  exact ⟨rfl, ((hT1.trans HR.out.2.2 (fun _ _ h => h)).trans hTi (fun _ _ h => h)).trans hT11 (fun _ _ h => h)⟩
                · have hxe : (x == 1) = false := by rw [beq_eq_false_iff_ne]; exact hx1
                  go_wp2
                  go_roundw
                  case rel =>
                    refine ⟨i + 1, by omega, by go_num, fun i' y' hi' hy' => ?_, hTi⟩
                    rcases Nat.lt_or_ge i' i with h | h
                    · exact hno i' y' h hy'
                    · have : i' = i := by omega
                      subst this
                      have := HY.out.1.symm.trans hy'
                      injection this with this
                      rw [← this, ← HY.out.2]; exact hx1
                  case measure => simp [intOf]; omega
              · have hI : BoJ w1 q k (j + 1 + (m + 1)) o (m + 1) (12 * (h + 1)) w10 := by
                  obtain ⟨hQ5, hF5, hW5, hS5, hT5, hB, hD, h1, h2⟩ := HB5.out
                  refine ⟨S5, _, _, (HR.out.2.1.touch hTi (fun _ _ h => h)).mono (by omega), ?_, ?_, hS5, HR.out.2.2.trans hTi (fun _ _ h => h)⟩
                  · rw [hB]; exact hF5.tick hQ5.batch
                  · refine Way.tick hQ5 ho4 hW5 B hB (fun hm => ?_)
                    rw [← hD] at hm
                    obtain ⟨y, hy, he⟩ := List.mem_map.1 hm
                    obtain ⟨z, hz, hzy⟩ := List.getElem_of_mem hy
                    exact hno z y (by omega) (by rw [List.getElem?_eq_getElem hz, hzy]) he
                have HI2 := Lib.hid hI
                clear hI hno
                go_wp2
                go_roundw
                case rel => exact ⟨m + 1, id, by omega, by go_num, by go_num, HI2.out⟩
                case measure => simp [intOf]; omega
        -- END2
  · have z1 : decide ((200 : Int) < n) = true := by simp; omega
    go_enter Try.func4, Try.ntmps4
    go_wp2
    rw [← HW.out]
    refine wp_region_qall (by kernel_rfl) (by kernel_rfl) ?_
    repeat (first | go_big_quiet_skip | (go_big_quiet_want; go_big_quiet_op; go_big_quiet_on))
    refine wpQuiet_nil ?_
    go_wp2
    go_ret
    exact ⟨rfl, hT1.drew⟩
end Go.Proofs.Ytijdjcmdmppgaaa
