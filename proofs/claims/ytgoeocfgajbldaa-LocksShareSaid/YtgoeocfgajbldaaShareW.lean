/- LocksShare: the walk. -/
import Derived.Test.YtgoeocfgajbldaaN
namespace Go.Proofs.Ytgoeocfgajbldaa
open Go.RowKit
set_option linter.unusedVariables false

theorem meetB_nil (x : List Sp) : meetB x [] = false := by
  unfold meetB
  induction x with
  | nil => rfl
  | cons s t ih => rw [List.any_cons, ih]; rfl
theorem clashB_nil (h : Hd) (wr : Bool) : clashB h [] wr = false := by unfold clashB; rw [meetB_nil, meetB_nil]; cases wr <;> rfl
theorem busyB_nil (L : List LE) (wr : Bool) : busyB L [] wr = false := by
  unfold busyB
  rw [List.any_eq_false]
  intro e he
  rw [clashB_nil]
  decide
/-- All read these, none writes. -/
def AllRd (l : List Sp) (L : List LE) : Prop := ∀ e ∈ L, e.2.reads = l ∧ e.2.writes = []
theorem busyB_rd {l : List Sp} {L : List LE} (h : AllRd l L) (l' : List Sp) : busyB L l' false = false := by
  unfold busyB
  rw [List.any_eq_false]
  intro e he
  unfold clashB meetB
  rw [(h e he).2]
  simp
theorem busyB_wr {l : List Sp} {L : List LE} (h : AllRd l L) (hl : meetB l l = true) (hne : L ≠ []) : busyB L l true = true := by
  unfold busyB
  cases L with
  | nil => exact absurd rfl hne
  | cons e t =>
    rw [List.any_cons]
    have : clashB e.2 l true = true := by unfold clashB; rw [(h e (by simp)).1, hl]; simp
    rw [this]; rfl
/-- The numbers. -/
def Keys (a b : Int) (L : List LE) : Prop := ∀ n : Int, (L.any fun e => e.1 == n) = decide (a ≤ n ∧ n < b)
theorem Keys.ins {b : Int} {L : List LE} (h : Keys 0 b L) (hb : 0 ≤ b) (hd : Hd) : Keys 0 (b + 1) (insL (b, hd) L) := fun n => by
  have e : (insL (b, hd) L).any (fun e => e.1 == n) = ((b == n) || L.any fun e => e.1 == n) := by
    rw [Bool.eq_iff_iff, List.any_eq_true, Bool.or_eq_true, List.any_eq_true]
    constructor
    · rintro ⟨x, hx, h1⟩
      rcases (insL_mem _ L x).1 hx with rfl | hx
      · exact .inl h1
      · exact .inr ⟨x, hx, h1⟩
    · rintro (h1 | ⟨x, hx, h1⟩)
      · exact ⟨_, (insL_mem _ L _).2 (.inl rfl), h1⟩
      · exact ⟨x, (insL_mem _ L x).2 (.inr hx), h1⟩
  rw [e, h n, Bool.eq_iff_iff]
  simp
  omega
theorem Keys.del {a b : Int} {L : List LE} (h : Keys a b L) : Keys (a + 1) b (L.filter fun e => !(e.1 == a)) := fun n => by
  have e : (L.filter fun e => !(e.1 == a)).any (fun e => e.1 == n) = (!(n == a) && L.any fun e => e.1 == n) := by
    rw [Bool.eq_iff_iff, List.any_eq_true, Bool.and_eq_true, List.any_eq_true]
    constructor
    · rintro ⟨x, hx, h1⟩
      obtain ⟨h2, h3⟩ := List.mem_filter.1 hx
      have h4 : x.1 = n := by simpa using h1
      rw [h4] at h3
      exact ⟨h3, x, h2, h1⟩
    · rintro ⟨h1, x, hx, h2⟩
      have h4 : x.1 = n := by simpa using h2
      exact ⟨x, List.mem_filter.2 ⟨hx, by rw [h4]; exact h1⟩, h2⟩
  rw [e, h n, Bool.eq_iff_iff]
  simp
  omega
theorem Keys.ne {a b : Int} {L : List LE} (h : Keys a b L) (hab : a < b) : L ≠ [] := by
  rintro rfl
  have := h a
  simp at this
  omega
theorem Keys.empty {a b : Int} {L : List LE} (h : Keys a b L) (hab : b ≤ a) : L = [] := by
  cases L with
  | nil => rfl
  | cons e t =>
    have := h e.1
    rw [List.any_cons, show (e.1 == e.1) = true from by simp, Bool.true_or] at this
    have := of_decide_eq_true this.symm
    omega
theorem AllRd.ins {l : List Sp} {L : List LE} (h : AllRd l L) {n : Int} {hd : Hd} (h1 : hd.reads = l) (h2 : hd.writes = []) : AllRd l (insL (n, hd) L) := fun e he => by
  rcases (insL_mem _ L e).1 he with rfl | he
  · exact ⟨h1, h2⟩
  · exact h e he
theorem AllRd.del {l : List Sp} {L : List LE} (h : AllRd l L) (p : LE → Bool) : AllRd l (L.filter p) := fun e he => h e (List.mem_filter.1 he).1
theorem wf_small (i : Nat) (h : i ≤ 1000) : (Lit.int .i64 (i : Nat)).wf = true := by
  simp [Lit.wf, IntKind.min, IntKind.max, IntKind.signed, IntKind.bits]
  omega

set_option maxRecDepth 20000 in
set_option maxHeartbeats 1000000 in
theorem share_any (w : World) (a b : Nat) (ha : a < 256) (hb : b < 256) : Calls Try.prog 3 #[.int .u8 a, .int .u8 b] w fun e w' => e = .returned (.bool true) ∧ Touch (fun _ => False) w w' := by
  go_enter Try.func3, Try.ntmps3
  go_wp2_with fail
  obtain ⟨n, hn⟩ : ∃ n : Nat, n = a % 40 + 1 := ⟨_, rfl⟩
  have hni : (a : Int) % 40 + 1 = (n : Int) := by omega
  rw [hni]
  have hn40 : n ≤ 40 := by omega
  have hn1 : 0 < n := by omega
  clear hn hni
  obtain ⟨l, hl⟩ : ∃ l : List Sp, l = [(b, 5)] := ⟨_, rfl⟩
  have hl1 : l.length = 1 := by rw [hl]; rfl
  have hsm : AllSmall l := by rw [hl]; intro s hs; simp at hs; rw [hs]; exact ⟨by dsimp only; omega, by dsimp only; omega⟩
  have hmt : meetB l l = true := by rw [hl]; simp [meetB, meetsB]
  have hT1 : Touch (fun _ => False) w (w.alloc (.cells #[.int .i64 b, .int .i64 5] 25)) := (Touch.refl _ w).alloc _
  have hrow : Row2 (w.alloc (.cells #[.int .i64 b, .int .i64 5] 25)) (some ⟨w.heap.size, 0, none⟩) (l.map spV2) := by
    rw [hl]; exact (Rw2.new w 25 [spV2 (b, 5)] (by simp)).row
  refine (spans_any _ (some ⟨w.heap.size, 0, none⟩) 1 1 l hl1 (by omega) hsm hrow).mono ?_
  rintro e w2 ⟨⟨A, c, rfl, hsp⟩, hT2⟩
  have H2 := Lib.hid (And.intro hsp (And.intro (hT1.trans hT2 (fun _ _ h => h)) (And.intro hl1 hmt)))
  clear hsp hT2 hT1 hrow hl hl1 hsm hmt ha hb
  go_wp2_with fail
  refine (new_any _).mono ?_
  rintro e w3 ⟨k, m, rfl, hk3, hT3, hm⟩
  have hm' : w.heap.size ≤ m := by have := H2.out.2.1.size; omega
  have H3 := Lib.hid (And.intro hk3 (And.intro (H2.out.2.1.trans hT3 (fun _ _ h => h)) (And.intro (H2.out.1.touch hT3) hm')))
  clear hk3 hT3 hm hm'
  go_wp2_with fail
  go_loopw [8] (fun u wr => ∃ (i : Nat) (L : List LE), i ≤ n ∧ u = .int .i64 i ∧ Lk wr k m L ∧ AllRd l L ∧ Keys 0 i L ∧ L.length ≤ i ∧ SpOk wr A c l ∧ Touch (fun _ => False) w wr) (fun u _ => n - (intOf u).toNat)
  case atStart => exact ⟨0, [], by omega, rfl, H3.out.1, (fun e he => by cases he), (fun n => by simp), by simp, H3.out.2.2.1, H3.out.2.1⟩
  case round =>
    obtain ⟨i, L, hi, rfl, hk, hrd, hky, hle, hsp, hT⟩ := hrel
    by_cases hin : i < n
    · have hin' : (i : Int) < n := by omega
      have htk : takeN L i l [] = 0 := by unfold takeN; rw [hky i, busyB_rd hrd, busyB_nil]; simp
      have hcall := take_ok wr k m L i A none c 0 l [] hk hsp (SpOk.none_ _) (wf_small i (by omega)) htk (by omega)
      rw [H2.out.2.2.1] at hcall
      have HI := Lib.hid (And.intro hk (And.intro hrd (And.intro hky (And.intro hle (And.intro hsp hT)))))
      clear hk hrd hky hle hsp hT htk
      go_wp2_with fail
      refine hcall.mono ?_
      rintro e w4 ⟨rfl, ⟨hd, e1, e2, hk4⟩, hT4⟩
      have H4 := Lib.hid (And.intro e1 (And.intro e2 (And.intro hk4 hT4)))
      clear e1 e2 hk4 hT4 hcall
      go_wp2_with fail
      go_roundw
      case rel =>
        refine ⟨i + 1, insL (i, hd) L, by omega, by go_num, H4.out.2.2.1, HI.out.2.1.ins H4.out.1 H4.out.2.1, ?_, by rw [insL_len]; have := HI.out.2.2.2.1; omega, HI.out.2.2.2.2.1.map HI.out.1.mp H4.out.2.2.2, HI.out.2.2.2.2.2.trans H4.out.2.2.2 (fun x hx h => by have := H3.out.2.2.2; omega)⟩
        exact HI.out.2.2.1.ins (by omega) hd
      case measure => simp [intOf]; omega
    · obtain rfl : i = n := by omega
      have HI := Lib.hid (And.intro hk (And.intro hrd (And.intro hky (And.intro hle (And.intro hsp hT)))))
      clear hk hrd hky hle hsp hT
      go_wp2_with fail
      go_loopw [9] (fun u wr => ∃ (j : Nat) (L : List LE), j ≤ i ∧ u = .int .i64 j ∧ Lk wr k m L ∧ AllRd l L ∧ Keys j i L ∧ SpOk wr A c l ∧ Touch (fun _ => False) w wr) (fun u _ => i - (intOf u).toNat)
      case atStart => exact ⟨0, L, by omega, rfl, HI.out.1, HI.out.2.1, HI.out.2.2.1, HI.out.2.2.2.2.1, HI.out.2.2.2.2.2⟩
      case round =>
        clear HI
        obtain ⟨j, L, hj, rfl, hk, hrd, hky, hsp, hT⟩ := hrel
        by_cases hji : j < i
        · have hji' : (j : Int) < i := by omega
          have htk : takeN L 100 [] l = 13 := by
            unfold takeN
            rw [hky 100, busyB_nil, busyB_wr hrd H2.out.2.2.2 (hky.ne (by omega)), if_neg (by simp; omega)]
            rfl
          have hcall := take_no wr k m L 100 none A 0 c [] l hk (SpOk.none_ _) hsp (by decide) (by rw [htk]; decide)
          rw [htk, H2.out.2.2.1] at hcall
          have hcall2 := fun w' (T : Touch (fun _ => False) wr w') => busy_any w' k m L A c l true (hk.touch T) H2.out.1.small H2.out.1.len (hsp.touch T).row
          rw [busyB_wr hrd H2.out.2.2.2 (hky.ne (by omega)), H2.out.2.2.1] at hcall2
          have hcall3 := fun w' (T : Touch (fun _ => False) wr w') => busy_any w' k m L A c l false (hk.touch T) H2.out.1.small H2.out.1.len (hsp.touch T).row
          rw [busyB_rd hrd, H2.out.2.2.1] at hcall3
          have hcall4 := fun w' (T : Touch (fun _ => False) wr w') => free_yes w' k m L j (hk.touch T) (by rw [hky j]; simp; omega) (wf_small j (by omega))
          have HI := Lib.hid (And.intro hk (And.intro hrd (And.intro hky (And.intro hsp hT))))
          have HC := Lib.hid (And.intro hcall (And.intro hcall2 (And.intro hcall3 hcall4)))
          clear hk hrd hky hsp hT htk hcall hcall2 hcall3 hcall4
          go_wp2_with fail
          refine HC.out.1.mono ?_
          rintro e w4 ⟨rfl, hT4⟩
          have H4 := Lib.hid hT4
          clear hT4
          go_wp2_with fail
          refine (HC.out.2.1 _ H4.out).mono ?_
          rintro e w5 ⟨rfl, hT5⟩
          have H5 := Lib.hid (H4.out.trans hT5 (fun _ _ h => h))
          clear hT5
          go_wp2_with fail
          refine (HC.out.2.2.1 _ H5.out).mono ?_
          rintro e w6 ⟨rfl, hT6⟩
          have H6 := Lib.hid (H5.out.trans hT6 (fun _ _ h => h))
          clear hT6
          go_wp2_with fail
          refine (HC.out.2.2.2 _ H6.out).mono ?_
          rintro e w7 ⟨rfl, hk7, hT7⟩
          have H7 := Lib.hid (And.intro hk7 hT7)
          clear hk7 hT7
          go_wp2_with fail
          go_roundw
          case rel =>
            have hT' : Touch (fun b => b = m) wr w7 := (H6.out.weaken (fun _ _ h => h.elim)).trans H7.out.2 (fun _ _ h => h)
            exact ⟨j + 1, _, by omega, by go_num, H7.out.1, HI.out.2.1.del _, HI.out.2.2.1.del, HI.out.2.2.2.1.map HI.out.1.mp hT', HI.out.2.2.2.2.trans hT' (fun x hx h => by have := H3.out.2.2.2; omega)⟩
          case measure => simp [intOf]; omega
        · have hL : L = [] := hky.empty (by omega)
          subst hL
          have hcall := take_ok wr k m [] 100 none A 0 c [] l hk (SpOk.none_ _) hsp (by decide) (by unfold takeN busyB; rfl) (by simp)
          rw [H2.out.2.2.1] at hcall
          have HI := Lib.hid (And.intro hk (And.intro hsp (And.intro hT hcall)))
          clear hk hrd hky hsp hT hcall
          go_wp2_with fail
          refine HI.out.2.2.2.mono ?_
          rintro e w4 ⟨rfl, ⟨hd, e1, e2, hk4⟩, hT4⟩
          have hsp4 := HI.out.2.1.map HI.out.1.mp hT4
          have hT04 : Touch (fun _ => False) w w4 := HI.out.2.2.1.trans hT4 (fun x hx h => by have := H3.out.2.2.2; omega)
          have hb : busyB (insL (100, hd) []) l false = true := by
            show ((clashB hd l false || false) = true)
            unfold clashB
            rw [e2, H2.out.2.2.2]; rfl
          have hcall2 := busy_any w4 k m _ A c l false hk4 H2.out.1.small H2.out.1.len hsp4.row
          have htk : takeN (insL (100, hd) []) 7 l [] = 13 := by
            unfold takeN
            rw [hb]; rfl
          rw [hb, H2.out.2.2.1] at hcall2
          have hcall3 := fun w' (T : Touch (fun _ => False) w4 w') => take_no w' k m _ 7 A none c 0 l [] (hk4.touch T) (hsp4.touch T) (SpOk.none_ _) (by decide) (by rw [htk]; decide)
          rw [htk, H2.out.2.2.1] at hcall3
          have H4 := Lib.hid (And.intro hT04 (And.intro hcall2 hcall3))
          clear e1 e2 hk4 hT4 hsp4 hT04 hb hcall2 htk hcall3
          go_wp2_with fail
          refine H4.out.2.1.mono ?_
          rintro e w5 ⟨rfl, hT5⟩
          have H5 := Lib.hid hT5
          clear hT5
          go_wp2_with fail
          refine (H4.out.2.2 _ H5.out).mono ?_
          rintro e w6 ⟨rfl, hT6⟩
          have H6 := Lib.hid (H5.out.trans hT6 (fun _ _ h => h))
          clear hT6
          go_wp2_with fail
          refine (awake_any _).mono ?_
          rintro e w7 ⟨rfl, hT7⟩
          have H7 := Lib.hid ((H4.out.1.trans H6.out (fun _ _ h => h)).trans hT7 (fun _ _ h => h))
          clear hT7
          go_wp2_with fail
          go_ret
          exact ⟨rfl, H7.out⟩
end Go.Proofs.Ytgoeocfgajbldaa
