/- The document's Free. -/
import Derived.Test.YtgoeocfgajbldaaV
namespace Go.Proofs.Ytgoeocfgajbldaa
open Go.RowKit
set_option linter.unusedVariables false

def freeRL (l : List RH) (n : Int) : List RH := l.eraseP fun h => h.n == n
def freeRN (l : List RH) (n : Int) : Nat := if (l.any fun h => h.n == n) = true then 0 else 15
/-- A row, and an error's number. -/
def RowPost (w : World) (A : Option Addr) (l' : List RH) (v : Nat) (e : Ending) (w' : World) : Prop :=
  (∃ A' c', e = .returned (.tuple #[.slice A' l'.length c', .int .i64 v]) ∧ Rw3 w' A' c' l' ∧ (∀ a, A' = some a → A = some a ∨ w.heap.size ≤ a.block)) ∧ Touch (fun _ => False) w w'
theorem eraseP_first {l : List RH} {n : Int} : ∀ {i : Nat} {x : RH}, l[i]? = some x → x.n = n → (∀ i' y, i' < i → l[i']? = some y → y.n ≠ n) → freeRL l n = l.eraseIdx i := by
  unfold freeRL
  induction l with
  | nil => intro i x h; simp at h
  | cons y t ih =>
    intro i x hx hn hno
    cases i with
    | zero =>
      simp at hx
      subst hx
      rw [List.eraseP_cons_of_pos (by simpa using hn)]
      rfl
    | succ i =>
      have hy : y.n ≠ n := hno 0 y (by omega) rfl
      rw [List.eraseP_cons_of_neg (by simpa using hy), List.eraseIdx_cons_succ]
      rw [ih (by simpa using hx) hn (fun i' z hi' hz => hno (i' + 1) z (by omega) (by simpa using hz))]

set_option maxRecDepth 20000 in
set_option maxHeartbeats 2000000 in
theorem freeR_any (w : World) (A : Option Addr) (cap n : Nat) (l : List RH) (x : Int) (h : Rw3 w A cap l) (hn : l.length = n) (hlen : n ≤ 1000) :
    Calls Try.prog 15 #[.slice A n cap, .int .i64 x] w (RowPost w A (freeRL l x) (freeRN l x)) := by
  have hcap := h.le
  rw [hn] at hcap
  obtain ⟨hc1, hc2⟩ := hcap
  have H := Lib.hid (And.intro h hn)
  clear h hn
  go_enter Try.func15, Try.ntmps15
  go_wp2_with fail
  go_loop [6] (fun u => ∃ i : Nat, i ≤ n ∧ u = .int .i64 i ∧ ∀ i' y, i' < i → l[i']? = some y → RH.n y ≠ x) (fun u => n - (intOf u).toNat)
  case atStart => exact ⟨0, by omega, rfl, by intro i' y h; omega⟩
  case round =>
    obtain ⟨i, hi, rfl, hno⟩ := hrel
    have HO := Lib.hid hno
    clear hno
    by_cases hin : i < n
    · have hin' : (i : Int) < n := by omega
      obtain ⟨y, hy⟩ : ∃ y, l[i]? = some y := ⟨_, List.getElem?_eq_getElem (by rw [H.out.2]; exact hin)⟩
      obtain ⟨g, rfl, c0, c1, c2⟩ := H.out.1.cell hy
      have HY := Lib.hid (And.intro hy (And.intro c1 c2))
      clear hy c1 c2
      by_cases hyx : y.n = x
      · have hyx' : (y.n == x) = true := by simpa using hyx
        have hfl := eraseP_first HY.out.1 hyx HO.out
        have hfn : freeRN l x = 0 := by unfold freeRN; rw [any_true_of HY.out.1 hyx']; rfl
        have HF := Lib.hid (And.intro hfl hfn)
        clear hfl hfn hyx
        go_wp2_with fail
        obtain ⟨W, hW⟩ : ∃ W, W = w.drew := ⟨_, rfl⟩
        have hTW : Touch (fun _ => False) w W := by rw [hW]; exact (Touch.refl _ w).drew
        have hrW := H.out.1.touch hTW (fun _ _ h => h)
        obtain ⟨S, HS⟩ : ∃ S : World → Prop, Hid (∀ w', S w' ↔ Touch (fun _ => False) W w') := ⟨_, fun _ => Iff.rfl⟩
        have htk : (l.take i).length = i := by rw [List.length_take, H.out.2]; omega
        have hdp : (l.drop (i + 1)).length = n - (i + 1) := by rw [List.length_drop, H.out.2]
        have HD := Lib.hid (And.intro htk (And.intro hdp (And.intro hrW hTW)))
        clear htk hdp hrW hTW c0
        refine wp_region_tr S (.q 1 (.q 2 (.q 3 (.q 5 (.q 6 (.q 7 (.q 8 (.e 0 (.e 4 (.e 9 (.e 10 (.e 11 .nil)))))))))))) (by kernel_rfl) (by kernel_rfl) ((HS.out _).2 (by rw [← hW]; exact Touch.refl _ W)) (fun hne => ?_)
        rw [← hW]
        clear hW
        repeat (refine wpTr_q (by simp only [List.getElem?_toArray, List.getElem?_cons_zero, List.getElem?_cons_succ]; rfl) ?_; (first | go_big_quiet_skip | (go_big_quiet_want; go_big_quiet_op; go_big_quiet_on)); refine wpQuiet_nil ?_)
        refine wpTr_e (by simp only [List.getElem?_toArray, List.getElem?_cons_zero]; rfl) (fun K1 hK1 => ?_)
        go_wp2_with fail
        case inl =>
          have hA1 : Touch (fun _ => False) W (W.alloc (.cells #[] 40)) := (Touch.refl _ W).alloc _
          have hr1 : Rw3 (W.alloc (.cells #[] 40)) (some ⟨W.heap.size, 0, none⟩) 0 [] := Rw3.new W [] (by simp)
          refine ⟨(HS.out _).2 hA1, ?_⟩
          refine wpTr_e (by simp only [List.getElem?_toArray, List.getElem?_cons_zero, List.getElem?_cons_succ]; rfl) (fun K2 hK2 => ?_)
          refine wp_rw3_push rfl (.tmp 20) (.tmp 23) rfl (some ⟨W.heap.size, 0, none⟩) 0 0 i [] (l.take i) rfl HD.out.1 rfl _ rfl (src3_take (HD.out.2.2.1.touch hA1 (fun _ _ h => h)) _ HD.out.1) hr1 (by omega) ?_
          intro A2 cap2 w3 hr2 hT2 hf2
          dsimp only [Act.put]
          simp only [List.setIfInBounds_toArray, List.set_cons_succ, List.set_cons_zero]
          rw [List.nil_append] at hr2
          have hT3 : Touch (fun _ => False) W w3 := hA1.trans hT2 (fun b hb ⟨a, ha, e⟩ => by injection ha with ha; subst ha; simp at e; omega)
          have hf2' : ∀ a, A2 = some a → W.heap.size ≤ a.block := fun a ha => by
            rcases hf2 a ha with ⟨a0, h0, e⟩ | h
            · injection h0 with h0; subst h0; simp at e; omega
            · have : W.heap.size + 1 ≤ a.block := by simpa using h
              omega
          have hsrc : Src Try.prog 3 38 (.slice (some ⟨g, 0, none⟩) (n - (i + 1)) 0) (n - (i + 1)) (rf (l.drop (i + 1))) w3 := src3_nil _ _ (by omega) (List.eq_nil_of_length_eq_zero (by rw [HD.out.2.1]; omega))
          refine hK2 _ _ ⟨(HS.out _).2 hT3, ?_⟩
          clear hr1 hT2 hf2
          refine wpTr_e (by simp only [List.getElem?_toArray, List.getElem?_cons_zero, List.getElem?_cons_succ]; rfl) (fun K3 hK3 => ?_)
          refine wp_rw3_push rfl (.tmp 24) (.tmp 28) rfl A2 cap2 (0 + i) (n - (i + 1)) (l.take i) (l.drop (i + 1)) (by rw [HD.out.1]; omega) HD.out.2.1 rfl _ rfl hsrc hr2 (by omega) ?_
          intro A3 cap3 w4 hr3 hT4 hf3
          dsimp only [Act.put]
          simp only [List.setIfInBounds_toArray, List.set_cons_succ, List.set_cons_zero]
          rw [← List.eraseIdx_eq_take_drop_succ, ← HF.out.1] at hr3
          have hT5 : Touch (fun _ => False) W w4 := hT3.trans hT4 (fun b hb ⟨a, ha, e⟩ => by have := hf2' a ha; omega)
          have hf3' : ∀ a, A3 = some a → W.heap.size ≤ a.block := fun a ha => by
            rcases hf3 a ha with ⟨a0, h0, e⟩ | h
            · have := hf2' a0 h0; omega
            · have := hT3.size; omega
          have HR4 := Lib.hid (And.intro hr3 (And.intro hT5 hf3'))
          refine hK3 _ _ ⟨(HS.out _).2 hT5, ?_⟩
          clear hr3 hT4 hf3 hT5 hf3' hsrc hr2 hT3 hf2'
          refine wpTr_e (by simp only [List.getElem?_toArray, List.getElem?_cons_zero, List.getElem?_cons_succ]; rfl) (fun K4 hK4 => ?_)
          go_wp2_with fail
          try refine ⟨(HS.out _).2 HR4.out.2.1, ?_⟩
          refine wpTr_e (by simp only [List.getElem?_toArray, List.getElem?_cons_zero, List.getElem?_cons_succ]; rfl) (fun K5 hK5 => ?_)
          go_wp2_with fail
          try refine ⟨(HS.out _).2 HR4.out.2.1, wpTr_nil ?_⟩
          go_wp2_with fail
          go_ret2
          unfold RowPost
          have hlen2 : (freeRL l x).length = 0 + i + (n - (i + 1)) := by rw [HF.out.1, List.length_eraseIdx, H.out.2, if_pos hin]; omega
          rw [HF.out.2, hlen2]
          exact ⟨⟨A3, cap3, rfl, HR4.out.1, fun a ha => .inr (Nat.le_trans HD.out.2.2.2.size (HR4.out.2.2 a ha))⟩, HD.out.2.2.2.trans HR4.out.2.1 (fun _ _ h => h)⟩
        case inr =>
          have hA1 : Touch (fun _ => False) W (W.alloc (.cells #[] 40)) := (Touch.refl _ W).alloc _
          have hr1 : Rw3 (W.alloc (.cells #[] 40)) (some ⟨W.heap.size, 0, none⟩) 0 [] := Rw3.new W [] (by simp)
          refine ⟨(HS.out _).2 hA1, ?_⟩
          refine wpTr_e (by simp only [List.getElem?_toArray, List.getElem?_cons_zero, List.getElem?_cons_succ]; rfl) (fun K2 hK2 => ?_)
          refine wp_rw3_push rfl (.tmp 20) (.tmp 23) rfl (some ⟨W.heap.size, 0, none⟩) 0 0 i [] (l.take i) rfl HD.out.1 rfl _ rfl (src3_take (HD.out.2.2.1.touch hA1 (fun _ _ h => h)) _ HD.out.1) hr1 (by omega) ?_
          intro A2 cap2 w3 hr2 hT2 hf2
          dsimp only [Act.put]
          simp only [List.setIfInBounds_toArray, List.set_cons_succ, List.set_cons_zero]
          rw [List.nil_append] at hr2
          have hT3 : Touch (fun _ => False) W w3 := hA1.trans hT2 (fun b hb ⟨a, ha, e⟩ => by injection ha with ha; subst ha; simp at e; omega)
          have hf2' : ∀ a, A2 = some a → W.heap.size ≤ a.block := fun a ha => by
            rcases hf2 a ha with ⟨a0, h0, e⟩ | h
            · injection h0 with h0; subst h0; simp at e; omega
            · have : W.heap.size + 1 ≤ a.block := by simpa using h
              omega
          have hsrc : Src Try.prog 3 38 (.slice (some ⟨g, (i + 1) * 3, none⟩) (n - (i + 1)) (cap - (i + 1))) (n - (i + 1)) (rf (l.drop (i + 1))) w3 := src3_some (HD.out.2.2.1.touch hT3 (fun _ _ h => h)) (i + 1) _ _ (by rw [List.take_of_length_le (by rw [HD.out.2.1]; omega)]) HD.out.2.1
          refine hK2 _ _ ⟨(HS.out _).2 hT3, ?_⟩
          clear hr1 hT2 hf2
          refine wpTr_e (by simp only [List.getElem?_toArray, List.getElem?_cons_zero, List.getElem?_cons_succ]; rfl) (fun K3 hK3 => ?_)
          refine wp_rw3_push rfl (.tmp 24) (.tmp 28) rfl A2 cap2 (0 + i) (n - (i + 1)) (l.take i) (l.drop (i + 1)) (by rw [HD.out.1]; omega) HD.out.2.1 rfl _ rfl hsrc hr2 (by omega) ?_
          intro A3 cap3 w4 hr3 hT4 hf3
          dsimp only [Act.put]
          simp only [List.setIfInBounds_toArray, List.set_cons_succ, List.set_cons_zero]
          rw [← List.eraseIdx_eq_take_drop_succ, ← HF.out.1] at hr3
          have hT5 : Touch (fun _ => False) W w4 := hT3.trans hT4 (fun b hb ⟨a, ha, e⟩ => by have := hf2' a ha; omega)
          have hf3' : ∀ a, A3 = some a → W.heap.size ≤ a.block := fun a ha => by
            rcases hf3 a ha with ⟨a0, h0, e⟩ | h
            · have := hf2' a0 h0; omega
            · have := hT3.size; omega
          have HR4 := Lib.hid (And.intro hr3 (And.intro hT5 hf3'))
          refine hK3 _ _ ⟨(HS.out _).2 hT5, ?_⟩
          clear hr3 hT4 hf3 hT5 hf3' hsrc hr2 hT3 hf2'
          refine wpTr_e (by simp only [List.getElem?_toArray, List.getElem?_cons_zero, List.getElem?_cons_succ]; rfl) (fun K4 hK4 => ?_)
          go_wp2_with fail
          try refine ⟨(HS.out _).2 HR4.out.2.1, ?_⟩
          refine wpTr_e (by simp only [List.getElem?_toArray, List.getElem?_cons_zero, List.getElem?_cons_succ]; rfl) (fun K5 hK5 => ?_)
          go_wp2_with fail
          try refine ⟨(HS.out _).2 HR4.out.2.1, wpTr_nil ?_⟩
          go_wp2_with fail
          go_ret2
          unfold RowPost
          have hlen2 : (freeRL l x).length = 0 + i + (n - (i + 1)) := by rw [HF.out.1, List.length_eraseIdx, H.out.2, if_pos hin]; omega
          rw [HF.out.2, hlen2]
          exact ⟨⟨A3, cap3, rfl, HR4.out.1, fun a ha => .inr (Nat.le_trans HD.out.2.2.2.size (HR4.out.2.2 a ha))⟩, HD.out.2.2.2.trans HR4.out.2.1 (fun _ _ h => h)⟩
      · have hyx' : (y.n == x) = false := by simpa using hyx
        have HF := Lib.hid hyx
        clear hyx
        go_wp2_with fail
        go_round
        case rel =>
          refine ⟨i + 1, by omega, by go_num, fun i' z hi' hz => ?_⟩
          rcases Nat.lt_succ_iff_lt_or_eq.1 hi' with h | rfl
          · exact HO.out i' z h hz
          · rw [HY.out.1] at hz
            injection hz with hz
            subst hz
            exact HF.out
        case measure => simp [intOf]; omega
    · obtain rfl : i = n := by omega
      have hf : (l.any fun h => h.n == x) = false := any_false_of (fun i' y hi' hy => by
        have := HO.out i' y (by rw [← H.out.2]; exact hi') hy
        simpa using this)
      have hfl : freeRL l x = l := List.eraseP_of_forall_not (fun y hy => by
        have := List.any_eq_false.1 hf y hy
        exact this)
      have hfn : freeRN l x = 15 := by unfold freeRN; rw [hf]; rfl
      have HF := Lib.hid (And.intro hfl hfn)
      clear hf hfl hfn
      go_wp2_with fail
      go_ret2
      unfold RowPost
      rw [HF.out.1, HF.out.2, H.out.2]
      exact ⟨⟨A, cap, rfl, H.out.1, fun a ha => .inl ha⟩, Touch.refl _ _⟩
end Go.Proofs.Ytgoeocfgajbldaa
