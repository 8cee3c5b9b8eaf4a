/- bits: puts, PutLittle, Reverse, PutBig. -/
import Derived.Test.YtelmjlfhmbicjaaB
import Derived.Handy
import Derived.Laws.OwnMore
namespace Go.Proofs.Ytelmjlfhmbicjaa
open Go.RowKit
set_option linter.unusedVariables false

theorem Try.info5 : (Try.prog.info? 5).map (fun i => (i.zero, i.size, i.bytes)) = some (some (.int .u8 0), 1, 1) := by kernel_rfl

theorem make23 (n : Nat) (hn : n ≤ 4096) (w : World) : (Instr.makeSlice 26 (.int .i64 n) (.int .i64 n)).run Try.prog w = .ok (.slice (some ⟨w.heap.size, 0, none⟩) n n) (w.alloc (.cells (U8A (List.replicate n 0)) 5)) := by
  obtain ⟨i0, hi, hz0, hz1, hz2⟩ := info_parts Try.info5
  have h := run_make (P := Try.prog) w 26 5 i0 _ (by kernel_rfl) hi hz0 .i64 .i64 n n (by omega) (by omega) (by rw [hz2]; omega) (by omega)
  have e : madeCells (Value.int .u8 0).cells (n * 1) = U8A (List.replicate n 0) := by
    apply Array.toList_inj.1
    have := toList_madeCells_one (.int .u8 0) n
    simp only [Nat.mul_one]
    rw [show (Value.int .u8 0).cells = #[.int .u8 0] from rfl, this]
    simp [U8A]
  rw [hz1, show ((n : Int)).toNat = n from by omega, e] at h
  exact h

/-- What was put so far. -/
def putF (xs : List Int) (i : Nat) (ys : List Int) : List Int := ys.set i (xs.getD i 0)
theorem putF_iter (xs : List Int) : ∀ (j : Nat) (ys : List Int), j ≤ xs.length → ys.length = xs.length → iter (putF xs) j ys = xs.take j ++ ys.drop j
  | 0, ys, _, _ => by simp [iter]
  | j + 1, ys, hj, hy => by
    rw [iter, putF_iter xs j ys (by omega) hy, putF, List.set_append_right _ _ (by simp; omega)]
    rw [List.take_add_one, List.getElem?_eq_getElem (by omega : j < xs.length)]
    have h1 : min j xs.length = j := by omega
    have h2 : ys.drop j = ys[j]'(by omega) :: ys.drop (j + 1) := (List.drop_eq_getElem_cons (by omega))
    simp only [List.length_take, h1, Nat.sub_self, h2, List.set_cons_zero, List.append_assoc, Option.toList_some, List.singleton_append]
    rw [List.getD_eq_getElem?_getD, List.getElem?_eq_getElem (by omega : j < xs.length)]
    rfl

set_option maxHeartbeats 1000000 in
theorem puts_any (w : World) (n f : Nat) (cap : Array Value) (xs : List Int) (hn : n ≤ 4096) (hx : xs.length = n)
    (he : ∀ j w, (callFunc f (#[.int .i64 j] ++ cap)).run Try.prog w = .ok (.enter f (#[.int .i64 j] ++ cap)) w)
    (hf : ∀ (j : Nat) (w' : World), j < n → Touch (fun _ => False) w w' → Calls Try.prog f (#[.int .i64 j] ++ cap) w' fun e w'' => e = .returned (.int .u8 (xs.getD j 0)) ∧ Touch (fun _ => False) w' w'') :
    Calls Try.prog 22 #[.int .i64 n, .func (.func f) #[] cap] w fun e w' => e = .returned (.slice (some ⟨w.heap.size, 0, none⟩) n n) ∧ Blk w' w.heap.size 5 (U8A xs) ∧ Touch (fun _ => False) w w' := by
  have HE := Lib.hid he
  have HF := Lib.hid hf
  have HX := Lib.hid hx
  have hm := make23 n hn w
  have h0 : max (n : Int) 0 = n := by omega
  clear he hf hx
  go_enter Try.func22, Try.ntmps22
  go_wp2_with fail
  have hT0 : Touch (fun _ => False) w (w.alloc (.cells (U8A (List.replicate n 0)) 5)) := (Touch.refl _ w).alloc _
  have hb0 := Blk.new w 5 (U8A (List.replicate n 0))
  obtain ⟨w0, hw0⟩ : ∃ w0, w0 = w.alloc (.cells (U8A (List.replicate n 0)) 5) := ⟨_, rfl⟩
  rw [← hw0] at hT0 hb0 ⊢
  clear hw0 hm h0
  go_loopw [12] (fun i wr => ∃ j : Nat, j ≤ n ∧ i = .int .i64 j ∧ Blk wr w.heap.size 5 (U8A (iter (putF xs) j (List.replicate n 0))) ∧ Touch (fun _ => False) w wr) (fun i _ => n - (intOf i).toNat)
  case atStart => exact ⟨0, by omega, rfl, hb0, hT0⟩
  case round =>
    obtain ⟨j, hj, rfl, hb, hT⟩ := hrel
    by_cases hjn : j < n
    · have hej : ∀ W, (callFunc f (#[.int .i64 j] ++ cap)).run Try.prog W = .ok (.enter f (#[.int .i64 j] ++ cap)) W := fun W => HE.out j W
      have hl : (iter (putF xs) j (List.replicate n 0)).length = n := by rw [iter_len _ (by intro i x; simp [putF])]; simp
      have HL := Lib.hid hl
      clear hl
      go_wp2_with fail
      refine (HF.out j _ hjn hT).mono ?_
      rintro e w2 ⟨rfl, hT2⟩
      have hb2 := hb.touch hT2 (by simp)
      have hf := hb2.frozen
      have hc := hb2.cell j
      rw [U8A_get (by have := HL.out; omega)] at hc
      go_wp2
      go_roundw
      case rel =>
        refine ⟨j + 1, by omega, by go_num, ?_, (hT.trans hT2 (by simp)).setCell (.inl (by simp)) _⟩
        have := hb2.set_ j (.int .u8 (xs.getD j 0))
        rw [U8A_set] at this
        exact this
      case measure => simp [intOf]; omega
    · have hj' : j = n := by omega
      have e : iter (putF xs) n (List.replicate n 0) = xs := by
        rw [putF_iter xs n _ (by have := HX.out; omega) (by have := HX.out; simp; omega)]
        have := HX.out
        rw [List.take_of_length_le (by omega)]
        simp
      rw [hj', e] at hb
      clear hj' e
      go_wp2
      go_ret
      exact ⟨rfl, hb, hT⟩
end Go.Proofs.Ytelmjlfhmbicjaa
