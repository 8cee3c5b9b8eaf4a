/- numbers, in, of, awake. -/
import Derived.Test.YtijdjcmdmppgaaaR
namespace Go.Proofs.Ytijdjcmdmppgaaa
open Go.RowKit
set_option linter.unusedVariables false

/-- Numbers as values. -/
def iv (xs : List Int) : List Value := xs.map (Value.int .i64)
theorem iv_ids (B : List Jb) : B.map idJ = iv (B.map (·.id)) := by simp [iv, idJ]
theorem iv_get {xs : List Int} {i : Nat} {x : Int} (h : xs[i]? = some x) : (iv xs)[i]? = some (.int .i64 x) := by simp [iv, h]

theorem num_yes (w : World) (A B : Option Addr) (c d n : Nat) (xs : List Int) (hn : xs.length = n) (hA : Rw w 3 A c (iv xs)) (hB : Rw w 3 B d (iv xs)) (hle : n ≤ 100000) :
    Calls Try.prog 22 #[.slice A n c, .slice B n d] w fun e w' => e = .returned (.bool true) ∧ Touch (fun _ => False) w w' := by
  have HN := Lib.hid hn
  have HA := Lib.hid hA
  have HB := Lib.hid hB
  clear hn hA hB
  go_enter Try.func22, Try.ntmps22
  go_wp2
  go_loopw [5] (fun u wr => ∃ k : Nat, k ≤ n ∧ u = .int .i64 k ∧ Touch (fun _ => False) w wr) (fun u _ => n - (intOf u).toNat)
  case atStart => exact ⟨0, by omega, rfl, Touch.refl _ _⟩
  case round =>
    obtain ⟨k, hk, rfl, hT⟩ := hrel
    by_cases hkn : k < n
    · obtain ⟨x, hx⟩ : ∃ x, xs[k]? = some x := ⟨_, List.getElem?_eq_getElem (by rw [HN.out]; exact hkn)⟩
      obtain ⟨g, rfl, hc⟩ := HA.out.cell (iv_get hx)
      obtain ⟨g', rfl, hc'⟩ := HB.out.cell (iv_get hx)
      have h1 := hT.cell hc (fun h => h)
      have h2 := hT.cell hc' (fun h => h)
      clear hc hc' hx
      go_wp2
      refine wp_region_qall (by kernel_rfl) (by kernel_rfl) ?_
      repeat (first | go_big_quiet_skip | (go_big_quiet_want; go_big_quiet_op; go_big_quiet_on))
      refine wpQuiet_nil ?_
      go_wp2
      go_roundw
      case rel => exact ⟨k + 1, by omega, by go_num, hT.drew⟩
      case measure => simp [intOf]; omega
    · go_wp2
      go_ret
      exact ⟨rfl, hT⟩

theorem in_mem (w : World) (A : Option Addr) (c n : Nat) (xs : List Int) (x : Int) (hn : xs.length = n) (hA : Rw w 3 A c (iv xs)) (hle : n ≤ 100000) (hx : x ∈ xs) :
    Calls Try.prog 17 #[.slice A n c, .int .i64 x] w fun e w' => e = .returned (.bool true) ∧ Touch (fun _ => False) w w' := by
  have HN := Lib.hid hn
  have HA := Lib.hid hA
  have HX := Lib.hid hx
  clear hn hA hx
  go_enter Try.func17, Try.ntmps17
  go_wp2
  go_loopw [5] (fun u wr => ∃ k : Nat, k ≤ n ∧ u = .int .i64 k ∧ (∀ i, i < k → xs[i]? ≠ some x) ∧ Touch (fun _ => False) w wr) (fun u _ => n - (intOf u).toNat)
  case atStart => exact ⟨0, by omega, rfl, by intro i h; omega, Touch.refl _ _⟩
  case round =>
    obtain ⟨k, hk, rfl, hno, hT⟩ := hrel
    have HO := Lib.hid hno
    clear hno
    by_cases hkn : k < n
    · obtain ⟨y, hy⟩ : ∃ y, xs[k]? = some y := ⟨_, List.getElem?_eq_getElem (by rw [HN.out]; exact hkn)⟩
      obtain ⟨g, rfl, hc⟩ := HA.out.cell (iv_get hy)
      have h1 := hT.cell hc (fun h => h)
      have HY := Lib.hid hy
      clear hc hy
      by_cases hxy : y = x
      · have hb : (y == x) = true := by simpa using hxy
        have HXY := Lib.hid hxy
        clear hxy
        go_wp2
        go_ret
        exact ⟨rfl, hT⟩
      · have hb : (y == x) = false := by simpa using hxy
        have HXY := Lib.hid hxy
        clear hxy
        go_wp2
        go_roundw
        case rel =>
          refine ⟨k + 1, by omega, by go_num, fun i hi e => ?_, hT⟩
          rcases Nat.lt_succ_iff_lt_or_eq.1 hi with h | rfl
          · exact HO.out i h e
          · rw [HY.out] at e; injection e with e; exact HXY.out e
        case measure => simp [intOf]; omega
    · obtain ⟨i, hi⟩ := List.getElem?_of_mem HX.out
      have hlt : i < xs.length := by
        rcases Nat.lt_or_ge i xs.length with h | h
        · exact h
        · rw [List.getElem?_eq_none h] at hi; cases hi
      exact absurd hi (HO.out i (by have := HN.out; omega))

theorem in_not (w : World) (A : Option Addr) (c n : Nat) (xs : List Int) (x : Int) (hn : xs.length = n) (hA : Rw w 3 A c (iv xs)) (hle : n ≤ 100000) (hx : x ∉ xs) :
    Calls Try.prog 17 #[.slice A n c, .int .i64 x] w fun e w' => e = .returned (.bool false) ∧ Touch (fun _ => False) w w' := by
  have HN := Lib.hid hn
  have HA := Lib.hid hA
  have HX := Lib.hid hx
  clear hn hA hx
  go_enter Try.func17, Try.ntmps17
  go_wp2
  go_loopw [5] (fun u wr => ∃ k : Nat, k ≤ n ∧ u = .int .i64 k ∧ Touch (fun _ => False) w wr) (fun u _ => n - (intOf u).toNat)
  case atStart => exact ⟨0, by omega, rfl, Touch.refl _ _⟩
  case round =>
    obtain ⟨k, hk, rfl, hT⟩ := hrel
    by_cases hkn : k < n
    · obtain ⟨y, hy⟩ : ∃ y, xs[k]? = some y := ⟨_, List.getElem?_eq_getElem (by rw [HN.out]; exact hkn)⟩
      obtain ⟨g, rfl, hc⟩ := HA.out.cell (iv_get hy)
      have h1 := hT.cell hc (fun h => h)
      have hxy : ¬ y = x := fun e => HX.out (e ▸ List.mem_of_getElem? hy)
      have hb : (y == x) = false := by simpa using hxy
      clear hc hy hxy
      go_wp2
      go_roundw
      case rel => exact ⟨k + 1, by omega, by go_num, hT⟩
      case measure => simp [intOf]; omega
    · go_wp2
      go_ret
      exact ⟨rfl, hT⟩

/-- of: a document's request as the program's. -/
theorem of_any (w : World) (id cl cls b : Int) :
    Calls Try.prog 10 #[.agg #[.int .i64 id, .int .i64 cl, .int .i64 cls, .int .i64 b]] w fun e w' => e = .returned (.agg #[.int .i64 id, .int .i64 cl, .int .i64 cls, .int .i64 b]) ∧ Touch (fun _ => False) w w' := by
  obtain ⟨w1, hw1⟩ : ∃ w1, w1 = (w.alloc (.cells #[.int .i64 id, .int .i64 cl, .int .i64 cls, .int .i64 b] 31)).alloc (.cells #[.int .i64 0, .int .i64 0, .int .i64 0, .int .i64 0] 34) := ⟨_, rfl⟩
  have hT : Touch (fun _ => False) w w1 := by rw [hw1]; exact ((Touch.refl _ w).alloc _).alloc _
  have hj : Blk w1 w.heap.size 31 #[.int .i64 id, .int .i64 cl, .int .i64 cls, .int .i64 b] := by rw [hw1]; exact (Blk.new _ _ _).alloc _
  have hq : Blk w1 (w.heap.size + 1) 34 #[.int .i64 0, .int .i64 0, .int .i64 0, .int .i64 0] := by
    have := Blk.new (w.alloc (.cells #[.int .i64 id, .int .i64 cl, .int .i64 cls, .int .i64 b] 31)) 34 #[.int .i64 0, .int .i64 0, .int .i64 0, .int .i64 0]
    rw [World.size_alloc] at this
    rw [hw1]; exact this
  have j0 := hj.cell 0
  have j1 := hj.cell 1
  have j2 := hj.cell 2
  have j3 := hj.cell 3
  have q0 := hq.cell 0
  have q1 := hq.cell 1
  have q2 := hq.cell 2
  have q3 := hq.cell 3
  have qz := hq.frozen
  simp at j0 j1 j2 j3 q0 q1 q2 q3
  have HW := Lib.hid hw1
  clear hw1
  go_enter Try.func10, Try.ntmps10
  go_upto_region 1 with (fail)
  rw [← HW.out]
  clear HW
  go_wp2
  have hq3 := (((hq.set_ 0 (.int .i64 id)).set_ 1 (.int .i64 cl)).set_ 2 (.int .i64 cls)).set_ 3 (.int .i64 b)
  have f0 := hq3.cell 0
  have f1 := hq3.cell 1
  have f2 := hq3.cell 2
  have f3 := hq3.cell 3
  simp only [List.setIfInBounds_toArray, List.set_cons_zero, List.set_cons_succ, List.getElem?_toArray, List.getElem?_cons_zero, List.getElem?_cons_succ] at f0 f1 f2 f3
  refine bodyPost_ret (v := .agg #[.int .i64 id, .int .i64 cl, .int .i64 cls, .int .i64 b]) (by simp only [results, Try.results10]; simp [go_sem, f0, f1, f2, f3]) rfl ⟨rfl, ?_⟩
  have h1 : w.heap.size ≤ w.heap.size + 1 := by omega
  exact (((hT.setCell (p := ⟨w.heap.size + 1, 0, none⟩) (.inl h1) _).setCell (p := ⟨w.heap.size + 1, 1, none⟩) (.inl h1) _).setCell (p := ⟨w.heap.size + 1, 2, none⟩) (.inl h1) _).setCell (p := ⟨w.heap.size + 1, 3, none⟩) (.inl h1) _
end Go.Proofs.Ytijdjcmdmppgaaa
