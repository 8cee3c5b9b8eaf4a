/- The document's ring: the acts that only count, and the refusals, by contracts. -/
import Derived.Test.YtmhdjedegkekeaaQ
namespace Go.Proofs.Ytmhdjedegkekeaa
open Go.RowKit
set_option linter.unusedVariables false

/-- The two boxes that 'Do' lays, behind a world W of the same size. -/
theorem boxes (W : World) (n : Nat) (hn : W.heap.size = n) (a b c x y z : Value) :
    Blk ((W.alloc (.cells #[a, b, c] 38)).alloc (.cells #[x, y, z] 38)) (n + 1) 38 #[x, y, z] := by
  have := Blk.new (W.alloc (.cells #[a, b, c] 38)) 38 #[x, y, z]
  rw [World.size_alloc, hn] at this
  exact this

theorem ref_keep_yes (w : World) (B wb room k : Nat) (L : List Dn) (d0 d1 d2 : Int) (h : RefQ w B wb room k L) (hlt : L.length + k < room) (hr : room ≤ 1000) (hk2 : k ≤ 1000) :
    Calls Try.prog 10 #[.pointer (some ⟨wb, 0, none⟩), .int .i64 0, .agg #[.int .i64 d0, .int .i64 d1, .int .i64 d2]] w fun e w' => e = .returned (.tuple #[.agg #[.int .i64 0, .int .i64 0, .int .i64 0], .int .i64 0]) ∧ LeftQ B wb room (k + 1) L w w' := by
  obtain ⟨A, cap, hw, hown⟩ := h
  have hlt0 := hw.lt
  have hA0 : Touch (fun _ => False) w ((w.alloc (.cells #[.int .i64 d0, .int .i64 d1, .int .i64 d2] 38)).alloc (.cells #[.int .i64 0, .int .i64 0, .int .i64 0] 38)) := ((Touch.refl _ w).alloc _).alloc _
  have hw0 := hw.touch hA0 (by simp)
  have e0 := hw0.cell 0
  have e1 := hw0.cell 1
  have e2 := hw0.cell 2
  have ez := hw0.frozen
  have hd : ((L.length : Int) + k < room) := by omega
  simp only [List.getElem?_toArray, List.getElem?_cons_zero, List.getElem?_cons_succ] at e0 e1 e2
  go_enter Try.func10, Try.ntmps10
  go_wp2_with fail
  refine wp_region_qall (by kernel_rfl) (by kernel_rfl) ?_
  repeat (first | go_big_quiet_skip | (go_big_quiet_want; go_big_quiet_op; go_big_quiet_on))
  refine wpQuiet_nil ?_
  go_wp2
  have hq := boxes (w.setCell ⟨wb, 1, none⟩ (.int .i64 ((k : Int) + 1))) w.heap.size (by simp) (.int .i64 d0) (.int .i64 d1) (.int .i64 d2) (.int .i64 0) (.int .i64 0) (.int .i64 0)
  have hq := hq.drew
  have f0 := hq.cell 0
  have f1 := hq.cell 1
  have f2 := hq.cell 2
  simp only [List.getElem?_toArray, List.getElem?_cons_zero, List.getElem?_cons_succ] at f0 f1 f2
  refine bodyPost_ret (v := .tuple #[.agg #[.int .i64 0, .int .i64 0, .int .i64 0], .int .i64 0]) (by simp only [results, Try.results10]; simp [go_sem, f0, f1, f2]) rfl ⟨rfl, ?_, ?_⟩
  · refine ⟨A, cap, ?_, ?_, fun g' hg' => .inl (.inr ⟨(own_isT hown hg').1, (own_isT hown hg').2, _, hw.cell 0, hg'⟩)⟩
    · have := ((hw.set_ 1 (.int .i64 ((k : Int) + 1))).alloc (.cells #[.int .i64 d0, .int .i64 d1, .int .i64 d2] 38)).alloc (.cells #[.int .i64 0, .int .i64 0, .int .i64 0] 38)
      rw [show ((k + 1 : Nat) : Int) = ((k : Int) + 1) from by omega]
      exact this
    · have hT : Touch (fun b => b = wb) w (((w.setCell ⟨wb, 1, none⟩ (.int .i64 ((k : Int) + 1))).alloc (.cells #[.int .i64 d0, .int .i64 d1, .int .i64 d2] 38)).alloc (.cells #[.int .i64 0, .int .i64 0, .int .i64 0] 38)) := (((Touch.refl (fun b => b = wb) w).setCell (p := ⟨wb, 1, none⟩) (.inr rfl) _).alloc _).alloc _
      exact own_touch hown hT.drew (fun g hg e => by
        subst e
        have := hw.isT (own_isT hown hg).2
        simp at this)
  · exact ((((Touch.refl (OwnQ w B wb) w).setCell (p := ⟨wb, 1, none⟩) (.inr (.inl rfl)) _).alloc _).alloc _).drew

theorem ref_keep_no (w : World) (B wb room k : Nat) (L : List Dn) (d0 d1 d2 : Int) (h : RefQ w B wb room k L) (hge : ¬ L.length + k < room) (hfit : L.length + k ≤ 2000) (hr : room ≤ 1000) (hk2 : k ≤ 1000) :
    Calls Try.prog 10 #[.pointer (some ⟨wb, 0, none⟩), .int .i64 0, .agg #[.int .i64 d0, .int .i64 d1, .int .i64 d2]] w fun e w' => e = .returned (.tuple #[.agg #[.int .i64 0, .int .i64 0, .int .i64 0], .int .i64 12]) ∧ LeftQ B wb room (k) L w w' := by
  obtain ⟨A, cap, hw, hown⟩ := h
  have hlt0 := hw.lt
  have hA0 : Touch (fun _ => False) w ((w.alloc (.cells #[.int .i64 d0, .int .i64 d1, .int .i64 d2] 38)).alloc (.cells #[.int .i64 0, .int .i64 0, .int .i64 0] 38)) := ((Touch.refl _ w).alloc _).alloc _
  have hw0 := hw.touch hA0 (by simp)
  have e0 := hw0.cell 0
  have e1 := hw0.cell 1
  have e2 := hw0.cell 2
  have ez := hw0.frozen
  have hd : decide ((room : Int) ≤ (L.length : Int) + k) = true := by simp; omega
  simp only [List.getElem?_toArray, List.getElem?_cons_zero, List.getElem?_cons_succ] at e0 e1 e2
  go_enter Try.func10, Try.ntmps10
  go_wp2_with fail
  refine wp_region_qall (by kernel_rfl) (by kernel_rfl) ?_
  repeat (first | go_big_quiet_skip | (go_big_quiet_want; go_big_quiet_op; go_big_quiet_on))
  refine wpQuiet_nil ?_
  go_wp2
  have hq := boxes w w.heap.size (by simp) (.int .i64 d0) (.int .i64 d1) (.int .i64 d2) (.int .i64 0) (.int .i64 0) (.int .i64 0)
  have hq := hq.drew
  have f0 := hq.cell 0
  have f1 := hq.cell 1
  have f2 := hq.cell 2
  simp only [List.getElem?_toArray, List.getElem?_cons_zero, List.getElem?_cons_succ] at f0 f1 f2
  refine bodyPost_ret (v := .tuple #[.agg #[.int .i64 0, .int .i64 0, .int .i64 0], .int .i64 12]) (by simp only [results, Try.results10]; simp [go_sem, f0, f1, f2]) rfl ⟨rfl, ?_, ?_⟩
  · exact ⟨A, cap, hw0.drew, own_touch hown hA0.drew (by simp), fun g' hg' => .inl (.inr ⟨(own_isT hown hg').1, (own_isT hown hg').2, _, hw.cell 0, hg'⟩)⟩
  · exact (hA0.weaken (by simp)).drew

theorem ref_drop_yes (w : World) (B wb room k : Nat) (L : List Dn) (d0 d1 d2 : Int) (h : RefQ w B wb room k L) (hk : 0 < k) (hr : room ≤ 1000) (hk2 : k ≤ 1000) :
    Calls Try.prog 10 #[.pointer (some ⟨wb, 0, none⟩), .int .i64 1, .agg #[.int .i64 d0, .int .i64 d1, .int .i64 d2]] w fun e w' => e = .returned (.tuple #[.agg #[.int .i64 0, .int .i64 0, .int .i64 0], .int .i64 0]) ∧ LeftQ B wb room (k - 1) L w w' := by
  obtain ⟨A, cap, hw, hown⟩ := h
  have hlt0 := hw.lt
  have hA0 : Touch (fun _ => False) w ((w.alloc (.cells #[.int .i64 d0, .int .i64 d1, .int .i64 d2] 38)).alloc (.cells #[.int .i64 0, .int .i64 0, .int .i64 0] 38)) := ((Touch.refl _ w).alloc _).alloc _
  have hw0 := hw.touch hA0 (by simp)
  have e0 := hw0.cell 0
  have e1 := hw0.cell 1
  have e2 := hw0.cell 2
  have ez := hw0.frozen
  have hd : ((k : Int) == 0) = false := by simp; omega
  simp only [List.getElem?_toArray, List.getElem?_cons_zero, List.getElem?_cons_succ] at e0 e1 e2
  go_enter Try.func10, Try.ntmps10
  go_wp2
  have hq := boxes (w.setCell ⟨wb, 1, none⟩ (.int .i64 ((k : Int) - 1))) w.heap.size (by simp) (.int .i64 d0) (.int .i64 d1) (.int .i64 d2) (.int .i64 0) (.int .i64 0) (.int .i64 0)
  have f0 := hq.cell 0
  have f1 := hq.cell 1
  have f2 := hq.cell 2
  simp only [List.getElem?_toArray, List.getElem?_cons_zero, List.getElem?_cons_succ] at f0 f1 f2
  refine bodyPost_ret (v := .tuple #[.agg #[.int .i64 0, .int .i64 0, .int .i64 0], .int .i64 0]) (by simp only [results, Try.results10]; simp [go_sem, f0, f1, f2]) rfl ⟨rfl, ?_, ?_⟩
  · refine ⟨A, cap, ?_, ?_, fun g' hg' => .inl (.inr ⟨(own_isT hown hg').1, (own_isT hown hg').2, _, hw.cell 0, hg'⟩)⟩
    · have := ((hw.set_ 1 (.int .i64 ((k : Int) - 1))).alloc (.cells #[.int .i64 d0, .int .i64 d1, .int .i64 d2] 38)).alloc (.cells #[.int .i64 0, .int .i64 0, .int .i64 0] 38)
      rw [show ((k - 1 : Nat) : Int) = ((k : Int) - 1) from by omega]
      exact this
    · have hT : Touch (fun b => b = wb) w (((w.setCell ⟨wb, 1, none⟩ (.int .i64 ((k : Int) - 1))).alloc (.cells #[.int .i64 d0, .int .i64 d1, .int .i64 d2] 38)).alloc (.cells #[.int .i64 0, .int .i64 0, .int .i64 0] 38)) := (((Touch.refl (fun b => b = wb) w).setCell (p := ⟨wb, 1, none⟩) (.inr rfl) _).alloc _).alloc _
      exact own_touch hown hT (fun g hg e => by
        subst e
        have := hw.isT (own_isT hown hg).2
        simp at this)
  · exact ((((Touch.refl (OwnQ w B wb) w).setCell (p := ⟨wb, 1, none⟩) (.inr (.inl rfl)) _).alloc _).alloc _)

theorem ref_drop_no (w : World) (B wb room k : Nat) (L : List Dn) (d0 d1 d2 : Int) (h : RefQ w B wb room k L) (hk : k = 0) (hr : room ≤ 1000) :
    Calls Try.prog 10 #[.pointer (some ⟨wb, 0, none⟩), .int .i64 1, .agg #[.int .i64 d0, .int .i64 d1, .int .i64 d2]] w fun e w' => e = .returned (.tuple #[.agg #[.int .i64 0, .int .i64 0, .int .i64 0], .int .i64 15]) ∧ LeftQ B wb room (k) L w w' := by
  obtain ⟨A, cap, hw, hown⟩ := h
  have hlt0 := hw.lt
  have hA0 : Touch (fun _ => False) w ((w.alloc (.cells #[.int .i64 d0, .int .i64 d1, .int .i64 d2] 38)).alloc (.cells #[.int .i64 0, .int .i64 0, .int .i64 0] 38)) := ((Touch.refl _ w).alloc _).alloc _
  have hw0 := hw.touch hA0 (by simp)
  have e0 := hw0.cell 0
  have e1 := hw0.cell 1
  have e2 := hw0.cell 2
  have ez := hw0.frozen
  subst hk
  simp only [List.getElem?_toArray, List.getElem?_cons_zero, List.getElem?_cons_succ] at e0 e1 e2
  go_enter Try.func10, Try.ntmps10
  go_wp2
  have hq := boxes w w.heap.size (by simp) (.int .i64 d0) (.int .i64 d1) (.int .i64 d2) (.int .i64 0) (.int .i64 0) (.int .i64 0)
  have f0 := hq.cell 0
  have f1 := hq.cell 1
  have f2 := hq.cell 2
  simp only [List.getElem?_toArray, List.getElem?_cons_zero, List.getElem?_cons_succ] at f0 f1 f2
  refine bodyPost_ret (v := .tuple #[.agg #[.int .i64 0, .int .i64 0, .int .i64 0], .int .i64 15]) (by simp only [results, Try.results10]; simp [go_sem, f0, f1, f2]) rfl ⟨rfl, ?_, ?_⟩
  · exact ⟨A, cap, hw0, own_touch hown hA0 (by simp), fun g' hg' => .inl (.inr ⟨(own_isT hown hg').1, (own_isT hown hg').2, _, hw.cell 0, hg'⟩)⟩
  · exact (hA0.weaken (by simp))

theorem ref_push_no (w : World) (B wb room k : Nat) (L : List Dn) (d0 d1 d2 : Int) (h : RefQ w B wb room k L) (hk : k = 0) (hr : room ≤ 1000) :
    Calls Try.prog 10 #[.pointer (some ⟨wb, 0, none⟩), .int .i64 2, .agg #[.int .i64 d0, .int .i64 d1, .int .i64 d2]] w fun e w' => e = .returned (.tuple #[.agg #[.int .i64 0, .int .i64 0, .int .i64 0], .int .i64 12]) ∧ LeftQ B wb room (k) L w w' := by
  obtain ⟨A, cap, hw, hown⟩ := h
  have hlt0 := hw.lt
  have hA0 : Touch (fun _ => False) w ((w.alloc (.cells #[.int .i64 d0, .int .i64 d1, .int .i64 d2] 38)).alloc (.cells #[.int .i64 0, .int .i64 0, .int .i64 0] 38)) := ((Touch.refl _ w).alloc _).alloc _
  have hw0 := hw.touch hA0 (by simp)
  have e0 := hw0.cell 0
  have e1 := hw0.cell 1
  have e2 := hw0.cell 2
  have ez := hw0.frozen
  subst hk
  simp only [List.getElem?_toArray, List.getElem?_cons_zero, List.getElem?_cons_succ] at e0 e1 e2
  go_enter Try.func10, Try.ntmps10
  go_wp2
  have hq := boxes w w.heap.size (by simp) (.int .i64 d0) (.int .i64 d1) (.int .i64 d2) (.int .i64 0) (.int .i64 0) (.int .i64 0)
  have f0 := hq.cell 0
  have f1 := hq.cell 1
  have f2 := hq.cell 2
  simp only [List.getElem?_toArray, List.getElem?_cons_zero, List.getElem?_cons_succ] at f0 f1 f2
  refine bodyPost_ret (v := .tuple #[.agg #[.int .i64 0, .int .i64 0, .int .i64 0], .int .i64 12]) (by simp only [results, Try.results10]; simp [go_sem, f0, f1, f2]) rfl ⟨rfl, ?_, ?_⟩
  · exact ⟨A, cap, hw0, own_touch hown hA0 (by simp), fun g' hg' => .inl (.inr ⟨(own_isT hown hg').1, (own_isT hown hg').2, _, hw.cell 0, hg'⟩)⟩
  · exact (hA0.weaken (by simp))

theorem ref_pop_no (w : World) (B wb room k : Nat) (L : List Dn) (d0 d1 d2 : Int) (h : RefQ w B wb room k L) (hl : L = []) (hr : room ≤ 1000) :
    Calls Try.prog 10 #[.pointer (some ⟨wb, 0, none⟩), .int .i64 3, .agg #[.int .i64 d0, .int .i64 d1, .int .i64 d2]] w fun e w' => e = .returned (.tuple #[.agg #[.int .i64 0, .int .i64 0, .int .i64 0], .int .i64 15]) ∧ LeftQ B wb room (k) L w w' := by
  obtain ⟨A, cap, hw, hown⟩ := h
  have hlt0 := hw.lt
  have hA0 : Touch (fun _ => False) w ((w.alloc (.cells #[.int .i64 d0, .int .i64 d1, .int .i64 d2] 38)).alloc (.cells #[.int .i64 0, .int .i64 0, .int .i64 0] 38)) := ((Touch.refl _ w).alloc _).alloc _
  have hw0 := hw.touch hA0 (by simp)
  have e0 := hw0.cell 0
  have e1 := hw0.cell 1
  have e2 := hw0.cell 2
  have ez := hw0.frozen
  subst hl
  simp only [List.getElem?_toArray, List.getElem?_cons_zero, List.getElem?_cons_succ] at e0 e1 e2
  go_enter Try.func10, Try.ntmps10
  go_wp2
  have hq := boxes w w.heap.size (by simp) (.int .i64 d0) (.int .i64 d1) (.int .i64 d2) (.int .i64 0) (.int .i64 0) (.int .i64 0)
  have f0 := hq.cell 0
  have f1 := hq.cell 1
  have f2 := hq.cell 2
  simp only [List.getElem?_toArray, List.getElem?_cons_zero, List.getElem?_cons_succ] at f0 f1 f2
  refine bodyPost_ret (v := .tuple #[.agg #[.int .i64 0, .int .i64 0, .int .i64 0], .int .i64 15]) (by simp only [results, Try.results10]; simp [go_sem, f0, f1, f2]) rfl ⟨rfl, ?_, ?_⟩
  · exact ⟨A, cap, hw0, own_touch hown hA0 (by simp), fun g' hg' => .inl (.inr ⟨(own_isT hown hg').1, (own_isT hown hg').2, _, hw.cell 0, hg'⟩)⟩
  · exact (hA0.weaken (by simp))
end Go.Proofs.Ytmhdjedegkekeaa
