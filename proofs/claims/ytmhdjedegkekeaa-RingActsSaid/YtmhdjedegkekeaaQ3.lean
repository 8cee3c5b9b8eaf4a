/- The document's ring: what is popped, by contract. -/
import Derived.Test.YtmhdjedegkekeaaQ2
namespace Go.Proofs.Ytmhdjedegkekeaa
open Go.RowKit
set_option linter.unusedVariables false

theorem own_shape {w : World} {B : Nat} {e : TypeId} {size : Nat} {v : Value} {n : Nat} {xs : List Value} (h : w.ownsRow B e size v n xs) : ∃ A c, v = .slice A n c := by
  rcases h.2 with ⟨rfl, rfl⟩ | ⟨g, cap, cur, rfl, _⟩
  · exact ⟨none, 0, rfl⟩
  · exact ⟨_, _, rfl⟩

set_option maxHeartbeats 1000000 in
theorem ref_pop_yes (w : World) (B wb room k : Nat) (L : List Dn) (x y z : Int) (d0 d1 d2 : Int) (h : RefQ w B wb room k ((x, y, z) :: L)) (hL : L.length ≤ 1000) (hB : B ≤ w.heap.size) :
    Calls Try.prog 10 #[.pointer (some ⟨wb, 0, none⟩), .int .i64 3, .agg #[.int .i64 d0, .int .i64 d1, .int .i64 d2]] w fun e w' => e = .returned (.tuple #[.agg #[.int .i64 x, .int .i64 y, .int .i64 z], .int .i64 0]) ∧ LeftQ B wb room k L w w' := by
  obtain ⟨i0, hi, hz0, hz1, hz2⟩ := info_parts Try.info38
  obtain ⟨A, cap, hw, hown⟩ := h
  simp only [List.length_cons] at hw hown
  obtain ⟨g, cap', hv, hBg, hglt⟩ := hown.form (by simp)
  obtain ⟨rfl, rfl⟩ : A = some ⟨g, 0, none⟩ ∧ cap = cap' := by
    injection hv with h1 h2 h3
    exact ⟨h1, h3⟩
  clear hv
  have hcells := hown.cells (g := g) rfl
  have hlt0 := hw.lt
  obtain ⟨w1, hw1⟩ : ∃ w1, w1 = (w.alloc (.cells #[.int .i64 d0, .int .i64 d1, .int .i64 d2] 38)).alloc (.cells #[.int .i64 0, .int .i64 0, .int .i64 0] 38) := ⟨_, rfl⟩
  have hA0 : Touch (fun _ => False) w w1 := by rw [hw1]; exact ((Touch.refl _ w).alloc _).alloc _
  have hw0 := hw.touch hA0 (by simp)
  have hown0 := own_touch hown hA0 (by simp)
  have hcells0 := hown0.cells (g := g) rfl
  have e0 := hw0.cell 0
  have ez := hw0.frozen
  have g0 := hcells0 0 (.int .i64 x) rfl
  have g1 := hcells0 1 (.int .i64 y) rfl
  have g2 := hcells0 2 (.int .i64 z) rfl
  rw [addr_add] at g0 g1 g2
  simp only [List.getElem?_toArray, List.getElem?_cons_zero] at e0
  rw [hw1] at e0 g0 g1 g2
  have hA1 : Touch (fun _ => False) w ((w1.alloc (.cells #[.int .i64 x, .int .i64 y, .int .i64 z] 38)).alloc (.cells #[] 38)) := (hA0.alloc _).alloc _
  have k0 := (hw.touch hA1 (by simp)).cell 0
  have kz := (hw.touch hA1 (by simp)).frozen
  simp only [List.getElem?_toArray, List.getElem?_cons_zero] at k0
  rw [hw1] at k0 kz
  have HI := Lib.hid (And.intro hi (And.intro hz0 (And.intro hz1 hz2)))
  have HC := Lib.hid hcells
  have HC0 := Lib.hid hcells0
  have HW := Lib.hid hw1
  clear hi hz0 hz1 hz2 hcells hcells0 hw1
  have hE := World.ownsRow_made (base := B) (e := 38) (size := 3) (w1.alloc (.cells #[.int .i64 x, .int .i64 y, .int .i64 z] 38)) #[] 0 (by have := hA0.size; simp; omega) (by unfold maxLen; omega) rfl
  rw [World.size_alloc, HW.out, World.size_alloc, World.size_alloc] at hE
  have hnews : ∀ j u, (flat L)[j]? = some u → ((w1.alloc (.cells #[.int .i64 x, .int .i64 y, .int .i64 z] 38)).alloc (.cells #[] 38)).cell? ((⟨g, 3, none⟩ : Addr).add j) = some u := fun j u hu => by
    have h3 := (own_touch hown hA1 (by simp)).cells (g := g) rfl (3 + j) u (by simp only [flat]; rw [Nat.add_comm]; simpa using hu)
    rw [addr_add] at h3
    have e : (⟨g, 3, none⟩ : Addr).add j = ⟨g, 3 + j, none⟩ := by unfold Addr.add; split <;> simp_all
    rw [e]; exact h3
  rw [HW.out] at hnews
  have HE := Lib.hid hE
  have HN := Lib.hid hnews
  clear hE hnews
  obtain ⟨hi, hz0, hz1, hz2⟩ := HI.out
  obtain ⟨W4, hW4⟩ : ∃ W4, W4 = (((w.alloc (.cells #[.int .i64 d0, .int .i64 d1, .int .i64 d2] 38)).alloc (.cells #[.int .i64 0, .int .i64 0, .int .i64 0] 38)).alloc (.cells #[.int .i64 x, .int .i64 y, .int .i64 z] 38)).alloc (.cells #[] 38) := ⟨_, rfl⟩
  have hQ : Hid (Blk ((((w.alloc (.cells #[.int .i64 d0, .int .i64 d1, .int .i64 d2] 38)).alloc (.cells #[.int .i64 0, .int .i64 0, .int .i64 0] 38)).alloc (.cells #[.int .i64 x, .int .i64 y, .int .i64 z] 38)).alloc (.cells #[] 38)) (w.heap.size + 1) 38 #[.int .i64 0, .int .i64 0, .int .i64 0]) := Lib.hid (((boxes w _ rfl _ _ _ _ _ _).alloc _).alloc _)
  have hX : Hid (Blk ((((w.alloc (.cells #[.int .i64 d0, .int .i64 d1, .int .i64 d2] 38)).alloc (.cells #[.int .i64 0, .int .i64 0, .int .i64 0] 38)).alloc (.cells #[.int .i64 x, .int .i64 y, .int .i64 z] 38)).alloc (.cells #[] 38)) (w.heap.size + 1 + 1) 38 #[.int .i64 x, .int .i64 y, .int .i64 z]) := Lib.hid ((boxes (w.alloc (.cells #[.int .i64 d0, .int .i64 d1, .int .i64 d2] 38)) (w.heap.size + 1) (by simp) _ _ _ _ _ _).alloc _)
  have hWB : Hid (Blk ((((w.alloc (.cells #[.int .i64 d0, .int .i64 d1, .int .i64 d2] 38)).alloc (.cells #[.int .i64 0, .int .i64 0, .int .i64 0] 38)).alloc (.cells #[.int .i64 x, .int .i64 y, .int .i64 z] 38)).alloc (.cells #[] 38)) wb 31 #[.slice (some ⟨g, 0, none⟩) (L.length + 1) cap, .int .i64 k, .int .i64 room]) := Lib.hid ((((hw.alloc _).alloc _).alloc _).alloc _)
  have hF : Hid (∀ b, b ≤ w.heap.size + 1 + 1 → ¬ some b = (Value.slice (some ⟨w.heap.size + 1 + 1 + 1, 0, none⟩) 0 0).ownBlock) := Lib.hid (fun b hb e => by simp [Value.ownBlock] at e; omega)
  clear hW4 W4
  by_cases hc1 : cap = 1
  · have hcl : L.length + 1 ≤ cap := by
      rcases hown.2 with ⟨hn, _⟩ | ⟨g', cap', cur, hv, _, _, hle, _⟩
      · cases hn
      · injection hv with _ _ h3
        omega
    obtain rfl : L = [] := List.eq_nil_of_length_eq_zero (by omega)
    subst hc1
    clear hcl HN
    go_enter Try.func10, Try.ntmps10
    go_wp2_with (at_builtin; refine wpList_append_own_at _ rfl (.tmp 91) (.tmp 96) 29 rfl B 38 i0 _ 3 24 Try.underlying29 hi hz0 hz1 hz2 rfl (by omega) (.slice (some ⟨w.heap.size + 1 + 1 + 1, 0, none⟩) 0 0) 0 [] rfl HE.out ⟨g, 0, none⟩ 0 0 [] rfl rfl (by simp) (by simp) (by unfold maxLen; omega) (by omega) (by simp; omega) ?_; intro v' w3 hown3 hgrow hnil hat; obtain ⟨A', c', rfl⟩ := own_shape hown3; simp only [Nat.add_zero, List.append_nil] at hown3 hat ⊢; have HA := Lib.hid hat; have hT3 := touch_grown hgrow; have hx3 := hX.out.touch hT3 (hF.out _ (by omega)); have hq3 := hQ.out.touch hT3 (hF.out _ (by omega)); have hwb3 := hWB.out.touch hT3 (hF.out _ (by omega)); clear hat hnil hgrow; have t0 := hwb3.cell 0; have tz := hwb3.frozen; have x0 := hx3.cell 0; have x1 := hx3.cell 1; have x2 := hx3.cell 2; have q0 := hq3.cell 0; have q1 := hq3.cell 1; have q2 := hq3.cell 2; have qz := hq3.frozen; simp only [List.getElem?_toArray, List.getElem?_cons_zero, List.getElem?_cons_succ] at t0 x0 x1 x2 q0 q1 q2; have hne1 : ¬ wb = w.heap.size + 1 := (by omega); have hne2 : ¬ wb = w.heap.size + 1 + 1 := (by omega); have hne3 : ¬ w.heap.size + 1 = w.heap.size + 1 + 1 := (by omega))
    have hq4 := (((hq3.far (p := ⟨wb, 0, none⟩) (Ne.symm hne1) (.slice A' 0 c')).set_ 0 (.int .i64 x)).set_ 1 (.int .i64 y)).set_ 2 (.int .i64 z)
    have f0 := hq4.cell 0
    have f1 := hq4.cell 1
    have f2 := hq4.cell 2
    simp only [List.setIfInBounds_toArray, List.set_cons_zero, List.set_cons_succ, List.getElem?_toArray, List.getElem?_cons_zero, List.getElem?_cons_succ] at f0 f1 f2
    refine bodyPost_ret (v := .tuple #[.agg #[.int .i64 x, .int .i64 y, .int .i64 z], .int .i64 0]) (by simp only [results, Try.results10]; simp [go_sem, f0, f1, f2]) rfl ⟨rfl, ?_, ?_⟩
    · have hT4 := ((((Touch.refl (fun b => b = wb ∨ b = w.heap.size + 1) w3).setCell (p := ⟨wb, 0, none⟩) (.inr (.inl rfl)) (.slice A' 0 c')).setCell (p := ⟨w.heap.size + 1, 0, none⟩) (.inr (.inr rfl)) (.int .i64 x)).setCell (p := ⟨w.heap.size + 1, 1, none⟩) (.inr (.inr rfl)) (.int .i64 y)).setCell (p := ⟨w.heap.size + 1, 2, none⟩) (.inr (.inr rfl)) (.int .i64 z)
      refine ⟨A', c', ?_, own_touch hown3 hT4 (fun g' hg' => ?_), fun g' hg' => .inr (by rcases HA.out with e | e <;> (have e := hg'.symm.trans e; simp [Value.ownBlock] at e; omega))⟩
      · exact (((hwb3.set_ 0 (.slice A' 0 c')).far (p := ⟨w.heap.size + 1, 0, none⟩) hne1 (.int .i64 x)).far (p := ⟨w.heap.size + 1, 1, none⟩) hne1 (.int .i64 y)).far (p := ⟨w.heap.size + 1, 2, none⟩) hne1 (.int .i64 z)
      · rintro (rfl | rfl)
        · have := hwb3.isT (own_isT hown3 hg').2
          simp at this
        · rcases HA.out with e | e
          · have e := hg'.symm.trans e
            simp [Value.ownBlock] at e
          · have e := hg'.symm.trans e
            simp at e
    · have hTw3 : Touch (OwnQ w B wb) w w3 := (((((Touch.refl (OwnQ w B wb) w).alloc (.cells #[.int .i64 d0, .int .i64 d1, .int .i64 d2] 38)).alloc (.cells #[.int .i64 0, .int .i64 0, .int .i64 0] 38)).alloc (.cells #[.int .i64 x, .int .i64 y, .int .i64 z] 38)).alloc (.cells #[] 38)).trans hT3 (fun b hb e => absurd e (hF.out b (by omega)))
      exact (((hTw3.setCell (p := ⟨wb, 0, none⟩) (.inr (.inl rfl)) _).setCell (p := ⟨w.heap.size + 1, 0, none⟩) (.inl (by simp)) _).setCell (p := ⟨w.heap.size + 1, 1, none⟩) (.inl (by simp)) _).setCell (p := ⟨w.heap.size + 1, 2, none⟩) (.inl (by simp)) _
  · go_enter Try.func10, Try.ntmps10
    go_wp2_with (at_builtin; refine wpList_append_own_at _ rfl (.tmp 91) (.tmp 96) 29 rfl B 38 i0 _ 3 24 Try.underlying29 hi hz0 hz1 hz2 rfl (by omega) (.slice (some ⟨w.heap.size + 1 + 1 + 1, 0, none⟩) 0 0) 0 [] rfl HE.out ⟨g, 3, none⟩ L.length (cap - 1) (flat L) rfl (flat_len L) HN.out (flat_one L) (by unfold maxLen; omega) (by omega) (by simp; omega) ?_; intro v' w3 hown3 hgrow hnil hat; obtain ⟨A', c', rfl⟩ := own_shape hown3; rw [Nat.zero_add] at hown3 hat ⊢; have HA := Lib.hid hat; have hT3 := touch_grown hgrow; have hx3 := hX.out.touch hT3 (hF.out _ (by omega)); have hq3 := hQ.out.touch hT3 (hF.out _ (by omega)); have hwb3 := hWB.out.touch hT3 (hF.out _ (by omega)); clear hat hnil hgrow; have t0 := hwb3.cell 0; have tz := hwb3.frozen; have x0 := hx3.cell 0; have x1 := hx3.cell 1; have x2 := hx3.cell 2; have q0 := hq3.cell 0; have q1 := hq3.cell 1; have q2 := hq3.cell 2; have qz := hq3.frozen; simp only [List.getElem?_toArray, List.getElem?_cons_zero, List.getElem?_cons_succ] at t0 x0 x1 x2 q0 q1 q2; have hne1 : ¬ wb = w.heap.size + 1 := (by omega); have hne2 : ¬ wb = w.heap.size + 1 + 1 := (by omega); have hne3 : ¬ w.heap.size + 1 = w.heap.size + 1 + 1 := (by omega))
    have hq4 := (((hq3.far (p := ⟨wb, 0, none⟩) (Ne.symm hne1) (.slice A' L.length c')).set_ 0 (.int .i64 x)).set_ 1 (.int .i64 y)).set_ 2 (.int .i64 z)
    have f0 := hq4.cell 0
    have f1 := hq4.cell 1
    have f2 := hq4.cell 2
    simp only [List.setIfInBounds_toArray, List.set_cons_zero, List.set_cons_succ, List.getElem?_toArray, List.getElem?_cons_zero, List.getElem?_cons_succ] at f0 f1 f2
    refine bodyPost_ret (v := .tuple #[.agg #[.int .i64 x, .int .i64 y, .int .i64 z], .int .i64 0]) (by simp only [results, Try.results10]; simp [go_sem, f0, f1, f2]) rfl ⟨rfl, ?_, ?_⟩
    · have hT4 := ((((Touch.refl (fun b => b = wb ∨ b = w.heap.size + 1) w3).setCell (p := ⟨wb, 0, none⟩) (.inr (.inl rfl)) (.slice A' L.length c')).setCell (p := ⟨w.heap.size + 1, 0, none⟩) (.inr (.inr rfl)) (.int .i64 x)).setCell (p := ⟨w.heap.size + 1, 1, none⟩) (.inr (.inr rfl)) (.int .i64 y)).setCell (p := ⟨w.heap.size + 1, 2, none⟩) (.inr (.inr rfl)) (.int .i64 z)
      refine ⟨A', c', ?_, own_touch hown3 hT4 (fun g' hg' => ?_), fun g' hg' => .inr (by rcases HA.out with e | e <;> (have e := hg'.symm.trans e; simp [Value.ownBlock] at e; omega))⟩
      · exact (((hwb3.set_ 0 (.slice A' L.length c')).far (p := ⟨w.heap.size + 1, 0, none⟩) hne1 (.int .i64 x)).far (p := ⟨w.heap.size + 1, 1, none⟩) hne1 (.int .i64 y)).far (p := ⟨w.heap.size + 1, 2, none⟩) hne1 (.int .i64 z)
      · rintro (rfl | rfl)
        · have := hwb3.isT (own_isT hown3 hg').2
          simp at this
        · rcases HA.out with e | e
          · have e := hg'.symm.trans e
            simp [Value.ownBlock] at e
          · have e := hg'.symm.trans e
            simp at e
    · have hTw3 : Touch (OwnQ w B wb) w w3 := (((((Touch.refl (OwnQ w B wb) w).alloc (.cells #[.int .i64 d0, .int .i64 d1, .int .i64 d2] 38)).alloc (.cells #[.int .i64 0, .int .i64 0, .int .i64 0] 38)).alloc (.cells #[.int .i64 x, .int .i64 y, .int .i64 z] 38)).alloc (.cells #[] 38)).trans hT3 (fun b hb e => absurd e (hF.out b (by omega)))
      exact (((hTw3.setCell (p := ⟨wb, 0, none⟩) (.inr (.inl rfl)) _).setCell (p := ⟨w.heap.size + 1, 0, none⟩) (.inl (by simp)) _).setCell (p := ⟨w.heap.size + 1, 1, none⟩) (.inl (by simp)) _).setCell (p := ⟨w.heap.size + 1, 2, none⟩) (.inl (by simp)) _
end Go.Proofs.Ytmhdjedegkekeaa
