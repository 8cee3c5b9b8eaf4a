/- The document's ring (palfreyref18), by contracts. -/
import Derived.Test.YtmhdjedegkekeaaG
import Derived.Deep.AppendLies
import Derived.Test.YtmhdjedegkekeaaReg
namespace Go.Proofs.Ytmhdjedegkekeaa
open Go.RowKit

/-- The cells of completions. -/
def flat : List Dn → List Value
  | [] => []
  | d :: L => .int .i64 d.1 :: .int .i64 d.2.1 :: .int .i64 d.2.2 :: flat L
theorem flat_append (L M : List Dn) : flat (L ++ M) = flat L ++ flat M := by
  induction L with
  | nil => rfl
  | cons d L ih => simp [flat, ih]
theorem flat_len (L : List Dn) : (flat L).length = L.length * 3 := by
  induction L with
  | nil => rfl
  | cons d L ih => simp [flat, ih]; omega
theorem flat_one (L : List Dn) : ∀ u ∈ flat L, u.oneCell' = true := by
  induction L with
  | nil => simp [flat]
  | cons d L ih =>
    intro u hu
    simp [flat] at hu
    rcases hu with rfl | rfl | rfl | hu
    · rfl
    · rfl
    · rfl
    · exact ih u hu

/-- Block b is a row of cells of type t. -/
def IsT (w : World) (t : TypeId) (b : Nat) : Prop := ∃ cs fz, w.heap[b]? = some (.cells cs t fz)
theorem Blk.isT {w : World} {g : Nat} {t t' : TypeId} {cs : Array Value} (h : Blk w g t cs) (h' : IsT w t' g) : t' = t := by
  obtain ⟨cs', fz, h'⟩ := h'
  unfold Blk at h
  rw [h] at h'
  injection h' with h'
  injection h' with _ ht _
  exact ht.symm

theorem own_touch {w w' : World} {S : Nat → Prop} {B : Nat} {e : TypeId} {size : Nat} {v : Value} {n : Nat} {xs : List Value} (h : w.ownsRow B e size v n xs) (ht : Touch S w w')
    (hs : ∀ g, v.ownBlock = some g → ¬ S g) : w'.ownsRow B e size v n xs := by
  refine ⟨h.1, ?_⟩
  rcases h.2 with hn | ⟨g, cap, cur, rfl, hb, hgg, rest⟩
  · exact .inl hn
  · refine .inr ⟨g, cap, cur, rfl, hb, ?_, rest⟩
    rw [ht.block g (Array.getElem?_eq_some_iff.1 hgg).1 (hs g rfl)]
    exact hgg
theorem own_isT {w : World} {B : Nat} {e : TypeId} {size : Nat} {v : Value} {n : Nat} {xs : List Value} (h : w.ownsRow B e size v n xs) {g : Nat} (hg : v.ownBlock = some g) : B ≤ g ∧ IsT w e g := by
  rcases h.2 with ⟨rfl, _⟩ | ⟨g', cap, cur, rfl, hb, hgg, _⟩
  · simp [Value.ownBlock] at hg
  · simp [Value.ownBlock] at hg
    subst hg
    exact ⟨hb, cur, _, hgg⟩
theorem touch_grown {w w' : World} {row : Option Nat} (h : w.grownBy w' row) : Touch (fun b => some b = row) w w' := ⟨h.os, h.tape, h.output, h.size, fun k hk hs => h.block k hk hs⟩
theorem IsT.old {w w' : World} {S : Nat → Prop} {t : TypeId} {b : Nat} (h : IsT w' t b) (ht : Touch S w w') (hb : b < w.heap.size) (hs : ¬ S b) : IsT w t b := by
  obtain ⟨cs, fz, h⟩ := h
  exact ⟨cs, fz, by rw [← ht.block b hb hs]; exact h⟩

theorem addr_add (g j : Nat) : (⟨g, 0, none⟩ : Addr).add j = ⟨g, j, none⟩ := by unfold Addr.add; split <;> simp_all

/-- The document's ring lies in block wb, its row from block B on. -/
def RefQ (w : World) (B wb room k : Nat) (L : List Dn) : Prop :=
  ∃ (A : Option Addr) (c : Nat), Blk w wb 31 #[.slice A L.length c, .int .i64 k, .int .i64 room] ∧ w.ownsRow B 38 3 (.slice A L.length c) L.length (flat L)

/-- What its acts may write. -/
def OwnQ (w : World) (B wb : Nat) (b : Nat) : Prop := b = wb ∨ (B ≤ b ∧ IsT w 38 b ∧ ∃ v, w.cell? ⟨wb, 0, none⟩ = some v ∧ v.ownBlock = some b)

theorem Try.info38 : (Try.prog.info? 38).map (fun i => (i.zero, i.size, i.bytes)) = some (some (.agg #[.int .i64 0, .int .i64 0, .int .i64 0]), 3, 24) := by kernel_rfl

def LeftQ (B wb room k : Nat) (L : List Dn) (w w' : World) : Prop :=
  (∃ (A : Option Addr) (c : Nat), Blk w' wb 31 #[.slice A L.length c, .int .i64 k, .int .i64 room] ∧ w'.ownsRow B 38 3 (.slice A L.length c) L.length (flat L) ∧ ∀ g, (Value.slice A L.length c).ownBlock = some g → OwnQ w B wb g ∨ w.heap.size ≤ g) ∧ Touch (OwnQ w B wb) w w'
theorem LeftQ.ref {B wb room k : Nat} {L : List Dn} {w w' : World} (h : LeftQ B wb room k L w w') : RefQ w' B wb room k L := by
  obtain ⟨⟨A, c, h1, h2, _⟩, _⟩ := h
  exact ⟨A, c, h1, h2⟩
/-- What is its own now was so, or is new. -/
theorem LeftQ.fresh {B wb room k : Nat} {L : List Dn} {w w' : World} (h : LeftQ B wb room k L w w') {b : Nat} (ho : OwnQ w' B wb b) : OwnQ w B wb b ∨ w.heap.size ≤ b := by
  obtain ⟨⟨A, c, h1, h2, h3⟩, _⟩ := h
  rcases ho with rfl | ⟨_, _, v, hv, ho⟩
  · exact .inl (.inl rfl)
  · rw [h1.cell 0] at hv
    simp only [List.getElem?_toArray, List.getElem?_cons_zero] at hv
    injection hv with hv
    subst hv
    exact h3 b ho

theorem ref_push (w : World) (B wb room k : Nat) (L : List Dn) (a b c : Int) (h : RefQ w B wb room k L) (hk : 0 < k) (hk2 : k ≤ 1000) (hL : L.length ≤ 1000) (hB : B ≤ w.heap.size) :
    Calls Try.prog 10 #[.pointer (some ⟨wb, 0, none⟩), .int .i64 2, .agg #[.int .i64 a, .int .i64 b, .int .i64 c]] w fun e w' => e = .returned (.tuple #[.agg #[.int .i64 0, .int .i64 0, .int .i64 0], .int .i64 0]) ∧ LeftQ B wb room (k - 1) (L ++ [(a, b, c)]) w w' := by
  obtain ⟨i0, hi, hz0, hz1, hz2⟩ := info_parts Try.info38
  obtain ⟨A, cap, hw, hown⟩ := h
  have hlt := hw.lt
  have hA0 : Touch (fun _ => False) w ((w.alloc (.cells #[.int .i64 a, .int .i64 b, .int .i64 c] 38)).alloc (.cells #[.int .i64 0, .int .i64 0, .int .i64 0] 38)) := ((Touch.refl _ w).alloc _).alloc _
  have hw0 := hw.touch hA0 (by simp)
  have e1 := hw0.cell 1
  have ez := hw0.frozen
  simp only [List.getElem?_toArray, List.getElem?_cons_zero, List.getElem?_cons_succ] at e1
  obtain ⟨w1, hw1⟩ : ∃ w1, w1 = ((w.setCell ⟨wb, 1, none⟩ (.int .i64 ((k : Int) - 1))).alloc (.cells #[.int .i64 a, .int .i64 b, .int .i64 c] 38)).alloc (.cells #[.int .i64 0, .int .i64 0, .int .i64 0] 38) := ⟨_, rfl⟩
  have hT0 : Touch (fun b => b = wb) w w1 := by rw [hw1]; exact (((Touch.refl (fun b => b = wb) w).setCell (p := ⟨wb, 1, none⟩) (.inr rfl) _).alloc _).alloc _
  have hd : Blk w1 w.heap.size 38 #[.int .i64 a, .int .i64 b, .int .i64 c] := by
    rw [hw1]; have := (Blk.new (w.setCell ⟨wb, 1, none⟩ (.int .i64 ((k : Int) - 1))) 38 #[.int .i64 a, .int .i64 b, .int .i64 c]).alloc (.cells #[.int .i64 0, .int .i64 0, .int .i64 0] 38)
    rw [World.size_setCell] at this
    exact this
  have hq : Blk w1 (w.heap.size + 1) 38 #[.int .i64 0, .int .i64 0, .int .i64 0] := by
    rw [hw1]; have := Blk.new ((w.setCell ⟨wb, 1, none⟩ (.int .i64 ((k : Int) - 1))).alloc (.cells #[.int .i64 a, .int .i64 b, .int .i64 c] 38)) 38 #[.int .i64 0, .int .i64 0, .int .i64 0]
    rw [World.size_alloc, World.size_setCell] at this
    exact this
  have hw2 : Blk w1 wb 31 #[.slice A L.length cap, .int .i64 ((k : Int) - 1), .int .i64 room] := by
    rw [hw1]; exact ((hw.set_ 1 (.int .i64 ((k : Int) - 1))).alloc _).alloc _
  have hown1 : w1.ownsRow B 38 3 (.slice A L.length cap) L.length (flat L) := own_touch hown hT0 (fun g hg => by
    rintro rfl
    have := hw.isT (own_isT hown hg).2
    simp at this)
  have c0 := hw2.cell 0
  have c1 := hw2.cell 1
  have cz := hw2.frozen
  have d0 := hd.cell 0
  have d1 := hd.cell 1
  have d2 := hd.cell 2
  simp at c0 c1 d0 d1 d2
  have HW := Lib.hid hw1
  have HZ : Hid (w1.heap.size = w.heap.size + 2) := Lib.hid (by rw [hw1]; simp)
  have HI := Lib.hid (And.intro hi (And.intro hz0 (And.intro hz1 hz2)))
  clear hi hz0 hz1 hz2
  go_enter Try.func10, Try.ntmps10
  go_wp2_with fail
  rw [← HW.out]
  clear hw1 HW e1 ez hw0 hA0
  obtain ⟨S, HS⟩ : ∃ S : World → Prop, Hid (∀ w', S w' ↔ (Blk w' wb 31 #[.slice A L.length cap, .int .i64 ((k : Int) - 1), .int .i64 room] ∧ Blk w' w.heap.size 38 #[.int .i64 a, .int .i64 b, .int .i64 c])) := ⟨_, fun _ => Iff.rfl⟩
  refine wp_region_gr S 10 [(0, false), (1, false), (2, false), (3, false), (4, false), (5, false), (6, true), (7, true), (8, false), (9, false), (10, true)] (by kernel_rfl) (by kernel_rfl) ((HS.out _).2 ⟨hw2, hd⟩) (fun hne => ?_)
  have s0 : ∀ x : SW S, x.w.cell? ⟨wb, 0, none⟩ = some (.slice A L.length cap) := fun x => ((HS.out _).1 x.ok).1.cell 0
  have s1 : ∀ x : SW S, x.w.cell? ⟨w.heap.size, 0, none⟩ = some (.int .i64 a) := fun x => ((HS.out _).1 x.ok).2.cell 0
  have s2 : ∀ x : SW S, x.w.cell? ⟨w.heap.size, 1, none⟩ = some (.int .i64 b) := fun x => ((HS.out _).1 x.ok).2.cell 1
  have s3 : ∀ x : SW S, x.w.cell? ⟨w.heap.size, 2, none⟩ = some (.int .i64 c) := fun x => ((HS.out _).1 x.ok).2.cell 2
  simp only [withOps, List.filterMap_cons, List.filterMap_nil, Option.map_some, List.getElem?_cons_zero, List.getElem?_cons_succ]
  repeat (refine wpGr_q ?_; (first | go_big_quiet_skip | (go_big_quiet_want; go_big_quiet_op; go_big_quiet_on)); refine wpQuiet_nil ?_)
  refine wpGr_eff rfl (fun K hK => ?_)
  go_wp2_with fail
  have hsz1 : w1.heap.size = w.heap.size + 2 := HZ.out
  obtain ⟨w2, hw2e⟩ : ∃ w2, w2 = (w1.alloc (.cells #[.int .i64 a, .int .i64 b, .int .i64 c] 38)).drew := ⟨_, rfl⟩
  rw [← hw2e]
  have hwb2 : Blk w2 wb 31 #[.slice A L.length cap, .int .i64 ((k : Int) - 1), .int .i64 room] := by rw [hw2e]; exact (hw2.alloc _).drew
  have hd2 : Blk w2 w.heap.size 38 #[.int .i64 a, .int .i64 b, .int .i64 c] := by rw [hw2e]; exact (hd.alloc _).drew
  have hq2 : Blk w2 (w.heap.size + 1) 38 #[.int .i64 0, .int .i64 0, .int .i64 0] := by rw [hw2e]; exact (hq.alloc _).drew
  have hn2 : Blk w2 w1.heap.size 38 #[.int .i64 a, .int .i64 b, .int .i64 c] := by rw [hw2e]; exact (Blk.new _ _ _).drew
  have hown2 : w2.ownsRow B 38 3 (.slice A L.length cap) L.length (flat L) := by rw [hw2e]; exact (hown1.alloc _).drew
  have hT2 : Touch (fun _ => False) w1 w2 := by rw [hw2e]; exact ((Touch.refl _ w1).alloc _).drew
  have hsz2 : w2.heap.size = w1.heap.size + 1 := by rw [hw2e]; simp
  clear hw2e
  refine ⟨.inr ((HS.out _).2 ⟨hwb2, hd2⟩), ?_⟩
  obtain ⟨hi, hz0, hz1, hz2⟩ := HI.out
  refine wpGr_eff rfl (fun K hK => ?_)
  refine wp_append_lies w2 (.tmp 69) (.tmp 71) 29 rfl B 38 i0 _ 3 24 Try.underlying29 hi hz0 hz1 hz2 rfl (by omega) (.slice A L.length cap) _ _ rfl hown2 ⟨w1.heap.size, 0, none⟩ 1 1 (flat [(a, b, c)]) rfl rfl
    (fun j u hu => by rw [addr_add, hn2.cell]; simpa [flat] using hu) (flat_one _) (by omega) (by unfold maxLen; omega) (by omega) (by omega) w2.heap.size rfl (fun g cap' w3 hown3 hgrow hat hlt3 => ?_)
  refine hK _ _ ?_
  clear hK K hi hz0 hz1 hz2
  dsimp only [Act.put]
  simp only [List.setIfInBounds_toArray, List.set_cons_succ, List.set_cons_zero]
  have hT3 := touch_grown hgrow
  have hgw : ¬ some wb = (Value.slice A L.length cap).ownBlock := fun e => by
    have := hwb2.isT (own_isT hown2 e.symm).2
    simp at this
  have hfar : ∀ b, (w.heap.size ≤ b ∧ b < w2.heap.size) → ¬ some b = (Value.slice A L.length cap).ownBlock := fun b hb e => by
    have := hown.lt b e.symm
    omega
  have hwb3 := hwb2.touch hT3 hgw
  have hd3 := hd2.touch hT3 (hfar _ (by omega))
  have hq3 := hq2.touch hT3 (hfar _ (by omega))
  refine ⟨.inr ((HS.out _).2 ⟨hwb3, hd3⟩), ?_⟩
  repeat (refine wpGr_q ?_; (first | go_big_quiet_skip | (go_big_quiet_want; go_big_quiet_op; go_big_quiet_on)); refine wpQuiet_nil ?_)
  refine wpGr_eff rfl (fun K hK => ?_)
  have t0 := hwb3.cell 0
  have t1 := hwb3.frozen 0
  have q0 := hq3.cell 0
  have q1 := hq3.cell 1
  have q2 := hq3.cell 2
  have qz := hq3.frozen
  have hne : ¬ wb = w.heap.size + 1 := by omega
  simp at t0 q0 q1 q2
  go_wp2_with fail
  refine wpGr_nil ?_
  go_wp2
  have hq4 := (((hq3.far (p := ⟨wb, 0, none⟩) (Ne.symm hne) (.slice (some ⟨g, 0, none⟩) (L.length + 1) cap')).set_ 0 (.int .i64 0)).set_ 1 (.int .i64 0)).set_ 2 (.int .i64 0)
  have f0 := hq4.cell 0
  have f1 := hq4.cell 1
  have f2 := hq4.cell 2
  simp only [List.setIfInBounds_toArray, List.set_cons_zero, List.set_cons_succ, List.getElem?_toArray, List.getElem?_cons_zero, List.getElem?_cons_succ] at f0 f1 f2
  refine bodyPost_ret (v := .tuple #[.agg #[.int .i64 0, .int .i64 0, .int .i64 0], .int .i64 0]) (by simp only [results, Try.results10]; simp [go_sem, f0, f1, f2]) rfl ⟨rfl, ?_, ?_⟩
  · refine ⟨some ⟨g, 0, none⟩, cap', ?_, ?_, fun g' hg' => ?_⟩
    · have := (((hwb3.set_ 0 (.slice (some ⟨g, 0, none⟩) (L.length + 1) cap')).far (p := ⟨w.heap.size + 1, 0, none⟩) hne (.int .i64 0)).far (p := ⟨w.heap.size + 1, 1, none⟩) hne (.int .i64 0)).far (p := ⟨w.heap.size + 1, 2, none⟩) hne (.int .i64 0)
      rw [show ((k - 1 : Nat) : Int) = (k : Int) - 1 from by omega, show (L ++ [(a, b, c)]).length = L.length + 1 from by simp]
      exact this
    · rw [flat_append, show (L ++ [(a, b, c)]).length = L.length + 1 from by simp]
      have hT4 := ((((Touch.refl (fun b => b = wb ∨ b = w.heap.size + 1) w3).setCell (p := ⟨wb, 0, none⟩) (.inr (.inl rfl)) (.slice (some ⟨g, 0, none⟩) (L.length + 1) cap')).setCell (p := ⟨w.heap.size + 1, 0, none⟩) (.inr (.inr rfl)) (.int .i64 0)).setCell (p := ⟨w.heap.size + 1, 1, none⟩) (.inr (.inr rfl)) (.int .i64 0)).setCell (p := ⟨w.heap.size + 1, 2, none⟩) (.inr (.inr rfl)) (.int .i64 0)
      refine own_touch hown3 hT4 (fun g' hg' => ?_)
      have hgg : g' = g := by simpa [Value.ownBlock] using hg'.symm
      subst hgg
      have hi3 := own_isT hown3 rfl
      rintro (rfl | rfl)
      · have := hwb3.isT hi3.2
        simp at this
      · rcases hat with e | e
        · have := hown.lt _ e
          omega
        · omega
    · have hgg : g' = g := by simpa [Value.ownBlock] using hg'.symm
      subst hgg
      rcases hat with e | e
      · exact .inl (.inr ⟨(own_isT hown e).1, (own_isT hown e).2, _, hw.cell 0, e⟩)
      · exact .inr (by omega)
  · have hT23 : Touch (OwnQ w B wb) w w3 := ((hT0.weaken (fun _ _ h => .inl h)).trans hT2 (by simp)).trans hT3 (fun b hb e => .inr ⟨(own_isT hown e.symm).1, (own_isT hown e.symm).2, _, hw.cell 0, e.symm⟩)
    exact (((hT23.setCell (p := ⟨wb, 0, none⟩) (.inr (.inl rfl)) _).setCell (p := ⟨w.heap.size + 1, 0, none⟩) (.inl (by simp)) _).setCell (p := ⟨w.heap.size + 1, 1, none⟩) (.inl (by simp)) _).setCell (p := ⟨w.heap.size + 1, 2, none⟩) (.inl (by simp)) _
end Go.Proofs.Ytmhdjedegkekeaa
