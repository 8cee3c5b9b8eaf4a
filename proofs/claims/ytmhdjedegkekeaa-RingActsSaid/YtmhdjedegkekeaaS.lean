/- One act, done by the ring and by the document's ring: they answer alike. -/
import Derived.Test.YtmhdjedegkekeaaQ3
import Derived.Test.YtmhdjedegkekeaaH
namespace Go.Proofs.Ytmhdjedegkekeaa
open Go.RowKit
set_option linter.unusedVariables false

theorem RefQ.touch {w w' : World} {S : Nat → Prop} {B wb room k : Nat} {L : List Dn} (h : RefQ w B wb room k L) (ht : Touch S w w') (hS : ∀ b, b < w.heap.size → OwnQ w B wb b → ¬ S b) : RefQ w' B wb room k L := by
  obtain ⟨A, c, h1, h2⟩ := h
  exact ⟨A, c, h1.touch ht (hS _ h1.lt (.inl rfl)), own_touch h2 ht (fun g hg => hS g (h2.lt g hg).2 (.inr ⟨(own_isT h2 hg).1, (own_isT h2 hg).2, _, h1.cell 0, hg⟩))⟩

/-- An act does the same to both. -/
theorem step_any (m k what : Nat) (x y z : Int) (L : List Dn) (h256 : what < 256) (hfit : L.length + k ≤ m) (hm : m ≤ 32) : ∃ (d : Dn) (e : Int) (k' : Nat) (L' : List Dn),
    (∀ (w : World) (r p : Nat), Ring w r p m k L → Calls Try.prog 9 #[.pointer (some ⟨r, 0, none⟩), .agg #[.int .u8 what, .int .i64 x, .int .i64 y, .int .i64 z]] w fun e' w' => e' = .returned (.tuple #[.agg #[.int .i64 d.1, .int .i64 d.2.1, .int .i64 d.2.2], .int .i64 e]) ∧ Left1 r p m k' L' w w') ∧
    (∀ (w : World) (B wb : Nat), RefQ w B wb m k L → B ≤ w.heap.size → Calls Try.prog 10 #[.pointer (some ⟨wb, 0, none⟩), .int .i64 ((what : Int) % 4), .agg #[.int .i64 x, .int .i64 y, .int .i64 z]] w fun e' w' => e' = .returned (.tuple #[.agg #[.int .i64 d.1, .int .i64 d.2.1, .int .i64 d.2.2], .int .i64 e]) ∧ LeftQ B wb m k' L' w w') := by
  have hc4 : what % 4 = 0 ∨ what % 4 = 1 ∨ what % 4 = 2 ∨ what % 4 = 3 := by omega
  rcases hc4 with h4 | h4 | h4 | h4
  · by_cases hlt : L.length + k < m
    · exact ⟨(0, 0, 0), 0, k + 1, L, fun w r p h => do_keep_yes w what x y z r p m k L h hlt h4 h256, fun w B wb h hB => by rw [show (what : Int) % 4 = 0 from by omega]; exact ref_keep_yes w B wb m k L x y z h hlt (by omega) (by omega)⟩
    · exact ⟨(0, 0, 0), 12, k, L, fun w r p h => do_keep_no w what x y z r p m k L h hlt h4 h256, fun w B wb h hB => by rw [show (what : Int) % 4 = 0 from by omega]; exact ref_keep_no w B wb m k L x y z h hlt (by omega) (by omega) (by omega)⟩
  · rcases Nat.eq_zero_or_pos k with hk | hk
    · subst hk
      exact ⟨(0, 0, 0), 15, 0, L, fun w r p h => do_drop_no w what x y z r p m L h h4 h256, fun w B wb h hB => by rw [show (what : Int) % 4 = 1 from by omega]; exact ref_drop_no w B wb m 0 L x y z h rfl (by omega)⟩
    · exact ⟨(0, 0, 0), 0, k - 1, L, fun w r p h => do_drop_yes w what x y z r p m k L h hk h4 h256, fun w B wb h hB => by rw [show (what : Int) % 4 = 1 from by omega]; exact ref_drop_yes w B wb m k L x y z h hk (by omega) (by omega)⟩
  · rcases Nat.eq_zero_or_pos k with hk | hk
    · subst hk
      exact ⟨(0, 0, 0), 12, 0, L, fun w r p h => do_push_no w what x y z r p m L h h4 h256, fun w B wb h hB => by rw [show (what : Int) % 4 = 2 from by omega]; exact ref_push_no w B wb m 0 L x y z h rfl (by omega)⟩
    · exact ⟨(0, 0, 0), 0, k - 1, L ++ [(x, y, z)], fun w r p h => do_push_yes w what x y z r p m k L h hk h4 h256, fun w B wb h hB => by rw [show (what : Int) % 4 = 2 from by omega]; exact ref_push w B wb m k L x y z h hk (by omega) (by omega) hB⟩
  · rcases L with _ | ⟨⟨a, b, c⟩, L⟩
    · exact ⟨(0, 0, 0), 15, k, [], fun w r p h => do_pop_no w what x y z r p m k h h4 h256, fun w B wb h hB => by rw [show (what : Int) % 4 = 3 from by omega]; exact ref_pop_no w B wb m k [] x y z h rfl (by omega)⟩
    · exact ⟨(a, b, c), 0, k, L, fun w r p h => do_pop_yes w what x y z r p m k L a b c h h4 h256, fun w B wb h hB => by rw [show (what : Int) % 4 = 3 from by omega]; exact ref_pop_yes w B wb m k L a b c x y z h (by simp at hfit; omega) hB⟩

/-- An act on no ring. -/
theorem none_any (w : World) (what : Nat) (x y z : Int) (h256 : what < 256) : ∃ e : Int, (e = 12 ∨ e = 15) ∧
    Calls Try.prog 9 #[.pointer none, .agg #[.int .u8 what, .int .i64 x, .int .i64 y, .int .i64 z]] w fun e' w' => e' = .returned (.tuple #[.agg #[.int .i64 0, .int .i64 0, .int .i64 0], .int .i64 e]) ∧ Touch (fun _ => False) w w' := by
  have hc4 : what % 4 = 0 ∨ what % 4 = 1 ∨ what % 4 = 2 ∨ what % 4 = 3 := by omega
  rcases hc4 with h4 | h4 | h4 | h4
  · exact ⟨12, .inl rfl, do_keep_nil w what x y z h4 h256⟩
  · exact ⟨15, .inr rfl, do_drop_nil w what x y z h4 h256⟩
  · exact ⟨12, .inl rfl, do_push_nil w what x y z h4 h256⟩
  · exact ⟨15, .inr rfl, do_pop_nil w what x y z h4 h256⟩
theorem apart_RQ {w : World} {r p n k B wb room k2 : Nat} {L L2 : List Dn} (hR : Ring w r p n k L) (hQ : RefQ w B wb room k2 L2) : ∀ b, OwnQ w B wb b → ¬ Own2 r p b := by
  obtain ⟨fi, cs, h1, h2, _⟩ := hR
  obtain ⟨A, c, h3, _⟩ := hQ
  intro b ho hs
  have hT : IsT w 31 b ∨ IsT w 38 b := by
    rcases ho with rfl | ho
    · exact .inl ⟨_, _, h3⟩
    · exact .inr ho.2.1
  rcases hs with rfl | rfl
  · rcases hT with h | h
    · have := h1.isT h; simp at this
    · have := h1.isT h; simp at this
  · rcases hT with h | h
    · have := h2.isT h; simp at this
    · have := h2.isT h; simp at this

theorem RefQ.cells {w : World} {B wb room k : Nat} {L : List Dn} (h : RefQ w B wb room k L) : ∃ A c, Blk w wb 31 #[.slice A L.length c, .int .i64 k, .int .i64 room] := by
  obtain ⟨A, c, h1, _⟩ := h
  exact ⟨A, c, h1⟩
theorem RefQ.lt {w : World} {B wb room k : Nat} {L : List Dn} (h : RefQ w B wb room k L) : wb < w.heap.size := by
  obtain ⟨A, c, h1, _⟩ := h
  exact h1.lt
/-- What is new is not its own. -/
theorem RefQ.new {w : World} {B wb room k : Nat} {L : List Dn} (h : RefQ w B wb room k L) (o : Obj) : ¬ OwnQ (w.alloc o) B wb w.heap.size := by
  obtain ⟨A, c, h1, h2⟩ := h
  have hlt := h1.lt
  rintro (e | ⟨_, _, v, hv, ho⟩)
  · omega
  · rw [(h1.alloc o).cell 0] at hv
    simp only [List.getElem?_toArray, List.getElem?_cons_zero] at hv
    injection hv with hv
    subst hv
    have := (h2.lt _ ho).2
    omega
theorem OwnQ.isT {w : World} {B wb room k : Nat} {L : List Dn} (h : RefQ w B wb room k L) {b : Nat} (ho : OwnQ w B wb b) : IsT w 31 b ∨ IsT w 38 b := by
  obtain ⟨A, c, h1, h2⟩ := h
  rcases ho with rfl | ho
  · exact .inl ⟨_, _, h1⟩
  · exact .inr ho.2.1
end Go.Proofs.Ytmhdjedegkekeaa
