/- LocksApart, plainly: the holds are the same up to their order; all pairs are apart. -/
import Derived.Test.YtgoeocfgajbldaaAB
namespace Go.Proofs.Ytgoeocfgajbldaa
open Go.RowKit
set_option linter.unusedVariables false

/-- The same holds, in some order. -/
def CorP (L : List LE) (l : List RH) : Prop := (L.map triL).Perm (l.map triR)
theorem any_perm {α : Type} {p : α → Bool} {a b : List α} (h : a.Perm b) : a.any p = b.any p := by
  rw [Bool.eq_iff_iff, List.any_eq_true, List.any_eq_true]
  exact ⟨fun ⟨x, hx, hp⟩ => ⟨x, h.mem_iff.1 hx, hp⟩, fun ⟨x, hx, hp⟩ => ⟨x, h.mem_iff.2 hx, hp⟩⟩
theorem CorP.any {L : List LE} {l : List RH} (h : CorP L l) (p : Tri → Bool) : (L.any fun e => p (triL e)) = l.any fun x => p (triR x) := by
  have := any_perm (p := p) h
  rw [List.any_map, List.any_map] at this
  exact this
theorem CorP.len {L : List LE} {l : List RH} (h : CorP L l) : L.length = l.length := by
  have := h.length_eq
  simpa using this
theorem CorP.busy {L : List LE} {l : List RH} (h : CorP L l) (s : List SI) (b : Bool) : busyB L (s.map toSp) b = busyI l s b := by
  have e := h.any (fun t => meetB t.2.2 (s.map toSp) || (b && meetB t.2.1 (s.map toSp)))
  unfold busyB busyI
  rw [show (fun e : LE => clashB e.2 (s.map toSp) b) = fun e => (fun t : Tri => meetB t.2.2 (s.map toSp) || (b && meetB t.2.1 (s.map toSp))) (triL e) from rfl, e]
  congr 1
  funext x
  show _ = (meetI x.t s || (b && meetI x.r s))
  rw [meetI_toSp, meetI_toSp]
  rfl
theorem insL_perm (x : LE) : ∀ L : List LE, (insL x L).Perm (x :: L)
  | [] => List.Perm.refl _
  | y :: r => by
    unfold insL
    split
    · exact List.Perm.refl _
    · exact ((insL_perm x r).cons y).trans (List.Perm.swap x y r)
theorem CorP.ins {L : List LE} {l : List RH} (h : CorP L l) {hd : Hd} {x : RH} (h1 : hd.reads = x.r.map toSp) (h2 : hd.writes = x.t.map toSp) : CorP (insL (x.n, hd) L) (l ++ [x]) := by
  unfold CorP at *
  refine ((insL_perm _ L).map triL).trans ?_
  rw [List.map_append, List.map_cons]
  have e : triL (x.n, hd) = triR x := by unfold triL triR; rw [h1, h2]
  rw [e]
  exact (h.cons (triR x)).trans (List.perm_append_comm (l₁ := [triR x]) (l₂ := l.map triR))

theorem meetsB_symm (s t : Sp) : meetsB s t = meetsB t s := by
  unfold meetsB
  cases decide (0 < s.2) <;> cases decide (0 < t.2) <;> cases decide (s.1 < t.1 + t.2) <;> cases decide (t.1 < s.1 + s.2) <;> rfl
theorem meetI_symm (l r : List SI) : meetI l r = meetI r l := by
  unfold meetI
  rw [Bool.eq_iff_iff, List.any_eq_true, List.any_eq_true]
  constructor
  · rintro ⟨s, hs, h⟩
    obtain ⟨t, ht, h⟩ := List.any_eq_true.1 h
    exact ⟨t, ht, List.any_eq_true.2 ⟨s, hs, by unfold mtI at *; rw [meetsB_symm]; exact h⟩⟩
  · rintro ⟨s, hs, h⟩
    obtain ⟨t, ht, h⟩ := List.any_eq_true.1 h
    exact ⟨t, ht, List.any_eq_true.2 ⟨s, hs, by unfold mtI at *; rw [meetsB_symm]; exact h⟩⟩

/-- Two are apart. -/
def Ap (x y : RH) : Prop := meetI x.t y.t = false ∧ meetI x.t y.r = false ∧ meetI y.t x.r = false
theorem ap_add {l : List RH} (h : l.Pairwise Ap) {x : RH} (h1 : busyI l x.r false = false) (h2 : busyI l x.t true = false) : (l ++ [x]).Pairwise Ap := by
  rw [List.pairwise_append]
  refine ⟨h, List.pairwise_singleton _ _, fun a ha b hb => ?_⟩
  simp at hb
  subst hb
  have e1 := List.any_eq_false.1 h1 a ha
  have e2 := List.any_eq_false.1 h2 a ha
  simp only [Bool.false_and, Bool.or_false, Bool.true_and, Bool.or_eq_true, not_or, Bool.not_eq_true] at e1 e2
  exact ⟨e2.1, e1, by rw [meetI_symm]; exact e2.2⟩
/-- What the law asks of two places. -/
theorem ap_at {l : List RH} (h : l.Pairwise Ap) {a b : Nat} {x y : RH} (hx : l[a]? = some x) (hy : l[b]? = some y) (hab : a ≠ b) : meetI x.t y.t = false ∧ meetI x.t y.r = false := by
  obtain ⟨ha, rfl⟩ := List.getElem?_eq_some_iff.1 hx
  obtain ⟨hb, rfl⟩ := List.getElem?_eq_some_iff.1 hy
  rcases Nat.lt_or_gt_of_ne hab with hlt | hlt
  · have := List.pairwise_iff_getElem.1 h a b ha hb hlt
    exact ⟨this.1, this.2.1⟩
  · have := List.pairwise_iff_getElem.1 h b a hb ha hlt
    exact ⟨by rw [meetI_symm]; exact this.1, this.2.2⟩
theorem CorP.nums {L : List LE} {l : List RH} (h : CorP L l) : (L.map (·.1)).Perm (l.map (·.n)) := by
  have := List.Perm.map (fun t : Tri => t.1) h
  rw [List.map_map, List.map_map] at this
  exact this
theorem eraseP_filter {n : Int} : ∀ {l : List RH}, (l.map (·.n)).Nodup → freeRL l n = l.filter fun h => !(h.n == n) := by
  intro l
  unfold freeRL
  induction l with
  | nil => intro _; rfl
  | cons y t ih =>
    intro hnd
    rw [List.map_cons, List.nodup_cons] at hnd
    by_cases hy : y.n = n
    · rw [List.eraseP_cons_of_pos (by simpa using hy), List.filter_cons_of_neg (by simp [hy])]
      symm
      rw [List.filter_eq_self]
      intro z hz
      have : z.n ≠ n := fun e => hnd.1 (by rw [hy, ← e]; exact List.mem_map.2 ⟨z, hz, rfl⟩)
      simp [this]
    · rw [List.eraseP_cons_of_neg (by simpa using hy), List.filter_cons_of_pos (by simp [hy]), ih hnd.2]
theorem CorP.free {L : List LE} {l : List RH} {n : Int} (h : CorP L l) (hL : L.Pairwise fun p q => p.1 < q.1) : CorP (freeL L n) (freeRL l n) := by
  have hnd : (l.map (·.n)).Nodup := by
    refine (h.nums.nodup_iff).1 ?_
    rw [List.nodup_iff_pairwise_ne, List.pairwise_map]
    exact hL.imp (fun {a b} hab => by omega)
  rw [eraseP_filter hnd]
  unfold CorP freeL
  have := List.Perm.filter (fun t : Tri => !(t.1 == n)) h
  rw [List.filter_map, List.filter_map] at this
  exact this
theorem ap_free {l : List RH} (h : l.Pairwise Ap) (n : Int) : (freeRL l n).Pairwise Ap := h.sublist (List.eraseP_sublist ..)
theorem Rw3.ne40 {w : World} {A : Option Addr} {c : Nat} {l : List RH} (hr : Rw3 w A c l) {b : Nat} {t : TypeId} {cs : Array Value} (hb : Blk w b t cs) (ht : t ≠ 40) : ¬ ∃ a, A = some a ∧ a.block = b := by
  rintro ⟨a, ha, e⟩
  rcases hr with ⟨h0, _⟩ | ⟨g, cur, hg, hbg, _⟩
  · rw [h0] at ha; cases ha
  · rw [hg] at ha; injection ha with ha; subst ha
    dsimp only at e
    subst e
    exact Blk.ne_ hb hbg ht rfl
/-- The law's own row is written: the locks stay. -/
theorem Lk.row {w w' : World} {k m : Nat} {L : List LE} {A : Option Addr} {c : Nat} {l : List RH} (h : Lk w k m L) (hr : Rw3 w A c l) (ht : Touch (fun b => ∃ a, A = some a ∧ a.block = b) w w') : Lk w' k m L :=
  ⟨h.blk.touch ht (hr.ne40 h.blk (by decide)), h.mp.touch ht (fun ⟨a, ha, e⟩ => by
    rcases hr with ⟨h0, _⟩ | ⟨g, cur, hg, hbg, _⟩
    · rw [h0] at ha; cases ha
    · rw [hg] at ha; injection ha with ha; subst ha
      exact hbg.ne_map h.mp e), fun e he => (h.ok e he).touch ht (fun a ha _ => by obtain ⟨cs, hb⟩ := (h.ty e he).1 a ha; exact hr.ne40 hb (by decide)) (fun a ha _ => by obtain ⟨cs, hb⟩ := (h.ty e he).2 a ha; exact hr.ne40 hb (by decide)),
    h.len, fun e he => (h.ty e he).touch ht (fun b cs hb => hr.ne40 hb (by decide))⟩
end Go.Proofs.Ytgoeocfgajbldaa
