/- The holds and the document's holds: one and the same, plainly. -/
import Derived.Test.YtgoeocfgajbldaaZ
import Derived.Test.YtgoeocfgajbldaaQ
namespace Go.Proofs.Ytgoeocfgajbldaa
open Go.RowKit
set_option linter.unusedVariables false

abbrev Tri : Type := Int × List Sp × List Sp
def triL (e : LE) : Tri := (e.1, e.2.reads, e.2.writes)
def triR (h : RH) : Tri := (h.n, h.r.map toSp, h.t.map toSp)
/-- The same holds, in one order. -/
def Cor (L : List LE) (l : List RH) : Prop := L.map triL = l.map triR
theorem Cor.len {L : List LE} {l : List RH} (h : Cor L l) : L.length = l.length := by
  have := congrArg List.length h
  simpa using this
theorem Cor.nums {L : List LE} {l : List RH} (h : Cor L l) : L.map (·.1) = l.map (·.n) := by
  have := congrArg (List.map (·.1)) h
  rw [List.map_map, List.map_map] at this
  exact this
theorem Cor.any {L : List LE} {l : List RH} (h : Cor L l) (p : Tri → Bool) : (L.any fun e => p (triL e)) = l.any fun x => p (triR x) := by
  have := congrArg (fun m => List.any m p) h
  simp only [List.any_map] at this
  exact this

theorem meetI_toSp (l r : List SI) : meetI l r = meetB (l.map toSp) (r.map toSp) := by
  unfold meetI meetB
  rw [List.any_map]
  congr 1
  funext s
  show _ = (r.map toSp).any _
  rw [List.any_map]
  rfl
theorem Cor.busy {L : List LE} {l : List RH} (h : Cor L l) (s : List SI) (b : Bool) : busyB L (s.map toSp) b = busyI l s b := by
  have e := h.any (fun t => meetB t.2.2 (s.map toSp) || (b && meetB t.2.1 (s.map toSp)))
  unfold busyB busyI
  rw [show (fun e : LE => clashB e.2 (s.map toSp) b) = fun e => (fun t : Tri => meetB t.2.2 (s.map toSp) || (b && meetB t.2.1 (s.map toSp))) (triL e) from rfl, e]
  congr 1
  funext x
  show _ = (meetI x.t s || (b && meetI x.r s))
  rw [meetI_toSp, meetI_toSp]
  rfl

def Rise (l : List RH) : Prop := l.Pairwise fun p q => p.n < q.n
theorem Cor.rise {L : List LE} {l : List RH} (h : Cor L l) (hL : L.Pairwise fun p q => p.1 < q.1) : Rise l := by
  have h1 : (L.map (·.1)).Pairwise (· < ·) := List.pairwise_map.2 hL
  rw [h.nums] at h1
  exact List.pairwise_map.1 h1
theorem thereR_any {l : List RH} (h : Rise l) (x : Int) : thereR l x = l.any fun y => y.n == x := by
  unfold thereR posR
  induction l with
  | nil => rfl
  | cons z t ih =>
    obtain ⟨h1, h2⟩ := List.pairwise_cons.1 h
    rw [List.takeWhile_cons, List.any_cons]
    by_cases hz : z.n < x
    · rw [if_pos (decide_eq_true hz), List.length_cons, List.getElem?_cons_succ, ih h2]
      rw [show (z.n == x) = false from by simp; omega, Bool.false_or]
    · rw [if_neg (by simpa using hz)]
      show (some z).any _ = _
      have ht : (t.any fun y => y.n == x) = false := by
        rw [List.any_eq_false]
        intro y hy
        have := h1 y hy
        simp
        omega
      rw [ht, Bool.or_false]
      rfl
theorem Cor.take {L : List LE} {l : List RH} (h : Cor L l) (hl : Rise l) (x : RH) : takeN L x.n (x.r.map toSp) (x.t.map toSp) = takeRN l x := by
  have e := h.any (fun t => t.1 == x.n)
  unfold takeN takeRN
  rw [show (L.any fun e => e.1 == x.n) = L.any fun e => (fun t : Tri => t.1 == x.n) (triL e) from rfl, e, thereR_any hl, h.busy, h.busy]
  rfl
theorem cor_ins {hd : Hd} {x : RH} (h1 : hd.reads = x.r.map toSp) (h2 : hd.writes = x.t.map toSp) : ∀ {L : List LE} {l : List RH}, Cor L l → (l.any fun y => y.n == x.n) = false →
    Cor (insL (x.n, hd) L) (l.take (posR l x.n) ++ [x] ++ l.drop (posR l x.n)) := by
  intro L
  induction L with
  | nil =>
    intro l h hn
    cases l with
    | nil => unfold Cor insL posR triL triR; simp [h1, h2]
    | cons y t => exact absurd h.len (by simp)
  | cons e r ih =>
    intro l h hn
    cases l with
    | nil => exact absurd h.len (by simp)
    | cons y t =>
      unfold Cor at h
      rw [List.map_cons, List.map_cons, List.cons.injEq] at h
      have he : e.1 = y.n := congrArg Prod.fst h.1
      rw [List.any_cons, Bool.or_eq_false_iff] at hn
      have hne : y.n ≠ x.n := by simpa using hn.1
      unfold insL posR
      by_cases hlt : x.n < e.1
      · rw [if_pos hlt, List.takeWhile_cons, if_neg (by simp; omega)]
        unfold Cor
        simp only [List.length_nil, List.take_zero, List.drop_zero, List.nil_append, List.map_cons, List.cons_append]
        rw [h.1, h.2]
        unfold triL triR
        rw [h1, h2]
      · rw [if_neg hlt, List.takeWhile_cons, if_pos (by simp; omega)]
        have := ih (l := t) h.2 hn.2
        unfold Cor posR at this
        unfold Cor
        rw [List.length_cons, List.take_succ_cons, List.drop_succ_cons, List.map_cons, List.cons_append, List.cons_append, List.map_cons, this, h.1]
theorem Cor.free {n : Int} : ∀ {L : List LE} {l : List RH}, Cor L l → Rise l → Cor (freeL L n) (freeRL l n) ∧ freeN L n = freeRN l n := by
  intro L l h hl
  refine ⟨?_, ?_⟩
  · revert l
    induction L with
    | nil =>
      intro l h hl
      cases l with
      | nil => rfl
      | cons y t => exact absurd h.len (by simp)
    | cons e r ih =>
      intro l h hl
      cases l with
      | nil => exact absurd h.len (by simp)
      | cons y t =>
        unfold Cor at h
        rw [List.map_cons, List.map_cons, List.cons.injEq] at h
        have he : e.1 = y.n := congrArg Prod.fst h.1
        obtain ⟨h1, h2⟩ := List.pairwise_cons.1 hl
        unfold freeL freeRL
        by_cases hy : y.n = n
        · have hf : r.filter (fun e => !(e.1 == n)) = r := List.filter_eq_self.2 (fun z hz => by
            have hc : Cor r t := h.2
            have hz1 : z.1 ∈ t.map (·.n) := by rw [← hc.nums]; exact List.mem_map.2 ⟨z, hz, rfl⟩
            obtain ⟨q, hq, e2⟩ := List.mem_map.1 hz1
            have := h1 q hq
            simp
            omega)
          rw [List.filter_cons_of_neg (by simp [he, hy]), hf, List.eraseP_cons_of_pos (by simpa using hy)]
          exact h.2
        · rw [List.filter_cons_of_pos (by simp [he, hy]), List.eraseP_cons_of_neg (by simpa using hy)]
          unfold Cor
          rw [List.map_cons, List.map_cons, h.1]
          have := ih h.2 h2
          unfold Cor freeL freeRL at this
          rw [this]
  · have e := h.any (fun t => t.1 == n)
    unfold freeN freeRN
    rw [show (L.any fun e => e.1 == n) = L.any fun e => (fun t : Tri => t.1 == n) (triL e) from rfl, e]
    rfl
theorem Lk.rise {w : World} {k m : Nat} {L : List LE} (h : Lk w k m L) : L.Pairwise fun p q => p.1 < q.1 := by
  have := h.mp.rising
  rw [List.pairwise_map] at this
  exact this
end Go.Proofs.Ytgoeocfgajbldaa
