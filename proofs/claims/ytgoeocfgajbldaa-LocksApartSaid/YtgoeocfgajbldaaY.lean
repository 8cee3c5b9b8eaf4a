/- The document's Take: plainly. -/
import Derived.Test.YtgoeocfgajbldaaX
namespace Go.Proofs.Ytgoeocfgajbldaa
open Go.RowKit
set_option linter.unusedVariables false

/-- Where a number would stand. -/
def posR (l : List RH) (x : Int) : Nat := (l.takeWhile fun h => decide (h.n < x)).length
theorem posR_le (l : List RH) (x : Int) : posR l x ≤ l.length := (List.takeWhile_prefix _).length_le
theorem posR_lo {l : List RH} {x : Int} : ∀ {i : Nat} {y : RH}, i < posR l x → l[i]? = some y → y.n < x := by
  unfold posR
  induction l with
  | nil => intro i y h; simp at h
  | cons z t ih =>
    intro i y hi hy
    rw [List.takeWhile_cons] at hi
    by_cases hz : z.n < x
    · rw [if_pos (decide_eq_true hz), List.length_cons] at hi
      cases i with
      | zero => simp at hy; rw [← hy]; exact hz
      | succ i => exact ih (i := i) (Nat.lt_of_succ_lt_succ hi) (by simpa using hy)
    · rw [if_neg (by simpa using hz)] at hi
      simp at hi
theorem posR_at {l : List RH} {x : Int} : ∀ {y : RH}, l[posR l x]? = some y → ¬ y.n < x := by
  unfold posR
  induction l with
  | nil => intro y h; simp at h
  | cons z t ih =>
    intro y hy
    rw [List.takeWhile_cons] at hy
    by_cases hz : z.n < x
    · rw [if_pos (decide_eq_true hz), List.length_cons] at hy
      exact ih (by simpa using hy)
    · rw [if_neg (by simpa using hz)] at hy
      simp at hy
      rw [← hy]; exact hz
/-- Is the number there? -/
def thereR (l : List RH) (x : Int) : Bool := (l[posR l x]?).any fun y => y.n == x
def takeRN (l : List RH) (h : RH) : Nat := if thereR l h.n = true then 1 else if (busyI l h.r false || busyI l h.t true) = true then 13 else 0
def takeRL (l : List RH) (h : RH) : List RH := if takeRN l h = 0 then l.take (posR l h.n) ++ [h] ++ l.drop (posR l h.n) else l
end Go.Proofs.Ytgoeocfgajbldaa
