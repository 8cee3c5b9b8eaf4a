/- Whole numbers as floats: their order. -/
import Derived.Test.YtgoeocfgajbldaaReg
import Derived.WalkLawsBesides
namespace Go.Proofs.Ytgoeocfgajbldaa
open Go.RowKit
set_option linter.unusedVariables false

theorem log2_le {n e : Nat} (h : n < 2 ^ (e + 1)) (hn : n ≠ 0) : n.log2 ≤ e := by
  have := (Nat.log2_lt hn).2 h
  omega

/-- A word that stands for a whole number: what it reads as. -/
def Whole (N n : Nat) (d : Ieee.Datum) : Prop := ∃ (m : Nat) (p : Int), d = .number false m p ∧ -(N : Int) ≤ p ∧ m * 2 ^ (p + N).toNat = n * 2 ^ N

theorem nearest_nat (n : Nat) (h0 : n ≠ 0) (h : n < 2 ^ 52) : Ieee.double.nearest false n 0 = (n.log2 + 1022) * 2 ^ 52 + n * 2 ^ (52 - n.log2) := by
  have he : n.log2 ≤ 51 := log2_le h h0
  obtain ⟨e, hee⟩ : ∃ e, e = n.log2 := ⟨_, rfl⟩
  rw [← hee] at he ⊢
  have hlow : 2 ^ e ≤ n := by rw [hee]; exact Nat.log2_self_le h0
  have hhigh : n < 2 ^ (e + 1) := by rw [hee]; exact Nat.lt_log2_self
  unfold Ieee.Format.nearest
  rw [if_neg h0, ← hee]
  have hlp : Ieee.double.leastPlace = -1074 := by decide
  have hfb : (Ieee.double.fractionBits : Int) = 52 := by decide
  have hbn : Ieee.double.binade = 2 ^ 52 := by decide
  have hinf : Ieee.double.infRung = 2047 * 2 ^ 52 := by decide
  rw [hlp, hfb, hbn, hinf]
  have hmax : max ((0 : Int) + e - 52) (-1074) = e - 52 := by omega
  rw [hmax]
  have h1 : ((0 : Int) - (e - 52)).toNat = 52 - e := by omega
  have h2 : ((e : Int) - 52 - 0).toNat = 0 := by omega
  have h3 : ((e : Int) - 52 - -1074).toNat = e + 1022 := by omega
  dsimp only
  rw [h1, h2, h3]
  have hk : n <<< (52 - e) = n * 2 ^ (52 - e) := Nat.shiftLeft_eq _ _
  have hcut : ∀ k : Nat, Ieee.Toward.even.cut false k 0 = k := fun k => by
    unfold Ieee.Toward.cut
    simp [Nat.mod_one]
  rw [hcut, hk]
  have hb : n * 2 ^ (52 - e) < 2 ^ 53 := by
    have : n * 2 ^ (52 - e) < 2 ^ (e + 1) * 2 ^ (52 - e) := Nat.mul_lt_mul_of_pos_right hhigh (Nat.pow_pos (by omega))
    rw [← Nat.pow_add] at this
    rwa [show e + 1 + (52 - e) = 53 from by omega] at this
  rw [Nat.min_eq_left (by omega)]
  rfl

theorem read_nat (N : Nat) (hN : N = 1074) (n : Nat) (h : n < 2 ^ 52) : Whole N n (Ieee.double.read (floatOfInt .f64 n)) := by
  have hf : floatOfInt .f64 (n : Int) = Ieee.double.nearest false n 0 := by
    show Ieee.double.nearest (decide ((n : Int) < 0)) (n : Int).natAbs 0 = _
    rw [show decide ((n : Int) < 0) = false from by simp, Int.natAbs_natCast]
  rw [hf]
  by_cases h0 : n = 0
  · subst h0
    exact ⟨0, -1074, by decide, by omega, by rw [Nat.zero_mul, Nat.zero_mul]⟩
  · rw [nearest_nat n h0 h]
    have he : n.log2 ≤ 51 := log2_le h h0
    obtain ⟨e, hee⟩ : ∃ e, e = n.log2 := ⟨_, rfl⟩
    rw [← hee] at he ⊢
    have hlow : 2 ^ e ≤ n := by rw [hee]; exact Nat.log2_self_le h0
    have hhigh : n < 2 ^ (e + 1) := by rw [hee]; exact Nat.lt_log2_self
    have hb : n * 2 ^ (52 - e) < 2 ^ 53 := by
      have : n * 2 ^ (52 - e) < 2 ^ (e + 1) * 2 ^ (52 - e) := Nat.mul_lt_mul_of_pos_right hhigh (Nat.pow_pos (by omega))
      rw [← Nat.pow_add] at this
      rwa [show e + 1 + (52 - e) = 53 from by omega] at this
    have hb2 : 2 ^ 52 ≤ n * 2 ^ (52 - e) := by
      have : 2 ^ e * 2 ^ (52 - e) ≤ n * 2 ^ (52 - e) := Nat.mul_le_mul_right _ hlow
      rw [← Nat.pow_add] at this
      rwa [show e + (52 - e) = 52 from by omega] at this
    obtain ⟨k, hk⟩ : ∃ k, k = n * 2 ^ (52 - e) := ⟨_, rfl⟩
    rw [← hk] at hb hb2 ⊢
    refine ⟨k, (e : Int) - 52, ?_, by omega, ?_⟩
    · unfold Ieee.Format.read
      have hlp : Ieee.double.leastPlace = -1074 := by decide
      have hbn : Ieee.double.binade = 2 ^ 52 := by decide
      have hinf : Ieee.double.infRung = 2047 * 2 ^ 52 := by decide
      have hsw : Ieee.double.signWeight = 2 ^ 63 := by decide
      rw [hlp, hbn, hinf, hsw]
      have q1 : ((e + 1022) * 2 ^ 52 + k) / 2 ^ 63 = 0 := Nat.div_eq_of_lt (by omega)
      have q2 : ((e + 1022) * 2 ^ 52 + k) % 2 ^ 63 = (e + 1022) * 2 ^ 52 + k := Nat.mod_eq_of_lt (by omega)
      have q3 : ((e + 1022) * 2 ^ 52 + k) / 2 ^ 52 = e + 1023 := by omega
      have q4 : ((e + 1022) * 2 ^ 52 + k) % 2 ^ 52 = k - 2 ^ 52 := by omega
      dsimp only
      rw [q1, q2, if_neg (by omega), if_pos (by omega), q3, q4]
      rw [show 2 ^ 52 + (k - 2 ^ 52) = k from by omega, show (-1074 : Int) + ((e + 1023 - 1 : Nat) : Int) = (e : Int) - 52 from by omega]
      rfl
    · rw [hk, Nat.mul_assoc, ← Nat.pow_add, show 52 - e + ((e : Int) - 52 + N).toNat = N from by omega]

theorem order_nat (a b : Nat) (ha : a < 2 ^ 52) (hb : b < 2 ^ 52) : Ieee.double.order (floatOfInt .f64 a) (floatOfInt .f64 b) = some (compare a b) := by
  obtain ⟨N, hN⟩ : ∃ N, N = 1074 := ⟨_, rfl⟩
  obtain ⟨m, i, h1, h2, h3⟩ := read_nat N hN a ha
  obtain ⟨n, j, g1, g2, g3⟩ := read_nat N hN b hb
  clear hN
  unfold Ieee.Format.order
  rw [h1, g1]
  unfold Ieee.Datum.order
  dsimp only
  congr 1
  have e1 : Ieee.signed false m (i - min i j).toNat = ((m * 2 ^ (i - min i j).toNat : Nat) : Int) := by unfold Ieee.signed; rw [if_neg (by decide), Nat.shiftLeft_eq]
  have e2 : Ieee.signed false n (j - min i j).toNat = ((n * 2 ^ (j - min i j).toNat : Nat) : Int) := by unfold Ieee.signed; rw [if_neg (by decide), Nat.shiftLeft_eq]
  rw [e1, e2]
  obtain ⟨x, hx⟩ : ∃ x, x = m * 2 ^ (i - min i j).toNat := ⟨_, rfl⟩
  obtain ⟨y, hy⟩ : ∃ y, y = n * 2 ^ (j - min i j).toNat := ⟨_, rfl⟩
  obtain ⟨c, hc⟩ : ∃ c, c = 2 ^ (min i j + N).toNat := ⟨_, rfl⟩
  have hcp : 0 < c := by rw [hc]; exact Nat.pow_pos (by omega)
  have hxc : x * c = a * 2 ^ N := by
    rw [hx, hc, Nat.mul_assoc, ← Nat.pow_add, ← h3, show (i - min i j).toNat + (min i j + N).toNat = (i + N).toNat from by omega]
  have hyc : y * c = b * 2 ^ N := by
    rw [hy, hc, Nat.mul_assoc, ← Nat.pow_add, ← g3, show (j - min i j).toNat + (min i j + N).toNat = (j + N).toNat from by omega]
  rw [← hx, ← hy]
  have hd : 0 < 2 ^ N := Nat.pow_pos (by omega)
  have key : (x < y ↔ a < b) ∧ (x = y ↔ a = b) := by
    constructor
    · constructor
      · intro h
        have := Nat.mul_lt_mul_of_pos_right h hcp
        rw [hxc, hyc] at this
        exact Nat.lt_of_mul_lt_mul_right this
      · intro h
        have := Nat.mul_lt_mul_of_pos_right h hd
        rw [← hxc, ← hyc] at this
        exact Nat.lt_of_mul_lt_mul_right this
    · constructor
      · intro h
        rw [h, hyc] at hxc
        exact Nat.eq_of_mul_eq_mul_right hd hxc.symm
      · intro h
        rw [h, ← hyc] at hxc
        exact Nat.eq_of_mul_eq_mul_right hcp hxc
  simp only [compare, compareOfLessAndEq, Int.ofNat_lt, Int.natCast_inj, key.1, key.2]
end Go.Proofs.Ytgoeocfgajbldaa
