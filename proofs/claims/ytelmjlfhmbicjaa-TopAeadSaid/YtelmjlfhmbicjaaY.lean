/- poly: the state of a sum, as numbers and bytes. -/
import Derived.Test.YtelmjlfhmbicjaaX
namespace Go.Proofs.Ytelmjlfhmbicjaa
open Go.RowKit
set_option linter.unusedVariables false

abbrev N3 : Type := Nat × Nat × Nat
/-- Three numbers of 64 bits. -/
def Good (h : N3) : Prop := h.1 < 18446744073709551616 ∧ h.2.1 < 18446744073709551616 ∧ h.2.2 < 18446744073709551616
/-- The cells of a state. -/
def polA (r0 r1 : Nat) (x2 x3 : Value) (h : N3) (V : Value) : Array Value := #[.int .u64 r0, .int .u64 r1, x2, x3, .int .u64 h.1, .int .u64 h.2.1, .int .u64 h.2.2, V]
/-- F multiplies by (r0, r1). -/
def Mul (r0 r1 : Nat) (F : N3 → N3) : Prop := ∀ h, Good h → Good (F h) ∧ ∀ (w : World) (p : Nat) (x2 x3 V : Value), Blk w p 59 (polA r0 r1 x2 x3 h V) →
  Calls Try.prog 21 #[.pointer (some ⟨p, 0, none⟩)] w fun e w' => e = .returned (.tuple #[]) ∧ Blk w' p 59 (polA r0 r1 x2 x3 (F h) V) ∧ Touch (fun b => b = p) w w'
theorem mul_ex (r0 r1 : Nat) : ∃ F, Mul r0 r1 F := by
  have H : ∀ h : N3, ∃ g : N3, Good h → Good g ∧ ∀ (w : World) (p : Nat) (x2 x3 V : Value), Blk w p 59 (polA r0 r1 x2 x3 h V) →
      Calls Try.prog 21 #[.pointer (some ⟨p, 0, none⟩)] w fun e w' => e = .returned (.tuple #[]) ∧ Blk w' p 59 (polA r0 r1 x2 x3 g V) ∧ Touch (fun b => b = p) w w' := fun h => by
    by_cases hg : Good h
    · obtain ⟨g0, g1, g2, h0, h1, h2, hc⟩ := mul_any r0 r1 h.1 h.2.1 h.2.2 hg.1 hg.2.1 hg.2.2
      exact ⟨(g0, g1, g2), fun _ => ⟨⟨h0, h1, h2⟩, hc⟩⟩
    · exact ⟨h, fun h => absurd h hg⟩
  exact ⟨fun h => (H h).choose, fun h hg => (H h).choose_spec hg⟩

theorem bigF_nat (xs : List Int) : ∃ n : Nat, n < 18446744073709551616 ∧ bigF xs = n := by
  rcases List.eq_nil_or_concat xs with rfl | ⟨ys, y, rfl⟩
  · exact ⟨0, by omega, rfl⟩
  · rw [bigF, List.concat_eq_append, List.foldl_append, List.foldl_cons, List.foldl_nil]
    exact bits_nat _ _ _
/-- Bytes as a number, the lowest one first. -/
def leN (xs : List Int) : Nat := (littleF xs).toNat
theorem leN_eq (xs : List Int) : littleF xs = leN xs ∧ leN xs < 18446744073709551616 := by
  obtain ⟨n, h1, h2⟩ := bigF_nat (revF xs.length xs)
  unfold leN littleF
  rw [h2]
  exact ⟨by simp, by simpa using h1⟩

/-- Add 16 bytes, and one more number. -/
def addF (h : N3) (xs : List Int) (high : Nat) : N3 :=
  (add0 h.1 (leN (xs.take 8)), add1 h.1 h.2.1 (leN (xs.take 8)) (leN ((xs.drop 8).take 8)), add2 h.1 h.2.1 h.2.2 (leN (xs.take 8)) (leN ((xs.drop 8).take 8)) high)
theorem addF_good (h : N3) (xs : List Int) (high : Nat) : Good (addF h xs high) := ⟨add0_lt _ _, add1_lt _ _ _ _, add2_lt _ _ _ _ _ _⟩
theorem addF_any (w : World) (p : Nat) (r0 r1 : Nat) (x2 x3 V : Value) (h : N3) (hg : Good h) (xs : List Int) (high : Nat) (hh : high ≤ 1) (hb : Blk w p 59 (polA r0 r1 x2 x3 h V)) :
    Calls Try.prog 20 #[.pointer (some ⟨p, 0, none⟩), .agg #[.int .u64 (littleF (xs.take 8)), .int .u64 (littleF ((xs.drop 8).take 8))], .int .u64 high] w fun e w' => e = .returned (.tuple #[]) ∧
      Blk w' p 59 (polA r0 r1 x2 x3 (addF h xs high) V) ∧ Touch (fun b => b = p) w w' := by
  rw [(leN_eq (xs.take 8)).1, (leN_eq ((xs.drop 8).take 8)).1]
  exact add_any w p _ _ x2 x3 V h.1 h.2.1 h.2.2 _ _ high hg.1 hg.2.1 hg.2.2 (leN_eq _).2 (leN_eq _).2 hh hb

/-- The numbers behind k parts. -/
def eatF (F : N3 → N3) (h : N3) (zs : List Int) : Nat → N3
  | 0 => h
  | k + 1 => F (addF (eatF F h zs k) (zs.drop (16 * k)) 1)
theorem eatF_good {r0 r1 : Nat} {F : N3 → N3} (hF : Mul r0 r1 F) {h : N3} (hg : Good h) (zs : List Int) : ∀ k, Good (eatF F h zs k)
  | 0 => hg
  | k + 1 => (hF _ (addF_good _ _ _)).1

/-- A state: its numbers, the bytes that wait; all its blocks lie from B0 on. -/
def Pol (B0 r0 r1 : Nat) (x2 x3 : Value) (w : World) (p : Nat) (h : N3) (rz : List Int) : Prop :=
  B0 ≤ p ∧ Good h ∧ ∃ A cap, Blk w p 59 (polA r0 r1 x2 x3 h (.slice A rz.length cap)) ∧ Rest w A cap rz ∧ ∀ a, A = some a → B0 ≤ a.block ∧ a.block ≠ p
theorem Pol.touch {B0 r0 r1 : Nat} {x2 x3 : Value} {w w' : World} {p : Nat} {h : N3} {rz : List Int} (H : Pol B0 r0 r1 x2 x3 w p h rz) (ht : Touch (fun _ => False) w w') : Pol B0 r0 r1 x2 x3 w' p h rz := by
  obtain ⟨h1, h2, A, cap, h3, h4, h5⟩ := H
  exact ⟨h1, h2, A, cap, h3.touch ht (fun h => h), h4.touch ht (fun _ _ h => h), h5⟩
/-- What is written: the numbers and the bytes behind it. -/
def wrH (F : N3 → N3) (h : N3) (zs : List Int) : N3 := eatF F h zs (zs.length / 16)
def wrR (zs : List Int) : List Int := zs.drop (16 * (zs.length / 16))
end Go.Proofs.Ytelmjlfhmbicjaa
