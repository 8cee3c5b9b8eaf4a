/- How the acts that come in read. -/
import Derived.Test.YtmhdjedegkekeaaH
import Derived.ProofKit
import Derived.OpenShut
import Derived.Deep.Slices
import Derived.Deep.Strs
namespace Go.Proofs.Ytmhdjedegkekeaa
open Go.ChangeShapes Go.WideShapes Go.ChangeAt Go.RowKit Go.Deep

theorem Try.cells37 : Try.prog.cellsOf 37 = 4 := by kernel_rfl
theorem Try.cells33 : Try.prog.cellsOf 33 = 3 := by kernel_rfl
theorem Try.cells5 : Try.prog.cellsOf 5 = 1 := by kernel_rfl
theorem Try.cells3 : Try.prog.cellsOf 3 = 1 := by kernel_rfl

section
variable {H : Type} {enc : TypeId × Value → H} {w : World} {base : Nat} {spare : Nat → Bool} {held : Bool} {fuel : Nat}

theorem done_cells {cs : List Value} {x : DataW H × List MemPlace} (h : DataW.trod enc Try.prog w base spare held fuel 33 cs = some x) :
    ∃ a b c : Int, cs = [.int .i64 a, .int .i64 b, .int .i64 c] := by
  obtain ⟨y0, y1, y2, n, _, hl, h0, h1, h2⟩ := trod_struct3 Try.underlying33 h
  rw [Try.cells33] at hl
  match cs, hl with
  | [c0, c1, c2], _ =>
    simp only [Try.cells3] at h0 h1 h2
    obtain ⟨a, e0, _, _⟩ := DataW.trod_int Try.underlying3 h0
    obtain ⟨b, e1, _, _⟩ := DataW.trod_int Try.underlying3 h1
    obtain ⟨c, e2, _, _⟩ := DataW.trod_int Try.underlying3 h2
    simp at e0 e1 e2
    subst e0 e1 e2
    exact ⟨a, b, c, rfl⟩

theorem act_cells {cs : List Value} {x : DataW H × List MemPlace} (h : DataW.trod enc Try.prog w base spare held fuel 37 cs = some x) :
    ∃ (what : Nat) (a b c : Int), what < 256 ∧ cs = [.int .u8 what, .int .i64 a, .int .i64 b, .int .i64 c] := by
  obtain ⟨y0, y1, n, _, hl, h0, h1⟩ := trod_struct2 Try.underlying37 h
  rw [Try.cells37] at hl
  match cs, hl with
  | [c0, c1, c2, c3], _ =>
    simp only [Try.cells5, Try.cells33] at h0 h1
    obtain ⟨q, e0, _, wq⟩ := DataW.trod_int Try.underlying5 h0
    obtain ⟨a, b, c, e1⟩ := done_cells h1
    have hb := bounds_u8 wq
    simp at e0 e1
    obtain ⟨rfl, rfl, rfl⟩ := e1
    subst e0
    obtain ⟨m, rfl⟩ := Int.eq_ofNat_of_zero_le hb.1
    exact ⟨m, a, b, c, by omega, rfl⟩

theorem acts_open {A : Option Addr} {len cap : Nat} {d : DataW H} {p : List MemPlace} (h : DataW.Trod enc Try.prog w base spare held 22 (.slice A len cap) d p) :
    Acts w A len ∧ len ≤ 9223372036854775807 := by
  obtain ⟨fuel, hf⟩ := h
  rcases open_slice Try.underlying22 hf with ⟨hcs, _⟩ | ⟨a, len', cap', m, n, D, Pl, hcs, hb, hl, hm, hmm, _, hi⟩
  · simp [Value.cells] at hcs
    obtain ⟨rfl, rfl, rfl⟩ := hcs
    exact ⟨fun h => absurd h (by omega), by omega⟩
  · simp [Value.cells] at hcs
    obtain ⟨rfl, rfl, rfl⟩ := hcs
    unfold maxLen at hm
    refine ⟨fun hpos => ?_, by omega⟩
    have hle : len ≤ m := by rw [hmm]; split <;> omega
    obtain ⟨b, off, spot⟩ := a
    have hcell : ∀ i, i < len → ∃ (what : Nat) (x y z : Int), what < 256 ∧ ∀ j, j < 4 → w.cell? (Addr.add (Addr.add ⟨b, off, spot⟩ (i * 4)) j) = [Value.int .u8 what, .int .i64 x, .int .i64 y, .int .i64 z][j]? := by
      intro i hil
      obtain ⟨cs', hc, ht⟩ := hi i (by omega)
      rw [Try.cells37] at hc
      obtain ⟨_, _, hat⟩ := World.cells?_some hc
      obtain ⟨what, x, y, z, hw, rfl⟩ := act_cells ht
      exact ⟨what, x, y, z, hw, hat⟩
    have hspot : spot = none ∧ b < w.heap.size := by
      obtain ⟨what, x, y, z, _, hat⟩ := hcell 0 hpos
      have h0 := hat 0 (by omega)
      simp [Addr.add, World.cell?] at h0
      split at h0
      · rename_i hh
        refine ⟨?_, (Array.getElem?_eq_some_iff.1 hh).1⟩
        cases spot with
        | none => rfl
        | some s => simp at h0
      · cases h0
    obtain ⟨rfl, hlt⟩ := hspot
    refine ⟨b, off, rfl, hlt, fun i hil => ?_⟩
    obtain ⟨what, x, y, z, hw, hat⟩ := hcell i hil
    have e : ∀ j, Addr.add (Addr.add ⟨b, off, none⟩ (i * 4)) j = ⟨b, off + i * 4 + j, none⟩ := by
      intro j
      rw [Go.Deep.add_add]
      unfold Addr.add
      split
      · rename_i h; congr 1; omega
      · simp; omega
    simp only [e] at hat
    exact ⟨what, x, y, z, hw, by simpa using hat 0 (by omega), by simpa using hat 1 (by omega), by simpa using hat 2 (by omega), by simpa using hat 3 (by omega)⟩
end
end Go.Proofs.Ytmhdjedegkekeaa
