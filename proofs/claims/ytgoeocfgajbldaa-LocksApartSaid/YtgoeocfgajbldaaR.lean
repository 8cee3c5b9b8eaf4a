/- How a document's spans, holds and acts read. -/
import Derived.Test.YtgoeocfgajbldaaP
import Derived.ProofKit
import Derived.OpenShut
import Derived.Deep.Slices
import Derived.Deep.Strs
import Derived.Lib.SmallJoins
namespace Go.Proofs.Ytgoeocfgajbldaa
open Go.ChangeShapes Go.WideShapes Go.ChangeAt Go.RowKit Go.Deep
set_option linter.unusedVariables false
set_option maxRecDepth 100000

theorem cells25 : Try.prog.cellsOf 25 = 2 := by kernel_rfl
theorem cells40 : Try.prog.cellsOf 40 = 3 := by kernel_rfl
theorem cells42 : Try.prog.cellsOf 42 = 4 := by kernel_rfl
theorem cells3 : Try.prog.cellsOf 3 = 1 := by kernel_rfl
theorem cells4 : Try.prog.cellsOf 4 = 1 := by kernel_rfl
theorem cells26 : Try.prog.cellsOf 26 = 1 := by kernel_rfl

theorem add_none (b off i j k : Nat) : Addr.add (Addr.add ⟨b, off, none⟩ (i * k)) j = ⟨b, off + i * k + j, none⟩ := by
  rw [Go.Deep.add_add]
  unfold Addr.add
  split
  · rename_i h; congr 1; omega
  · simp; omega

section
variable {H : Type} {enc : TypeId × Value → H} {w : World} {base : Nat} {spare : Nat → Bool} {held : Bool} {fuel : Nat}

theorem sp_cells {cs : List Value} {x : DataW H × List MemPlace} (h : DataW.trod enc Try.prog w base spare held fuel 25 cs = some x) :
    ∃ s : SI, cs = [.int .i64 s.1, .int .i64 s.2] := by
  obtain ⟨y0, y1, n, _, hl, h0, h1⟩ := trod_struct2 Try.underlying25 h
  rw [cells25] at hl
  match cs, hl with
  | [c0, c1], _ =>
    simp only [cells3] at h0 h1
    obtain ⟨a, e0, _, _⟩ := DataW.trod_int Try.underlying3 h0
    obtain ⟨b, e1, _, _⟩ := DataW.trod_int Try.underlying3 h1
    simp at e0 e1
    subst e0 e1
    exact ⟨(a, b), rfl⟩

theorem spans_open {A : Option Addr} {len cap : Nat} {x : DataW H × List MemPlace} (hf : DataW.trod enc Try.prog w base spare held fuel 26 [.slice A len cap] = some x) :
    ∃ l : List SI, l.length = len ∧ Row2 w A (l.map siV2) := by
  rcases open_slice Try.underlying26 hf with ⟨hcs, _⟩ | ⟨a, len', cap', m, n, D, Pl, hcs, hb, hl, hm, hmm, _, hi⟩
  · simp at hcs
    obtain ⟨rfl, rfl, rfl⟩ := hcs
    exact ⟨[], rfl, fun i p h => by simp at h⟩
  · simp at hcs
    obtain ⟨rfl, rfl, rfl⟩ := hcs
    have hle : len ≤ m := by rw [hmm]; split <;> omega
    obtain ⟨b, off, spot⟩ := a
    have hcell : ∀ i, ∃ s : SI, i < len → ∀ j, j < 2 → w.cell? (Addr.add (Addr.add ⟨b, off, spot⟩ (i * 2)) j) = [Value.int .i64 s.1, .int .i64 s.2][j]? := by
      intro i
      by_cases hil : i < len
      · obtain ⟨cs', hc, ht⟩ := hi i (by omega)
        rw [cells25] at hc
        obtain ⟨_, _, hat⟩ := World.cells?_some hc
        obtain ⟨s, rfl⟩ := sp_cells ht
        exact ⟨s, fun _ => hat⟩
      · exact ⟨(0, 0), fun h => absurd h hil⟩
    obtain ⟨xs, hxs⟩ := Classical.skolem.1 hcell
    refine ⟨(List.range len).map xs, by simp, fun i p hp => ?_⟩
    rw [List.getElem?_map, List.getElem?_map] at hp
    have hil : i < len := by
      rcases Nat.lt_or_ge i len with h | h
      · exact h
      · rw [List.getElem?_eq_none (by simpa using h)] at hp; cases hp
    rw [List.getElem?_range hil] at hp
    have hp' : p = siV2 (xs i) := by simpa using hp.symm
    subst hp'
    have hspot : spot = none := by
      have h0 := hxs 0 (by omega) 0 (by omega)
      simp [Addr.add, World.cell?] at h0
      split at h0
      · cases spot with
        | none => rfl
        | some s => simp at h0
      · cases h0
    subst hspot
    have h0 := hxs i hil 0 (by omega)
    have h1 := hxs i hil 1 (by omega)
    rw [add_none] at h0 h1
    exact ⟨b, off, rfl, by simpa [siV2] using h0, by simpa [siV2] using h1⟩

theorem hold_cells {cs : List Value} {x : DataW H × List MemPlace} (h : DataW.trod enc Try.prog w base spare held fuel 40 cs = some x) :
    ∃ h : RH, cs = h.cells.toList ∧ RhOk w h := by
  obtain ⟨y0, y1, y2, n, _, hl, h0, h1, h2⟩ := trod_struct3 Try.underlying40 h
  rw [cells40] at hl
  match cs, hl with
  | [c0, c1, c2], _ =>
    simp only [cells3, cells26] at h0 h1 h2
    obtain ⟨a, e0, _, wa⟩ := DataW.trod_int Try.underlying3 h0
    obtain ⟨A, na, ca, e1⟩ := Go.Joins.slice_form Try.underlying26 h1
    obtain ⟨B, nb, cb, e2⟩ := Go.Joins.slice_form Try.underlying26 h2
    rw [e1] at h1
    rw [e2] at h2
    obtain ⟨r, hr, rr⟩ := spans_open h1
    obtain ⟨t, ht, rt⟩ := spans_open h2
    simp at e0 e1 e2
    subst e0 e1 e2 hr ht
    exact ⟨⟨a, A, ca, r, B, cb, t⟩, rfl, ⟨wa, rr, rt⟩⟩

theorem hold_open {r : Reach} {b0 : Nat} {v : Value} {d : DataW H} {p : List MemPlace} (hv : Value.okWide Try.prog w r b0 40 v) (h : DataW.Trod enc Try.prog w base spare held 40 v d p) :
    ∃ h : RH, v = .agg h.cells ∧ RhOk w h := by
  obtain ⟨cs, rfl, hsz⟩ := okWide_struct Try.underlying40 hv
  obtain ⟨fuel, hf⟩ := h
  obtain ⟨h, e, ho⟩ := hold_cells hf
  refine ⟨h, ?_, ho⟩
  congr 1
  apply Array.toList_inj.1
  exact e

end
end Go.Proofs.Ytgoeocfgajbldaa
