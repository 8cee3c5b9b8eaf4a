/- How acts, and a queue's life, read. -/
import Derived.Test.YtijdjcmdmppgaaaX
import Derived.ProofKit
import Derived.OpenShut
import Derived.Deep.Slices
import Derived.Deep.Strs
import Derived.Lib.SmallJoins
namespace Go.Proofs.Ytijdjcmdmppgaaa
open Go.ChangeShapes Go.WideShapes Go.ChangeAt Go.RowKit Go.Deep
set_option linter.unusedVariables false

theorem Try.cells33 : Try.prog.cellsOf 33 = 5 := by kernel_rfl
theorem Try.cells31 : Try.prog.cellsOf 31 = 4 := by kernel_rfl
theorem Try.cells5 : Try.prog.cellsOf 5 = 1 := by kernel_rfl
theorem Try.cells3 : Try.prog.cellsOf 3 = 1 := by kernel_rfl

section
variable {H : Type} {enc : TypeId × Value → H} {w : World} {base : Nat} {spare : Nat → Bool} {held : Bool} {fuel : Nat}

theorem job_cells {cs : List Value} {x : DataW H × List MemPlace} (h : DataW.trod enc Try.prog w base spare held fuel 31 cs = some x) :
    ∃ a b c d : Int, (I64in a ∧ I64in b ∧ I64in c ∧ I64in d) ∧ cs = [.int .i64 a, .int .i64 b, .int .i64 c, .int .i64 d] := by
  obtain ⟨y0, y1, y2, y3, n, _, hl, h0, h1, h2, h3⟩ := Go.Joins.trod_struct4 Try.underlying31 h
  rw [Try.cells31] at hl
  match cs, hl with
  | [c0, c1, c2, c3], _ =>
    simp only [Try.cells3] at h0 h1 h2 h3
    obtain ⟨a, e0, _, w0⟩ := DataW.trod_int Try.underlying3 h0
    obtain ⟨b, e1, _, w1⟩ := DataW.trod_int Try.underlying3 h1
    obtain ⟨c, e2, _, w2⟩ := DataW.trod_int Try.underlying3 h2
    obtain ⟨d, e3, _, w3⟩ := DataW.trod_int Try.underlying3 h3
    simp at e0 e1 e2 e3
    subst e0 e1 e2 e3
    exact ⟨a, b, c, d, ⟨bounds_i64 w0, bounds_i64 w1, bounds_i64 w2, bounds_i64 w3⟩, rfl⟩

theorem act_cells {cs : List Value} {x : DataW H × List MemPlace} (h : DataW.trod enc Try.prog w base spare held fuel 33 cs = some x) :
    ∃ (what : Nat) (a b c d : Int), (what < 256 ∧ I64in a ∧ I64in b ∧ I64in c ∧ I64in d) ∧ cs = [.int .u8 what, .int .i64 a, .int .i64 b, .int .i64 c, .int .i64 d] := by
  obtain ⟨y0, y1, n, _, hl, h0, h1⟩ := trod_struct2 Try.underlying33 h
  rw [Try.cells33] at hl
  match cs, hl with
  | [c0, c1, c2, c3, c4], _ =>
    simp only [Try.cells5, Try.cells31] at h0 h1
    obtain ⟨q, e0, _, wq⟩ := DataW.trod_int Try.underlying5 h0
    obtain ⟨a, b, c, d, hb, e1⟩ := job_cells h1
    have hq := bounds_u8 wq
    simp at e0 e1
    obtain ⟨rfl, rfl, rfl, rfl⟩ := e1
    subst e0
    obtain ⟨m, rfl⟩ := Int.eq_ofNat_of_zero_le hq.1
    exact ⟨m, a, b, c, d, ⟨by omega, hb⟩, rfl⟩

theorem acts_open {A : Option Addr} {len cap : Nat} {d : DataW H} {p : List MemPlace} (h : DataW.Trod enc Try.prog w base spare held 22 (.slice A len cap) d p) :
    (∃ xs, Acts w A len xs) ∧ len ≤ 9223372036854775807 := by
  obtain ⟨fuel, hf⟩ := h
  rcases open_slice Try.underlying22 hf with ⟨hcs, _⟩ | ⟨a, len', cap', m, n, D, Pl, hcs, hb, hl, hm, hmm, _, hi⟩
  · simp [Value.cells] at hcs
    obtain ⟨rfl, rfl, rfl⟩ := hcs
    exact ⟨⟨fun _ => ⟨0, 0, 0, 0, 0⟩, fun h => absurd h (by omega)⟩, by omega⟩
  · simp [Value.cells] at hcs
    obtain ⟨rfl, rfl, rfl⟩ := hcs
    unfold maxLen at hm
    refine ⟨?_, by omega⟩
    have hle : len ≤ m := by rw [hmm]; split <;> omega
    obtain ⟨b, off, spot⟩ := a
    have hcell : ∀ i, ∃ x : Ac, i < len → (x.what < 256 ∧ I64in x.id ∧ I64in x.cl ∧ I64in x.cls ∧ I64in x.bytes) ∧ ∀ j, j < 5 → w.cell? (Addr.add (Addr.add ⟨b, off, spot⟩ (i * 5)) j) = [Value.int .u8 x.what, .int .i64 x.id, .int .i64 x.cl, .int .i64 x.cls, .int .i64 x.bytes][j]? := by
      intro i
      by_cases hil : i < len
      · obtain ⟨cs', hc, ht⟩ := hi i (by omega)
        rw [Try.cells33] at hc
        obtain ⟨_, _, hat⟩ := World.cells?_some hc
        obtain ⟨what, a, b', c, d, hw, rfl⟩ := act_cells ht
        exact ⟨⟨what, a, b', c, d⟩, fun _ => ⟨hw, hat⟩⟩
      · exact ⟨⟨0, 0, 0, 0, 0⟩, fun h => absurd h hil⟩
    obtain ⟨xs, hxs⟩ := Classical.skolem.1 hcell
    refine ⟨xs, fun hpos => ?_⟩
    have hspot : spot = none ∧ b < w.heap.size := by
      have h0 := (hxs 0 hpos).2 0 (by omega)
      simp [Addr.add, World.cell?] at h0
      split at h0
      · rename_i hh
        refine ⟨?_, (Array.getElem?_eq_some_iff.1 hh).1⟩
        cases spot with
        | none => rfl
        | some s => simp at h0
      · cases h0
    obtain ⟨rfl, hlt⟩ := hspot
    refine ⟨b, off, rfl, hlt, fun i hil => ?_⟩
    obtain ⟨hw, hat⟩ := hxs i hil
    have e : ∀ j, Addr.add (Addr.add ⟨b, off, none⟩ (i * 5)) j = ⟨b, off + i * 5 + j, none⟩ := by
      intro j
      rw [Go.Deep.add_add]
      unfold Addr.add
      split
      · rename_i h; congr 1; omega
      · simp; omega
    simp only [e] at hat
    exact ⟨hw, by simpa using hat 0 (by omega), by simpa using hat 1 (by omega), by simpa using hat 2 (by omega), by simpa using hat 3 (by omega), by simpa using hat 4 (by omega)⟩

theorem life_open {r : Reach} {b0 : Nat} {v : Value} {d : DataW H} {p : List MemPlace} (hv : Value.okWide Try.prog w r b0 24 v) (h : DataW.Trod enc Try.prog w base spare held 24 v d p) :
    ∃ (C k bt : Int) (A : Option Addr) (n c : Nat), v = .agg #[.int .i64 C, .int .i64 k, .int .i64 bt, .slice A n c] ∧ (∃ xs, Acts w A n xs) ∧ n ≤ 9223372036854775807 := by
  obtain ⟨v0, v1, v2, v3, y0, y1, y2, y3, m, rfl, rfl, rfl, h0, h1, h2, h3⟩ := Go.Joins.open_agg4 Try.underlying24 (by kernel_rfl) (by kernel_rfl) hv h
  obtain ⟨C, e0, _, _⟩ := DataW.trod_int Try.underlying3 h0
  obtain ⟨k, e1, _, _⟩ := DataW.trod_int Try.underlying3 h1
  obtain ⟨bt, e2, _, _⟩ := DataW.trod_int Try.underlying3 h2
  obtain ⟨A, n, c, e3⟩ := Go.Joins.slice_form Try.underlying22 h3
  simp at e0 e1 e2 e3
  subst e0 e1 e2 e3
  have := acts_open (A := A) (len := n) (cap := c) (d := y3.1) (p := y3.2) (enc := enc) (w := w) (base := base) (spare := spare) (held := held) ⟨m, by simpa [Value.cells] using h3⟩
  exact ⟨C, k, bt, A, n, c, rfl, this.1, this.2⟩
end
end Go.Proofs.Ytijdjcmdmppgaaa
