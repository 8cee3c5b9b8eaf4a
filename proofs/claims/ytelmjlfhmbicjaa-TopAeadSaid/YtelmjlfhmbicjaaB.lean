/- Bytes and words as cells. -/
import Derived.Test.YtelmjlfhmbicjaaA
import Derived.Deep.MidRow
namespace Go.Proofs.Ytelmjlfhmbicjaa
open Go.RowKit
set_option linter.unusedVariables false

/-- Bytes, words as cells. -/
def U8A (xs : List Int) : Array Value := (xs.map (Value.int .u8)).toArray
def U32A (xs : List Int) : Array Value := (xs.map (Value.int .u32)).toArray
theorem U8A_size (xs : List Int) : (U8A xs).size = xs.length := by simp [U8A]
theorem U32A_size (xs : List Int) : (U32A xs).size = xs.length := by simp [U32A]
theorem U8A_get {xs : List Int} {i : Nat} (h : i < xs.length) : (U8A xs)[i]? = some (.int .u8 (xs.getD i 0)) := by
  simp [U8A, List.getElem?_eq_getElem h, List.getD]
theorem U32A_get {xs : List Int} {i : Nat} (h : i < xs.length) : (U32A xs)[i]? = some (.int .u32 (xs.getD i 0)) := by
  simp [U32A, List.getElem?_eq_getElem h, List.getD]
theorem U8A_set (xs : List Int) (i : Nat) (x : Int) : (U8A xs).setIfInBounds i (.int .u8 x) = U8A (xs.set i x) := by
  simp [U8A, List.map_set]
theorem U32A_set (xs : List Int) (i : Nat) (x : Int) : (U32A xs).setIfInBounds i (.int .u32 x) = U32A (xs.set i x) := by
  simp [U32A, List.map_set]
theorem Blk.byt {w : World} {g : Nat} {t : TypeId} {xs : List Int} (h : Blk w g t (U8A xs)) (a n : Nat) : Byt w g a ((xs.drop a).take n) := fun i hi => by
  rw [h.cell]
  have h1 : a + i < xs.length := by simp at hi; omega
  rw [U8A_get h1]
  have h2 : i < n := by simp at hi; omega
  simp [List.getD, h2]

/-- Do so often, each told its number. -/
def iter {α : Type} (f : Nat → α → α) : Nat → α → α
  | 0, x => x
  | n + 1, x => f n (iter f n x)
theorem iter_len (f : Nat → List Int → List Int) (hf : ∀ i x, (f i x).length = x.length) : ∀ n x, (iter f n x).length = x.length
  | 0, _ => rfl
  | n + 1, x => by rw [iter, hf, iter_len f hf n x]

theorem U32A_one (xs : List Int) : (U32A xs).all (·.oneCell') = true := by
  rw [Array.all_eq_true_iff_forall_mem]
  intro v hv
  simp [U32A] at hv
  obtain ⟨x, _, rfl⟩ := hv
  rfl
theorem U8A_one (xs : List Int) : (U8A xs).all (·.oneCell') = true := by
  rw [Array.all_eq_true_iff_forall_mem]
  intro v hv
  simp [U8A] at hv
  obtain ⟨x, _, rfl⟩ := hv
  rfl
theorem Blk.row {w : World} {g : Nat} {t : TypeId} {cs : Array Value} (h : Blk w g t cs) (cs' : Array Value) : Blk (w.setRow g cs') g t cs' := setRow_heap w g cs cs' t (0, 0) h
theorem Blk.row_far {w : World} {g k : Nat} {t : TypeId} {cs : Array Value} (h : Blk w g t cs) (hk : ¬ g = k) (cs' : Array Value) : Blk (w.setRow k cs') g t cs := (setRow_other w k g cs' hk).trans h
theorem Touch.row {S : Nat → Prop} {w w' : World} (h : Touch S w w') {g : Nat} (hg : w.heap.size ≤ g ∨ S g) (cs : Array Value) : Touch S w (w'.setRow g cs) :=
  ⟨h.os, h.tape, h.output, by have := h.size; simp; omega, fun b hb hs => (setRow_other w' g b cs (by rintro rfl; rcases hg with hg | hg; omega; exact hs hg)).trans (h.block b hb hs)⟩

end Go.Proofs.Ytelmjlfhmbicjaa
