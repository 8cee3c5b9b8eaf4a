/- The ring as a list of completions, and its methods by contracts. -/
import Derived.Test.YtmhdjedegkekeaaA
namespace Go.Proofs.Ytmhdjedegkekeaa
open Go.RowKit

/-- A completion: its number, how it ended, how many bytes. -/
abbrev Dn := Int × Int × Int

/-- Place j holds d. -/
def Has (cs : Array Value) (j : Nat) (d : Dn) : Prop := cs[j * 3]? = some (.int .i64 d.1) ∧ cs[j * 3 + 1]? = some (.int .i64 d.2.1) ∧ cs[j * 3 + 2]? = some (.int .i64 d.2.2)

/-- Block r is a ring of n places (block p), k of them kept, L in it. -/
def Ring (w : World) (r p n k : Nat) (L : List Dn) : Prop :=
  ∃ (fi : Nat) (cs : Array Value), Blk w r 50 #[.slice (some ⟨p, 0, none⟩) n n, .int .i64 fi, .int .i64 L.length, .int .i64 k] ∧ Blk w p 33 cs ∧ cs.size = 3 * n ∧ n ≤ 32 ∧ fi < n ∧ L.length + k ≤ n ∧
    ∀ i d, L[i]? = some d → Has cs ((fi + i) % n) d

/-- The two blocks of a ring. -/
def Own2 (r p : Nat) (b : Nat) : Prop := b = r ∨ b = p

section
variable {w w' : World} {r p n k : Nat} {L : List Dn} {S : Nat → Prop}
theorem Ring.touch (h : Ring w r p n k L) (ht : Touch S w w') (hr : ¬ S r) (hp : ¬ S p) : Ring w' r p n k L := by
  obtain ⟨fi, cs, h1, h2, h3⟩ := h
  exact ⟨fi, cs, h1.touch ht hr, h2.touch ht hp, h3⟩
theorem Ring.lt (h : Ring w r p n k L) : r < w.heap.size ∧ p < w.heap.size := by
  obtain ⟨fi, cs, h1, h2, _⟩ := h
  exact ⟨h1.lt, h2.lt⟩
theorem Ring.ne (h : Ring w r p n k L) : r ≠ p := by
  obtain ⟨fi, cs, h1, h2, _⟩ := h
  exact h1.ne_ h2 (by decide)
theorem Ring.fits (h : Ring w r p n k L) : L.length + k ≤ n ∧ n ≤ 32 := by
  obtain ⟨fi, cs, h1, h2, _, h3, _, h4, _⟩ := h
  exact ⟨h4, h3⟩

theorem mod_of (n f i : Nat) (hf : f < n) (hi : i < n) : (f + i) % n = if f + i < n then f + i else f + i - n := by
  split
  · rename_i h; exact Nat.mod_eq_of_lt h
  · rename_i h; rw [Nat.mod_eq_sub_mod (by omega), Nat.mod_eq_of_lt (by omega)]
theorem mod_ne (n f i m : Nat) (hf : f < n) (hi : i < m) (hm : m < n) : (f + i) % n ≠ (f + m) % n := by
  rw [mod_of n f i hf (by omega), mod_of n f m hf hm]
  split <;> split <;> omega
theorem mod_next (n f i : Nat) : ((f + 1) % n + i) % n = (f + (i + 1)) % n := by
  rw [Nat.mod_add_mod, show f + 1 + i = f + (i + 1) from by omega]

theorem Has.set_same (cs : Array Value) (j : Nat) (d : Dn) (h : j * 3 + 2 < cs.size) :
    Has (((cs.setIfInBounds (j * 3) (.int .i64 d.1)).setIfInBounds (j * 3 + 1) (.int .i64 d.2.1)).setIfInBounds (j * 3 + 2) (.int .i64 d.2.2)) j d := by
  refine ⟨?_, ?_, ?_⟩ <;> simp [Array.getElem?_setIfInBounds] <;> omega
theorem Has.set_other {cs : Array Value} {i j : Nat} {d : Dn} (e : Has cs i d) (hij : i ≠ j) (a b c : Value) :
    Has (((cs.setIfInBounds (j * 3) a).setIfInBounds (j * 3 + 1) b).setIfInBounds (j * 3 + 2) c) i d := by
  obtain ⟨h1, h2, h3⟩ := e
  refine ⟨?_, ?_, ?_⟩
  · rw [Array.getElem?_setIfInBounds_ne (by omega), Array.getElem?_setIfInBounds_ne (by omega), Array.getElem?_setIfInBounds_ne (by omega)]; exact h1
  · rw [Array.getElem?_setIfInBounds_ne (by omega), Array.getElem?_setIfInBounds_ne (by omega), Array.getElem?_setIfInBounds_ne (by omega)]; exact h2
  · rw [Array.getElem?_setIfInBounds_ne (by omega), Array.getElem?_setIfInBounds_ne (by omega), Array.getElem?_setIfInBounds_ne (by omega)]; exact h3
end

/-! ### Len, Kept -/
theorem f12_any (w : World) (r p n k : Nat) (L : List Dn) (h : Ring w r p n k L) :
    Calls Try.prog 12 #[.pointer (some ⟨r, 0, none⟩)] w fun e w' => e = .returned (.int .i64 k) ∧ w' = w := by
  obtain ⟨fi, cs, hr, _⟩ := h
  have c := hr.cell 3
  simp at c
  clear hr
  go_enter Try.func12, Try.ntmps12
  go_wp2
  go_ret
  exact ⟨rfl, rfl⟩
theorem f12_nil (w : World) : Calls Try.prog 12 #[.pointer none] w fun e w' => e = .returned (.int .i64 0) ∧ w' = w := by
  go_enter Try.func12, Try.ntmps12
  go_wp2
  go_ret
  exact ⟨rfl, rfl⟩
theorem f11_any (w : World) (r p n k : Nat) (L : List Dn) (h : Ring w r p n k L) :
    Calls Try.prog 11 #[.pointer (some ⟨r, 0, none⟩)] w fun e w' => e = .returned (.int .i64 L.length) ∧ w' = w := by
  obtain ⟨fi, cs, hr, _⟩ := h
  have c := hr.cell 2
  simp at c
  clear hr
  go_enter Try.func11, Try.ntmps11
  go_wp2
  go_ret
  exact ⟨rfl, rfl⟩
theorem f11_nil (w : World) : Calls Try.prog 11 #[.pointer none] w fun e w' => e = .returned (.int .i64 0) ∧ w' = w := by
  go_enter Try.func11, Try.ntmps11
  go_wp2
  go_ret
  exact ⟨rfl, rfl⟩
end Go.Proofs.Ytmhdjedegkekeaa
