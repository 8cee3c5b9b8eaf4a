/- Tick. -/
import Derived.Test.YtijdjcmdmppgaaaO
namespace Go.Proofs.Ytijdjcmdmppgaaa
open Go.RowKit
set_option linter.unusedVariables false

/-- Those that leave. -/
def doneL (k : Nat) (B : List (Nat × Jb)) : List (Nat × Jb) := B.filter fun p => decide (p.2.bytes ≤ k)
/-- Who is next. -/
def nextN (C nx : Nat) : List (Nat × Jb) → Nat
  | [] => nx
  | p :: _ => (p.2.client + 1) % C

/-- What a tick's loop keeps behind m rounds. -/
structure TickI (w1 : World) (S : Nat → Prop) (q o C k bt nx M : Nat) (L : Nat → List (Nat × Jb)) (B : List (Nat × Jb)) (m : Nat) (A1 : Option Addr) (c1 : Nat) (A2 : Option Addr) (c2 n2 : Nat) (wr : World) : Prop where
  r1 : Rw wr 3 A1 c1 ((B.take m).map idv)
  r2 : Rw wr 3 A2 c2 ((doneL k (B.take m)).map idv)
  l2 : ((doneL k (B.take m)).map idv).length = n2
  f1 : ∀ a, A1 = some a → w1.heap.size ≤ a.block
  f2 : ∀ a, A2 = some a → w1.heap.size ≤ a.block
  ne : ∀ a a', A1 = some a → A2 = some a' → a.block ≠ a'.block
  que : Que wr S q o C k bt nx M (hits k L (B.take m))
  cl : ∀ p ∈ B, ∃ cs, Blk wr p.1 34 cs ∧ cs[1]? = some (.int .i64 p.2.client)
  t : Touch S w1 wr

/-- Behind a tick. -/
def TickPost (S : Nat → Prop) (q o C k bt nx M : Nat) (L : Nat → List (Nat × Jb)) (B : List (Nat × Jb)) (w : World) (e : Ending) (w' : World) : Prop :=
  ∃ (A1 : Option Addr) (c1 : Nat) (A2 : Option Addr) (c2 : Nat), e = .returned (.tuple #[.slice A1 B.length c1, .slice A2 (doneL k B).length c2]) ∧ Rw w' 3 A1 c1 (B.map idv) ∧ Rw w' 3 A2 c2 ((doneL k B).map idv) ∧
    (∀ a, A1 = some a → w.heap.size ≤ a.block) ∧ (∀ a, A2 = some a → w.heap.size ≤ a.block) ∧ Que w' S q o C k bt (nextN C nx B) M (hits k L B) ∧ Touch S w w'

theorem doneL_snoc_yes {k : Nat} {B : List (Nat × Jb)} {m : Nat} {p : Nat × Jb} (hp : B[m]? = some p) (h : p.2.bytes ≤ k) : doneL k (B.take (m + 1)) = doneL k (B.take m) ++ [p] := by
  rw [List.take_add_one, hp]
  simp [doneL, h]
theorem doneL_snoc_no {k : Nat} {B : List (Nat × Jb)} {m : Nat} {p : Nat × Jb} (hp : B[m]? = some p) (h : ¬ p.2.bytes ≤ k) : doneL k (B.take (m + 1)) = doneL k (B.take m) := by
  rw [List.take_add_one, hp]
  simp [doneL]; omega
theorem hits_take {k : Nat} {L : Nat → List (Nat × Jb)} {B : List (Nat × Jb)} {m : Nat} {p : Nat × Jb} (hp : B[m]? = some p) : hits k L (B.take (m + 1)) = hitL k (hits k L (B.take m)) p := by
  rw [List.take_add_one, hp]
  exact hits_snoc _ _ _ _

section
variable {w1 wr wa w3 w4 wb w5 w6 : World} {S : Nat → Prop} {q o C k bt nx M m : Nat} {L : Nat → List (Nat × Jb)} {B : List (Nat × Jb)} {A1 A2 A3 A5 : Option Addr} {c1 c2 c3 c5 n2 : Nat} {p : Nat × Jb}
/-- Behind the first append and the store: what is still so. -/
theorem TickI.mid (hI : TickI w1 S q o C k bt nx M L B m A1 c1 A2 c2 n2 wr) (hS : ∀ b, S b → b < w1.heap.size) (hp : B[m]? = some p) (hsp : S p.1)
    (hTa : Touch (fun _ => False) wr wa) (hr3 : Rw w3 3 A3 c3 ((B.take m).map idv ++ [idv p])) (hT3 : Touch (fun b => ∃ a, A1 = some a ∧ a.block = b) wa w3) (hf3 : ∀ a, A3 = some a → (∃ a0, A1 = some a0 ∧ a0.block = a.block) ∨ wa.heap.size ≤ a.block)
    (hT4 : Touch (fun b => b = p.1) w3 w4) (v : Nat) (hb4 : Blk w4 p.1 34 (jc { p.2 with bytes := v })) :
    Rw w4 3 A3 c3 ((B.take (m + 1)).map idv) ∧ Rw w4 3 A2 c2 ((doneL k (B.take m)).map idv) ∧ (∀ a, A3 = some a → w1.heap.size ≤ a.block) ∧ (∀ a a', A3 = some a → A2 = some a' → a.block ≠ a'.block) ∧
      (∀ p ∈ B, ∃ cs, Blk w4 p.1 34 cs ∧ cs[1]? = some (.int .i64 p.2.client)) ∧ Touch S w1 w4 := by
  have hw1 : w1.heap.size ≤ wr.heap.size := hI.t.size
  have hfresh : ∀ a, A3 = some a → w1.heap.size ≤ a.block := fun a ha => by
    rcases hf3 a ha with ⟨a0, h0, h1⟩ | h
    · rw [← h1]; exact hI.f1 a0 h0
    · have := hTa.size; omega
  have hne : ∀ a a', A3 = some a → A2 = some a' → a.block ≠ a'.block := fun a a' ha ha' e => by
    rcases hf3 a ha with ⟨a0, h0, h1⟩ | h
    · exact hI.ne a0 a' h0 ha' (h1.trans e)
    · have := hI.r2.lt ha'; have := hTa.size; omega
  have hp1 : p.1 < w1.heap.size := hS _ hsp
  refine ⟨?_, ?_, hfresh, hne, fun x hx => ?_, ?_⟩
  · rw [take_map_snoc idv _ _ p hp]
    exact hr3.touch hT4 (fun a ha e => by have := hfresh a ha; omega)
  · exact ((hI.r2.touch hTa (fun _ _ h => h)).touch hT3 (fun a' ha' ⟨a, ha, e⟩ => hI.ne a a' ha ha' e)).touch hT4 (fun a ha e => by have := hI.f2 a ha; omega)
  · by_cases hxp : x.1 = p.1
    · obtain ⟨cs, h1, h2⟩ := hI.cl x hx
      refine ⟨_, hxp ▸ hb4, ?_⟩
      have hpm : p ∈ B := List.mem_of_getElem? hp
      have e1 := ((h1.touch hTa (fun h => h)).touch hT3 (fun ⟨a, ha, e⟩ => (hI.r1.touch hTa (fun _ _ h => h)).ne_blk (h1.touch hTa (fun h => h)) (by decide) a ha e))
      obtain ⟨cs', h1', h2'⟩ := hI.cl p hpm
      have e2 : cs = cs' := by
        unfold Blk at h1 h1'
        rw [hxp] at h1
        rw [h1] at h1'
        injection h1' with h1'
        injection h1' with h1' _
      rw [← e2, h2] at h2'
      simp [jc]
      injection h2' with h2'
      injection h2' with _ h2'
      omega
    · obtain ⟨cs, h1, h2⟩ := hI.cl x hx
      have hx1 := h1.touch hTa (fun h => h)
      exact ⟨cs, (hx1.touch hT3 (fun ⟨a, ha, e⟩ => (hI.r1.touch hTa (fun _ _ h => h)).ne_blk hx1 (by decide) a ha e)).touch hT4 hxp, h2⟩
  · have h1 : Touch S wr wa := hTa.weaken (fun _ _ h => h.elim)
    refine ((hI.t.trans h1 (fun _ _ h => h)).trans hT3 (fun b hb ⟨a, ha, e⟩ => ?_)).trans hT4 (fun b _ e => e ▸ hsp)
    have := hI.f1 a ha; omega

theorem TickI.step_no (hI : TickI w1 S q o C k bt nx M L B m A1 c1 A2 c2 n2 wr) (hS : ∀ b, S b → b < w1.heap.size) (hp : B[m]? = some p) (hsp : S p.1)
    (hTa : Touch (fun _ => False) wr wa) (hr3 : Rw w3 3 A3 c3 ((B.take m).map idv ++ [idv p])) (hT3 : Touch (fun b => ∃ a, A1 = some a ∧ a.block = b) wa w3) (hf3 : ∀ a, A3 = some a → (∃ a0, A1 = some a0 ∧ a0.block = a.block) ∨ wa.heap.size ≤ a.block)
    (hT4 : Touch (fun b => b = p.1) w3 w4) (v : Nat) (hb4 : Blk w4 p.1 34 (jc { p.2 with bytes := v })) (hno : ¬ p.2.bytes ≤ k) (hq : Que w4 S q o C k bt nx M (hits k L (B.take (m + 1)))) :
    TickI w1 S q o C k bt nx M L B (m + 1) A3 c3 A2 c2 n2 w4 := by
  obtain ⟨h1, h2, h3, h4, h5, h6⟩ := hI.mid hS hp hsp hTa hr3 hT3 hf3 hT4 v hb4
  exact ⟨h1, by rw [doneL_snoc_no hp hno]; exact h2, by rw [doneL_snoc_no hp hno]; exact hI.l2, h3, hI.f2, h4, hq, h5, h6⟩

theorem TickI.step_yes (hI : TickI w1 S q o C k bt nx M L B m A1 c1 A2 c2 n2 wr) (hS : ∀ b, S b → b < w1.heap.size) (hp : B[m]? = some p) (hsp : S p.1)
    (hTa : Touch (fun _ => False) wr wa) (hr3 : Rw w3 3 A3 c3 ((B.take m).map idv ++ [idv p])) (hT3 : Touch (fun b => ∃ a, A1 = some a ∧ a.block = b) wa w3) (hf3 : ∀ a, A3 = some a → (∃ a0, A1 = some a0 ∧ a0.block = a.block) ∨ wa.heap.size ≤ a.block)
    (hT4 : Touch (fun b => b = p.1) w3 w4) (v : Nat) (hb4 : Blk w4 p.1 34 (jc { p.2 with bytes := v })) (hyes : p.2.bytes ≤ k)
    (hTb : Touch (fun _ => False) w4 wb) (hr5 : Rw w5 3 A5 c5 ((doneL k (B.take m)).map idv ++ [idv p])) (hT5 : Touch (fun b => ∃ a, A2 = some a ∧ a.block = b) wb w5) (hf5 : ∀ a, A5 = some a → (∃ a0, A2 = some a0 ∧ a0.block = a.block) ∨ wb.heap.size ≤ a.block)
    (hT6 : Touch S w5 w6) (h34 : ∀ b cs, Blk w5 b 34 cs → Blk w6 b 34 cs) (hq : Que w6 S q o C k bt nx M (hits k L (B.take (m + 1)))) :
    TickI w1 S q o C k bt nx M L B (m + 1) A3 c3 A5 c5 (n2 + 1) w6 := by
  obtain ⟨h1, h2, h3, h4, h5, h6⟩ := hI.mid hS hp hsp hTa hr3 hT3 hf3 hT4 v hb4
  have hf5' : ∀ a, A5 = some a → w1.heap.size ≤ a.block := fun a ha => by
    rcases hf5 a ha with ⟨a0, h0, h1⟩ | h
    · rw [← h1]; exact hI.f2 a0 h0
    · have := h6.size; have := hTb.size; omega
  have hne5 : ∀ a a', A3 = some a → A5 = some a' → a.block ≠ a'.block := fun a a' ha ha' e => by
    rcases hf5 a' ha' with ⟨a0, h0, e0⟩ | h
    · exact h4 a a0 ha h0 (e.trans e0.symm)
    · have := h1.lt ha; have := hTb.size; omega
  refine ⟨?_, ?_, ?_, h3, hf5', hne5, hq, fun x hx => ?_, ?_⟩
  · exact ((h1.touch hTb (fun _ _ h => h)).touch hT5 (fun a ha ⟨a', ha', e⟩ => h4 a a' ha ha' e.symm)).touch hT6 (fun a ha hs => by have := hS _ hs; have := h3 a ha; omega)
  · rw [doneL_snoc_yes hp hyes, List.map_append]
    exact hr5.touch hT6 (fun a ha hs => by have := hS _ hs; have := hf5' a ha; omega)
  · rw [doneL_snoc_yes hp hyes, List.map_append, List.length_append, hI.l2]; rfl
  · obtain ⟨cs, e1, e2⟩ := h5 x hx
    have e3 := e1.touch hTb (fun h => h)
    exact ⟨cs, h34 _ _ (e3.touch hT5 (fun ⟨a, ha, e⟩ => (h2.touch hTb (fun _ _ h => h)).ne_blk e3 (by decide) a ha e)), e2⟩
  · refine ((h6.trans (hTb.weaken (T := S) (fun _ _ h => h.elim)) (fun _ _ h => h)).trans hT5 (fun b hb ⟨a, ha, e⟩ => ?_)).trans hT6 (fun _ _ h => h)
    have := hI.f2 a ha; omega
end

theorem upd_upd {α : Type} (L : Nat → α) (c : Nat) (u v : α) : upd (upd L c u) c v = upd L c v := by
  funext d
  by_cases h : d = c
  · subst h; rw [upd_same, upd_same]
  · rw [upd_ne _ _ h, upd_ne _ _ h, upd_ne _ _ h]

end Go.Proofs.Ytijdjcmdmppgaaa
