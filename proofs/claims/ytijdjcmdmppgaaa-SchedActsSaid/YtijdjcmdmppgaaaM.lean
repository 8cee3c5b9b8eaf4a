/- picked: what is picked; its loop's two sides. -/
import Derived.Test.YtijdjcmdmppgaaaL
namespace Go.Proofs.Ytijdjcmdmppgaaa
open Go.RowKit
set_option linter.unusedVariables false

attribute [local go_sem] Oper.semAt_some

/-- One more oldest request. -/
def pk (b : Nat) (P : List (Nat × Jb)) (x : Nat × Jb) : List (Nat × Jb) :=
  if P.length = b then P else match P with
    | [] => [x]
    | y :: t => if x.2.cls = y.2.cls then y :: t ++ [x] else y :: t
/-- What is picked out of these. -/
def picks (b : Nat) (xs : List (Nat × Jb)) : List (Nat × Jb) := xs.foldl (pk b) []
theorem picks_snoc (b : Nat) (xs : List (Nat × Jb)) (x : Nat × Jb) : picks b (xs ++ [x]) = pk b (picks b xs) x := by simp [picks]
theorem picks_full (b : Nat) (xs ys : List (Nat × Jb)) (h : (picks b xs).length = b) : picks b (xs ++ ys) = picks b xs := by
  induction ys generalizing xs with
  | nil => simp
  | cons y ys ih =>
    have e : picks b (xs ++ [y]) = picks b xs := by rw [picks_snoc]; unfold pk; rw [if_pos h]
    rw [show xs ++ y :: ys = (xs ++ [y]) ++ ys from by simp, ih (xs ++ [y]) (by rw [e]; exact h), e]
theorem pk_len (b : Nat) (P : List (Nat × Jb)) (x : Nat × Jb) : (pk b P x).length ≤ P.length + 1 := by
  unfold pk
  split
  · omega
  · cases P with
    | nil => simp
    | cons y t => dsimp only; split <;> simp
theorem picks_len (b : Nat) (xs : List (Nat × Jb)) : (picks b xs).length ≤ xs.length := by
  suffices ∀ P, (xs.foldl (pk b) P).length ≤ P.length + xs.length by simpa [picks] using this []
  induction xs with
  | nil => intro P; simp
  | cons x xs ih => intro P; have := ih (pk b P x); have := pk_len b P x; simp at *; omega

/-- A request of the queue. -/
abbrev Own1 (C : Nat) (L : Nat → List (Nat × Jb)) : Type := { p : Nat × Jb // ∃ c, c < C ∧ p ∈ L c }

theorem touch_of_below {w w' : World} (h : Below w.heap.size w w') : Touch (fun _ => False) w w' :=
  ⟨h.os, h.tape, h.output, h.size, fun k hk _ => h.block k hk⟩

theorem oldest1_stops (n : Nat) (hn : 1 ≤ n) (bq bf ob N0 : Nat) (S : Nat → Prop) (q o C k bt nx M : Nat) (L : Nat → List (Nat × Jb)) (w : World)
    (hQ : Que w S q o C k bt nx M L) (hM : M ≤ 10000) (hbq : w.cell? ⟨bq, 0, none⟩ = some (.pointer (some ⟨q, 0, none⟩))) (hbf : w.cell? ⟨bf, 0, none⟩ = some (.int .i64 nx))
    (nq : ¬ (bq = ob ∨ N0 ≤ bq)) (nf : ¬ (bf = ob ∨ N0 ≤ bf)) (nS : ∀ b, S b → ¬ (b = ob ∨ N0 ≤ b)) :
    SeqStopsK Fence.wide n Try.prog 34 #[.pointer (some ⟨bq, 0, none⟩), .pointer (some ⟨bf, 0, none⟩)] (fun x : Own1 C L => #[pv x.1]) (Kp ob N0) (fun xs => xs.map (·.1) = heads L C nx C) (fun pre => pre.map (·.1) <+: heads L C nx C) C w := by
  intro l J Jx W hW hJ hJx hY h0
  have hT := touch_of_below hW
  refine CallsIn.mono (oldest1_in n hn l bq bf ob N0 S q o C k bt nx M L (fun pre W => ∃ pre' : List (Own1 C L), pre'.map (·.1) = pre ∧ J pre' W) (fun pre W => ∃ pre' : List (Own1 C L), pre'.map (·.1) = pre ∧ Jx pre' W) W (hQ.touch hT (fun _ _ h => h)) hM (hT.cell hbq (fun h => h)) (hT.cell hbf (fun h => h)) nq nf nS ?_ ?_ ⟨[], rfl, h0⟩) ?_
  · rintro s X Y row ⟨pre', e, hs⟩ hg hr
    exact ⟨pre', e, hJ pre' X Y row hs hg hr⟩
  · rintro pre x W1 hx ⟨pre', rfl, hs⟩ hlen
    refine YieldAt.mono (hY pre' ⟨x, hx⟩ W1 hs (by simpa using hlen)) ?_
    rintro e W' (⟨rfl, hJ', hk⟩ | ⟨rfl, hJx'⟩)
    · exact .inl ⟨rfl, ⟨pre' ++ [⟨x, hx⟩], by simp, hJ'⟩, hk⟩
    · exact .inr ⟨rfl, ⟨pre' ++ [⟨x, hx⟩], by simp, hJx'⟩⟩
  · rintro e W' ⟨hv, (⟨ys, rfl, pre', hp, hJ'⟩ | ⟨pre, hpre, pre', rfl, hJx'⟩)⟩
    · exact ⟨hv, .inl ⟨pre', hp, hJ'⟩⟩
    · exact ⟨hv, .inr ⟨pre', hpre, hJx'⟩⟩

/-- What the loop keeps: 'out' holds what has been picked. -/
def PkI (C bt ob N0 : Nat) (L : Nat → List (Nat × Jb)) (W0 : World) (pre : List (Own1 C L)) (W : World) : Prop :=
  ∃ (A : Option Addr) (cap : Nat), Blk W ob 67 #[.slice A (picks bt (pre.map (·.1))).length cap] ∧ Rw W 68 A cap ((picks bt (pre.map (·.1))).map pv) ∧ (∀ a, A = some a → N0 ≤ a.block) ∧ Touch (fun b => b = ob ∨ N0 ≤ b) W0 W

theorem blk_grown {X Y : World} {row : Option Nat} {b : Nat} {t : TypeId} {cs : Array Value} (h : Blk X b t cs) (hg : X.grownBy Y row) (hr : ∀ r, row = some r → ∃ o : Obj, X.heap[r]? = some o ∧ o.isCells = false) : Blk Y b t cs := by
  refine (hg.block b h.lt (fun e => ?_)).trans h
  obtain ⟨o, ho, hc⟩ := hr b e.symm
  unfold Blk at h
  rw [h] at ho
  cases ho
  cases hc
theorem rw_grown {X Y : World} {row : Option Nat} {t : TypeId} {A : Option Addr} {cap : Nat} {vs : List Value} (h : Rw X t A cap vs) (hg : X.grownBy Y row) (hr : ∀ r, row = some r → ∃ o : Obj, X.heap[r]? = some o ∧ o.isCells = false) : Rw Y t A cap vs := by
  rcases h with h | ⟨g, cur, rfl, hb, hrest⟩
  · exact .inl h
  · exact .inr ⟨g, cur, rfl, blk_grown hb hg hr, hrest⟩
theorem touch_grown {S : Nat → Prop} {W0 X Y : World} {row : Option Nat} (h : Touch S W0 X) (hg : X.grownBy Y row) (hr : ∀ r, row = some r → S r) : Touch S W0 Y :=
  h.trans ⟨hg.os, hg.tape, hg.output, hg.size, fun k hk hs => hg.block k hk (fun e => hs (hr k e.symm))⟩ (fun _ _ h => h)

theorem pkI_own (C bt ob N0 : Nat) (L : Nat → List (Nat × Jb)) (W0 : World) : OwnFrom N0 (PkI C bt ob N0 L W0) := by
  rintro s X Y row ⟨A, cap, h1, h2, h3, h4⟩ hg hr
  have hr' : ∀ r, row = some r → ∃ o : Obj, X.heap[r]? = some o ∧ o.isCells = false := fun r e => (hr r e).2
  exact ⟨A, cap, blk_grown h1 hg hr', rw_grown h2 hg hr', h3, touch_grown h4 hg (fun r e => .inr (hr r e).1)⟩

theorem keepsOthers_of_touch {S : Nat → Prop} {W W' : World} (h : Touch S W W') (hS : ∀ b o, S b → W.heap[b]? = some o → o.isCells = true) : KeepsOthers W W' :=
  ⟨h.size, fun k o hk ho => by
    rw [h.block k (Array.getElem?_eq_some_iff.1 hk).1 (fun hs => by rw [hS k o hs hk] at ho; cases ho)]
    exact hk⟩
theorem blk_cells {w : World} {b : Nat} {t : TypeId} {cs : Array Value} (h : Blk w b t cs) (o : Obj) (ho : w.heap[b]? = some o) : o.isCells = true := by
  unfold Blk at h; rw [h] at ho; cases ho; rfl
theorem rw_cells {w : World} {t : TypeId} {A : Option Addr} {cap : Nat} {vs : List Value} (h : Rw w t A cap vs) (b : Nat) (o : Obj) (hb : ∃ a, A = some a ∧ a.block = b) (ho : w.heap[b]? = some o) : o.isCells = true := by
  obtain ⟨a, ha, rfl⟩ := hb
  rcases h with ⟨h0, _⟩ | ⟨g, cur, hg, hb, _⟩
  · rw [h0] at ha; cases ha
  · rw [hg] at ha; injection ha with ha; subst ha; exact blk_cells hb o ho
theorem picks_mem (b : Nat) (xs : List (Nat × Jb)) : ∀ p ∈ picks b xs, p ∈ xs := by
  suffices ∀ P, ∀ p ∈ xs.foldl (pk b) P, p ∈ P ∨ p ∈ xs by
    intro p hp
    rcases this [] p hp with h | h
    · simp at h
    · exact h
  induction xs with
  | nil => intro P p hp; exact .inl hp
  | cons x xs ih =>
    intro P p hp
    rcases ih (pk b P x) p hp with h | h
    · have : p ∈ P ∨ p = x := by
        unfold pk at h
        split at h
        · exact .inl h
        · cases P with
          | nil => simp at h; exact .inr h
          | cons y t =>
            dsimp only at h
            split at h
            · rcases List.mem_append.1 h with h | h
              · exact .inl h
              · simp at h; exact .inr h
            · exact .inl h
      rcases this with h | h
      · exact .inl h
      · exact .inr (by rw [h]; simp)
    · exact .inr (List.mem_cons_of_mem _ h)

/-- Behind a round that has picked one more. -/
theorem pk_push {C bt ob N0 : Nat} {L : Nat → List (Nat × Jb)} {W0 W W5 w3 : World} {A2 A3 : Option Addr} {cap2 cap3 : Nat} {P : List (Nat × Jb)} {pre : List (Own1 C L)} {x : Own1 C L}
    (hb : Blk W ob 67 #[.slice A2 P.length cap2]) (hr : Rw W 68 A2 cap2 (P.map pv)) (hf : ∀ a, A2 = some a → N0 ≤ a.block) (hT : Touch (fun b => b = ob ∨ N0 ≤ b) W0 W) (hN : N0 ≤ W.heap.size)
    (hP1 : picks bt ((pre ++ [x]).map (·.1)) = P ++ [x.1]) (hT5 : Touch (fun _ => False) W W5) (hr3 : Rw w3 68 A3 cap3 (P.map pv ++ [pv x.1])) (hT3 : Touch (fun b => ∃ a, A2 = some a ∧ a.block = b) W5 w3)
    (hf3 : ∀ a, A3 = some a → (∃ a0, A2 = some a0 ∧ a0.block = a.block) ∨ W5.heap.size ≤ a.block) :
    KeepsOthers W (w3.setCell ⟨ob, 0, none⟩ (.slice A3 (P.length + 1) cap3)) ∧ Kp ob N0 W (w3.setCell ⟨ob, 0, none⟩ (.slice A3 (P.length + 1) cap3)) ∧ PkI C bt ob N0 L W0 (pre ++ [x]) (w3.setCell ⟨ob, 0, none⟩ (.slice A3 (P.length + 1) cap3)) := by
  have hT4 : Touch (fun b => b = ob ∨ ∃ a, A2 = some a ∧ a.block = b) W (w3.setCell ⟨ob, 0, none⟩ (.slice A3 (P.length + 1) cap3)) :=
    ((hT5.weaken (fun _ _ h => h.elim)).trans hT3 (fun _ _ h => .inr h)).setCell (p := ⟨ob, 0, none⟩) (.inr (.inl rfl)) _
  have hK : Kp ob N0 W (w3.setCell ⟨ob, 0, none⟩ (.slice A3 (P.length + 1) cap3)) := Touch.weaken hT4 (fun b _ h => by
    rcases h with h | ⟨a, ha, rfl⟩
    · exact .inl h
    · exact .inr (hf a ha))
  have hob : ∀ a, A2 = some a → a.block ≠ ob := hr.ne_blk hb (by decide)
  have hb5 := hb.touch hT5 (fun h => h)
  have hb3 := hb5.touch hT3 (fun ⟨a, ha, e⟩ => hob a ha e)
  have hob3 : ∀ a, A3 = some a → a.block ≠ ob := hr3.ne_blk hb3 (by decide)
  refine ⟨keepsOthers_of_touch hT4 (fun b o h ho => ?_), hK, A3, cap3, ?_, ?_, fun a ha => ?_, Touch.trans hT hK (fun _ _ h => h)⟩
  · rcases h with rfl | h
    · exact blk_cells hb o ho
    · exact rw_cells hr b o h ho
  · rw [hP1]
    have := hb3.set_ 0 (.slice A3 (P.length + 1) cap3)
    simpa using this
  · rw [hP1, List.map_append]
    exact hr3.touch ((Touch.refl (fun b => b = ob) w3).setCell (p := ⟨ob, 0, none⟩) (.inr rfl) _) (fun a ha e => hob3 a ha e)
  · rcases hf3 a ha with ⟨a0, h0, h1⟩ | h
    · rw [← h1]; exact hf a0 h0
    · have := hT5.size; omega

theorem oldest_any (w : World) (q : Nat) (nx : Int) :
    Calls Try.prog 33 #[.pointer (some ⟨q, 0, none⟩), .int .i64 nx] w fun e w' => e = .returned (.func (.func 34) #[] #[.pointer (some ⟨w.heap.size, 0, none⟩), .pointer (some ⟨w.heap.size + 1, 0, none⟩)]) ∧ w' = (w.alloc (.cells #[.pointer (some ⟨q, 0, none⟩)] 25)).alloc (.cells #[.int .i64 nx] 3) := by
  go_enter Try.func33, Try.ntmps33
  go_wp2
  go_ret
  exact ⟨rfl, rfl⟩
end Go.Proofs.Ytijdjcmdmppgaaa
