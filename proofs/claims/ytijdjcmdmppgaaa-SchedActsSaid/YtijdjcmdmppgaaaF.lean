/- Add. -/
import Derived.Test.YtijdjcmdmppgaaaE
namespace Go.Proofs.Ytijdjcmdmppgaaa
open Go.RowKit
set_option linter.unusedVariables false

/-- One place is another. -/
def upd {α : Type} (L : Nat → α) (c : Nat) (v : α) : Nat → α := fun d => if d = c then v else L d
theorem upd_same {α : Type} (L : Nat → α) (c : Nat) (v : α) : upd L c v c = v := by simp [upd]
theorem upd_ne {α : Type} (L : Nat → α) {c d : Nat} (v : α) (h : d ≠ c) : upd L c v d = L d := by simp [upd, h]

section
variable {w w2 : World} {S : Nat → Prop} {q o C k bt nx M : Nat} {A : Nat → Option Addr} {cp : Nat → Nat} {L : Nat → List (Nat × Jb)}
theorem QueA.push (h : QueA w S q o C k bt nx M A cp L) (c : Nat) (hc : c < C) (blk : Nat) (j : Jb) (A' : Option Addr) (cap' : Nat)
    (hT : Touch (fun b => ∃ a, A c = some a ∧ a.block = b) w w2) (hr : Rw w2 68 A' cap' ((L c).map pv ++ [pv (blk, j)])) (hblk : Blk w2 blk 34 (jc j)) (hnew : ¬ S blk)
    (hA' : ∀ a, A' = some a → (∃ a0, A c = some a0 ∧ a0.block = a.block) ∨ ¬ S a.block) (hcl : j.client = c) (hb : j.bytes ≤ 9223372036854775807) (hno : ∀ d, d < C → ∀ p ∈ L d, p.2.id ≠ j.id) :
    QueA (w2.setCell ⟨o, c, none⟩ (.slice A' ((L c).length + 1) cap')) (fun b => S b ∨ b = blk ∨ ∃ a, A' = some a ∧ a.block = b) q o C k bt nx (M + 1) (upd A c A') (upd cp c cap') (upd L c (L c ++ [(blk, j)])) := by
  have hTo : Touch (fun b => b = o) w2 (w2.setCell ⟨o, c, none⟩ (.slice A' ((L c).length + 1) cap')) := (Touch.refl (fun b => b = o) w2).setCell (p := ⟨o, c, none⟩) (.inr rfl) _
  obtain ⟨cs, ho, hcs, hce⟩ := h.ho
  have hrow : ∀ d, d < C → ∀ a, A d = some a → ∃ cur, Blk w a.block 68 cur := by
    intro d hd a ha
    rcases h.hr d hd with ⟨h0, _⟩ | ⟨g, cur, hg, hb, _⟩
    · rw [h0] at ha; cases ha
    · rw [hg] at ha; injection ha with ha; subst ha; exact ⟨cur, hb⟩
  have hne : ∀ {b t cs'}, Blk w b t cs' → t ≠ 68 → ¬ ∃ a, A c = some a ∧ a.block = b := by
    rintro b t cs' hb ht ⟨a, ha, rfl⟩
    obtain ⟨cur, hcur⟩ := hrow c hc a ha
    exact hb.ne_ hcur ht rfl
  have ho2 := ho.touch hT (hne ho (by decide))
  have hq2 := h.hq.touch hT (hne h.hq (by decide))
  have hjo : ∀ d p, d < C → p ∈ L d → Blk w2 p.1 34 (jc p.2) := fun d p hd hp => (h.hj d hd p hp).touch hT (hne (h.hj d hd p hp) (by decide))
  have hA'o : ∀ a, A' = some a → a.block ≠ o := by
    intro a ha e
    rcases hr with ⟨h0, _⟩ | ⟨g, cur, hg, hb, _⟩
    · rw [h0] at ha; cases ha
    · rw [hg] at ha; injection ha with ha; subst ha; exact hb.ne_ ho2 (by decide) e
  exact
    { hq := hq2.touch hTo (fun e => by subst e; exact h.hq.ne_ ho (by decide) rfl)
      ho := by
        refine ⟨_, ho2.set_ c _, by simp [hcs], fun d hd => ?_⟩
        by_cases hdc : d = c
        · subst hdc
          simp [upd_same, hcs, hd]
        · rw [Array.getElem?_setIfInBounds_ne (Ne.symm hdc), upd_ne _ _ hdc, upd_ne _ _ hdc, upd_ne _ _ hdc]
          exact hce d hd
      hr := fun d hd => by
        by_cases hdc : d = c
        · subst hdc
          rw [upd_same, upd_same, upd_same, List.map_append]
          exact hr.touch hTo (fun a ha e => hA'o a ha e)
        · rw [upd_ne _ _ hdc, upd_ne _ _ hdc, upd_ne _ _ hdc]
          refine ((h.hr d hd).touch hT (fun a ha ⟨a0, h0, e⟩ => h.ha d c a a0 hd hc hdc ha h0 e.symm)).touch hTo (fun a ha e => ?_)
          obtain ⟨cur, hcur⟩ := hrow d hd a ha
          rw [e] at hcur
          exact hcur.ne_ ho (by decide) rfl
      hj := fun d hd p hp => by
        have key : Blk w2 p.1 34 (jc p.2) := by
          by_cases hdc : d = c
          · subst hdc
            rw [upd_same] at hp
            rcases List.mem_append.1 hp with hp | hp
            · exact hjo d p hd hp
            · simp at hp; subst hp; exact hblk
          · rw [upd_ne _ _ hdc] at hp
            exact hjo d p hd hp
        exact key.touch hTo (fun e => by rw [e] at key; exact key.ne_ ho2 (by decide) rfl)
      hcl := fun d hd p hp => by
        by_cases hdc : d = c
        · subst hdc
          rw [upd_same] at hp
          rcases List.mem_append.1 hp with hp | hp
          · exact h.hcl d hd p hp
          · simp at hp; subst hp; exact hcl
        · rw [upd_ne _ _ hdc] at hp
          exact h.hcl d hd p hp
      ha := fun d e a a' hd he hde ha hae => by
        by_cases hdc : d = c
        · subst hdc
          rw [upd_same] at ha
          rw [upd_ne _ _ (Ne.symm hde)] at hae
          intro hx
          rcases hA' a ha with ⟨a0, h0, h1⟩ | hs
          · exact h.ha d e a0 a' hd he hde h0 hae (h1.trans hx)
          · exact hs (by rw [hx]; exact h.sa e a' he hae)
        · rw [upd_ne _ _ hdc] at ha
          by_cases hec : e = c
          · subst hec
            rw [upd_same] at hae
            intro hx
            rcases hA' a' hae with ⟨a0, h0, h1⟩ | hs
            · exact h.ha d e a a0 hd he hde ha h0 (hx.trans h1.symm)
            · exact hs (by rw [← hx]; exact h.sa d a hd ha)
          · rw [upd_ne _ _ hec] at hae
            exact h.ha d e a a' hd he hde ha hae
      hd := by
        have split : ∀ (d i : Nat) (p : Nat × Jb), d < C → (upd L c (L c ++ [(blk, j)]) d)[i]? = some p → ((L d)[i]? = some p ∧ p ∈ L d) ∨ (d = c ∧ i = (L c).length ∧ p = (blk, j)) := by
          intro d i p hd hp
          by_cases hdc : d = c
          · subst hdc
            rw [upd_same] at hp
            by_cases hi : i < (L d).length
            · rw [List.getElem?_append_left hi] at hp
              exact .inl ⟨hp, List.mem_of_getElem? hp⟩
            · rw [List.getElem?_append_right (by omega)] at hp
              have : i - (L d).length = 0 := by
                rcases Nat.eq_zero_or_pos (i - (L d).length) with h | h
                · exact h
                · rw [List.getElem?_eq_none (by simp; omega)] at hp; cases hp
              rw [this] at hp
              simp at hp
              exact .inr ⟨rfl, by omega, hp.symm⟩
          · rw [upd_ne _ _ hdc] at hp
            exact .inl ⟨hp, List.mem_of_getElem? hp⟩
        intro d e i i' p p' hd he hp hp' heq
        rcases split d i p hd hp with ⟨h1, m1⟩ | ⟨rfl, rfl, rfl⟩
        · rcases split e i' p' he hp' with ⟨h2, m2⟩ | ⟨rfl, rfl, rfl⟩
          · exact h.hd d e i i' p p' hd he h1 h2 heq
          · rcases heq with e1 | e1
            · exact absurd (show S blk from (show p.1 = blk from e1) ▸ h.sj d hd p m1) hnew
            · exact absurd e1 (hno d hd p m1)
        · rcases split e i' p' he hp' with ⟨h2, m2⟩ | ⟨rfl, rfl, rfl⟩
          · rcases heq with e1 | e1
            · exact absurd (show S blk from (show blk = p'.1 from e1).symm ▸ h.sj e he p' m2) hnew
            · exact absurd e1.symm (hno e he p' m2)
          · exact ⟨rfl, rfl⟩
      hC := h.hC, hnx := h.hnx, hk := h.hk, hbt := h.hbt
      hb := fun d hd p hp => by
        by_cases hdc : d = c
        · subst hdc
          rw [upd_same] at hp
          rcases List.mem_append.1 hp with hp | hp
          · exact h.hb d hd p hp
          · simp at hp; subst hp; exact hb
        · rw [upd_ne _ _ hdc] at hp
          exact h.hb d hd p hp
      hl := fun d hd => by
        by_cases hdc : d = c
        · subst hdc
          rw [upd_same]
          have := h.hl d hd
          simp; omega
        · rw [upd_ne _ _ hdc]
          have := h.hl d hd
          omega
      sq := .inl h.sq, so := .inl h.so
      sa := fun d a hd ha => by
        by_cases hdc : d = c
        · subst hdc
          rw [upd_same] at ha
          exact .inr (.inr ⟨a, ha, rfl⟩)
        · rw [upd_ne _ _ hdc] at ha
          exact .inl (h.sa d a hd ha)
      sj := fun d hd p hp => by
        by_cases hdc : d = c
        · subst hdc
          rw [upd_same] at hp
          rcases List.mem_append.1 hp with hp | hp
          · exact .inl (h.sj d hd p hp)
          · simp at hp; subst hp; exact .inr (.inl rfl)
        · rw [upd_ne _ _ hdc] at hp
          exact .inl (h.sj d hd p hp)
      slt := fun b hb => by
        rw [show (w2.setCell ⟨o, c, none⟩ (.slice A' ((L c).length + 1) cap')).heap.size = w2.heap.size from by simp [World.setCell]]
        rcases hb with hb | rfl | ⟨a, ha, rfl⟩
        · exact Nat.lt_of_lt_of_le (h.slt b hb) hT.size
        · exact hblk.lt
        · exact hr.lt ha }
end

end Go.Proofs.Ytijdjcmdmppgaaa
