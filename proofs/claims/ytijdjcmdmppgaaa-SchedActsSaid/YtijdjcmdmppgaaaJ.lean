/- Drop. -/
import Derived.Test.YtijdjcmdmppgaaaI
namespace Go.Proofs.Ytijdjcmdmppgaaa
open Go.RowKit
set_option linter.unusedVariables false

theorem map_eraseIdx_ {α β : Type} (f : α → β) (l : List α) (i : Nat) : (l.eraseIdx i).map f = (l.map f).eraseIdx i := by
  apply List.ext_getElem?
  intro j
  simp only [List.getElem?_map, List.getElem?_eraseIdx]
  split <;> rfl

section
variable {w w2 : World} {S : Nat → Prop} {q o C k bt nx M : Nat} {A : Nat → Option Addr} {cp : Nat → Nat} {L : Nat → List (Nat × Jb)}
theorem QueA.cut (h : QueA w S q o C k bt nx M A cp L) (c : Nat) (hc : c < C) (i : Nat) (hi : i < (L c).length)
    (hT : Touch (fun b => ∃ a, A c = some a ∧ a.block = b) w w2) (hr : Rw w2 68 (A c) (cp c) (((L c).map pv).eraseIdx i)) :
    QueA (w2.setCell ⟨o, c, none⟩ (.slice (A c) ((L c).length - 1) (cp c))) S q o C k bt nx M A cp (upd L c ((L c).eraseIdx i)) := by
  have hTo : Touch (fun b => b = o) w2 (w2.setCell ⟨o, c, none⟩ (.slice (A c) ((L c).length - 1) (cp c))) := (Touch.refl (fun b => b = o) w2).setCell (p := ⟨o, c, none⟩) (.inr rfl) _
  obtain ⟨cs, ho, hcs, hce⟩ := h.ho
  have hrow : ∀ d, d < C → ∀ a, A d = some a → ∃ cur, Blk w a.block 68 cur := by
    intro d hd a ha
    rcases h.hr d hd with ⟨h0, _⟩ | ⟨g, cur, hg, hb, _⟩
    · rw [h0] at ha; cases ha
    · rw [hg] at ha; injection ha with ha; subst ha; exact ⟨cur, hb⟩
  have hne : ∀ {b t cs'}, Blk w b t cs' → t ≠ 68 → ¬ ∃ a, A c = some a ∧ a.block = b := by
    rintro b t cs' hb ht ⟨a, ha, rfl⟩
    obtain ⟨cur, hcur⟩ := hrow c hc a ha
    exact hb.ne_ hcur ht rfl
  have ho2 := ho.touch hT (hne ho (by decide))
  have hq2 := h.hq.touch hT (hne h.hq (by decide))
  have hjo : ∀ d p, d < C → p ∈ L d → Blk w2 p.1 34 (jc p.2) := fun d p hd hp => (h.hj d hd p hp).touch hT (hne (h.hj d hd p hp) (by decide))
  have mem : ∀ d p, p ∈ upd L c ((L c).eraseIdx i) d → p ∈ L d := by
    intro d p hp
    by_cases hdc : d = c
    · subst hdc
      rw [upd_same] at hp
      exact List.mem_of_mem_eraseIdx hp
    · rwa [upd_ne _ _ hdc] at hp
  exact
    { hq := hq2.touch hTo (fun e => by subst e; exact h.hq.ne_ ho (by decide) rfl)
      ho := by
        refine ⟨_, ho2.set_ c _, by simp [hcs], fun d hd => ?_⟩
        by_cases hdc : d = c
        · subst hdc
          rw [upd_same, List.length_eraseIdx, if_pos hi]
          simp [hcs, hd]
        · rw [Array.getElem?_setIfInBounds_ne (Ne.symm hdc), upd_ne _ _ hdc]
          exact hce d hd
      hr := fun d hd => by
        by_cases hdc : d = c
        · subst hdc
          rw [upd_same]
          have e : ((L d).eraseIdx i).map pv = ((L d).map pv).eraseIdx i := map_eraseIdx_ pv (L d) i
          rw [e]
          exact hr.touch hTo (fun a ha e => by obtain ⟨cur, hcur⟩ := hrow d hd a ha; rw [e] at hcur; exact hcur.ne_ ho (by decide) rfl)
        · rw [upd_ne _ _ hdc]
          refine ((h.hr d hd).touch hT (fun a ha ⟨a0, h0, e⟩ => h.ha d c a a0 hd hc hdc ha h0 e.symm)).touch hTo (fun a ha e => ?_)
          obtain ⟨cur, hcur⟩ := hrow d hd a ha
          rw [e] at hcur
          exact hcur.ne_ ho (by decide) rfl
      hj := fun d hd p hp => by
        have key := hjo d p hd (mem d p hp)
        exact key.touch hTo (fun e => by rw [e] at key; exact key.ne_ ho2 (by decide) rfl)
      hcl := fun d hd p hp => h.hcl d hd p (mem d p hp)
      ha := h.ha
      hd := by
        have split : ∀ (d j : Nat) (p : Nat × Jb), (upd L c ((L c).eraseIdx i) d)[j]? = some p → ∃ j', (L d)[j']? = some p ∧ (j' = if d = c ∧ i ≤ j then j + 1 else j) := by
          intro d j p hp
          by_cases hdc : d = c
          · subst hdc
            rw [upd_same, List.getElem?_eraseIdx] at hp
            by_cases hji : j < i
            · rw [if_pos hji] at hp
              exact ⟨j, hp, by rw [if_neg (by omega)]⟩
            · rw [if_neg hji] at hp
              exact ⟨j + 1, hp, by rw [if_pos ⟨rfl, by omega⟩]⟩
          · rw [upd_ne _ _ hdc] at hp
            exact ⟨j, hp, by rw [if_neg (by omega)]⟩
        intro d e j j' p p' hd he hp hp' heq
        obtain ⟨x, hx, ex⟩ := split d j p hp
        obtain ⟨y, hy, ey⟩ := split e j' p' hp'
        obtain ⟨rfl, rfl⟩ := h.hd d e x y p p' hd he hx hy heq
        refine ⟨rfl, ?_⟩
        by_cases hdc : d = c
        · simp only [hdc, true_and] at ex ey
          split at ex <;> split at ey <;> omega
        · rw [if_neg (by omega)] at ex ey
          omega
      hC := h.hC, hnx := h.hnx, hk := h.hk, hbt := h.hbt
      hb := fun d hd p hp => h.hb d hd p (mem d p hp)
      hl := fun d hd => by
        by_cases hdc : d = c
        · subst hdc
          rw [upd_same, List.length_eraseIdx, if_pos hi]
          have := h.hl d hd
          omega
        · rw [upd_ne _ _ hdc]
          exact h.hl d hd
      sq := h.sq, so := h.so, sa := h.sa
      sj := fun d hd p hp => h.sj d hd p (mem d p hp)
      slt := fun b hb => by
        rw [show (w2.setCell ⟨o, c, none⟩ (.slice (A c) ((L c).length - 1) (cp c))).heap.size = w2.heap.size from by simp [World.setCell]]
        exact Nat.lt_of_lt_of_le (h.slt b hb) hT.size }
end

/-- Behind a Drop that went well. -/
def DropPost (S : Nat → Prop) (q o C k bt nx M : Nat) (L : Nat → List (Nat × Jb)) (c i : Nat) (w : World) (e : Ending) (w' : World) : Prop :=
  e = .returned (.int .i64 0) ∧ Que w' S q o C k bt nx M (upd L c ((L c).eraseIdx i)) ∧ Touch S w w' ∧ ∀ b cs, Blk w b 34 cs → Blk w' b 34 cs

theorem drop_yes (w : World) (S : Nat → Prop) (q o C k bt nx M c i : Nat) (p : Nat × Jb) (L : Nat → List (Nat × Jb)) (id : Int) (h : Que w S q o C k bt nx M L) (hM : M ≤ 10000) (hcC : c < C) (hi : (L c)[i]? = some p) (hid : p.2.id = id) :
    Calls Try.prog 12 #[.pointer (some ⟨q, 0, none⟩), .int .i64 id] w (DropPost S q o C k bt nx M L c i w) := by
  obtain ⟨A, cp, h⟩ := h
  have hC := h.hC
  have HQ := Lib.hid h
  have HI := Lib.hid (And.intro hi hid)
  clear h hi hid
  go_enter Try.func12, Try.ntmps12
  go_wp2_with fail
  refine (find_any _ S q o C k bt nx M L id ⟨A, cp, HQ.out⟩ (by omega)).mono ?_
  rintro e w2 ⟨hT2, (⟨c', i', p', hcC', hi', hid', rfl⟩ | ⟨hall, rfl⟩)⟩
  case inr => exact absurd HI.out.2 (hall c hcC p (List.mem_of_getElem? HI.out.1))
  obtain ⟨rfl, rfl⟩ := HQ.out.hd c c' i i' p p' hcC hcC' HI.out.1 hi' (.inr (HI.out.2.trans hid'.symm))
  clear hi' hid' hcC' p'
  go_wp2
  obtain ⟨W, hW⟩ : ∃ W, W = w2.drew := ⟨_, rfl⟩
  have hTW : Touch (fun _ => False) w W := by rw [hW]; exact hT2.drew
  have h3 := HQ.out.touch hTW (fun _ _ h => h)
  have c0 := h3.hq.cell 0
  simp at c0
  obtain ⟨cs, ho, hcs, hce⟩ := h3.ho
  have hco := ho.cell c
  rw [hce c hcC] at hco
  have hfz := ho.frozen c
  have hll := h3.hl c hcC
  have hilt : i < (L c).length := by
    rcases Nat.lt_or_ge i (L c).length with h | h
    · exact h
    · have := HI.out.1; rw [List.getElem?_eq_none h] at this; cases this
  obtain ⟨n, hn⟩ : ∃ n, (L c).length = n + 1 := ⟨(L c).length - 1, by omega⟩
  obtain ⟨Ac, hAc⟩ : ∃ x, x = A c := ⟨_, rfl⟩
  obtain ⟨cpc, hcpc⟩ : ∃ x, x = cp c := ⟨_, rfl⟩
  have hrr := h3.hr c hcC
  rw [hn, ← hAc, ← hcpc] at hco
  rw [← hAc, ← hcpc] at hrr
  have hlen : ((L c).map pv).length = n + 1 := by rw [← hn]; simp
  rw [hn] at hll hilt
  have HL := Lib.hid (And.intro hlen (And.intro hn (And.intro hAc hcpc)))
  have HH := Lib.hid h3
  have HRR := Lib.hid hrr
  have HJ := Lib.hid ho
  clear h3 ho hcs hce hrr hlen hn hAc hcpc
  obtain ⟨R, HS⟩ : ∃ R : World → Prop, Hid (∀ w', R w' ↔ Touch (fun b => ∃ a, Ac = some a ∧ a.block = b) W w') := ⟨_, fun _ => Iff.rfl⟩
  have hAq : ¬ ∃ a, Ac = some a ∧ a.block = q := fun ⟨a, ha, e⟩ => HRR.out.ne_blk HH.out.hq (by decide) a ha e
  have hAo' : ¬ ∃ a, Ac = some a ∧ a.block = o := fun ⟨a, ha, e⟩ => HRR.out.ne_blk HJ.out (by decide) a ha e
  have HA := Lib.hid (And.intro hAq hAo')
  have HC := Lib.hid (And.intro c0 (And.intro hco hfz))
  clear hAq hAo' c0 hco hfz
  refine wp_region_gr R 17 [(0, false), (1, false), (2, false), (3, false), (4, false), (5, false), (6, false), (7, false), (8, false), (9, false), (10, false), (11, false), (12, false), (13, false), (14, false), (15, true), (16, false), (17, true)] (by kernel_rfl) (by kernel_rfl) ((HS.out _).2 (by rw [← hW]; exact Touch.refl _ W)) (fun hne => ?_)
  rw [← hW]
  clear hW
  have s0 : ∀ x : SW R, x.w.cell? ⟨q, 0, none⟩ = some (.slice (some ⟨o, 0, none⟩) C C) := fun x => ((HS.out _).1 x.ok).cell HC.out.1 HA.out.1
  have s2 : ∀ x : SW R, x.w.cell? ⟨o, c, none⟩ = some (.slice Ac (n + 1) cpc) := fun x => ((HS.out _).1 x.ok).cell HC.out.2.1 HA.out.2
  simp only [withOps, List.filterMap_cons, List.filterMap_nil, Option.map_some, List.getElem?_cons_zero, List.getElem?_cons_succ]
  repeat (refine wpGr_q ?_; (first | go_big_quiet_skip | (go_big_quiet_want; go_big_quiet_op; go_big_quiet_on)); refine wpQuiet_nil ?_)
  clear s0 s2
  refine wpGr_eff rfl (fun K1 hK1 => ?_)
  go_wp2_with fail
  refine (del_any _ Ac cpc n ((L c).map pv) i HL.out.1 (by omega) HRR.out (one_pv _) (by omega)).mono ?_
  rintro e w3 ⟨rfl, hr3, hT3⟩
  refine hK1 _ _ ⟨.inr ((HS.out _).2 hT3), ?_⟩
  have hco3 := hT3.cell HC.out.2.1 HA.out.2
  have hfz3 := (HJ.out.touch hT3 HA.out.2).frozen c
  have HR3 := Lib.hid hr3
  have HT3 := Lib.hid hT3
  clear hr3 hT3
  repeat (refine wpGr_q ?_; (first | go_big_quiet_skip | (go_big_quiet_want; go_big_quiet_op; go_big_quiet_on)); refine wpQuiet_nil ?_)
  refine wpGr_eff rfl (fun K3 hK3 => ?_)
  go_wp2_with fail
  refine wpGr_nil ?_
  go_wp2
  go_ret
  obtain ⟨hl1, hn, rfl, rfl⟩ := HL.out
  have hfin := HH.out.cut c hcC i (by omega) HT3.out HR3.out
  rw [hn, Nat.add_sub_cancel] at hfin
  have hTf : Touch S w (w3.setCell ⟨o, c, none⟩ (.slice (A c) n (cp c))) := ((hTW.weaken (fun _ _ h => h.elim)).trans HT3.out (fun b _ ⟨a, ha, e⟩ => e ▸ HH.out.sa c a hcC ha)).setCell (p := ⟨o, c, none⟩) (.inr HH.out.so) _
  refine ⟨rfl, ⟨_, _, hfin⟩, hTf, fun b cs' hb => ?_⟩
  have hbW := hb.touch hTW (fun h => h)
  exact (hbW.touch HT3.out (fun ⟨a, ha, e⟩ => HRR.out.ne_blk hbW (by decide) a ha e)).far (p := ⟨o, c, none⟩) (hbW.ne_ HJ.out (by decide)) _

theorem drop_no (w : World) (S : Nat → Prop) (q o C k bt nx M : Nat) (L : Nat → List (Nat × Jb)) (id : Int) (h : Que w S q o C k bt nx M L) (hM : M ≤ 10000) (hno : ∀ d, d < C → ∀ p ∈ L d, p.2.id ≠ id) :
    Calls Try.prog 12 #[.pointer (some ⟨q, 0, none⟩), .int .i64 id] w fun e w' => e = .returned (.int .i64 15) ∧ Touch (fun _ => False) w w' := by
  have HQ := Lib.hid h
  have HN := Lib.hid hno
  clear h hno
  go_enter Try.func12, Try.ntmps12
  go_wp2_with fail
  refine (find_any _ S q o C k bt nx M L id HQ.out (by omega)).mono ?_
  rintro e w2 ⟨hT2, (⟨c', i', p', hcC', hi', hid', rfl⟩ | ⟨hall, rfl⟩)⟩
  case inl => exact absurd hid' (HN.out c' hcC' p' (List.mem_of_getElem? hi'))
  clear hall
  go_wp2
  go_ret
  exact ⟨rfl, hT2⟩
theorem drop_nil (w : World) (id : Int) :
    Calls Try.prog 12 #[.pointer none, .int .i64 id] w fun e w' => e = .returned (.int .i64 15) ∧ Touch (fun _ => False) w w' := by
  go_enter Try.func12, Try.ntmps12
  go_wp2_with fail
  refine (find_nil _ id).mono ?_
  rintro e w2 ⟨rfl, hT2⟩
  go_wp2
  go_ret
  exact ⟨rfl, hT2⟩
end Go.Proofs.Ytijdjcmdmppgaaa
