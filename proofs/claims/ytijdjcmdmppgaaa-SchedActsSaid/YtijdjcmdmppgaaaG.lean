/- Add's walk. -/
import Derived.Test.YtijdjcmdmppgaaaF
namespace Go.Proofs.Ytijdjcmdmppgaaa
open Go.RowKit
set_option linter.unusedVariables false

theorem Rw.ne_blk {w : World} {t t' : TypeId} {A : Option Addr} {cap b : Nat} {vs : List Value} {cs : Array Value} (h : Rw w t A cap vs) (hb : Blk w b t' cs) (hne : t ≠ t') : ∀ a, A = some a → a.block ≠ b := by
  intro a ha e
  rcases h with ⟨h0, _⟩ | ⟨g, cur, hg, hbb, _⟩
  · rw [h0] at ha; cases ha
  · rw [hg] at ha; injection ha with ha; subst ha; exact hbb.ne_ hb hne e

theorem wp_rw_push {T t : TypeId} {z : Value} (hE : Elem T t z) {o : Oper} {a : Act} {w : World} {K : Act → World → Prop} {Q : Exit → Act → World → Prop} (hgd : o.guard = none) (s x : Operand)
    (ho : o.op = .call { callee := .builtin .append, args := #[s, x], argTypes := #[T, T] }) (A : Option Addr) (cap n : Nat) (xs : List Value) (hn : xs.length = n) (hv : a.eval s = .slice A n cap) (g : Nat) (v : Value) (hx : a.eval x = .slice (some ⟨g, 0, none⟩) 1 1)
    (hc : w.cell? ⟨g, 0, none⟩ = some v) (h1 : v.oneCell' = true) (h : Rw w t A cap xs) (h1s : ∀ u ∈ xs, u.oneCell' = true) (hb : n + 1 ≤ 100000)
    (hK : ∀ A' cap' w', Rw w' t A' cap' (xs ++ [v]) → Touch (fun b => ∃ a, A = some a ∧ a.block = b) w w' → (∀ a, A' = some a → (∃ a0, A = some a0 ∧ a0.block = a.block) ∨ w.heap.size ≤ a.block) → K (a.put o.dst (.slice A' (n + 1) cap')) w') : o.wp Try.prog a w K Q := by
  subst hn
  obtain ⟨A', cap', w', hrun, hr, hT, hf⟩ := rw_append hE w A cap xs h h1s (.slice (some ⟨g, 0, none⟩) 1 1) 1 [v] (src_one hE hc h1) hb o.type
  unfold Oper.wp
  simp [execOp, ho, resolve, invoke, builtin, hv, hx, hrun, Result.andThen]
  exact hK A' cap' w' hr hT hf

/-- Behind an Add that went well. -/
def AddPost (S : Nat → Prop) (q o C k bt nx M : Nat) (L : Nat → List (Nat × Jb)) (c : Nat) (j : Jb) (w : World) (e : Ending) (w' : World) : Prop :=
  ∃ (S' : Nat → Prop) (blk : Nat), e = .returned (.int .i64 0) ∧ Que w' S' q o C k bt nx (M + 1) (upd L c (L c ++ [(blk, j)])) ∧ Touch S w w' ∧ ∀ b, S' b → S b ∨ w.heap.size ≤ b

theorem add_ok (w : World) (S : Nat → Prop) (q o C k bt nx M c : Nat) (L : Nat → List (Nat × Jb)) (j : Jb) (h : Que w S q o C k bt nx M L) (hM : M ≤ 10000) (hcC : c < C) (hcl : j.client = c) (hb : j.bytes ≤ 9223372036854775807) (hno : ∀ d, d < C → ∀ p ∈ L d, p.2.id ≠ j.id) :
    Calls Try.prog 11 #[.pointer (some ⟨q, 0, none⟩), .agg #[.int .i64 j.id, .int .i64 c, .int .i64 j.cls, .int .i64 j.bytes]] w (AddPost S q o C k bt nx M L c j w) := by
  obtain ⟨A, cp, h⟩ := h
  have hC := h.hC
  obtain ⟨w1, hw1⟩ : ∃ w1, w1 = w.alloc (.cells #[.int .i64 j.id, .int .i64 c, .int .i64 j.cls, .int .i64 j.bytes] 34) := ⟨_, rfl⟩
  have hT1 : Touch (fun _ => False) w w1 := by rw [hw1]; exact (Touch.refl _ w).alloc _
  have hj1 : Blk w1 w.heap.size 34 (jc j) := by rw [hw1]; unfold jc; rw [hcl]; exact Blk.new _ _ _
  have hs1 : w.heap.size < w1.heap.size := by rw [hw1]; simp
  have h1 := h.touch hT1 (fun _ _ h => h)
  have c0 := h1.hq.cell 0
  have j0 := hj1.cell 0
  have j1 := hj1.cell 1
  have j3 := hj1.cell 3
  simp [jc, hcl] at c0 j0 j1 j3
  have g1 : decide ((c : Int) < 0) = false := by simp
  have g2 : decide (C ≤ c) = false := by simp; omega
  have g3 : decide ((j.bytes : Int) < 0) = false := by simp
  have hlt := h.slt
  have HQ := Lib.hid h1
  have HW := Lib.hid hw1
  have HN := Lib.hid (And.intro hcl hno)
  clear h h1 hw1 hcl hno
  go_enter Try.func11, Try.ntmps11
  go_wp2
  rw [← HW.out]
  clear HW
  refine wp_region_qall (by kernel_rfl) (by kernel_rfl) ?_
  repeat (first | go_big_quiet_skip | (go_big_quiet_want; go_big_quiet_op; go_big_quiet_on))
  refine wpQuiet_nil ?_
  go_wp2_with fail
  have hQd : Que w1.drew S q o C k bt nx M L := Que.touch ⟨A, cp, HQ.out⟩ (Touch.refl (fun _ => False) w1).drew (fun _ _ h => h)
  refine (find_any _ S q o C k bt nx M L j.id hQd (by omega)).mono ?_
  rintro e w2 ⟨hT2, (⟨c', i, p, hcC', hi, hid, rfl⟩ | ⟨hall, rfl⟩)⟩
  · exact absurd hid (HN.out.2 c' hcC' p (List.mem_of_getElem? hi))
  clear hall hQd
  have hT12 : Touch (fun _ => False) w1 w2 := (Touch.refl _ w1).drew.trans hT2 (fun _ _ h => h)
  have h2 := HQ.out.touch hT12 (fun _ _ h => h)
  have hj2 := hj1.touch hT12 (fun h => h)
  have hs2 := hT12.size
  clear c0 j0 j1 j3 hT2 HQ hj1
  go_wp2
  obtain ⟨W, hW⟩ : ∃ W, W = w2.drew := ⟨_, rfl⟩
  have hTW : Touch (fun _ => False) w2 W := by rw [hW]; exact (Touch.refl _ w2).drew
  have h3 := h2.touch hTW (fun _ _ h => h)
  have hj3 := hj2.touch hTW (fun h => h)
  have hs3 := hTW.size
  have c0 := h3.hq.cell 0
  have j1 := hj3.cell 1
  simp [jc, HN.out.1] at c0 j1
  obtain ⟨cs, ho, hcs, hce⟩ := h3.ho
  have hco := ho.cell c
  rw [hce c hcC] at hco
  have hfz := ho.frozen c
  have hll := h3.hl c hcC
  obtain ⟨n, hn⟩ : ∃ n, n = (L c).length := ⟨_, rfl⟩
  obtain ⟨Ac, hAc⟩ : ∃ x, x = A c := ⟨_, rfl⟩
  obtain ⟨cpc, hcpc⟩ : ∃ x, x = cp c := ⟨_, rfl⟩
  have hrr := h3.hr c hcC
  rw [← hn, ← hAc, ← hcpc] at hco
  rw [← hAc, ← hcpc] at hrr
  have hlen : ((L c).map pv).length = n := by rw [hn]; simp
  rw [← hn] at hll
  have HL := Lib.hid (And.intro hlen (And.intro hn (And.intro hAc hcpc)))
  have HH := Lib.hid h3
  have HRR := Lib.hid hrr
  have HJ := Lib.hid (And.intro hj3 ho)
  clear h2 hj2 hj3 h3 ho hcs hce hrr hlen hn hAc hcpc
  have hAo : ∀ a, Ac = some a → a.block ≠ o := HRR.out.ne_blk HJ.out.2 (by decide)
  have HAo := Lib.hid hAo
  obtain ⟨R, HS⟩ : ∃ R : World → Prop, Hid (∀ w', R w' ↔ Touch (fun b => ∃ a, Ac = some a ∧ a.block = b) W w') := ⟨_, fun _ => Iff.rfl⟩
  have hAq : ¬ ∃ a, Ac = some a ∧ a.block = q := fun ⟨a, ha, e⟩ => HRR.out.ne_blk HH.out.hq (by decide) a ha e
  have hAj : ¬ ∃ a, Ac = some a ∧ a.block = w.heap.size := fun ⟨a, ha, e⟩ => HRR.out.ne_blk HJ.out.1 (by decide) a ha e
  have hAo' : ¬ ∃ a, Ac = some a ∧ a.block = o := fun ⟨a, ha, e⟩ => HRR.out.ne_blk HJ.out.2 (by decide) a ha e
  have HA := Lib.hid (And.intro hAq (And.intro hAj hAo'))
  have HC := Lib.hid (And.intro c0 (And.intro j1 (And.intro hco hfz)))
  clear hAo hAq hAj hAo' c0 j1 hco hfz
  refine wp_region_gr R 17 [(0, false), (1, false), (2, false), (3, false), (4, false), (5, false), (6, false), (7, false), (8, false), (9, false), (10, false), (11, false), (12, false), (13, false), (14, true), (15, true), (16, false), (17, true)] (by kernel_rfl) (by kernel_rfl) ((HS.out _).2 (by rw [← hW]; exact Touch.refl _ W)) (fun hne => ?_)
  rw [← hW]
  clear hW
  have s0 : ∀ x : SW R, x.w.cell? ⟨q, 0, none⟩ = some (.slice (some ⟨o, 0, none⟩) C C) := fun x => ((HS.out _).1 x.ok).cell HC.out.1 HA.out.1
  have s1 : ∀ x : SW R, x.w.cell? ⟨w.heap.size, 1, none⟩ = some (.int .i64 c) := fun x => ((HS.out _).1 x.ok).cell HC.out.2.1 HA.out.2.1
  have s2 : ∀ x : SW R, x.w.cell? ⟨o, c, none⟩ = some (.slice Ac n cpc) := fun x => ((HS.out _).1 x.ok).cell HC.out.2.2.1 HA.out.2.2
  simp only [withOps, List.filterMap_cons, List.filterMap_nil, Option.map_some, List.getElem?_cons_zero, List.getElem?_cons_succ]
  repeat (refine wpGr_q ?_; (first | go_big_quiet_skip | (go_big_quiet_want; go_big_quiet_op; go_big_quiet_on)); refine wpQuiet_nil ?_)
  clear s0 s1 s2
  refine wpGr_eff rfl (fun K1 hK1 => ?_)
  go_wp2_with fail
  have hA2 : Touch (fun _ => False) W (W.alloc (.cells #[pv (w.heap.size, j)] 68)) := (Touch.refl _ W).alloc _
  refine ⟨.inr ((HS.out _).2 (hA2.weaken (fun _ _ h => h.elim))), ?_⟩
  refine wpGr_eff rfl (fun K2 hK2 => ?_)
  refine wp_rw_push elem67 rfl (.tmp 52) (.tmp 53) rfl Ac cpc n ((L c).map pv) HL.out.1 rfl W.heap.size (pv (w.heap.size, j)) rfl ((Blk.new W 68 #[pv (w.heap.size, j)]).cell 0) rfl (HRR.out.touch hA2 (fun _ _ h => h)) (one_pv _) (by omega) ?_
  intro A2 cap2 w3 hr2 hT2 hf2
  dsimp only [Act.put]
  simp only [List.setIfInBounds_toArray, List.set_cons_succ, List.set_cons_zero]
  have hT23 : Touch (fun b => ∃ a, Ac = some a ∧ a.block = b) W w3 := (hA2.weaken (fun _ _ h => h.elim)).trans hT2 (fun _ _ h => h)
  have hco3 := hT23.cell HC.out.2.2.1 HA.out.2.2
  have hfz3 := (HJ.out.2.touch hT23 HA.out.2.2).frozen c
  have HR2 := Lib.hid hr2
  have HT2 := Lib.hid hT2
  have HF2 := Lib.hid hf2
  refine hK2 _ _ ⟨.inr ((HS.out _).2 hT23), ?_⟩
  clear hr2 hT2 hf2 hT23
  repeat (refine wpGr_q ?_; (first | go_big_quiet_skip | (go_big_quiet_want; go_big_quiet_op; go_big_quiet_on)); refine wpQuiet_nil ?_)
  refine wpGr_eff rfl (fun K3 hK3 => ?_)
  go_wp2_with fail
  refine wpGr_nil ?_
  go_wp2
  go_ret
  obtain ⟨hl1, hn, rfl, rfl⟩ := HL.out
  have hQ4 := HH.out.touch hA2 (fun _ _ h => h)
  have hsz2 : W.heap.size < (W.alloc (.cells #[pv (w.heap.size, j)] 68)).heap.size := by simp
  have hfin := hQ4.push c hcC w.heap.size j A2 cap2 HT2.out HR2.out ((HJ.out.1.touch hA2 (fun h => h)).touch HT2.out (fun ⟨a, ha, e⟩ => HRR.out.ne_blk HJ.out.1 (by decide) a ha e)) (fun hS => Nat.lt_irrefl _ (hlt _ hS)) (fun a ha => by
    rcases HF2.out a ha with h | h
    · exact .inl h
    · exact .inr (fun hS => by have := hlt _ hS; have h' : W.heap.size + 1 ≤ a.block := by simpa using h
                               omega)) HN.out.1 hb HN.out.2
  have hTW4 : Touch S w w3 := ((((hT1.trans hT12 (fun _ _ h => h)).trans hTW (fun _ _ h => h)).trans hA2 (fun _ _ h => h)).weaken (fun _ _ h => h.elim)).trans HT2.out (fun b _ ⟨a, ha, e⟩ => e ▸ hQ4.sa c a hcC ha)
  rw [hn]
  refine ⟨_, w.heap.size, rfl, ⟨_, _, hfin⟩, hTW4.setCell (p := ⟨o, c, none⟩) (.inr hQ4.so) _, fun b hb => ?_⟩
  rcases hb with hb | rfl | ⟨a, ha, rfl⟩
  · exact .inl hb
  · exact .inr (Nat.le_refl _)
  · rcases HF2.out a ha with ⟨a0, h0, h1⟩ | h
    · exact .inl (h1 ▸ hQ4.sa c a0 hcC h0)
    · exact .inr (by have h' : W.heap.size + 1 ≤ a.block := by simpa using h
                     omega)
end Go.Proofs.Ytijdjcmdmppgaaa
