/- The document's queue: New, Add. -/
import Derived.Test.YtijdjcmdmppgaaaRefB
namespace Go.Proofs.Ytijdjcmdmppgaaa
open Go.RowKit
set_option linter.unusedVariables false

theorem rnew_ok (w : World) (C k bt : Nat) (h1 : 1 ≤ C) (h2 : C ≤ 8) (h3 : 1 ≤ k) (h4 : k ≤ 4096) (h5 : 1 ≤ bt) (h6 : bt ≤ 16) :
    Calls Try.prog 18 #[.int .i64 C, .int .i64 k, .int .i64 bt] w fun e w' => ∃ (T : Nat → Prop) (r : Nat), e = .returned (.tuple #[.pointer (some ⟨r, 0, none⟩), .bool true]) ∧ Rq w' T r C k bt 0 0 [] ∧ Touch (fun _ => False) w w' ∧ (∀ b, T b → w.heap.size ≤ b) := by
  go_enter Try.func18, Try.ntmps18
  go_wp2
  go_ret2
  refine ⟨fun b => b = w.heap.size, w.heap.size, rfl, ⟨none, 0, Blk.new _ _ _, RwJ.nil _, rfl, (fun a ha => by cases ha), (fun b hb => by rw [hb]; simp), (by simp), (fun j hj => by cases hj), (fun j hj => by cases hj), (fun i i' j j' h => by simp at h)⟩, (Touch.refl _ w).alloc _, fun b hb => by rw [hb]; exact Nat.le_refl _⟩
theorem RwJ.ne_blk {w : World} {t' : TypeId} {A : Option Addr} {cap b : Nat} {l : List Jb} {cs : Array Value} (h : RwJ w A cap l) (hb : Blk w b t' cs) (hne : 31 ≠ t') : ∀ a, A = some a → a.block ≠ b := by
  intro a ha e
  rcases h with ⟨h0, _⟩ | ⟨g, cur, hg, hbb, _⟩
  · rw [h0] at ha; cases ha
  · rw [hg] at ha; injection ha with ha; subst ha; exact hbb.ne_ hb hne e
theorem RqA.put {w w3 : World} {T : Nat → Prop} {r C k bt nx M M' : Nat} {l l' : List Jb} {A A2 : Option Addr} {cap cap2 : Nat} (h : RqA w T r C k bt nx M l A cap) (hT : Touch (fun b => ∃ a, A = some a ∧ a.block = b) w w3) (hr : RwJ w3 A2 cap2 l')
    (hf : ∀ a, A2 = some a → (∃ a0, A = some a0 ∧ a0.block = a.block) ∨ w.heap.size ≤ a.block) (n : Nat) (hn : l'.length = n) (hM : n ≤ M') (hcl : ∀ j ∈ l', j.client < C) (hby : ∀ j ∈ l', j.bytes ≤ 9223372036854775807) (hid : ∀ (i i' : Nat) (j j' : Jb), l'[i]? = some j → l'[i']? = some j' → j.id = j'.id → i = i') :
    RqA (w3.setCell ⟨r, 0, none⟩ (.slice A2 n cap2)) (fun x => T x ∨ ∃ a, A2 = some a ∧ a.block = x) r C k bt nx M' l' A2 cap2 := by
  subst hn
  have hAr := h.row.ne_blk h.blk (by decide)
  have hb3 := h.blk.touch hT (fun ⟨a, ha, e⟩ => hAr a ha e)
  have hA2r := hr.ne_blk hb3 (by decide)
  have ht : Touch (fun b => b = r) w3 (w3.setCell ⟨r, 0, none⟩ (.slice A2 l'.length cap2)) := (Touch.refl (fun b => b = r) w3).setCell (p := ⟨r, 0, none⟩) (.inr rfl) _
  refine ⟨?_, hr.touch ht (fun a ha e => hA2r a ha e), .inl h.own, fun a ha => .inr ⟨a, ha, rfl⟩, fun b hb => ?_, hM, hcl, hby, hid⟩
  · have := hb3.set_ 0 (.slice A2 l'.length cap2)
    simpa using this
  · rcases hb with hb | ⟨a, ha, rfl⟩
    · have := h.lt b hb; have := hT.size; have := ht.size; omega
    · have := hr.lt ha; have := ht.size; omega
theorem snoc_uniq {l : List Jb} {x : Jb} (h : ∀ (i i' : Nat) (j j' : Jb), l[i]? = some j → l[i']? = some j' → j.id = j'.id → i = i') (hx : ∀ (i : Nat) (y : Jb), l[i]? = some y → y.id ≠ x.id) :
    ∀ (i i' : Nat) (j j' : Jb), (l ++ [x])[i]? = some j → (l ++ [x])[i']? = some j' → j.id = j'.id → i = i' := by
  have key : ∀ (i : Nat) (j : Jb), (l ++ [x])[i]? = some j → (l[i]? = some j ∧ i < l.length) ∨ (i = l.length ∧ j = x) := by
    intro i j h
    rcases Nat.lt_trichotomy i l.length with hlt | he | hgt
    · rw [List.getElem?_append_left hlt] at h; exact .inl ⟨h, hlt⟩
    · subst he; simp at h; exact .inr ⟨rfl, h.symm⟩
    · rw [List.getElem?_eq_none (by simp; omega)] at h; cases h
  intro i i' j j' hi hi' e
  rcases key i j hi with ⟨h1, h2⟩ | ⟨h1, h2⟩ <;> rcases key i' j' hi' with ⟨k1, k2⟩ | ⟨k1, k2⟩
  · exact h i i' j j' h1 k1 e
  · exact absurd (e.trans (by rw [k2])) (hx i j h1)
  · exact absurd (e.symm.trans (by rw [h2])) (hx i' j' k1)
  · omega
def RAddOk (C : Nat) (l : List Jb) (id cl b : Int) : Prop := 0 ≤ cl ∧ cl < (C : Int) ∧ 0 ≤ b ∧ ∀ j ∈ l, j.id ≠ id
def RAdd (T : Nat → Prop) (r C k bt nx M : Nat) (l : List Jb) (id cl cls b : Int) (w : World) (e : Ending) (w' : World) : Prop :=
  ∃ (v : Int) (T' : Nat → Prop) (l' : List Jb), e = .returned (.int .i64 v) ∧ Rq w' T' r C k bt nx (M + 1) l' ∧ Touch T w w' ∧ (∀ x, T' x → T x ∨ w.heap.size ≤ x) ∧
    ((v = 0 ∧ RAddOk C l id cl b ∧ l' = l ++ [⟨id, cl.toNat, cls, b.toNat⟩]) ∨ (v = 1 ∧ ¬ RAddOk C l id cl b ∧ l' = l))
set_option maxHeartbeats 2000000 in
theorem radd_any (w : World) (T : Nat → Prop) (r C k bt nx M : Nat) (l : List Jb) (id cl cls b : Int) (h : Rq w T r C k bt nx M l) (hM : M ≤ 5000) (hbm : b ≤ 9223372036854775807) :
    Calls Try.prog 19 #[.pointer (some ⟨r, 0, none⟩), .agg #[.int .i64 id, .int .i64 cl, .int .i64 cls, .int .i64 b]] w (RAdd T r C k bt nx M l id cl cls b w) := by
  obtain ⟨w1, hw1⟩ : ∃ w1, w1 = w.alloc (.cells #[.int .i64 id, .int .i64 cl, .int .i64 cls, .int .i64 b] 31) := ⟨_, rfl⟩
  have hT1 : Touch (fun _ => False) w w1 := by rw [hw1]; exact (Touch.refl _ w).alloc _
  have hb0 : Blk w1 w.heap.size 31 #[.int .i64 id, .int .i64 cl, .int .i64 cls, .int .i64 b] := by rw [hw1]; exact Blk.new _ _ _
  have h1 := h.touch hT1 (fun _ _ h => h)
  have hlt := h.lt
  obtain ⟨A, cap, h1⟩ := h1
  obtain ⟨n, hn⟩ : ∃ n, l.length = n := ⟨_, rfl⟩
  have c0 := h1.blk.cell 0
  have c1 := h1.blk.cell 1
  have y0 := hb0.cell 0
  have y1 := hb0.cell 1
  have y3 := hb0.cell 3
  simp [hn] at c0 c1 y0 y1 y3
  have HW := Lib.hid hw1
  have HB := Lib.hid hb0
  have HH := Lib.hid h1
  have HN := Lib.hid hn
  have hrej : ¬ RAddOk C l id cl b → ∀ w2 : World, w2 = w1 ∨ w2 = w1.drew → RAdd T r C k bt nx M l id cl cls b w (.returned (.int .i64 1)) w2 := by
    intro hno w2 hw2
    refine ⟨1, T, l, rfl, ?_, ?_, fun x hx => .inl hx, .inr ⟨rfl, hno, rfl⟩⟩
    · rcases hw2 with rfl | rfl
      · exact Rq.mono ⟨A, cap, HH.out⟩ (by omega)
      · exact (Rq.touch ⟨A, cap, HH.out⟩ (Touch.refl (fun _ => False) w1).drew (fun _ _ h => h)).mono (by omega)
    · rcases hw2 with rfl | rfl
      · exact hT1.weaken (fun _ _ h => h.elim)
      · exact hT1.drew.weaken (fun _ _ h => h.elim)
  clear hw1 hb0 h1 hn h
  by_cases k1 : cl < 0
  · have hno := hrej (fun h => by have := h.1; omega)
    have g1 : decide (cl < 0) = true := by simpa using k1
    clear hrej
    go_enter Try.func19, Try.ntmps19
    go_wp2
    rw [← HW.out]
    refine wp_region_qall (by kernel_rfl) (by kernel_rfl) ?_
    repeat (first | go_big_quiet_skip | (go_big_quiet_want; go_big_quiet_op; go_big_quiet_on))
    refine wpQuiet_nil ?_
    go_wp2
    go_ret
    exact hno _ (.inr rfl)
  have g1 : decide (cl < 0) = false := by simpa using k1
  by_cases k2 : (C : Int) ≤ cl
  · have hno := hrej (fun h => by have := h.2.1; omega)
    have g2 : decide ((C : Int) ≤ cl) = true := by simpa using k2
    clear hrej
    go_enter Try.func19, Try.ntmps19
    go_wp2
    rw [← HW.out]
    refine wp_region_qall (by kernel_rfl) (by kernel_rfl) ?_
    repeat (first | go_big_quiet_skip | (go_big_quiet_want; go_big_quiet_op; go_big_quiet_on))
    refine wpQuiet_nil ?_
    go_wp2
    go_ret
    exact hno _ (.inr rfl)
  have g2 : decide ((C : Int) ≤ cl) = false := by simpa using k2
  by_cases k3 : b < 0
  · have hno := hrej (fun h => by have := h.2.2.1; omega)
    have g3 : decide (b < 0) = true := by simpa using k3
    clear hrej
    go_enter Try.func19, Try.ntmps19
    go_wp2
    rw [← HW.out]
    refine wp_region_qall (by kernel_rfl) (by kernel_rfl) ?_
    repeat (first | go_big_quiet_skip | (go_big_quiet_want; go_big_quiet_op; go_big_quiet_on))
    refine wpQuiet_nil ?_
    go_wp2
    go_ret
    exact hno _ (.inr rfl)
  have g3 : decide (b < 0) = false := by simpa using k3
  by_cases k4 : ∃ (i : Nat) (j : Jb), l[i]? = some j ∧ j.id = id
  · obtain ⟨i, j, hi, hj⟩ := k4
    have hno := hrej (fun h => h.2.2.2 j (List.mem_of_getElem? hi) hj)
    have hu : ∀ (i' : Nat) (y : Jb), i' < i → l[i']? = some y → y.id ≠ id := fun i' y hi' hy e => by
      have := HH.out.id i' i y j hy hi (by rw [e, hj]); omega
    clear hrej
    go_enter Try.func19, Try.ntmps19
    go_wp2
    rw [← HW.out]
    refine wp_region_qall (by kernel_rfl) (by kernel_rfl) ?_
    repeat (first | go_big_quiet_skip | (go_big_quiet_want; go_big_quiet_op; go_big_quiet_on))
    go_big_quiet_want
    go_big_quiet_op
    refine ⟨_, at_yes _ T r C k bt nx M l (Rq.touch ⟨A, cap, HH.out⟩ (Touch.refl (fun _ => False) w1).drew (fun _ _ h => h)) (by omega) i j id hi hj hu, ?_⟩
    go_big_quiet_on
    repeat (first | go_big_quiet_skip | (go_big_quiet_want; go_big_quiet_op; go_big_quiet_on))
    refine wpQuiet_nil ?_
    clear hu hi hj
    go_wp2
    go_ret
    exact hno _ (.inr rfl)
  obtain ⟨cl, rfl⟩ := Int.eq_ofNat_of_zero_le (show 0 ≤ cl by omega)
  obtain ⟨b, rfl⟩ := Int.eq_ofNat_of_zero_le (show 0 ≤ b by omega)
  have g2' : decide (C ≤ cl) = false := by simp; omega
  have hfree : ∀ (i : Nat) (y : Jb), l[i]? = some y → y.id ≠ id := fun i y hy e => k4 ⟨i, y, hy, e⟩
  have HF := Lib.hid hfree
  clear hfree k4 hrej
  go_enter Try.func19, Try.ntmps19
  go_wp2
  rw [← HW.out]
  refine wp_region_qall (by kernel_rfl) (by kernel_rfl) ?_
  repeat (first | go_big_quiet_skip | (go_big_quiet_want; go_big_quiet_op; go_big_quiet_on))
  go_big_quiet_want
  go_big_quiet_op
  refine ⟨_, at_no _ T r C k bt nx M l (Rq.touch ⟨A, cap, HH.out⟩ (Touch.refl (fun _ => False) w1).drew (fun _ _ h => h)) (by omega) id HF.out, ?_⟩
  go_big_quiet_on
  repeat (first | go_big_quiet_skip | (go_big_quiet_want; go_big_quiet_op; go_big_quiet_on))
  refine wpQuiet_nil ?_
  go_wp2_with fail
  obtain ⟨W, hW⟩ : ∃ W, W = w1.drew.drew := ⟨_, rfl⟩
  have hTW : Touch (fun _ => False) w1 W := by rw [hW]; exact (Touch.refl _ w1).drew.drew
  have h2 := RqA.touch HH.out hTW
  have HB2 := Lib.hid (HB.out.touch hTW (fun h => h))
  have hs2 := hTW.size
  have hs1 : w.heap.size < w1.heap.size := by rw [HW.out]; simp
  clear c0 c1 y0 y1 y3
  have c0 := h2.blk.cell 0
  simp [HN.out] at c0
  have y0 := HB2.out.cell 0
  have y1 := HB2.out.cell 1
  have y2 := HB2.out.cell 2
  have y3 := HB2.out.cell 3
  simp at y0 y1 y2 y3
  have hAw : ¬ ∃ a, A = some a ∧ a.block = w.heap.size := fun ⟨a, ha, e⟩ => by have := hlt _ (h2.mine a ha); omega
  have hAr : ¬ ∃ a, A = some a ∧ a.block = r := fun ⟨a, ha, e⟩ => h2.row.ne_blk h2.blk (by decide) a ha e
  have hfz := h2.blk.frozen 0
  have HH2 := Lib.hid h2
  have HA := Lib.hid (And.intro hAw (And.intro hAr (And.intro c0 (And.intro y0 (And.intro y1 (And.intro y2 y3))))))
  obtain ⟨R, HS⟩ : ∃ R : World → Prop, Hid (∀ w', R w' ↔ Touch (fun b => ∃ a, A = some a ∧ a.block = b) W w') := ⟨_, fun _ => Iff.rfl⟩
  clear h2 hAw hAr c0 y0 y1 y2 y3
  refine wp_region_gr R 10 [(0, false), (1, false), (2, false), (3, false), (4, false), (5, false), (6, true), (7, true), (8, false), (9, false), (10, true)] (by kernel_rfl) (by kernel_rfl) ((HS.out _).2 (by rw [← hW]; exact Touch.refl _ W)) (fun hne => ?_)
  rw [← hW]
  clear hW
  have s0 : ∀ x : SW R, x.w.cell? ⟨r, 0, none⟩ = some (.slice A n cap) := fun x => ((HS.out _).1 x.ok).cell HA.out.2.2.1 HA.out.2.1
  have s1 : ∀ x : SW R, x.w.cell? ⟨w.heap.size, 0, none⟩ = some (.int .i64 id) := fun x => ((HS.out _).1 x.ok).cell HA.out.2.2.2.1 HA.out.1
  have s2 : ∀ x : SW R, x.w.cell? ⟨w.heap.size, 1, none⟩ = some (.int .i64 cl) := fun x => ((HS.out _).1 x.ok).cell HA.out.2.2.2.2.1 HA.out.1
  have s3 : ∀ x : SW R, x.w.cell? ⟨w.heap.size, 2, none⟩ = some (.int .i64 cls) := fun x => ((HS.out _).1 x.ok).cell HA.out.2.2.2.2.2.1 HA.out.1
  have s4 : ∀ x : SW R, x.w.cell? ⟨w.heap.size, 3, none⟩ = some (.int .i64 b) := fun x => ((HS.out _).1 x.ok).cell HA.out.2.2.2.2.2.2 HA.out.1
  simp only [withOps, List.filterMap_cons, List.filterMap_nil, Option.map_some, List.getElem?_cons_zero, List.getElem?_cons_succ]
  repeat (refine wpGr_q ?_; (first | go_big_quiet_skip | (go_big_quiet_want; go_big_quiet_op; go_big_quiet_on)); refine wpQuiet_nil ?_)
  clear s0 s1 s2 s3 s4
  refine wpGr_eff rfl (fun K1 hK1 => ?_)
  go_wp2_with fail
  have hA2 : Touch (fun _ => False) W (W.alloc (.cells (jv ⟨id, cl, cls, b⟩).toArray 31)) := (Touch.refl _ W).alloc _
  refine ⟨.inr ((HS.out _).2 (hA2.weaken (fun _ _ h => h.elim))), ?_⟩
  refine wpGr_eff rfl (fun K2 hK2 => ?_)
  refine wp_rwj_push rfl (.tmp 33) (.tmp 35) rfl A cap n 1 l [⟨id, cl, cls, b⟩] HN.out rfl rfl _ rfl (srcj_one (j := ⟨id, cl, cls, b⟩) (Blk.new W 31 _)) (HH2.out.row.touch hA2 (fun _ _ h => h)) (by have := HH2.out.len; have := HN.out; omega) ?_
  intro A2 cap2 w3 hr2 hT2 hf2
  dsimp only [Act.put]
  simp only [List.setIfInBounds_toArray, List.set_cons_succ, List.set_cons_zero]
  have hT23 : Touch (fun b => ∃ a, A = some a ∧ a.block = b) W w3 := (hA2.weaken (fun _ _ h => h.elim)).trans hT2 (fun _ _ h => h)
  have hco3 := hT23.cell HA.out.2.2.1 HA.out.2.1
  have hfz3 := (HH2.out.blk.touch hT23 HA.out.2.1).frozen 0
  have HR2 := Lib.hid hr2
  have hf2' : ∀ a, A2 = some a → (∃ a0, A = some a0 ∧ a0.block = a.block) ∨ W.heap.size ≤ a.block := fun a ha => by
    rcases hf2 a ha with h | h
    · exact .inl h
    · exact .inr (by have : W.heap.size + 1 ≤ a.block := by simpa using h
                     omega)
  have HT2 := Lib.hid hT23
  have HF2 := Lib.hid hf2'
  refine hK2 _ _ ⟨.inr ((HS.out _).2 hT23), ?_⟩
  clear hr2 hT2 hf2 hT23 hf2' hfz
  repeat (refine wpGr_q ?_; (first | go_big_quiet_skip | (go_big_quiet_want; go_big_quiet_op; go_big_quiet_on)); refine wpQuiet_nil ?_)
  refine wpGr_eff rfl (fun K3 hK3 => ?_)
  go_wp2_with fail
  refine wpGr_nil ?_
  go_wp2
  go_ret
  have hT0W : Touch (fun _ => False) w W := hT1.trans hTW (fun _ _ h => h)
  have hfin := HH2.out.put HT2.out HR2.out HF2.out (n + 1) (by rw [List.length_append, HN.out]; rfl) (M' := M + 1) (by have := HH2.out.len; have := HN.out; omega)
    (fun j hj => by
      rcases List.mem_append.1 hj with hj | hj
      · exact HH2.out.cl j hj
      · simp at hj; subst hj; show cl < C; omega)
    (fun j hj => by
      rcases List.mem_append.1 hj with hj | hj
      · exact HH2.out.byt j hj
      · simp at hj; subst hj; show b ≤ _; omega)
    (snoc_uniq HH2.out.id (fun i y hy => HF.out i y hy))
  refine ⟨0, _, _, rfl, ⟨_, _, hfin⟩, ?_, fun x hx => ?_, .inl ⟨rfl, ⟨by omega, by omega, by omega, fun j hj => ?_⟩, rfl⟩⟩
  · exact ((hT0W.weaken (fun _ _ h => h.elim)).trans HT2.out (fun _ _ ⟨a, ha, e⟩ => e ▸ HH2.out.mine a ha)).setCell (p := ⟨r, 0, none⟩) (.inr HH2.out.own) _
  · rcases hx with hx | ⟨a, ha, rfl⟩
    · exact .inl hx
    · rcases HF2.out a ha with ⟨a0, h0, e⟩ | h
      · exact .inl (e ▸ HH2.out.mine a0 h0)
      · exact .inr (by omega)
  · obtain ⟨i, hi⟩ := List.getElem?_of_mem hj
    exact HF.out i j hi
end Go.Proofs.Ytijdjcmdmppgaaa
