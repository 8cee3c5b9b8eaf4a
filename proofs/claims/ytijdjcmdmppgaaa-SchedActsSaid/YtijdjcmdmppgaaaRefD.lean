/- The document's queue: Drop. -/
import Derived.Test.YtijdjcmdmppgaaaRefC
namespace Go.Proofs.Ytijdjcmdmppgaaa
open Go.RowKit
set_option linter.unusedVariables false

def RDrop (T : Nat → Prop) (r C k bt nx M : Nat) (l : List Jb) (id : Int) (w : World) (e : Ending) (w' : World) : Prop :=
  ∃ (v : Int) (T' : Nat → Prop) (l' : List Jb), e = .returned (.int .i64 v) ∧ Rq w' T' r C k bt nx M l' ∧ Touch T w w' ∧ (∀ x, T' x → T x ∨ w.heap.size ≤ x) ∧
    ((v = 0 ∧ ∃ (i : Nat) (j : Jb), l[i]? = some j ∧ j.id = id ∧ l' = l.eraseIdx i) ∨ (v = 15 ∧ (∀ j ∈ l, j.id ≠ id) ∧ l' = l))

theorem srcj_take {w : World} {g cap i : Nat} {l : List Jb} (h : RwJ w (some ⟨g, 0, none⟩) cap l) (c : Nat) (hn : (l.take i).length = i) : Src Try.prog 4 71 (.slice (some ⟨g, 0, none⟩) i c) i (jf (l.take i)) w := by
  have := srcj_some h 0 i c (ys := l.take i) (by simp) hn
  simpa using this
theorem srcj_nil {w : World} (a : Addr) (c : Nat) {n : Nat} {ys : List Jb} (hn : n = 0) (hy : ys = []) : Src Try.prog 4 71 (.slice (some a) n c) n (jf ys) w := by
  subst hn hy
  exact Src.ofSlice w under71 a 0 c [] rfl (fun j u h => by simp at h) (fun u h => by cases h)
theorem erase_uniq {l : List Jb} (h : ∀ (i i' : Nat) (j j' : Jb), l[i]? = some j → l[i']? = some j' → j.id = j'.id → i = i') (k : Nat) :
    ∀ (i i' : Nat) (j j' : Jb), (l.eraseIdx k)[i]? = some j → (l.eraseIdx k)[i']? = some j' → j.id = j'.id → i = i' := by
  intro i i' j j' hi hi' e
  rw [List.getElem?_eraseIdx] at hi hi'
  split at hi <;> split at hi'
  · exact h i i' j j' hi hi' e
  · have := h _ _ j j' hi hi' e; omega
  · have := h _ _ j j' hi hi' e; omega
  · have := h _ _ j j' hi hi' e; omega

set_option maxHeartbeats 2000000 in
theorem rdrop_any (w : World) (T : Nat → Prop) (r C k bt nx M : Nat) (l : List Jb) (id : Int) (h : Rq w T r C k bt nx M l) (hM : M ≤ 5000) :
    Calls Try.prog 20 #[.pointer (some ⟨r, 0, none⟩), .int .i64 id] w (RDrop T r C k bt nx M l id w) := by
  by_cases k4 : ∃ (i : Nat) (j : Jb), l[i]? = some j ∧ j.id = id
  · obtain ⟨i, j, hi, hj⟩ := k4
    have hlt := h.lt
    have HR := Lib.hid h
    obtain ⟨A, cap, h⟩ := h
    obtain ⟨n, hn⟩ : ∃ n, l.length = n := ⟨_, rfl⟩
    have hu : ∀ (i' : Nat) (y : Jb), i' < i → l[i']? = some y → y.id ≠ id := fun i' y hi' hy e => by
      have := h.id i' i y j hy hi (by rw [e, hj]); omega
    have hin : i < n := by
      rcases Nat.lt_or_ge i n with h | h
      · exact h
      · rw [List.getElem?_eq_none (by omega)] at hi; cases hi
    have hnM : n ≤ M := by have := h.len; omega
    obtain ⟨g, rfl, _⟩ := h.row.cell hi
    have hcap := h.row.le
    rw [hn] at hcap
    obtain ⟨hc1, hc2⟩ := hcap
    have HN := Lib.hid (And.intro hn (And.intro hi (And.intro hj hu)))
    have HH := Lib.hid h
    clear hn hi hj hu h
    go_enter Try.func20, Try.ntmps20
    go_wp2_with fail
    refine (at_yes _ T r C k bt nx M l HR.out (by omega) i j id HN.out.2.1 HN.out.2.2.1 HN.out.2.2.2).mono ?_
    rintro e w1 ⟨rfl, rfl⟩
    go_wp2
    obtain ⟨W, hW⟩ : ∃ W, W = w1.drew := ⟨_, rfl⟩
    have hTW : Touch (fun _ => False) w1 W := by rw [hW]; exact (Touch.refl _ w1).drew
    have h2 := RqA.touch HH.out hTW
    have c0 := h2.blk.cell 0
    simp [HN.out.1] at c0
    have hgr : g ≠ r := h2.row.ne_blk h2.blk (by decide) _ rfl
    have hrl := h2.blk.lt
    have HH2 := Lib.hid (And.intro h2 c0)
    obtain ⟨R, HS⟩ : ∃ R : World → Prop, Hid (∀ w', R w' ↔ Touch (fun _ => False) W w') := ⟨_, fun _ => Iff.rfl⟩
    clear h2 c0
    refine wp_region_gr R 19 [(0, false), (2, false), (3, false), (4, false), (5, false), (6, false), (7, false), (9, false), (10, false), (11, false), (12, false), (13, false), (14, false), (15, false), (1, true), (8, true), (16, true), (17, false), (18, false), (19, true)] (by kernel_rfl) (by kernel_rfl) ((HS.out _).2 (by rw [← hW]; exact Touch.refl _ W)) (fun hne => ?_)
    rw [← hW]
    clear hW
    have s0 : ∀ x : SW R, x.w.cell? ⟨r, 0, none⟩ = some (.slice (some ⟨g, 0, none⟩) n cap) := fun x => ((HS.out _).1 x.ok).cell HH2.out.2 (fun h => h)
    simp only [withOps, List.filterMap_cons, List.filterMap_nil, Option.map_some, List.getElem?_cons_zero, List.getElem?_cons_succ]
    repeat (refine wpGr_q ?_; (first | go_big_quiet_skip | (go_big_quiet_want; go_big_quiet_op; go_big_quiet_on)); refine wpQuiet_nil ?_)
    clear s0
    refine wpGr_eff rfl (fun K1 hK1 => ?_)
    go_wp2_with fail
    case inl =>
      have hB1 : Blk (W.alloc (.cells #[] 31)) W.heap.size 31 #[] := Blk.new W 31 _
      have hA1 : Touch (fun _ => False) W (W.alloc (.cells #[] 31)) := (Touch.refl _ W).alloc _
      have hr1 : RwJ (W.alloc (.cells #[] 31)) (some ⟨W.heap.size, 0, none⟩) 0 [] := .inr ⟨_, _, rfl, hB1, Nat.le_refl _, by omega, Nat.le_refl _, fun i hi => by simp at hi⟩
      refine ⟨(HS.out _).2 hA1, ?_⟩
      have htk : (l.take i).length = i := by rw [List.length_take, HN.out.1]; omega
      have hdp : (l.drop (i + 1)).length = n - (i + 1) := by rw [List.length_drop, HN.out.1]
      have hrg := HH2.out.1.row
      have HD := Lib.hid (And.intro htk (And.intro hdp hrg))
      clear htk hdp hrg
      refine wpGr_eff rfl (fun K2 hK2 => ?_)
      refine wp_rwj_push rfl (.tmp 12) (.tmp 18) rfl (some ⟨W.heap.size, 0, none⟩) 0 0 i [] (l.take i) rfl HD.out.1 rfl _ rfl (srcj_take (HD.out.2.2.touch hA1 (fun _ _ h => h)) _ HD.out.1) hr1 (by omega) ?_
      intro A2 cap2 w3 hr2 hT2 hf2
      dsimp only [Act.put]
      simp only [List.setIfInBounds_toArray, List.set_cons_succ, List.set_cons_zero]
      rw [List.nil_append] at hr2
      have hT3 : Touch (fun _ => False) W w3 := hA1.trans hT2 (fun b hb ⟨a, ha, e⟩ => by injection ha with ha; subst ha; simp at e; omega)
      have hf2' : ∀ a, A2 = some a → W.heap.size ≤ a.block := fun a ha => by
        rcases hf2 a ha with ⟨a0, h0, e⟩ | h
        · injection h0 with h0; subst h0; simp at e; omega
        · have : W.heap.size + 1 ≤ a.block := by simpa using h
          omega
      have hsrc : Src Try.prog 4 71 (.slice (some ⟨g, 0, none⟩) (n - (i + 1)) 0) (n - (i + 1)) (jf (l.drop (i + 1))) w3 := srcj_nil _ _ (by omega) (List.eq_nil_of_length_eq_zero (by rw [HD.out.2.1]; omega))
      refine hK2 _ _ ⟨.inr ((HS.out _).2 hT3), ?_⟩
      clear hB1 hr1 hT2 hf2
      refine wpGr_eff rfl (fun K3 hK3 => ?_)
      refine wp_rwj_push rfl (.tmp 19) (.tmp 26) rfl A2 cap2 (0 + i) (n - (i + 1)) (l.take i) (l.drop (i + 1)) (by rw [HD.out.1]; omega) HD.out.2.1 rfl _ rfl hsrc hr2 (by omega) ?_
      intro A3 cap3 w4 hr3 hT4 hf3
      dsimp only [Act.put]
      simp only [List.setIfInBounds_toArray, List.set_cons_succ, List.set_cons_zero]
      rw [← List.eraseIdx_eq_take_drop_succ] at hr3
      have hT5 : Touch (fun _ => False) W w4 := hT3.trans hT4 (fun b hb ⟨a, ha, e⟩ => by have := hf2' a ha; omega)
      have hf3' : ∀ a, A3 = some a → W.heap.size ≤ a.block := fun a ha => by
        rcases hf3 a ha with ⟨a0, h0, e⟩ | h
        · have := hf2' a0 h0; omega
        · have := hT3.size; omega
      have hco4 := hT5.cell HH2.out.2 (fun h => h)
      have hfz4 := (HH2.out.1.blk.touch hT5 (fun h => h)).frozen 0
      have HR4 := Lib.hid (And.intro hr3 (And.intro hT5 hf3'))
      refine hK3 _ _ ⟨.inr ((HS.out _).2 hT5), ?_⟩
      clear hr3 hT4 hf3 hT5 hf3' hsrc hr2 hT3 hf2'
      repeat (refine wpGr_q ?_; (first | go_big_quiet_skip | (go_big_quiet_want; go_big_quiet_op; go_big_quiet_on)); refine wpQuiet_nil ?_)
      refine wpGr_eff rfl (fun K4 hK4 => ?_)
      go_wp2_with fail
      refine wpGr_nil ?_
      go_wp2
      go_ret
      have hfin := HH2.out.1.put (HR4.out.2.1.weaken (fun _ _ h => h.elim)) HR4.out.1 (fun a ha => .inr (HR4.out.2.2 a ha)) (i + (n - (i + 1))) (by rw [List.length_eraseIdx, HN.out.1, if_pos hin]; omega) (M' := M) (by omega)
        (fun x hx => HH2.out.1.cl x (List.mem_of_mem_eraseIdx hx)) (fun x hx => HH2.out.1.byt x (List.mem_of_mem_eraseIdx hx)) (erase_uniq HH2.out.1.id i)
      refine ⟨0, _, _, rfl, ⟨_, _, hfin⟩, ?_, fun x hx => ?_, .inl ⟨rfl, i, j, HN.out.2.1, HN.out.2.2.1, rfl⟩⟩
      · exact ((hTW.trans HR4.out.2.1 (fun _ _ h => h)).weaken (fun _ _ h => h.elim)).setCell (p := ⟨r, 0, none⟩) (.inr HH2.out.1.own) _
      · rcases hx with hx | ⟨a, ha, rfl⟩
        · exact .inl hx
        · have := HR4.out.2.2 a ha
          have := hTW.size
          exact .inr (by omega)
    case inr =>
      have hB1 : Blk (W.alloc (.cells #[] 31)) W.heap.size 31 #[] := Blk.new W 31 _
      have hA1 : Touch (fun _ => False) W (W.alloc (.cells #[] 31)) := (Touch.refl _ W).alloc _
      have hr1 : RwJ (W.alloc (.cells #[] 31)) (some ⟨W.heap.size, 0, none⟩) 0 [] := .inr ⟨_, _, rfl, hB1, Nat.le_refl _, by omega, Nat.le_refl _, fun i hi => by simp at hi⟩
      refine ⟨(HS.out _).2 hA1, ?_⟩
      have htk : (l.take i).length = i := by rw [List.length_take, HN.out.1]; omega
      have hdp : (l.drop (i + 1)).length = n - (i + 1) := by rw [List.length_drop, HN.out.1]
      have hrg := HH2.out.1.row
      have HD := Lib.hid (And.intro htk (And.intro hdp hrg))
      clear htk hdp hrg
      refine wpGr_eff rfl (fun K2 hK2 => ?_)
      refine wp_rwj_push rfl (.tmp 12) (.tmp 18) rfl (some ⟨W.heap.size, 0, none⟩) 0 0 i [] (l.take i) rfl HD.out.1 rfl _ rfl (srcj_take (HD.out.2.2.touch hA1 (fun _ _ h => h)) _ HD.out.1) hr1 (by omega) ?_
      intro A2 cap2 w3 hr2 hT2 hf2
      dsimp only [Act.put]
      simp only [List.setIfInBounds_toArray, List.set_cons_succ, List.set_cons_zero]
      rw [List.nil_append] at hr2
      have hT3 : Touch (fun _ => False) W w3 := hA1.trans hT2 (fun b hb ⟨a, ha, e⟩ => by injection ha with ha; subst ha; simp at e; omega)
      have hf2' : ∀ a, A2 = some a → W.heap.size ≤ a.block := fun a ha => by
        rcases hf2 a ha with ⟨a0, h0, e⟩ | h
        · injection h0 with h0; subst h0; simp at e; omega
        · have : W.heap.size + 1 ≤ a.block := by simpa using h
          omega
      have hsrc : Src Try.prog 4 71 (.slice (some ⟨g, (i + 1) * 4, none⟩) (n - (i + 1)) (cap - (i + 1))) (n - (i + 1)) (jf (l.drop (i + 1))) w3 := srcj_some (HD.out.2.2.touch hT3 (fun _ _ h => h)) (i + 1) _ _ (by rw [List.take_of_length_le (by rw [HD.out.2.1]; omega)]) HD.out.2.1
      refine hK2 _ _ ⟨.inr ((HS.out _).2 hT3), ?_⟩
      clear hB1 hr1 hT2 hf2
      refine wpGr_eff rfl (fun K3 hK3 => ?_)
      refine wp_rwj_push rfl (.tmp 19) (.tmp 26) rfl A2 cap2 (0 + i) (n - (i + 1)) (l.take i) (l.drop (i + 1)) (by rw [HD.out.1]; omega) HD.out.2.1 rfl _ rfl hsrc hr2 (by omega) ?_
      intro A3 cap3 w4 hr3 hT4 hf3
      dsimp only [Act.put]
      simp only [List.setIfInBounds_toArray, List.set_cons_succ, List.set_cons_zero]
      rw [← List.eraseIdx_eq_take_drop_succ] at hr3
      have hT5 : Touch (fun _ => False) W w4 := hT3.trans hT4 (fun b hb ⟨a, ha, e⟩ => by have := hf2' a ha; omega)
      have hf3' : ∀ a, A3 = some a → W.heap.size ≤ a.block := fun a ha => by
        rcases hf3 a ha with ⟨a0, h0, e⟩ | h
        · have := hf2' a0 h0; omega
        · have := hT3.size; omega
      have hco4 := hT5.cell HH2.out.2 (fun h => h)
      have hfz4 := (HH2.out.1.blk.touch hT5 (fun h => h)).frozen 0
      have HR4 := Lib.hid (And.intro hr3 (And.intro hT5 hf3'))
      refine hK3 _ _ ⟨.inr ((HS.out _).2 hT5), ?_⟩
      clear hr3 hT4 hf3 hT5 hf3' hsrc hr2 hT3 hf2'
      repeat (refine wpGr_q ?_; (first | go_big_quiet_skip | (go_big_quiet_want; go_big_quiet_op; go_big_quiet_on)); refine wpQuiet_nil ?_)
      refine wpGr_eff rfl (fun K4 hK4 => ?_)
      go_wp2_with fail
      refine wpGr_nil ?_
      go_wp2
      go_ret
      have hfin := HH2.out.1.put (HR4.out.2.1.weaken (fun _ _ h => h.elim)) HR4.out.1 (fun a ha => .inr (HR4.out.2.2 a ha)) (i + (n - (i + 1))) (by rw [List.length_eraseIdx, HN.out.1, if_pos hin]; omega) (M' := M) (by omega)
        (fun x hx => HH2.out.1.cl x (List.mem_of_mem_eraseIdx hx)) (fun x hx => HH2.out.1.byt x (List.mem_of_mem_eraseIdx hx)) (erase_uniq HH2.out.1.id i)
      refine ⟨0, _, _, rfl, ⟨_, _, hfin⟩, ?_, fun x hx => ?_, .inl ⟨rfl, i, j, HN.out.2.1, HN.out.2.2.1, rfl⟩⟩
      · exact ((hTW.trans HR4.out.2.1 (fun _ _ h => h)).weaken (fun _ _ h => h.elim)).setCell (p := ⟨r, 0, none⟩) (.inr HH2.out.1.own) _
      · rcases hx with hx | ⟨a, ha, rfl⟩
        · exact .inl hx
        · have := HR4.out.2.2 a ha
          have := hTW.size
          exact .inr (by omega)
  · have hfree : ∀ (i : Nat) (y : Jb), l[i]? = some y → y.id ≠ id := fun i y hy e => k4 ⟨i, y, hy, e⟩
    have HF := Lib.hid hfree
    have HR := Lib.hid h
    clear hfree k4 h
    go_enter Try.func20, Try.ntmps20
    go_wp2_with fail
    refine (at_no _ T r C k bt nx M l HR.out (by omega) id HF.out).mono ?_
    rintro e w1 ⟨rfl, rfl⟩
    go_wp2
    go_ret
    exact ⟨15, T, l, rfl, HR.out, Touch.refl _ _, fun x hx => .inl hx, .inr ⟨rfl, fun j hj => by
      obtain ⟨i, hi⟩ := List.getElem?_of_mem hj
      exact HF.out i j hi, rfl⟩⟩
end Go.Proofs.Ytijdjcmdmppgaaa
