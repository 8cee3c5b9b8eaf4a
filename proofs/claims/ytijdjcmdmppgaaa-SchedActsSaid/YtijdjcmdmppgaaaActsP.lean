/- Queue and document, act by act: the plain law; the document's New refused. -/
import Derived.Test.YtijdjcmdmppgaaaRefE
import Derived.Test.YtijdjcmdmppgaaaRefF
namespace Go.Proofs.Ytijdjcmdmppgaaa
open Go.RowKit
set_option linter.unusedVariables false

theorem rnew_no (w : World) (C k bt : Int) (h : ¬ (1 ≤ C ∧ C ≤ 8 ∧ 1 ≤ k ∧ k ≤ 4096 ∧ 1 ≤ bt ∧ bt ≤ 16)) :
    Calls Try.prog 18 #[.int .i64 C, .int .i64 k, .int .i64 bt] w fun e w' => e = .returned (.tuple #[.pointer none, .bool false]) ∧ w = w' := by
  by_cases h1 : C < 1
  · have g1 : decide (C < 1) = true := by simpa using h1
    clear h h1
    go_enter Try.func18, Try.ntmps18
    go_wp2
    go_ret2
    exact ⟨rfl, rfl⟩
  have g1 : decide (C < 1) = false := by simpa using h1
  by_cases h2 : 8 < C
  · have g2 : decide (8 < C) = true := by simpa using h2
    clear h
    go_enter Try.func18, Try.ntmps18
    go_wp2
    go_ret2
    exact ⟨rfl, rfl⟩
  have g2 : decide (8 < C) = false := by simpa using h2
  by_cases h3 : k < 1
  · have g3 : decide (k < 1) = true := by simpa using h3
    clear h
    go_enter Try.func18, Try.ntmps18
    go_wp2
    go_ret2
    exact ⟨rfl, rfl⟩
  have g3 : decide (k < 1) = false := by simpa using h3
  by_cases h4 : 4096 < k
  · have g4 : decide (4096 < k) = true := by simpa using h4
    clear h
    go_enter Try.func18, Try.ntmps18
    go_wp2
    go_ret2
    exact ⟨rfl, rfl⟩
  have g4 : decide (4096 < k) = false := by simpa using h4
  by_cases h5 : bt < 1
  · have g5 : decide (bt < 1) = true := by simpa using h5
    clear h
    go_enter Try.func18, Try.ntmps18
    go_wp2
    go_ret2
    exact ⟨rfl, rfl⟩
  have g5 : decide (bt < 1) = false := by simpa using h5
  have h6 : 16 < bt := by omega
  have g6 : decide (16 < bt) = true := by simpa using h6
  clear h
  go_enter Try.func18, Try.ntmps18
  go_wp2
  go_ret2
  exact ⟨rfl, rfl⟩

theorem free_iff {C : Nat} {l : List Jb} {P : Nat → List Jb} (h : Fl C l P) (hcl : ∀ j ∈ l, j.client < C) (id : Int) : Free C P id ↔ ∀ j ∈ l, j.id ≠ id := by
  constructor
  · intro hf j hj
    refine hf j.client (hcl j hj) j ?_
    rw [← h j.client (hcl j hj)]
    exact List.mem_filter.2 ⟨hj, by simp [isC]⟩
  · intro hf c hc j hj
    rw [← h c hc] at hj
    exact hf j (List.mem_filter.1 hj).1
theorem add_both {C : Nat} {l l' : List Jb} {P P' : Nat → List Jb} {id cl cls b r v : Int} (hF : Fl C l P) (hcl : ∀ j ∈ l, j.client < C)
    (h1 : (r = 0 ∧ AddOk C P id cl b ∧ P' = upd P cl.toNat (P cl.toNat ++ [⟨id, cl.toNat, cls, b.toNat⟩])) ∨ (r = 1 ∧ ¬ AddOk C P id cl b ∧ P' = P))
    (h2 : (v = 0 ∧ RAddOk C l id cl b ∧ l' = l ++ [⟨id, cl.toNat, cls, b.toNat⟩]) ∨ (v = 1 ∧ ¬ RAddOk C l id cl b ∧ l' = l)) : v = r ∧ Fl C l' P' := by
  have e : AddOk C P id cl b ↔ RAddOk C l id cl b := by
    unfold AddOk RAddOk; rw [free_iff hF hcl]
  rcases h1 with ⟨rfl, o1, rfl⟩ | ⟨rfl, o1, rfl⟩ <;> rcases h2 with ⟨rfl, o2, rfl⟩ | ⟨rfl, o2, rfl⟩
  · exact ⟨rfl, hF.app ⟨id, cl.toNat, cls, b.toNat⟩⟩
  · exact absurd (e.1 o1) o2
  · exact absurd (e.2 o2) o1
  · exact ⟨rfl, hF⟩
theorem drop_both {C : Nat} {l l' : List Jb} {P P' : Nat → List Jb} {id r v : Int} (hF : Fl C l P) (hcl : ∀ j ∈ l, j.client < C) (hu : Uq l)
    (h1 : (r = 0 ∧ ∃ (c i : Nat) (j : Jb), c < C ∧ (P c)[i]? = some j ∧ j.id = id ∧ P' = upd P c ((P c).eraseIdx i)) ∨ (r = 15 ∧ Free C P id ∧ P' = P))
    (h2 : (v = 0 ∧ ∃ (i : Nat) (j : Jb), l[i]? = some j ∧ j.id = id ∧ l' = l.eraseIdx i) ∨ (v = 15 ∧ (∀ j ∈ l, j.id ≠ id) ∧ l' = l)) : v = r ∧ Fl C l' P' := by
  rcases h1 with ⟨rfl, c, i, j, hc, hi, hj, rfl⟩ | ⟨rfl, o1, rfl⟩ <;> rcases h2 with ⟨rfl, i2, j2, hi2, hj2, rfl⟩ | ⟨rfl, o2, rfl⟩
  · have hjm := List.mem_of_getElem? hi
    rw [← hF c hc] at hjm
    obtain ⟨hjl, hjc⟩ := List.mem_filter.1 hjm
    have hjc' : j.client = c := by unfold isC at hjc; exact of_decide_eq_true hjc
    obtain ⟨a, ha⟩ := List.getElem?_of_mem hjl
    have hai := hu a i2 j j2 ha hi2 (by rw [hj, hj2])
    subst hai
    subst hjc'
    exact ⟨rfl, hF.erase hu ha hc hi⟩
  · exact absurd ((free_iff hF hcl id).2 o2 c hc j (List.mem_of_getElem? hi)) (fun h => h hj)
  · exact absurd hj2 (((free_iff hF hcl id).1 o1) j2 (List.mem_of_getElem? hi2))
  · exact ⟨rfl, hF⟩
theorem Rq.cl {w : World} {T : Nat → Prop} {r C k bt nx M : Nat} {l : List Jb} (h : Rq w T r C k bt nx M l) : ∀ j ∈ l, j.client < C := by
  obtain ⟨A, cap, h⟩ := h; exact h.cl
theorem Rq.uq {w : World} {T : Nat → Prop} {r C k bt nx M : Nat} {l : List Jb} (h : Rq w T r C k bt nx M l) : Uq l := by
  obtain ⟨A, cap, h⟩ := h; exact h.id

/-- Queue and document are alike. -/
def ActI (w : World) (q r C k bt j : Nat) (wr : World) : Prop :=
  ∃ (S T : Nat → Prop) (nx : Nat) (P : Nat → List Jb) (l : List Jb), Qm wr S q C k bt nx j P ∧ Rq wr T r C k bt nx j l ∧ Fl C l P ∧ (∀ b, S b → ¬ T b) ∧ (∀ b, S b → w.heap.size ≤ b) ∧ (∀ b, T b → w.heap.size ≤ b) ∧ Touch (fun _ => False) w wr
end Go.Proofs.Ytijdjcmdmppgaaa
