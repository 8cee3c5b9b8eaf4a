/- Other numbers, the same queue. -/
import Derived.Test.YtijdjcmdmppgaaaX
namespace Go.Proofs.Ytijdjcmdmppgaaa
open Go.RowKit
set_option linter.unusedVariables false

def mapJ (m : Int) (j : Jb) : Jb := { j with id := j.id * m + 7 }
def mapF (m : Int) (P : Nat → List Jb) : Nat → List Jb := fun c => (P c).map (mapJ m)

theorem mapF_upd (m : Int) (P : Nat → List Jb) (c : Nat) (l : List Jb) : upd (mapF m P) c (l.map (mapJ m)) = mapF m (upd P c l) := by
  funext d
  by_cases h : d = c
  · subst h; simp [mapF, upd_same]
  · simp [mapF, upd_ne _ _ h]
theorem mapF_heads (m : Int) (P : Nat → List Jb) (C nx : Nat) : ∀ i, headsP (mapF m P) C nx i = (headsP P C nx i).map (mapJ m)
  | 0 => rfl
  | i + 1 => by rw [headsP, headsP, mapF_heads m P C nx i, List.map_append, mapF, List.map_take]
theorem map_pkP (m : Int) (b : Nat) (B : List Jb) (x : Jb) : pkP b (B.map (mapJ m)) (mapJ m x) = (pkP b B x).map (mapJ m) := by
  unfold pkP
  rw [List.length_map]
  split
  · rfl
  · cases B with
    | nil => rfl
    | cons y t =>
      simp only [List.map_cons]
      rw [show (mapJ m x).cls = x.cls from rfl, show (mapJ m y).cls = y.cls from rfl]
      split <;> simp
theorem map_picksP (m : Int) (b : Nat) (xs : List Jb) : picksP b (xs.map (mapJ m)) = (picksP b xs).map (mapJ m) := by
  suffices ∀ B : List Jb, (xs.map (mapJ m)).foldl (pkP b) (B.map (mapJ m)) = (xs.foldl (pkP b) B).map (mapJ m) from this []
  induction xs with
  | nil => intro B; rfl
  | cons x xs ih => intro B; rw [List.map_cons, List.foldl_cons, map_pkP, ih]; rfl
theorem mapF_batch (m : Int) (P : Nat → List Jb) (C nx bt : Nat) : batchP (mapF m P) C nx bt = (batchP P C nx bt).map (mapJ m) := by
  rw [batchP, mapF_heads, map_picksP]; rfl
theorem map_doneP (m : Int) (k : Nat) (B : List Jb) : doneP k (B.map (mapJ m)) = (doneP k B).map (mapJ m) := by
  unfold doneP
  rw [List.filter_map]; rfl
theorem map_nextP (m : Int) (C nx : Nat) (B : List Jb) : nextP C nx (B.map (mapJ m)) = nextP C nx B := by cases B <;> rfl
theorem mapF_hit (m : Int) (k : Nat) (P : Nat → List Jb) (j : Jb) : hitP k (mapF m P) (mapJ m j) = mapF m (hitP k P j) := by
  unfold hitP
  rw [← mapF_upd]
  congr 1
  rw [show (mapJ m j).bytes = j.bytes from rfl, show (mapJ m j).client = j.client from rfl]
  split
  · rw [mapF, List.map_tail]
  · rw [mapF, List.map_cons, List.map_tail]; rfl
theorem mapF_hits (m : Int) (k : Nat) (B : List Jb) : ∀ P : Nat → List Jb, hitsP k (mapF m P) (B.map (mapJ m)) = mapF m (hitsP k P B) := by
  induction B with
  | nil => intro P; rfl
  | cons j B ih =>
    intro P
    show hitsP k (hitP k (mapF m P) (mapJ m j)) (B.map (mapJ m)) = mapF m (hitsP k (hitP k P j) B)
    rw [mapF_hit, ih]
theorem inj_of {m a b : Int} (hm : 1 ≤ m) (h : a * m + 7 = b * m + 7) : a = b := by
  have : a * m = b * m := by omega
  exact Int.eq_of_mul_eq_mul_right (by omega) this
theorem mapF_free {m : Int} (hm : 1 ≤ m) (C : Nat) (P : Nat → List Jb) (id : Int) : Free C (mapF m P) (id * m + 7) ↔ Free C P id := by
  constructor
  · intro h c hc j hj e
    exact h c hc (mapJ m j) (List.mem_map.2 ⟨j, hj, rfl⟩) (by rw [← e]; rfl)
  · intro h c hc j hj e
    obtain ⟨j', hj', rfl⟩ := List.mem_map.1 hj
    exact h c hc j' hj' (inj_of hm e)
theorem mapF_addOk {m : Int} (hm : 1 ≤ m) (C : Nat) (P : Nat → List Jb) (id cl b : Int) : AddOk C (mapF m P) (id * m + 7) cl b ↔ AddOk C P id cl b := by
  unfold AddOk
  rw [mapF_free hm]

/-- All numbers are small. -/
def Small (C : Nat) (P : Nat → List Jb) : Prop := ∀ c, c < C → ∀ j ∈ P c, -1125899906842624 ≤ j.id ∧ j.id ≤ 1125899906842624
theorem Small.upd {C : Nat} {P : Nat → List Jb} (h : Small C P) (c : Nat) (l : List Jb) (hl : ∀ j ∈ l, -1125899906842624 ≤ j.id ∧ j.id ≤ 1125899906842624) : Small C (Ytijdjcmdmppgaaa.upd P c l) := by
  intro d hd j hj
  by_cases hdc : d = c
  · subst hdc; rw [upd_same] at hj; exact hl j hj
  · rw [upd_ne _ _ hdc] at hj; exact h d hd j hj
theorem Small.hit {C k : Nat} {P : Nat → List Jb} (h : Small C P) (j : Jb) (hc : j.client < C) (hj : -1125899906842624 ≤ j.id ∧ j.id ≤ 1125899906842624) : Small C (hitP k P j) := by
  refine h.upd _ _ (fun x hx => ?_)
  split at hx
  · exact h _ hc x (List.mem_of_mem_tail hx)
  · rcases List.mem_cons.1 hx with rfl | hx
    · exact hj
    · exact h _ hc x (List.mem_of_mem_tail hx)
theorem Small.hits {C k : Nat} (B : List Jb) : ∀ {P : Nat → List Jb}, Small C P → (∀ j ∈ B, j.client < C ∧ (-1125899906842624 ≤ j.id ∧ j.id ≤ 1125899906842624)) → Small C (hitsP k P B) := by
  induction B with
  | nil => intro P h _; exact h
  | cons j B ih =>
    intro P h hB
    obtain ⟨h1, h2⟩ := hB j (List.mem_cons_self ..)
    exact ih (h.hit j h1 h2) (fun x hx => hB x (List.mem_cons_of_mem _ hx))

theorem mul_le (a b m : Int) (h : a ≤ b) (hm : 0 ≤ m) : a * m ≤ b * m := Int.mul_le_mul_of_nonneg_right h hm
theorem small_mul {x m : Int} (h1 : -1125899906842624 ≤ x) (h2 : x ≤ 1125899906842624) (m1 : 1 ≤ m) (m2 : m ≤ 1000) : -1125899906842624000 ≤ x * m ∧ x * m ≤ 1125899906842624000 := by
  have a := mul_le _ _ m h2 (by omega)
  have b := mul_le _ _ m h1 (by omega)
  constructor <;> omega
end Go.Proofs.Ytijdjcmdmppgaaa
