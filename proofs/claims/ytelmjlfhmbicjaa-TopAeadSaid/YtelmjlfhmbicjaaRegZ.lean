/- A region that draws, in two phases: what only reads (each told whether it needs S) and the operation behind it; then what writes. -/
import Derived.Test.YtelmjlfhmbicjaaReg
namespace Go.Proofs.Ytelmjlfhmbicjaa
open Go.RowKit
set_option linter.unusedVariables false

section
variable {P : Program} {ops : Array Oper} {Q : Exit → Act → World → Prop} {md : Region.Mode} {S T : World → Prop} {Z : List Nat}

/-- Whatever order is picked; each operation but those of Z keeps S; each keeps T. -/
def wpAnyZ (P : Program) (md : Region.Mode) (ops : Array Oper) (Q : Exit → Act → World → Prop) (S T : World → Prop) (Z : List Nat) : Nat → Array Bool → Act → World → Prop
  | 0, listed, a, w => Region.ready md ops listed = [] ∧ Q .normal a w
  | fuel + 1, listed, a, w =>
    (Region.ready md ops listed = [] → Q .normal a w) ∧
    ∀ i ∈ Region.ready md ops listed, wpOp P ops Q i (fun a' w' => (i ∈ Z ∨ (S w → S w')) ∧ (T w → T w') ∧ wpAnyZ P md ops Q S T Z fuel (listed.setIfInBounds i true) a' w') a w
theorem wpAny_of_Z : ∀ (fuel : Nat) (listed : Array Bool) (a : Act) (w : World), wpAnyZ P md ops Q S T Z fuel listed a w → wpAny P md ops Q fuel listed a w
  | 0, _, _, _, h => h
  | fuel + 1, _, _, _, h => ⟨h.1, fun i hi => wpOp_mono (fun a' w' h' => wpAny_of_Z fuel _ a' w' h'.2.2) (h.2 i hi)⟩

/-- Each of Z waits for number k. -/
def waitsZ (md : Region.Mode) (ops : Array Oper) (Z : List Nat) (k : Nat) : Bool := Z.all fun z => waitsT md ops z 4 k
theorem waitsZ_spec {i : Nat} (h : waitsZ md ops Z i = true) {listed : Array Bool} (hc : Closed md ops listed) (hun : listed.getD i false = false) {z : Nat} (hz : z ∈ Z) : z ∉ Region.ready md ops listed := by
  unfold waitsZ at h
  simp only [List.all_eq_true] at h
  exact waitsT_spec hc 4 i (h z hz) hun

/-- U: what number i needs: S, if all of Z wait for it; or T. -/
theorem wpAnyZ_first {U : World → Prop} {i : Nat} {oi : Oper} {v : Value} (hT : (U = S ∧ waitsZ md ops Z i = true) ∨ U = T) (hi : ops[i]? = some oi) (hsel : ∀ (j : Nat) (o : Oper) cs b, ops[j]? = some o → o.op ≠ .select cs b)
    (hQ : ∀ c a w, Q (.panic c) (a.put oi.dst v) w → Q (.panic c) a w) :
    ∀ (fuel : Nat) (listed : Array Bool) (a : Act) (w : World), listed.size = ops.size → Closed md ops listed →
      (∀ j oj, ops[j]? = some oj → j ≠ i → listed.getD j true = false → (∀ e ∈ oj.after, Region.binds md e = true → e.on ≠ i) → oi.apart ops oj = true) →
      i ∈ Region.ready md ops listed → YieldsIf P ops U oi v a → U w →
      wpAnyZ P md ops Q S T Z fuel (listed.setIfInBounds i true) (a.put oi.dst v) w → wpAnyZ P md ops Q S T Z (fuel + 1) listed a w := by
  intro fuel
  induction fuel with
  | zero =>
    intro listed a w hsz _ _ hr hy hS H
    refine ⟨fun h => (by rw [h] at hr; cases hr), fun j hj => ?_⟩
    by_cases hji : j = i
    · subst hji; exact hy.wpOp hi hS ⟨.inr (fun h => h), fun h => h, H⟩
    · have := ready_mono hj hji
      rw [H.1] at this
      cases this
  | succ fuel ih =>
    intro listed a w hsz hcl hfree hr hy hS H
    have hil : i < ops.size := (Array.getElem?_eq_some_iff.1 hi).1
    have hun : listed.getD i false = false := by
      have h0 := (mem_ready.1 hr).1
      simp [hsz, hil] at h0 ⊢
      exact h0
    refine ⟨fun h => (by rw [h] at hr; cases hr), fun j hj => ?_⟩
    by_cases hji : j = i
    · subst hji; exact hy.wpOp hi hS ⟨.inr (fun h => h), fun h => h, H⟩
    · have h1 := H.2 j (ready_mono hj hji)
      obtain ⟨hjun, oj, hoj, hall⟩ := mem_ready.1 hj
      have hnot : ∀ e ∈ oj.after, Region.binds md e = true → e.on ≠ i := fun e he hb heq => by
        have h1 := hall e he hb
        rw [heq, hun] at h1
        cases h1
      have h2 := wpOp_putIf hoj (hfree j oj hoj hji hjun hnot) (fun cs b => hsel i oi cs b hi) (fun cs b => hsel j oj cs b hoj) hQ hy h1
      have hfree' : ∀ k ok, ops[k]? = some ok → k ≠ i → (listed.setIfInBounds j true).getD k true = false →
          (∀ e ∈ ok.after, Region.binds md e = true → e.on ≠ i) → oi.apart ops ok = true := fun k ok hk hki hun hno => by
        refine hfree k ok hk hki ?_ hno
        by_cases hjk : j = k
        · subst hjk; exact hjun
        · rw [getD_set_ne true hjk] at hun; exact hun
      refine wpOp_mono (fun a' w' h3 => ?_) h2
      have hS' : U w' := by
        rcases hT with ⟨rfl, hw⟩ | rfl
        · exact (h3.2.1.resolve_left (fun e => waitsZ_spec hw hcl hun e hj)) hS
        · exact h3.2.2.1 hS
      refine ⟨h3.2.1, h3.2.2.1, ih (listed.setIfInBounds j true) a' w' (by simpa using hsz) (hcl.set hj) hfree' (ready_mono hr (Ne.symm hji)) h3.1 hS' ?_⟩
      rw [Array.setIfInBounds_comm _ _ hji]
      exact h3.2.2.2

/-- The first phase: reads (does it need S? else T). -/
def wpGrZ (P : Program) (ops : Array Oper) (Q : Exit → Act → World → Prop) (S T : World → Prop) (K : Act → World → Prop) : List (Nat × Bool × Oper) → Act → World → Prop
  | [], a, w => K a w
  | (_, true, o) :: r, a, w => wpQuiet P ops (fun w0 => ∃ x : SW S, w0 = x.w) (fun a' => wpGrZ P ops Q S T K r a' w) [o] a
  | (_, false, o) :: r, a, w => wpQuiet P ops (fun w0 => ∃ x : SW T, w0 = x.w) (fun a' => wpGrZ P ops Q S T K r a' w) [o] a
def grZ (md : Region.Mode) (ops : Array Oper) (Z : List Nat) : List (Nat × Bool × Oper) → Array Bool → Bool
  | [], _ => true
  | (i, b, o) :: r, listed => valuedB o && (Region.ready md ops listed).contains i && (!b || waitsZ md ops Z i) && Region.free md ops listed i && grZ md ops Z r (listed.setIfInBounds i true)
theorem grL_size : ∀ (l : List (Nat × Bool × Oper)) (listed : Array Bool), (grL l listed).size = listed.size
  | [], _ => rfl
  | (i, _, _) :: r, listed => by rw [grL, grL_size r]; simp

theorem wpAnyZ_step {U : World → Prop} {i n : Nat} {o : Oper} {listed : Array Bool} {a : Act} {w : World} (hT : (U = S ∧ waitsZ md ops Z i = true) ∨ U = T) (hsel : Region.noSelect ops = true) (hQ : ∀ c d v a w, Q (.panic c) (Act.put a d v) w → Q (.panic c) a w)
    (ho : ops[i]? = some o) (hs : listed.size = ops.size) (hcl : Closed md ops listed) (hTw : U w) (hv : valuedB o = true) (hr : i ∈ Region.ready md ops listed) (hf : Region.free md ops listed i = true)
    {G : Act → Prop} (hG : ∀ a', G a' → wpAnyZ P md ops Q S T Z n (listed.setIfInBounds i true) a' w) (h : wpQuiet P ops (fun w0 => ∃ x : SW U, w0 = x.w) G [o] a) : wpAnyZ P md ops Q S T Z (n + 1) listed a w := by
  unfold wpQuiet at h
  split at h
  · rename_i hw
    obtain ⟨v, hy, hKK⟩ := yieldsIf_of_quiet hv hw h
    exact wpAnyZ_first hT ho (Region.noSelect_spec hsel) (hQ · _ _) n listed a _ hs hcl (Region.free_spec ho hf) hr hy hTw (hG _ hKK)
  · rename_i hw
    exact wpAnyZ_first hT ho (Region.noSelect_spec hsel) (hQ · _ _) n listed a _ hs hcl (Region.free_spec ho hf) hr (yieldsIf_skip hw) hTw (hG _ h)

theorem wpAnyZ_of_gr {K : Act → World → Prop} (hsel : Region.noSelect ops = true) (hQ : ∀ c d v a w, Q (.panic c) (Act.put a d v) w → Q (.panic c) a w) :
    ∀ (l : List (Nat × Bool × Oper)) (n : Nat) (listed : Array Bool) (a : Act) (w : World), (∀ i b o, (i, b, o) ∈ l → ops[i]? = some o) → listed.size = ops.size → Closed md ops listed → S w → T w → grZ md ops Z l listed = true →
      (∀ a, Closed md ops (grL l listed) → K a w → wpAnyZ P md ops Q S T Z n (grL l listed) a w) → wpGrZ P ops Q S T K l a w → wpAnyZ P md ops Q S T Z (l.length + n) listed a w
  | [], n, listed, a, w, _, _, hcl, _, _, _, hK, h => by
    rw [List.length_nil, Nat.zero_add]
    exact hK a hcl h
  | (i, b, o) :: r, n, listed, a, w, hl, hs, hcl, hS, hTw, hB, hK, h => by
    simp only [grZ, Bool.and_eq_true, Bool.or_eq_true, Bool.not_eq_true'] at hB
    obtain ⟨⟨⟨⟨hv, hr⟩, hwz⟩, hf⟩, hB'⟩ := hB
    have ho := hl i b o (by simp)
    have hl' : ∀ i b o, (i, b, o) ∈ r → ops[i]? = some o := fun i b o h => hl i b o (List.mem_cons_of_mem _ h)
    have hr' : i ∈ Region.ready md ops listed := by simpa using hr
    rw [show ((i, b, o) :: r).length + n = (r.length + n) + 1 from by simp; omega]
    have hG : ∀ a', wpGrZ P ops Q S T K r a' w → wpAnyZ P md ops Q S T Z (r.length + n) (listed.setIfInBounds i true) a' w := fun a' h' =>
      wpAnyZ_of_gr hsel hQ r n _ _ _ hl' (by simpa using hs) (hcl.set hr') hS hTw hB' hK h'
    cases b with
    | true => exact wpAnyZ_step (U := S) (.inl ⟨rfl, hwz.resolve_left (by simp)⟩) hsel hQ ho hs hcl hS hv hr' hf hG h
    | false => exact wpAnyZ_step (U := T) (.inr rfl) hsel hQ ho hs hcl hTw hv hr' hf hG h

/-- Where all that is left is of Z, S is no matter. -/
theorem wpAnyZ_of_E {z : Nat} (hz : ops.size ≤ z) : ∀ (n : Nat) (listed : Array Bool) (a : Act) (w : World), (∀ i, i < ops.size → listed.getD i true = false → i ∈ Z) → wpAnyE P md ops Q T z n listed a w → wpAnyZ P md ops Q S T Z n listed a w
  | 0, _, _, _, _, h => h
  | n + 1, listed, a, w, hZ, h => ⟨h.1, fun i hi => by
      obtain ⟨hiZ, hiz⟩ : i ∈ Z ∧ i < ops.size := by
        obtain ⟨h0, o, ho, _⟩ := mem_ready.1 hi
        exact ⟨hZ i (Array.getElem?_eq_some_iff.1 ho).1 h0, (Array.getElem?_eq_some_iff.1 ho).1⟩
      refine wpOp_mono (fun a' w' h' => ⟨.inl hiZ, fun _ => h'.1.resolve_left (by omega), wpAnyZ_of_E hz n _ a' w' (fun k hk hun => ?_) h'.2⟩) (h.2 i hi)
      by_cases hik : i = k
      · subst hik; exact hiZ
      · rw [getD_set_ne true hik] at hun; exact hZ k hk hun⟩

/-- TWO PHASES. -/
theorem wp_region_two {id : Nat} {Q0 : Exit → Act → World → Prop} {a : Act} {w : World} {l : List Oper} (S T : World → Prop) (Z : List Nat) (g1 : List (Nat × Bool)) (g2 : List (Nat × Bool)) (hm : P.follows .mixedOrders = true)
    (hB : (Region.noSelect l.toArray && decide ((withOps l g1).length + (withOps l g2).length = l.length) && grZ .any l.toArray Z (withOps l g1) (Array.replicate l.length false)
      && grB .any l.toArray l.length (withOps l g2) (grL (withOps l g1) (Array.replicate l.length false))
      && ((List.range l.length).all fun i => (grL (withOps l g1) (Array.replicate l.length false)).getD i true || Z.contains i)
      && (Region.ready .any l.toArray (grL (withOps l g2) (grL (withOps l g1) (Array.replicate l.length false)))).isEmpty) = true) (hS : S w.drew) (hT : T w.drew)
    (h : Nonempty (SW S) → Nonempty (SW T) → wpGrZ P l.toArray (NoPanic Q0) S T (fun a w => wpGr P l.toArray (NoPanic Q0) T l.length (Q0 .normal) (withOps l g2) a w) (withOps l g1) a w.drew) : (Code.region id l.toArray true).wp P Q0 a w := by
  simp only [Bool.and_eq_true, decide_eq_true_eq] at hB
  obtain ⟨⟨⟨⟨⟨h2, h3⟩, h4⟩, h5⟩, h6⟩, h7⟩ := hB
  refine wp_region_noPanic (wp_region_any hm (wpAny_of_Z (S := S) (T := T) (Z := Z) _ _ _ _ ?_))
  have := wpAnyZ_of_gr (md := .any) (S := S) (T := T) (Q := NoPanic Q0) (Z := Z) h2 (fun _ _ _ _ _ h => h) (withOps l g1) (withOps l g2).length (Array.replicate l.length false) a w.drew (fun i b o hm => withOps_get hm) (by simp) (fun j k hj _ => by rw [getD_replicate_false] at hj; cases hj) hS hT h4
    (fun a hcl hk => wpAnyZ_of_E (z := l.length) (by simp) _ _ _ _ (fun i hi hun => by
        simp only [List.all_eq_true, List.mem_range, Bool.or_eq_true, List.contains_iff_mem] at h6
        rcases h6 i (by simpa using hi) with h | h
        · rw [h] at hun; cases hun
        · exact h)
      (by
        have hE := wpAnyE_of_gr (md := .any) (S := T) (z := l.length) (Q := NoPanic Q0) (K := Q0 .normal) (by unfold waitsB; simp) h2 (fun _ _ _ _ _ h => h) (withOps l g2) 0 (grL (withOps l g1) (Array.replicate l.length false)) a w.drew (fun i b o hm => withOps_get hm) (by rw [grL_size]; simp) hcl (.inr hT) h5
          (fun a w _ _ hk => ⟨by simpa using h7, hk⟩) (.inl rfl) (fun _ => .inl rfl) hk
        rw [Nat.add_zero] at hE
        exact hE)) (h ⟨SW.mk' _ hS⟩ ⟨SW.mk' _ hT⟩)
  rw [h3] at this
  simpa using this
theorem wpGrZ_q {K : Act → World → Prop} {i : Nat} {o : Oper} {r : List (Nat × Bool × Oper)} {a : Act} {w : World} (h : wpQuiet P ops (fun w0 => ∃ x : SW S, w0 = x.w) (fun a' => wpGrZ P ops Q S T K r a' w) [o] a) : wpGrZ P ops Q S T K ((i, true, o) :: r) a w := h
theorem wpGrZ_f {K : Act → World → Prop} {i : Nat} {o : Oper} {r : List (Nat × Bool × Oper)} {a : Act} {w : World} (h : wpQuiet P ops (fun w0 => ∃ x : SW T, w0 = x.w) (fun a' => wpGrZ P ops Q S T K r a' w) [o] a) : wpGrZ P ops Q S T K ((i, false, o) :: r) a w := h
theorem wpGrZ_nil {K : Act → World → Prop} {a : Act} {w : World} (h : K a w) : wpGrZ P ops Q S T K [] a w := h
end
end Go.Proofs.Ytelmjlfhmbicjaa
