/- A region that draws its order, walked in ONE order: what only reads comes first, the others in the one order that the edges allow. The reads hold in every world that meets S; S is shown anew behind each operation that writes, but for the last one, for which all wait. -/
import Derived.Test.YtgoeocfgajbldaaMem
import Derived.Deep.RegionHeld3
namespace Go.Proofs.Ytgoeocfgajbldaa
open Go.RowKit

/-- A run that ends, if it ends well, with a value. -/
def Valued (e : Sem Next) : Prop := ∀ (P : Program) (w : World), match e.run P w with
  | .ok (.value _) _ => True
  | .ok _ _ => False
  | .halt _ _ => True
theorem Valued.pure_ (v : Value) : Valued (pure (.value v)) := fun _ _ => by simp
theorem Valued.bind_ {α : Type} (s : Sem α) (f : α → Sem Next) (h : ∀ a, Valued (f a)) : Valued (s >>= f) := fun P w => by
  rw [Sem.run_bind]
  cases hs : s.run P w with
  | ok a w' => simp only [Result.andThen]; exact h a P w'
  | halt x w' => simp [Result.andThen]
theorem Valued.map_ (s : Sem Value) : Valued (do pure (.value (← s))) := Valued.bind_ s _ fun _ => Valued.pure_ _
theorem Valued.halt_ (h : Halt) : Valued (.halt h) := fun _ _ => by simp [Sem.run]
theorem Valued.goPanic_ (v : Value) : Valued (goPanic v) := Valued.halt_ _

/-- The kinds of operations that only yield a value. -/
def valuedB (o : Oper) : Bool := match o.op with
  | .move _ | .assign _ | .pick _ _ _ | .load _ _ | .binOp _ _ _ _ _ | .unOp _ _ _ | .convert _ _ _ | .fieldAddr _ _ _ | .indexAddr _ _ _ | .index _ _ _ | .extract _ _ | .build _ _ | .slice _ _ _ _ _ | .makeFunc _ _ _ | .field _ _ _ => true
  | .nilCheck _ => true
  | .call { callee := .builtin .len, .. } => true
  | _ => false

theorem Valued.nilDeref : Valued (runtimePanic (α := Next) .nilDeref) := by
  unfold runtimePanic
  refine Valued.bind_ _ _ fun p => ?_
  exact Valued.goPanic_ _

theorem valued_of (o : Oper) (ρ : Operand → Value) (h : valuedB o = true) : Valued (execOp ρ o) := by
  obtain ⟨dst, op, type, pos, after, guard⟩ := o
  unfold valuedB at h
  unfold execOp
  cases op
  case pick c a b => exact Valued.bind_ _ _ fun _ => Valued.pure_ _
  case nilCheck x =>
    dsimp only
    split
    · exact Valued.nilDeref
    · exact Valued.nilDeref
    · exact Valued.nilDeref
    · split
      · exact Valued.nilDeref
      · refine Valued.bind_ _ _ fun p => Valued.bind_ _ _ fun b => ?_
        split
        · exact Valued.bind_ _ _ fun _ => Valued.pure_ _
        · exact Valued.pure_ _
      · exact Valued.pure_ _
    · exact Valued.pure_ _
  case call c =>
    obtain ⟨callee, args, argTypes⟩ := c
    cases callee with
    | builtin b =>
      cases b
      case len =>
        dsimp only [resolve, pure_bind]
        exact Valued.map_ _
      all_goals (exact absurd h (by simp))
    | value f => exact absurd h (by simp)
    | invoke r m => exact absurd h (by simp)
  all_goals first | exact Valued.pure_ _ | exact Valued.map_ _ | exact absurd h (by simp)

/-- The worlds that meet S: letters to the walk. -/
def SW (S : World → Prop) : Type := {w : World // S w}
def SW.w {S : World → Prop} (x : SW S) : World := x.1
theorem SW.ok {S : World → Prop} (x : SW S) : S x.w := x.2
def SW.mk' {S : World → Prop} (w : World) (h : S w) : SW S := ⟨w, h⟩

section
variable {P : Program} {ops : Array Oper} {Q : Exit → Act → World → Prop} {md : Region.Mode} {S : World → Prop} {z : Nat}


theorem yieldsIf_of_quiet {o : Oper} {a : Act} {K : Act → Prop} (hv : valuedB o = true) (hw : Region.wanted o (yielded ops a.tmps) = true) (h : o.quiet P a (fun w0 => ∃ x : SW S, w0 = x.w) K) :
    ∃ v, YieldsIf P ops S o v a ∧ K (a.put o.dst v) := by
  obtain ⟨v, h1, h2⟩ := h
  refine ⟨v, .inl ⟨hw, fun w hS => ?_⟩, h2⟩
  have h3 := h1 w ⟨⟨w, hS⟩, rfl⟩
  have h4 := valued_of o a.eval hv P w
  unfold Oper.quietAt at h3
  generalize (execOp a.eval o).run P w = r at *
  cases r with
  | ok n w' =>
    cases n <;> simp only [Oper.quietUpon] at h3 h4
    obtain ⟨e1, e2⟩ := h3
    rw [e1, e2]
  | halt x w' => simp only [Oper.quietUpon] at h3

/-- Whatever order is picked; S holds behind every operation but number z. -/
def wpAnyE (P : Program) (md : Region.Mode) (ops : Array Oper) (Q : Exit → Act → World → Prop) (S : World → Prop) (z : Nat) : Nat → Array Bool → Act → World → Prop
  | 0, listed, a, w => Region.ready md ops listed = [] ∧ Q .normal a w
  | fuel + 1, listed, a, w =>
    (Region.ready md ops listed = [] → Q .normal a w) ∧
    ∀ i ∈ Region.ready md ops listed, wpOp P ops Q i (fun a' w' => (i = z ∨ S w') ∧ wpAnyE P md ops Q S z fuel (listed.setIfInBounds i true) a' w') a w

theorem wpAny_of_E : ∀ (fuel : Nat) (listed : Array Bool) (a : Act) (w : World), wpAnyE P md ops Q S z fuel listed a w → wpAny P md ops Q fuel listed a w
  | 0, _, _, _, h => h
  | fuel + 1, _, _, _, h => ⟨h.1, fun i hi => wpOp_mono (fun a' w' h' => wpAny_of_E fuel _ a' w' h'.2) (h.2 i hi)⟩

/-- j waits for k by an edge of its own. -/
def edgeB (md : Region.Mode) (ops : Array Oper) (j k : Nat) : Bool :=
  match ops[j]? with
  | none => false
  | some o => o.after.any fun e => Region.binds md e && e.on == k
/-- z waits for k, at last. -/
def waitsT (md : Region.Mode) (ops : Array Oper) (z : Nat) : Nat → Nat → Bool
  | 0, k => edgeB md ops z k
  | f + 1, k => edgeB md ops z k || (List.range ops.size).any fun j => edgeB md ops j k && waitsT md ops z f j
/-- Number z waits for all others. -/
def waitsB (md : Region.Mode) (ops : Array Oper) (z : Nat) : Bool :=
  decide (ops.size ≤ z) || (List.range ops.size).all fun k => k == z || waitsT md ops z 4 k

/-- What is listed has all that it waits for. -/
def Closed (md : Region.Mode) (ops : Array Oper) (listed : Array Bool) : Prop := ∀ j k, listed.getD j false = true → edgeB md ops j k = true → listed.getD k false = true

theorem edge_spec {j k : Nat} (h : edgeB md ops j k = true) : ∃ o e, ops[j]? = some o ∧ e ∈ o.after ∧ Region.binds md e = true ∧ e.on = k := by
  unfold edgeB at h
  split at h
  · cases h
  · rename_i o ho
    obtain ⟨e, he, hb⟩ := Array.any_eq_true'.1 h
    simp only [Bool.and_eq_true, beq_iff_eq] at hb
    exact ⟨o, e, ho, he, hb.1, hb.2⟩
theorem not_ready_edge {j k : Nat} {listed : Array Bool} (h : edgeB md ops j k = true) (hun : listed.getD k false = false) : j ∉ Region.ready md ops listed := by
  intro hr
  obtain ⟨_, o, ho, hall⟩ := mem_ready.1 hr
  obtain ⟨o', e, ho', he, hb, hk⟩ := edge_spec h
  rw [ho] at ho'
  injection ho' with ho'
  subst ho'
  have := hall e he hb
  rw [hk, hun] at this
  cases this
theorem Closed.set {listed : Array Bool} {j : Nat} (h : Closed md ops listed) (hr : j ∈ Region.ready md ops listed) : Closed md ops (listed.setIfInBounds j true) := by
  intro a b ha hab
  by_cases haj : a = j
  · subst haj
    cases hb : listed.getD b false with
    | true => exact getD_set_true hb
    | false => exact absurd hr (not_ready_edge hab hb)
  · rw [getD_set_ne false (Ne.symm haj)] at ha
    exact getD_set_true (h a b ha hab)
theorem waitsT_spec {listed : Array Bool} (hc : Closed md ops listed) : ∀ (f k : Nat), waitsT md ops z f k = true → listed.getD k false = false → z ∉ Region.ready md ops listed
  | 0, _, h, hun => not_ready_edge h hun
  | f + 1, k, h, hun => by
    simp only [waitsT, Bool.or_eq_true] at h
    rcases h with h | h
    · exact not_ready_edge h hun
    · obtain ⟨j, _, hj⟩ := List.any_eq_true.1 h
      simp only [Bool.and_eq_true] at hj
      refine waitsT_spec hc f j hj.2 ?_
      cases hl : listed.getD j false with
      | false => rfl
      | true => rw [hc j k hl hj.1] at hun; cases hun

theorem waits_spec (h : waitsB md ops z = true) {i : Nat} {listed : Array Bool} (hc : Closed md ops listed) (hi : i < ops.size) (hiz : i ≠ z) (hun : listed.getD i false = false) : z ∉ Region.ready md ops listed := by
  unfold waitsB at h
  simp only [Bool.or_eq_true, decide_eq_true_eq] at h
  rcases h with h | h
  · intro hr
    obtain ⟨_, o, ho, _⟩ := mem_ready.1 hr
    have := (Array.getElem?_eq_some_iff.1 ho).1
    omega
  · simp only [List.all_eq_true, List.mem_range] at h
    have h1 := h i hi
    simp only [Bool.or_eq_true, beq_iff_eq, hiz, false_or] at h1
    exact waitsT_spec hc 4 i h1 hun

theorem wpAnyE_first (hz : waitsB md ops z = true) {i : Nat} {oi : Oper} {v : Value} (hi : ops[i]? = some oi) (hiz : i ≠ z) (hsel : ∀ (j : Nat) (o : Oper) cs b, ops[j]? = some o → o.op ≠ .select cs b)
    (hQ : ∀ c a w, Q (.panic c) (a.put oi.dst v) w → Q (.panic c) a w) :
    ∀ (fuel : Nat) (listed : Array Bool) (a : Act) (w : World), listed.size = ops.size → Closed md ops listed →
      (∀ j oj, ops[j]? = some oj → j ≠ i → listed.getD j true = false → (∀ e ∈ oj.after, Region.binds md e = true → e.on ≠ i) → oi.apart ops oj = true) →
      i ∈ Region.ready md ops listed → YieldsIf P ops S oi v a → S w →
      wpAnyE P md ops Q S z fuel (listed.setIfInBounds i true) (a.put oi.dst v) w → wpAnyE P md ops Q S z (fuel + 1) listed a w := by
  intro fuel
  induction fuel with
  | zero =>
    intro listed a w hsz _ _ hr hy hS H
    refine ⟨fun h => (by rw [h] at hr; cases hr), fun j hj => ?_⟩
    by_cases hji : j = i
    · subst hji; exact hy.wpOp hi hS ⟨.inr hS, H⟩
    · have := ready_mono hj hji
      rw [H.1] at this
      cases this
  | succ fuel ih =>
    intro listed a w hsz hcl hfree hr hy hS H
    have hil : i < ops.size := (Array.getElem?_eq_some_iff.1 hi).1
    have hun : listed.getD i false = false := by
      have h0 := (mem_ready.1 hr).1
      simp [hsz, hil] at h0 ⊢
      exact h0
    refine ⟨fun h => (by rw [h] at hr; cases hr), fun j hj => ?_⟩
    by_cases hji : j = i
    · subst hji; exact hy.wpOp hi hS ⟨.inr hS, H⟩
    · have hjz : j ≠ z := fun e => by subst e; exact waits_spec hz hcl hil hiz hun hj
      have h1 := H.2 j (ready_mono hj hji)
      obtain ⟨hjun, oj, hoj, hall⟩ := mem_ready.1 hj
      have hnot : ∀ e ∈ oj.after, Region.binds md e = true → e.on ≠ i := fun e he hb heq => by
        have h1 := hall e he hb
        rw [heq, hun] at h1
        cases h1
      have h2 := wpOp_putIf hoj (hfree j oj hoj hji hjun hnot) (fun cs b => hsel i oi cs b hi) (fun cs b => hsel j oj cs b hoj) hQ hy h1
      have hfree' : ∀ k ok, ops[k]? = some ok → k ≠ i → (listed.setIfInBounds j true).getD k true = false →
          (∀ e ∈ ok.after, Region.binds md e = true → e.on ≠ i) → oi.apart ops ok = true := fun k ok hk hki hun hno => by
        refine hfree k ok hk hki ?_ hno
        by_cases hjk : j = k
        · subst hjk; exact hjun
        · rw [getD_set_ne true hjk] at hun; exact hun
      refine wpOp_mono (fun a' w' h3 => ?_) h2
      have hS' : S w' := h3.2.1.resolve_left hjz
      refine ⟨.inr hS', ih (listed.setIfInBounds j true) a' w' (by simpa using hsz) (hcl.set hj) hfree' (ready_mono hr (Ne.symm hji)) h3.1 hS' ?_⟩
      rw [Array.setIfInBounds_comm _ _ hji]
      exact h3.2.2

/-- The one order: (number, does it write?, the operation); K: what is to be shown behind it. -/
def wpGr (P : Program) (ops : Array Oper) (Q : Exit → Act → World → Prop) (S : World → Prop) (z : Nat) (K : Act → World → Prop) : List (Nat × Bool × Oper) → Act → World → Prop
  | [], a, w => K a w
  | (_, false, o) :: r, a, w => wpQuiet P ops (fun w0 => ∃ x : SW S, w0 = x.w) (fun a' => wpGr P ops Q S z K r a' w) [o] a
  | (i, true, o) :: r, a, w => if Region.wanted o (yielded ops a.tmps) then o.wp P a w (fun a' w' => (i = z ∨ S w') ∧ wpGr P ops Q S z K r a' w') Q else wpGr P ops Q S z K r (a.put o.dst undef) w

/-- Is it an order? -/
def grB (md : Region.Mode) (ops : Array Oper) (z : Nat) : List (Nat × Bool × Oper) → Array Bool → Bool
  | [], _ => true
  | (i, false, o) :: r, listed => valuedB o && (Region.ready md ops listed).contains i && (i != z) && Region.free md ops listed i && grB md ops z r (listed.setIfInBounds i true)
  | (i, true, _) :: r, listed => decide (Region.ready md ops listed = [i]) && (i != z || r.isEmpty) && grB md ops z r (listed.setIfInBounds i true)
/-- What is listed behind it. -/
def grL : List (Nat × Bool × Oper) → Array Bool → Array Bool
  | [], listed => listed
  | (i, _, _) :: r, listed => grL r (listed.setIfInBounds i true)

theorem yieldsIf_skip {o : Oper} {a : Act} (hw : ¬ Region.wanted o (yielded ops a.tmps) = true) : YieldsIf P ops S o undef a := .inr ⟨by simpa using hw, rfl⟩

/-- One that writes comes up. -/
theorem wpOp_gr {K : Act → World → Prop} {i n : Nat} {o : Oper} {r : List (Nat × Bool × Oper)} {listed : Array Bool} {a : Act} {w : World} (ho : ops[i]? = some o) (hS : S w)
    (h : if Region.wanted o (yielded ops a.tmps) then o.wp P a w (fun a' w' => (i = z ∨ S w') ∧ wpGr P ops Q S z K r a' w') Q else wpGr P ops Q S z K r (a.put o.dst undef) w)
    (hrec : ∀ a' w', (i = z ∨ S w') → wpGr P ops Q S z K r a' w' → wpAnyE P md ops Q S z n (listed.setIfInBounds i true) a' w') :
    wpOp P ops Q i (fun a' w' => (i = z ∨ S w') ∧ wpAnyE P md ops Q S z n (listed.setIfInBounds i true) a' w') a w := by
  unfold wpOp
  simp only [ho]
  split
  · rename_i hw
    rw [if_pos hw] at h
    exact .inl (Oper.wp_mono (fun a' w' h' => ⟨h'.1, hrec a' w' h'.1 h'.2⟩) h)
  · rename_i hw
    rw [if_neg hw] at h
    exact ⟨.inr hS, hrec _ _ (.inr hS) h⟩

theorem wpAnyE_of_gr {K : Act → World → Prop} (hz : waitsB md ops z = true) (hsel : Region.noSelect ops = true) (hQ : ∀ c d v a w, Q (.panic c) (Act.put a d v) w → Q (.panic c) a w) :
    ∀ (l : List (Nat × Bool × Oper)) (n : Nat) (listed : Array Bool) (a : Act) (w : World), (∀ i b o, (i, b, o) ∈ l → ops[i]? = some o) → listed.size = ops.size → Closed md ops listed → (l = [] ∨ S w) → grB md ops z l listed = true →
      (∀ a w, ((l = [] → S w) ∨ n = 0 ∨ S w) → Closed md ops (grL l listed) → K a w → wpAnyE P md ops Q S z n (grL l listed) a w) → (n = 0 ∨ ∀ p ∈ l, p.1 ≠ z) → (l = [] → n = 0 ∨ S w) → wpGr P ops Q S z K l a w → wpAnyE P md ops Q S z (l.length + n) listed a w
  | [], n, listed, a, w, _, _, hcl, _, _, hK, _, hn, h => by
    rw [List.length_nil, Nat.zero_add]
    exact hK a w (.inr (hn rfl)) hcl h
  | (i, false, o) :: r, n, listed, a, w, hl, hs, hcl, hS, hB, hK, hnz, _, h => by
    have hS := hS.resolve_left (by simp)
    simp only [grB, Bool.and_eq_true, bne_iff_ne, ne_eq] at hB
    obtain ⟨⟨⟨⟨hv, hr⟩, hiz⟩, hf⟩, hB'⟩ := hB
    have ho := hl i false o (by simp)
    have hl' : ∀ i b o, (i, b, o) ∈ r → ops[i]? = some o := fun i b o h => hl i b o (List.mem_cons_of_mem _ h)
    have hr' : i ∈ Region.ready md ops listed := by simpa using hr
    have hnz' : n = 0 ∨ ∀ p ∈ r, p.1 ≠ z := hnz.imp id fun h p hp => h p (List.mem_cons_of_mem _ hp)
    have hK' : ∀ a w, ((r = [] → S w) ∨ n = 0 ∨ S w) → Closed md ops (grL r (listed.setIfInBounds i true)) → K a w → wpAnyE P md ops Q S z n (grL r (listed.setIfInBounds i true)) a w := fun a w _ hc hk => hK a w (.inl (by simp)) hc hk
    rw [show ((i, false, o) :: r).length + n = (r.length + n) + 1 from by simp; omega]
    unfold wpGr wpQuiet at h
    split at h
    · rename_i hw
      obtain ⟨v, hy, hKK⟩ := yieldsIf_of_quiet hv hw h
      exact wpAnyE_first hz ho hiz (Region.noSelect_spec hsel) (hQ · _ _) (r.length + n) listed a _ hs hcl (Region.free_spec ho hf) hr' hy hS
        (wpAnyE_of_gr hz hsel hQ r n _ _ _ hl' (by simpa using hs) (hcl.set hr') (.inr hS) hB' hK' hnz' (fun _ => .inr hS) hKK)
    · rename_i hw
      exact wpAnyE_first hz ho hiz (Region.noSelect_spec hsel) (hQ · _ _) (r.length + n) listed a _ hs hcl (Region.free_spec ho hf) hr' (yieldsIf_skip hw) hS
        (wpAnyE_of_gr hz hsel hQ r n _ _ _ hl' (by simpa using hs) (hcl.set hr') (.inr hS) hB' hK' hnz' (fun _ => .inr hS) h)
  | (i, true, o) :: r, n, listed, a, w, hl, hs, hcl, hS, hB, hK, hnz, _, h => by
    simp only [grB, Bool.and_eq_true, decide_eq_true_eq, Bool.or_eq_true, bne_iff_ne, ne_eq, List.isEmpty_iff] at hB
    obtain ⟨⟨hr, hiz⟩, hB'⟩ := hB
    have hS1 := hS.resolve_left (by simp)
    have ho := hl i true o (by simp)
    have hl' : ∀ i b o, (i, b, o) ∈ r → ops[i]? = some o := fun i b o h => hl i b o (List.mem_cons_of_mem _ h)
    have hri : i ∈ Region.ready md ops listed := by rw [hr]; simp
    have hnz' : n = 0 ∨ ∀ p ∈ r, p.1 ≠ z := hnz.imp id fun h p hp => h p (List.mem_cons_of_mem _ hp)
    have hK' : ∀ a w, ((r = [] → S w) ∨ n = 0 ∨ S w) → Closed md ops (grL r (listed.setIfInBounds i true)) → K a w → wpAnyE P md ops Q S z n (grL r (listed.setIfInBounds i true)) a w := fun a w _ hc hk => hK a w (.inl (by simp)) hc hk
    rw [show ((i, true, o) :: r).length + n = (r.length + n) + 1 from by simp; omega]
    refine ⟨fun h0 => (by rw [hr] at h0; cases h0), fun j hj => ?_⟩
    rw [hr] at hj
    have : j = i := by simpa using hj
    subst this
    unfold wpGr at h
    refine wpOp_gr ho hS1 h (fun a' w' hS' h' => wpAnyE_of_gr hz hsel hQ r n _ a' w' hl' (by simpa using hs) (hcl.set hri) ?_ hB' hK' hnz' ?_ h')
    · rcases hS' with e | e
      · exact .inl (hiz.resolve_left (by simp [e]))
      · exact .inr e
    · intro hr0
      rcases hS' with e | e
      · exact .inl (hnz.resolve_right (fun hh => hh (j, true, o) (by simp) e))
      · exact .inr e

/-- The operations of an order. -/
def withOps (l : List Oper) (g : List (Nat × Bool)) : List (Nat × Bool × Oper) := g.filterMap fun p => (l[p.1]?).map fun o => (p.1, p.2, o)
theorem withOps_get {l : List Oper} {g : List (Nat × Bool)} {i : Nat} {b : Bool} {o : Oper} (hm : (i, b, o) ∈ withOps l g) : l.toArray[i]? = some o := by
  simp only [withOps, List.mem_filterMap] at hm
  obtain ⟨p, _, hp⟩ := hm
  obtain ⟨o', ho', he⟩ := Option.map_eq_some_iff.1 hp
  injection he with e1 e2
  injection e2 with e2 e3
  subst e1 e3
  simpa using ho'

/-- THE BEGINNING. -/
theorem wp_region_gr {id : Nat} {Q0 : Exit → Act → World → Prop} {a : Act} {w : World} {l : List Oper} (S : World → Prop) (z : Nat) (g : List (Nat × Bool)) (hm : P.follows .mixedOrders = true)
    (hB : (waitsB .any l.toArray z && Region.noSelect l.toArray && decide ((withOps l g).length = l.length) && grB .any l.toArray z (withOps l g) (Array.replicate l.length false) && (Region.ready .any l.toArray (grL (withOps l g) (Array.replicate l.length false))).isEmpty) = true) (hS : S w.drew)
    (h : Nonempty (SW S) → wpGr P l.toArray (NoPanic Q0) S z (Q0 .normal) (withOps l g) a w.drew) : (Code.region id l.toArray true).wp P Q0 a w := by
  simp only [Bool.and_eq_true, decide_eq_true_eq] at hB
  obtain ⟨⟨⟨⟨h1, h2⟩, h3⟩, h4⟩, h5⟩ := hB
  refine wp_region_noPanic (wp_region_any hm (wpAny_of_E (S := S) (z := z) _ _ _ _ ?_))
  have := wpAnyE_of_gr (md := .any) (S := S) (Q := NoPanic Q0) h1 h2 (fun _ _ _ _ _ h => h) (withOps l g) 0 (Array.replicate l.length false) a w.drew (fun i b o hm => withOps_get hm) (by simp) (fun j k hj _ => by rw [getD_replicate_false] at hj; cases hj) (.inr hS) h4
    (fun a w _ _ hk => ⟨by simpa using h5, hk⟩) (.inl rfl) (fun _ => .inl rfl) (h ⟨SW.mk' _ hS⟩)
  rw [Nat.add_zero, h3] at this
  simpa using this

/-- THE BEGINNING, where at one place one of two that write may come up. -/
theorem wp_region_gr2 {id : Nat} {Q0 : Exit → Act → World → Prop} {a : Act} {w : World} {l : List Oper} (S : World → Prop) (z : Nat) (g : List (Nat × Bool)) (i : Nat) (g1 : List (Nat × Bool)) (j : Nat) (g2 : List (Nat × Bool)) (hm : P.follows .mixedOrders = true)
    (hB : (waitsB .any l.toArray z && Region.noSelect l.toArray && decide ((withOps l g).length + ((withOps l g1).length + 1) = l.length) && decide ((withOps l g2).length = (withOps l g1).length) && (i != z) && (j != z) && (withOps l g).all (fun p => p.1 != z) &&
      grB .any l.toArray z (withOps l g) (Array.replicate l.length false) && decide (Region.ready .any l.toArray (grL (withOps l g) (Array.replicate l.length false)) = [i, j]) &&
      (grB .any l.toArray z (withOps l g1) ((grL (withOps l g) (Array.replicate l.length false)).setIfInBounds i true) && (Region.ready .any l.toArray (grL (withOps l g1) ((grL (withOps l g) (Array.replicate l.length false)).setIfInBounds i true))).isEmpty) &&
      (grB .any l.toArray z (withOps l g2) ((grL (withOps l g) (Array.replicate l.length false)).setIfInBounds j true) && (Region.ready .any l.toArray (grL (withOps l g2) ((grL (withOps l g) (Array.replicate l.length false)).setIfInBounds j true))).isEmpty)) = true) (hS : S w.drew)
    (h : Nonempty (SW S) → wpGr P l.toArray (NoPanic Q0) S z (fun a w => S w ∧ wpGr P l.toArray (NoPanic Q0) S z (Q0 .normal) (withOps l ((i, true) :: g1)) a w ∧ wpGr P l.toArray (NoPanic Q0) S z (Q0 .normal) (withOps l ((j, true) :: g2)) a w) (withOps l g) a w.drew) : (Code.region id l.toArray true).wp P Q0 a w := by
  simp only [Bool.and_eq_true, decide_eq_true_eq, bne_iff_ne, ne_eq] at hB
  obtain ⟨⟨⟨⟨⟨⟨⟨⟨⟨⟨h1, h2⟩, h3⟩, h3'⟩, hiz⟩, hjz⟩, hgz⟩, h4⟩, h5⟩, h6, h6'⟩, h7, h7'⟩ := hB
  have hsz : ∀ (g : List (Nat × Bool × Oper)) (L : Array Bool), (grL g L).size = L.size := by
    intro g
    induction g with
    | nil => intro L; rfl
    | cons p g ih => intro L; obtain ⟨i, b, o⟩ := p; simp [grL, ih]
  refine wp_region_noPanic (wp_region_any hm (wpAny_of_E (S := S) (z := z) _ _ _ _ ?_))
  have hri : i ∈ Region.ready .any l.toArray (grL (withOps l g) (Array.replicate l.length false)) := by rw [h5]; simp
  have hrj : j ∈ Region.ready .any l.toArray (grL (withOps l g) (Array.replicate l.length false)) := by rw [h5]; simp
  have heff : ∀ (k : Nat) (gk : List (Nat × Bool)) (a : Act) (w : World), k ≠ z → k ∈ Region.ready .any l.toArray (grL (withOps l g) (Array.replicate l.length false)) → (withOps l gk).length = (withOps l g1).length → Closed .any l.toArray (grL (withOps l g) (Array.replicate l.length false)) →
      grB .any l.toArray z (withOps l gk) ((grL (withOps l g) (Array.replicate l.length false)).setIfInBounds k true) = true → (Region.ready .any l.toArray (grL (withOps l gk) ((grL (withOps l g) (Array.replicate l.length false)).setIfInBounds k true))).isEmpty = true → S w →
      wpGr P l.toArray (NoPanic Q0) S z (Q0 .normal) (withOps l ((k, true) :: gk)) a w → wpOp P l.toArray (NoPanic Q0) k (fun a' w' => (k = z ∨ S w') ∧ wpAnyE P .any l.toArray (NoPanic Q0) S z (withOps l g1).length ((grL (withOps l g) (Array.replicate l.length false)).setIfInBounds k true) a' w') a w := by
    intro k gk a w hkz hrk hlen hcl hb he hS' hh
    obtain ⟨_, o, ho, _⟩ := mem_ready.1 hrk
    have hw : withOps l ((k, true) :: gk) = (k, true, o) :: withOps l gk := by
      have ho' : l[k]? = some o := by simpa using ho
      simp [withOps, ho']
    rw [hw] at hh
    unfold wpGr at hh
    refine wpOp_gr ho hS' hh (fun a' w' hS'' h' => ?_)
    have := wpAnyE_of_gr (md := .any) (S := S) (Q := NoPanic Q0) h1 h2 (fun _ _ _ _ _ h => h) (withOps l gk) 0 _ a' w' (fun i b o hm => withOps_get hm) (by simp [hsz]) (hcl.set hrk) (.inr (hS''.resolve_left hkz)) hb
      (fun a w _ _ hk => ⟨by simpa using he, hk⟩) (.inl rfl) (fun _ => .inl rfl) h'
    rw [Nat.add_zero, hlen] at this
    exact this
  have := wpAnyE_of_gr (md := .any) (S := S) (Q := NoPanic Q0) h1 h2 (fun _ _ _ _ _ h => h) (withOps l g) ((withOps l g1).length + 1) (Array.replicate l.length false) a w.drew (fun i b o hm => withOps_get hm) (by simp) (fun j k hj _ => by rw [getD_replicate_false] at hj; cases hj) (.inr hS) h4
    (fun a w _ hcl hk => ⟨fun h0 => (by rw [h5] at h0; cases h0), fun k hk' => by
      rw [h5] at hk'
      have : k = i ∨ k = j := by simpa using hk'
      rcases this with rfl | rfl
      · exact heff k g1 a w hiz hri rfl hcl h6 h6' hk.1 hk.2.1
      · exact heff k g2 a w hjz hrj h3' hcl h7 h7' hk.1 hk.2.2⟩)
    (.inr (fun p hp => by simpa using List.all_eq_true.1 hgz p hp)) (fun _ => .inr hS) (h ⟨SW.mk' _ hS⟩)
  rw [h3] at this
  simpa using this

/-- One that only reads. -/
theorem wpGr_q {K : Act → World → Prop} {i : Nat} {o : Oper} {r : List (Nat × Bool × Oper)} {a : Act} {w : World}
    (h : wpQuiet P ops (fun w0 => ∃ x : SW S, w0 = x.w) (fun a' => wpGr P ops Q S z K r a' w) [o] a) : wpGr P ops Q S z K ((i, false, o) :: r) a w := h

/-- One that writes. -/
theorem wpGr_eff {K : Act → World → Prop} {i : Nat} {o : Oper} {r : List (Nat × Bool × Oper)} {a : Act} {w : World} (hg : o.guard = none)
    (h : ∀ K' : Act → World → Prop, (∀ a' w', ((i = z ∨ S w') ∧ wpGr P ops Q S z K r a' w') → K' a' w') → o.wp P a w K' Q) : wpGr P ops Q S z K ((i, true, o) :: r) a w := by
  unfold wpGr
  rw [if_pos (by simp [Region.wanted, hg])]
  exact h _ fun _ _ h => h

/-- A region all of whose operations only read. -/
theorem wp_region_qall {id : Nat} {l : List Oper} {a : Act} {w : World} (hm : P.follows .mixedOrders = true) (hB : Region.lexB .any l.toArray = true)
    (h : wpQuiet P l.toArray (fun w' => w' = w.drew) (fun a' => Q .normal a' w.drew) l a) : (Code.region id l.toArray true).wp P Q a w :=
  wp_region_still_lit hm hB (wpStill_of_quiet _ _ h)

/-- The end. -/
theorem wpGr_nil {K : Act → World → Prop} {a : Act} {w : World} (h : K a w) : wpGr P ops Q S z K [] a w := h
end
end Go.Proofs.Ytgoeocfgajbldaa
