/- A region that draws, walked along a tree of orders: what only reads in one order, what writes in each order that may come up (two ways at most at a place). -/
import Derived.Test.YtgoeocfgajbldaaReg
namespace Go.Proofs.Ytgoeocfgajbldaa
open Go.RowKit
set_option linter.unusedVariables false

/-- A tree of orders: q: it only reads; e: it alone may come up; g: so, under a guard that lets it; b: one of two. -/
inductive Tr where
  | nil
  | q (i : Nat) (t : Tr)
  | e (i : Nat) (t : Tr)
  | g (i : Nat) (t : Tr)
  | b (i j : Nat) (t1 t2 : Tr)
  | u (i : Nat) (t : Tr)

section
variable {P : Program} {ops : Array Oper} {Q : Exit → Act → World → Prop} {md : Region.Mode} {S : World → Prop}

def wpTr (P : Program) (ops : Array Oper) (Q : Exit → Act → World → Prop) (S : World → Prop) (K : Act → World → Prop) : Tr → Act → World → Prop
  | .nil, a, w => K a w
  | .q i t, a, w => ∃ o, ops[i]? = some o ∧ wpQuiet P ops (fun w0 => ∃ x : SW S, w0 = x.w) (fun a' => wpTr P ops Q S K t a' w) [o] a
  | .e i t, a, w => ∃ o, ops[i]? = some o ∧ o.wp P a w (fun a' w' => S w' ∧ wpTr P ops Q S K t a' w') Q
  | .g i t, a, w => ∃ o, ops[i]? = some o ∧ Region.wanted o (yielded ops a.tmps) = true ∧ o.wp P a w (fun a' w' => S w' ∧ wpTr P ops Q S K t a' w') Q
  | .b i j t1 t2, a, w => (∃ o, ops[i]? = some o ∧ o.wp P a w (fun a' w' => S w' ∧ wpTr P ops Q S K t1 a' w') Q) ∧ (∃ o, ops[j]? = some o ∧ o.wp P a w (fun a' w' => S w' ∧ wpTr P ops Q S K t2 a' w') Q)
  | .u i t, a, w => ∃ o, ops[i]? = some o ∧ Region.wanted o (yielded ops a.tmps) = false ∧ wpTr P ops Q S K t (a.put o.dst undef) w

def quietB (ops : Array Oper) (i : Nat) : Bool := match ops[i]? with
  | some o => valuedB o
  | none => false
def plainB (ops : Array Oper) (i : Nat) : Bool := match ops[i]? with
  | some o => o.guard.isNone
  | none => false
def trB (md : Region.Mode) (ops : Array Oper) : Tr → Nat → Array Bool → Bool
  | .nil, n, listed => n == 0 && (Region.ready md ops listed).isEmpty
  | .q i t, n, listed => decide (0 < n) && quietB ops i && (Region.ready md ops listed).contains i && Region.free md ops listed i && trB md ops t (n - 1) (listed.setIfInBounds i true)
  | .e i t, n, listed => decide (0 < n) && plainB ops i && decide (Region.ready md ops listed = [i]) && trB md ops t (n - 1) (listed.setIfInBounds i true)
  | .g i t, n, listed => decide (0 < n) && decide (Region.ready md ops listed = [i]) && trB md ops t (n - 1) (listed.setIfInBounds i true)
  | .u i t, n, listed => decide (0 < n) && decide (Region.ready md ops listed = [i]) && trB md ops t (n - 1) (listed.setIfInBounds i true)
  | .b i j t1 t2, n, listed => decide (0 < n) && plainB ops i && plainB ops j && decide (Region.ready md ops listed = [i, j]) && trB md ops t1 (n - 1) (listed.setIfInBounds i true) && trB md ops t2 (n - 1) (listed.setIfInBounds j true)

theorem wpOp_tr {K : Act → World → Prop} {i n : Nat} {t : Tr} {listed : Array Bool} {a : Act} {w : World} (hg : plainB ops i = true)
    (h : ∃ o, ops[i]? = some o ∧ o.wp P a w (fun a' w' => S w' ∧ wpTr P ops Q S K t a' w') Q)
    (hrec : ∀ a' w', S w' → wpTr P ops Q S K t a' w' → wpAnyE P md ops Q S ops.size n (listed.setIfInBounds i true) a' w') :
    wpOp P ops Q i (fun a' w' => (i = ops.size ∨ S w') ∧ wpAnyE P md ops Q S ops.size n (listed.setIfInBounds i true) a' w') a w := by
  obtain ⟨o, ho, h⟩ := h
  have hg' : o.guard = none := by unfold plainB at hg; simp only [ho] at hg; simpa using hg
  unfold wpOp
  simp only [ho]
  rw [if_pos (by simp [Region.wanted, hg'])]
  exact .inl (Oper.wp_mono (fun a' w' h' => ⟨.inr h'.1, hrec a' w' h'.1 h'.2⟩) h)

theorem wpAnyE_of_tr {K : Act → World → Prop} (hsel : Region.noSelect ops = true) (hQ : ∀ c d v a w, Q (.panic c) (Act.put a d v) w → Q (.panic c) a w) (hK : ∀ a w, K a w → Q .normal a w) :
    ∀ (t : Tr) (n : Nat) (listed : Array Bool) (a : Act) (w : World), listed.size = ops.size → Closed md ops listed → S w → trB md ops t n listed = true → wpTr P ops Q S K t a w → wpAnyE P md ops Q S ops.size n listed a w
  | .nil, n, listed, a, w, _, _, _, hB, h => by
    simp only [trB, Bool.and_eq_true, beq_iff_eq] at hB
    obtain ⟨rfl, hr⟩ := hB
    exact ⟨by simpa using hr, hK a w h⟩
  | .q i t, n, listed, a, w, hs, hcl, hS, hB, h => by
    simp only [trB, Bool.and_eq_true, decide_eq_true_eq] at hB
    obtain ⟨⟨⟨⟨hn, hq⟩, hr⟩, hf⟩, hB'⟩ := hB
    obtain ⟨o, ho, h⟩ := h
    have hv : valuedB o = true := by unfold quietB at hq; simp only [ho] at hq; exact hq
    have hr' : i ∈ Region.ready md ops listed := by simpa using hr
    have hil : i < ops.size := (Array.getElem?_eq_some_iff.1 ho).1
    have hz : waitsB md ops ops.size = true := by unfold waitsB; simp
    obtain ⟨m, rfl⟩ : ∃ m, n = m + 1 := ⟨n - 1, by omega⟩
    rw [Nat.add_sub_cancel] at hB'
    have hG : ∀ a', wpTr P ops Q S K t a' w → wpAnyE P md ops Q S ops.size m (listed.setIfInBounds i true) a' w := fun a' h' =>
      wpAnyE_of_tr hsel hQ hK t m _ a' w (by simpa using hs) (hcl.set hr') hS hB' h'
    unfold wpQuiet at h
    split at h
    · rename_i hw
      obtain ⟨v, hy, hKK⟩ := yieldsIf_of_quiet hv hw h
      exact wpAnyE_first hz ho (by omega) (Region.noSelect_spec hsel) (hQ · _ _) m listed a _ hs hcl (Region.free_spec ho hf) hr' hy hS (hG _ hKK)
    · rename_i hw
      exact wpAnyE_first hz ho (by omega) (Region.noSelect_spec hsel) (hQ · _ _) m listed a _ hs hcl (Region.free_spec ho hf) hr' (yieldsIf_skip hw) hS (hG _ h)
  | .e i t, n, listed, a, w, hs, hcl, hS, hB, h => by
    simp only [trB, Bool.and_eq_true, decide_eq_true_eq] at hB
    obtain ⟨⟨⟨hn, hp⟩, hr⟩, hB'⟩ := hB
    have hri : i ∈ Region.ready md ops listed := by rw [hr]; simp
    obtain ⟨m, rfl⟩ : ∃ m, n = m + 1 := ⟨n - 1, by omega⟩
    rw [Nat.add_sub_cancel] at hB'
    refine ⟨fun h0 => (by rw [hr] at h0; cases h0), fun j hj => ?_⟩
    rw [hr] at hj
    have : j = i := by simpa using hj
    subst this
    exact wpOp_tr hp h (fun a' w' hS' h' => wpAnyE_of_tr hsel hQ hK t m _ a' w' (by simpa using hs) (hcl.set hri) hS' hB' h')
  | .g i t, n, listed, a, w, hs, hcl, hS, hB, h => by
    simp only [trB, Bool.and_eq_true, decide_eq_true_eq] at hB
    obtain ⟨⟨hn, hr⟩, hB'⟩ := hB
    have hri : i ∈ Region.ready md ops listed := by rw [hr]; simp
    obtain ⟨m, rfl⟩ : ∃ m, n = m + 1 := ⟨n - 1, by omega⟩
    rw [Nat.add_sub_cancel] at hB'
    refine ⟨fun h0 => (by rw [hr] at h0; cases h0), fun j hj => ?_⟩
    rw [hr] at hj
    have : j = i := by simpa using hj
    subst this
    obtain ⟨o, ho, hw, h⟩ := h
    unfold wpOp
    simp only [ho]
    rw [if_pos hw]
    exact .inl (Oper.wp_mono (fun a' w' h' => ⟨.inr h'.1, wpAnyE_of_tr hsel hQ hK t m _ a' w' (by simpa using hs) (hcl.set hri) h'.1 hB' h'.2⟩) h)
  | .u i t, n, listed, a, w, hs, hcl, hS, hB, h => by
    simp only [trB, Bool.and_eq_true, decide_eq_true_eq] at hB
    obtain ⟨⟨hn, hr⟩, hB'⟩ := hB
    have hri : i ∈ Region.ready md ops listed := by rw [hr]; simp
    obtain ⟨m, rfl⟩ : ∃ m, n = m + 1 := ⟨n - 1, by omega⟩
    rw [Nat.add_sub_cancel] at hB'
    refine ⟨fun h0 => (by rw [hr] at h0; cases h0), fun j hj => ?_⟩
    rw [hr] at hj
    have : j = i := by simpa using hj
    subst this
    obtain ⟨o, ho, hw, h⟩ := h
    unfold wpOp
    simp only [ho]
    rw [if_neg (by rw [hw]; decide)]
    exact ⟨.inr hS, wpAnyE_of_tr hsel hQ hK t m _ _ w (by simpa using hs) (hcl.set hri) hS hB' h⟩
  | .b i j t1 t2, n, listed, a, w, hs, hcl, hS, hB, h => by
    simp only [trB, Bool.and_eq_true, decide_eq_true_eq] at hB
    obtain ⟨⟨⟨⟨⟨hn, hp⟩, hp2⟩, hr⟩, hB1⟩, hB2⟩ := hB
    have hri : i ∈ Region.ready md ops listed := by rw [hr]; simp
    have hrj : j ∈ Region.ready md ops listed := by rw [hr]; simp
    obtain ⟨m, rfl⟩ : ∃ m, n = m + 1 := ⟨n - 1, by omega⟩
    rw [Nat.add_sub_cancel] at hB1 hB2
    refine ⟨fun h0 => (by rw [hr] at h0; cases h0), fun k hk => ?_⟩
    rw [hr] at hk
    have : k = i ∨ k = j := by simpa using hk
    rcases this with rfl | rfl
    · exact wpOp_tr hp h.1 (fun a' w' hS' h' => wpAnyE_of_tr hsel hQ hK t1 m _ a' w' (by simpa using hs) (hcl.set hri) hS' hB1 h')
    · exact wpOp_tr hp2 h.2 (fun a' w' hS' h' => wpAnyE_of_tr hsel hQ hK t2 m _ a' w' (by simpa using hs) (hcl.set hrj) hS' hB2 h')

/-- THE BEGINNING. -/
theorem wp_region_tr {id : Nat} {Q0 : Exit → Act → World → Prop} {a : Act} {w : World} {l : List Oper} (S : World → Prop) (t : Tr) (hm : P.follows .mixedOrders = true)
    (hB : (Region.noSelect l.toArray && trB .any l.toArray t l.length (Array.replicate l.length false)) = true) (hS : S w.drew)
    (h : Nonempty (SW S) → wpTr P l.toArray (NoPanic Q0) S (Q0 .normal) t a w.drew) : (Code.region id l.toArray true).wp P Q0 a w := by
  simp only [Bool.and_eq_true] at hB
  refine wp_region_noPanic (wp_region_any hm (wpAny_of_E (S := S) (z := l.toArray.size) _ _ _ _ ?_))
  have := wpAnyE_of_tr (md := .any) (S := S) (Q := NoPanic Q0) (K := Q0 .normal) hB.1 (fun _ _ _ _ _ h => h) (fun _ _ h => h) t l.length (Array.replicate l.length false) a w.drew (by simp) (fun j k hj _ => by rw [getD_replicate_false] at hj; cases hj) hS hB.2 (h ⟨SW.mk' _ hS⟩)
  simpa using this

theorem wpTr_q {K : Act → World → Prop} {i : Nat} {t : Tr} {o : Oper} {a : Act} {w : World} (ho : ops[i]? = some o) (h : wpQuiet P ops (fun w0 => ∃ x : SW S, w0 = x.w) (fun a' => wpTr P ops Q S K t a' w) [o] a) : wpTr P ops Q S K (.q i t) a w := ⟨o, ho, h⟩
theorem wpTr_e {K : Act → World → Prop} {i : Nat} {t : Tr} {o : Oper} {a : Act} {w : World} (ho : ops[i]? = some o)
    (h : ∀ K' : Act → World → Prop, (∀ a' w', (S w' ∧ wpTr P ops Q S K t a' w') → K' a' w') → o.wp P a w K' Q) : wpTr P ops Q S K (.e i t) a w := ⟨o, ho, h _ fun _ _ h => h⟩
theorem wpTr_g {K : Act → World → Prop} {i : Nat} {t : Tr} {o : Oper} {a : Act} {w : World} (ho : ops[i]? = some o) (hw : Region.wanted o (yielded ops a.tmps) = true)
    (h : ∀ K' : Act → World → Prop, (∀ a' w', (S w' ∧ wpTr P ops Q S K t a' w') → K' a' w') → o.wp P a w K' Q) : wpTr P ops Q S K (.g i t) a w := ⟨o, ho, hw, h _ fun _ _ h => h⟩
theorem wpTr_u {K : Act → World → Prop} {i : Nat} {t : Tr} {o : Oper} {a : Act} {w : World} (ho : ops[i]? = some o) (hw : Region.wanted o (yielded ops a.tmps) = false) (h : wpTr P ops Q S K t (a.put o.dst undef) w) : wpTr P ops Q S K (.u i t) a w := ⟨o, ho, hw, h⟩
theorem wpTr_b {K : Act → World → Prop} {i j : Nat} {t1 t2 : Tr} {o1 o2 : Oper} {a : Act} {w : World} (ho : ops[i]? = some o1) (ho2 : ops[j]? = some o2)
    (h : ∀ K' : Act → World → Prop, (∀ a' w', (S w' ∧ wpTr P ops Q S K t1 a' w') → K' a' w') → o1.wp P a w K' Q)
    (h2 : ∀ K' : Act → World → Prop, (∀ a' w', (S w' ∧ wpTr P ops Q S K t2 a' w') → K' a' w') → o2.wp P a w K' Q) : wpTr P ops Q S K (.b i j t1 t2) a w := ⟨⟨o1, ho, h _ fun _ _ h => h⟩, ⟨o2, ho2, h2 _ fun _ _ h => h⟩⟩
theorem wpTr_nil {K : Act → World → Prop} {a : Act} {w : World} (h : K a w) : wpTr P ops Q S K .nil a w := h
end
end Go.Proofs.Ytgoeocfgajbldaa
