/- SchedBound: for every 'Bound' the law's call returns true, and the argument reads as it did. No condition. -/
import Derived.Test.YtijdjcmdmppgaaaBoundW
import Derived.Test.YtijdjcmdmppgaaaY
import Derived.Test.YtijdjcmdmppgaaaRows
namespace Go.Proofs.Ytijdjcmdmppgaaa
namespace schedBound
open Go.ChangeShapes Go.WideShapes Go.ChangeAt Go.RowKit

theorem bound_open {H : Type} {enc : TypeId × Value → H} {w : World} {base : Nat} {spare : Nat → Bool} {held : Bool} {r : Reach} {b0 : Nat} {v : Value} {d : DataW H} {p : List MemPlace} (hv : Value.okWide Try.prog w r b0 43 v) (h : DataW.Trod enc Try.prog w base spare held 43 v d p) :
    ∃ (A : Option Addr) (n c o b k : Nat), v = .agg #[.slice A n c, .int .u8 o, .int .u8 b, .int .u8 k] ∧ (∃ xs, Acts w A n xs) ∧ n ≤ 9223372036854775807 ∧ o < 256 ∧ b < 256 ∧ k < 256 := by
  obtain ⟨v0, v1, v2, v3, y0, y1, y2, y3, m, rfl, rfl, rfl, h0, h1, h2, h3⟩ := Go.Joins.open_agg4 Try.underlying43 (by kernel_rfl) (by kernel_rfl) hv h
  obtain ⟨o, e1, _, w1⟩ := DataW.trod_int Try.underlying5 h1
  obtain ⟨b, e2, _, w2⟩ := DataW.trod_int Try.underlying5 h2
  obtain ⟨k, e3, _, w3⟩ := DataW.trod_int Try.underlying5 h3
  obtain ⟨A, n, c, e0⟩ := Go.Joins.slice_form Try.underlying22 h0
  simp at e0 e1 e2 e3
  subst e0 e1 e2 e3
  have := acts_open (A := A) (len := n) (cap := c) (d := y0.1) (p := y0.2) (enc := enc) (w := w) (base := base) (spare := spare) (held := held) ⟨m, by simpa [Value.cells] using h0⟩
  have b1 := bounds_u8 w1
  have b2 := bounds_u8 w2
  have b3 := bounds_u8 w3
  obtain ⟨o, rfl⟩ := Int.eq_ofNat_of_zero_le b1.1
  obtain ⟨b, rfl⟩ := Int.eq_ofNat_of_zero_le b2.1
  obtain ⟨k, rfl⟩ := Int.eq_ofNat_of_zero_le b3.1
  exact ⟨A, n, c, o, b, k, rfl, this.1, this.2, by omega, by omega, by omega⟩

open Go.ChangeShapes Go.WideShapes Go.ChangeAt Go.RowKit

theorem own : ownKnob Try.prog.godebug = none := by kernel_rfl
theorem laidOut : laidOutB Try.prog = true := by kernel_rfl

set_option maxRecDepth 100000 in
theorem lifted (os : Os) (started : os.Started) (H : Type) (enc : TypeId × Value → H) :
    ReturnsInHanded {} Try.checked os 4 .any (Rows.schedBoundSpec.pre6 enc Try.prog Try.f4 Rows.schedBoundRow.domain false) (Rows.schedBoundSpec.post enc Try.prog Try.f4 false true false false) := by
  refine returnsInHanded_of_change (C := Try.checked) own started (by kernel_rfl) Try.func4
    (ChangeSpec.witness6 (enc := enc) (C := Try.checked) false ⟨#[], #[.agg #[.slice none 0 0, .int .u8 0, .int .u8 0, .int .u8 0]], []⟩ 8 (by kernel_rfl) (by kernel_rfl) (by kernel_rfl) (by kernel_rfl)) ?_
  intro W base args ds gs before hval0 hW hcnd _
  have hval : ∀ (j : Nat) t v, Try.f4.params[j]? = some t → args[j]? = some v → Value.okWide Try.prog W .any base t v := hval0
  have hW' := hW
  obtain ⟨p, q, hA0, hV, rfl, hfz, hnd⟩ := hW
  have hA : DataW.TrodAll enc Try.prog W 0 (fun _ => true) true Try.f4.params.toList args.toList ds p := hA0
  rw [Try.params4] at hA hval
  obtain ⟨v0, vs0, d0, ds0, p0, q0, hargs, rfl, rfl, h0, r0⟩ := trodAll_cons hA
  obtain ⟨rfl, rfl, rfl⟩ := trodAll_nil r0
  obtain rfl : args = #[v0] := by cases args; simp_all
  obtain ⟨rfl, rfl⟩ := trodVars_none hV
  have k0 := h0
  have lt0 : ∀ x ∈ p0, x.block < W.heap.size := by obtain ⟨m, hm⟩ := k0; exact DataW.trod_lt m _ _ _ hm
  obtain ⟨A, n, c, o, b, k, rfl, ⟨xs, hxs⟩, hn, ho, hb, hk⟩ := bound_open (hval 0 43 v0 rfl rfl) h0
  clear hA0 hval0
  refine (bound_walk W A n c o b k xs hxs hn ho hb hk).mono fun e W' ⟨he, hT⟩ => ?_
  have bel : Below W.heap.size W W' := hT.below _ (Nat.le_refl _) (by simp)
  subst he
  exact ⟨_, rfl, _, _, _, [], _, [], hW', trodAll_mk1 (shut_bool Try.underlying4 _), (trodAll_cons_mk (Below.trod laidOut (by kernel_rfl) (of_decide_eq_true (by kernel_rfl)) k0 bel lt0) trodAll_mk0), rfl, bel.frame _, fun h => by cases h⟩

theorem over : Rows.schedBoundRow.holds Try.pinned (OpenSpec.ofChange Rows.schedBoundSpec) :=
  OpenClaim.holds_of_wide 4 Try.f4 rfl rfl rfl rfl rfl rfl rfl ⟨rfl, rfl, rfl, rfl, rfl⟩ rfl rfl rfl rfl rfl (by kernel_rfl) Try.func4 (by kernel_rfl)
    (of_decide_eq_true (by kernel_rfl)) (by unfold Func.isWrapper; first | (rw [if_pos (by decide +kernel)]; kernel_rfl) | (rw [if_neg (by decide +kernel)]; exact ⟨rfl, rfl⟩))
    (fun os started H enc _ => lifted os started H enc)
end schedBound
theorem schedBound_holds : Rows.SchedBoundSaid := schedBound.over
#print axioms schedBound_holds
end Go.Proofs.Ytijdjcmdmppgaaa
