/- SchedAlone: for every list of bytes and every chunk the law's call returns true, and the arguments read as they did. No condition. -/
import Derived.Test.YtijdjcmdmppgaaaAloneW
import Derived.Test.YtijdjcmdmppgaaaRows
import Derived.ProofKit
import Derived.OpenShut
import Derived.Deep.Slices
import Derived.Deep.Strs
namespace Go.Proofs.Ytijdjcmdmppgaaa
open Go.ChangeShapes Go.WideShapes Go.ChangeAt Go.RowKit Go.Deep
set_option linter.unusedVariables false

theorem u8s_open {H : Type} {enc : TypeId × Value → H} {w : World} {base : Nat} {spare : Nat → Bool} {held : Bool} {A : Option Addr} {len cap : Nat} {d : DataW H} {p : List MemPlace}
    (h : DataW.Trod enc Try.prog w base spare held 47 (.slice A len cap) d p) : (∃ bs, U8s w A len bs) ∧ len ≤ 9223372036854775807 := by
  obtain ⟨fuel, hf⟩ := h
  rcases open_slice Try.underlying47 hf with ⟨hcs, _⟩ | ⟨a, len', cap', m, n, D, Pl, hcs, hb, hl, hm, hmm, _, hi⟩
  · simp [Value.cells] at hcs
    obtain ⟨rfl, rfl, rfl⟩ := hcs
    exact ⟨⟨fun _ => 0, fun h => absurd h (by omega)⟩, by omega⟩
  · simp [Value.cells] at hcs
    obtain ⟨rfl, rfl, rfl⟩ := hcs
    unfold maxLen at hm
    refine ⟨?_, by omega⟩
    have hle : len ≤ m := by rw [hmm]; split <;> omega
    obtain ⟨b, off, spot⟩ := a
    have c5 : Try.prog.cellsOf 5 = 1 := by kernel_rfl
    have hcell : ∀ i, ∃ x : Nat, i < len → x < 256 ∧ w.cell? (Addr.add (Addr.add ⟨b, off, spot⟩ (i * 1)) 0) = some (.int .u8 x) := by
      intro i
      by_cases hil : i < len
      · obtain ⟨cs', hc, ht⟩ := hi i (by omega)
        rw [c5] at hc
        obtain ⟨_, _, hat⟩ := World.cells?_some hc
        obtain ⟨x, e1, _, wq⟩ := DataW.trod_int Try.underlying5 ht
        have hbb := bounds_u8 wq
        obtain ⟨y, rfl⟩ := Int.eq_ofNat_of_zero_le hbb.1
        have := hat 0 (by omega)
        rw [e1] at this
        exact ⟨y, fun _ => ⟨by omega, by simpa using this⟩⟩
      · exact ⟨0, fun h => absurd h hil⟩
    obtain ⟨bs, hbs⟩ := Classical.skolem.1 hcell
    refine ⟨bs, fun hpos => ?_⟩
    have hspot : spot = none ∧ b < w.heap.size := by
      have h0 := (hbs 0 hpos).2
      simp [Addr.add, World.cell?] at h0
      split at h0
      · rename_i hh
        refine ⟨?_, (Array.getElem?_eq_some_iff.1 hh).1⟩
        cases spot with
        | none => rfl
        | some s => simp at h0
      · cases h0
    obtain ⟨rfl, hlt⟩ := hspot
    refine ⟨b, off, rfl, hlt, fun i hil => ⟨(hbs i hil).1, ?_⟩⟩
    have := (hbs i hil).2
    rw [Nat.mul_one, Addr.add_mid] at this
    simpa [Addr.add] using this

namespace schedAlone
theorem own : ownKnob Try.prog.godebug = none := by kernel_rfl
theorem laidOut : laidOutB Try.prog = true := by kernel_rfl

set_option maxRecDepth 100000 in
theorem lifted (os : Os) (started : os.Started) (H : Type) (enc : TypeId × Value → H) :
    ReturnsInHanded {} Try.checked os 5 .any (Rows.schedAloneSpec.pre6 enc Try.prog Try.f5 Rows.schedAloneRow.domain false) (Rows.schedAloneSpec.post enc Try.prog Try.f5 false true false false) := by
  refine returnsInHanded_of_change (C := Try.checked) own started (by kernel_rfl) Try.func5
    (ChangeSpec.witness6 (enc := enc) (C := Try.checked) false ⟨#[], #[.slice none 0 0, .int .u8 0], []⟩ 8 (by kernel_rfl) (by kernel_rfl) (by kernel_rfl) (by kernel_rfl)) ?_
  intro W base args ds gs before hval0 hW hcnd _
  have hval : ∀ (j : Nat) t v, Try.f5.params[j]? = some t → args[j]? = some v → Value.okWide Try.prog W .any base t v := hval0
  have hW' := hW
  obtain ⟨p, q, hA0, hV, rfl, hfz, hnd⟩ := hW
  have hA : DataW.TrodAll enc Try.prog W 0 (fun _ => true) true Try.f5.params.toList args.toList ds p := hA0
  rw [Try.params5] at hA hval
  obtain ⟨v0, vs0, d0, ds0, p0, q0, hargs, rfl, rfl, h0, r0⟩ := trodAll_cons hA
  obtain ⟨v1, vs1, d1, ds1, p1, q1, rfl, rfl, rfl, h1, r1⟩ := trodAll_cons r0
  obtain ⟨rfl, rfl, rfl⟩ := trodAll_nil r1
  obtain rfl : args = #[v0, v1] := by cases args; simp_all
  obtain ⟨rfl, rfl⟩ := trodVars_none hV
  obtain ⟨a0, len0, cap0, rfl⟩ := okWide_slice Try.underlying47 (hval 0 47 v0 rfl rfl)
  obtain ⟨a1, rfl, rfl, rfl, w1⟩ := open_int Try.underlying5 (hval 1 5 v1 rfl rfl) h1
  have k0 := h0
  have lt0 : ∀ x ∈ p0, x.block < W.heap.size := by obtain ⟨m, hm⟩ := k0; exact DataW.trod_lt m _ _ _ hm
  obtain ⟨⟨bs, hbs⟩, hlen⟩ := u8s_open h0
  have hb1 := bounds_u8 w1
  obtain ⟨chunk, rfl⟩ := Int.eq_ofNat_of_zero_le hb1.1
  clear hA0 hval0
  refine (alone_walk W a0 len0 cap0 chunk bs hbs hlen (by omega)).mono fun e W' ⟨he, hT⟩ => ?_
  have bel : Below W.heap.size W W' := hT.below _ (Nat.le_refl _) (by simp)
  subst he
  exact ⟨_, rfl, _, _, _, [], _, [], hW', trodAll_mk1 (shut_bool Try.underlying4 _), (trodAll_cons_mk (Below.trod laidOut (by kernel_rfl) (of_decide_eq_true (by kernel_rfl)) k0 bel lt0) (trodAll_cons_mk (shut_int Try.underlying5 w1) trodAll_mk0)), rfl, bel.frame _, fun h => by cases h⟩

theorem over : Rows.schedAloneRow.holds Try.pinned (OpenSpec.ofChange Rows.schedAloneSpec) :=
  OpenClaim.holds_of_wide 5 Try.f5 rfl rfl rfl rfl rfl rfl rfl ⟨rfl, rfl, rfl, rfl, rfl⟩ rfl rfl rfl rfl rfl (by kernel_rfl) Try.func5 (by kernel_rfl)
    (of_decide_eq_true (by kernel_rfl)) (by unfold Func.isWrapper; first | (rw [if_pos (by decide +kernel)]; kernel_rfl) | (rw [if_neg (by decide +kernel)]; exact ⟨rfl, rfl⟩))
    (fun os started H enc _ => lifted os started H enc)
end schedAlone
theorem schedAlone_holds : Rows.SchedAloneSaid := schedAlone.over
#print axioms schedAlone_holds
end Go.Proofs.Ytijdjcmdmppgaaa
