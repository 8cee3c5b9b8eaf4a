/- TopHmac: for every key and every message the law's call returns true, where sha's table reads as the program's text lays it; the tied card. -/
import Derived.Test.YtelmjlfhmbicjaaDoorT
import Derived.Test.YtelmjlfhmbicjaaDoorCards
import Derived.Test.YtelmjlfhmbicjaaDoorTie
import Derived.ProofKit
import Derived.LaidMore
import Derived.OpenShut
import Derived.Stop.Joined
import Derived.SevenTiedAt
import Derived.Deep.Strs
import Derived.Deep.Slices
namespace Go.Proofs.YtelmjlfhmbicjaaDoor
open Go.ChangeShapes Go.WideShapes Go.ChangeAt Go.WideElems Go.RowKit Go.Deep
set_option linter.unusedVariables false

theorem own : ownKnob Tryd.prog.godebug = none := by kernel_rfl
theorem laidOut : laidOutB Tryd.prog = true := by kernel_rfl
theorem gRounds : Tryd.prog.globalNamed "palfrey/sha.rounds" = some 0 := by kernel_rfl
theorem tRounds : (Tryd.prog.globals[0]?).map (·.type) = some 44 := by kernel_rfl
abbrev lay : List (String × DataW Unit) := [("palfrey/sha.rounds", Rows.laid_palfrey_sha_rounds)]

/-- The door's own heap meets the condition. -/
theorem door_met (os : Os) (args : Array Value) : laidMetH Tryd.prog lay ((World.doorLaid Tryd.prog 400 os).forCall (fun _ _ => 0) ⟨#[], args, []⟩).memory :=
  laidMetH_of_parts3 (fuel := 8) (laidMet_of_run' 8 (by kernel_rfl) (by kernel_rfl)) (by kernel_rfl) (by kernel_rfl)

/-- What the condition gives the walk: the table's cells. -/
theorem of_laid {W : World} (h : laidMetH Tryd.prog lay W) : ∃ K, Tab K W := by
  rw [MakeChecks.laidMetH_plain _ _ _ (by kernel_rfl)] at h
  obtain ⟨ps, ⟨g0, t0, cs0, f0, p0, q0, hg0, ht0, hv0, hd0, _, _⟩, _, _⟩ := h
  obtain rfl := Option.some.inj (gRounds.symm.trans hg0)
  obtain rfl := Option.some.inj (tRounds.symm.trans ht0)
  obtain ⟨xs, m1, rfl, hx1, hlen, hn3, hel⟩ := DataW.trod_array Tryd.underlying44 hd0
  have c32 : Tryd.prog.cellsOf 32 = 1 := by kernel_rfl
  have hc : ∀ i, i < 64 → ∃ k : Int, cs0[i]? = some (.int .u32 k) := fun i hi => by
    have hi' := hel i hi
    rw [List.getElem?_eq_getElem (by omega : i < xs.length)] at hi'
    obtain ⟨k, e1, e2, _⟩ := DataW.trod_int Tryd.underlying32 hi'
    rw [c32, Nat.mul_one] at e1
    have : (List.take 1 (List.drop i cs0.toList))[0]? = some (.int .u32 k) := by rw [e1]; rfl
    refine ⟨k, ?_⟩
    rw [List.getElem?_take, if_pos (by omega), List.getElem?_drop, Nat.add_zero] at this
    simpa using this
  refine ⟨(List.range 64).map (fun i => match cs0[i]? with | some (Value.int _ k) => k | _ => 0), ?_, fun i hi => ?_⟩
  · obtain ⟨k, hk⟩ := hc 0 (by omega)
    have := World.var?_cell hg0 hv0 0
    rw [hk] at this
    exact block_lt_of_cell this
  · obtain ⟨k, hk⟩ := hc i hi
    have := World.var?_cell hg0 hv0 i
    rw [this, hk]
    simp [List.getD, hi, hk]
/-- The key that came in. -/
theorem open_key {H : Type} {enc : TypeId × Value → H} {w : World} {base b0 : Nat} {spare : Nat → Bool} {held : Bool} {v : Value} {d : DataW H} {p : List MemPlace} (hv : Value.okWide Tryd.prog w .any b0 22 v)
    (h : DataW.Trod enc Tryd.prog w base spare held 22 v d p) : ∃ ks : List Int, ks.length = 64 ∧ v = .agg (U8A ks) := by
  obtain ⟨fuel, hf⟩ := h
  obtain ⟨xs, m, rfl, _, hlen, hn, hel⟩ := DataW.trod_array Tryd.underlying22 hf
  have c5 : Tryd.prog.cellsOf 5 = 1 := by kernel_rfl
  have c22 : Tryd.prog.cellsOf 22 = 64 := by kernel_rfl
  rw [c22] at hlen
  obtain ⟨cs, rfl⟩ : ∃ cs, v = .agg cs := by
    simp only [Value.okWide, Tryd.underlying22] at hv
    obtain ⟨cs, h1, h2, _⟩ := hv
    exact ⟨cs, h1⟩
  have hc : ∀ i, i < 64 → ∃ k : Int, cs[i]? = some (.int .u8 k) := fun i hi => by
    have hi' := hel i hi
    rw [List.getElem?_eq_getElem (by omega : i < xs.length)] at hi'
    obtain ⟨k, e1, e2, _⟩ := DataW.trod_int Tryd.underlying5 hi'
    rw [c5, Nat.mul_one] at e1
    have : (List.take 1 (List.drop i (Value.agg cs).cells.toList))[0]? = some (.int .u8 k) := by rw [e1]; rfl
    refine ⟨k, ?_⟩
    rw [List.getElem?_take, if_pos (by omega), List.getElem?_drop, Nat.add_zero] at this
    simpa [Value.cells] using this
  have hs : cs.size = 64 := by simpa [Value.cells] using hlen
  refine ⟨(List.range 64).map (fun i => match cs[i]? with | some (Value.int _ k) => k | _ => 0), by simp, ?_⟩
  congr 1
  apply Array.ext
  · simp [U8A, hs]
  · intro i h1 h2
    obtain ⟨k, hk⟩ := hc i (by omega)
    have h3 : cs[i]? = some cs[i] := Array.getElem?_eq_getElem h1
    rw [h3] at hk
    injection hk with hk
    simp [U8A, h3, hk]

theorem open_bytes {H : Type} {enc : TypeId × Value → H} {w : World} {base : Nat} {spare : Nat → Bool} {held : Bool} {A : Option Addr} {len cap : Nat} {d : DataW H} {p : List MemPlace}
    (h : DataW.Trod enc Tryd.prog w base spare held 23 (.slice A len cap) d p) : ∃ ys : List Int, ys.length = len ∧ Inb w A ys ∧ len ≤ 9223372036854775807 := by
  obtain ⟨fuel, hf⟩ := h
  rcases open_slice Tryd.underlying23 hf with ⟨hcs, _⟩ | ⟨a, len', cap', m, n, D, Pl, hcs, hb, hl, hm, hmm, _, hi⟩
  · simp [Value.cells] at hcs
    obtain ⟨rfl, rfl, rfl⟩ := hcs
    exact ⟨[], rfl, .inl rfl, by omega⟩
  · simp [Value.cells] at hcs
    obtain ⟨rfl, rfl, rfl⟩ := hcs
    unfold maxLen at hm
    have hle : len ≤ m := by rw [hmm]; split <;> omega
    obtain ⟨b, off, spot⟩ := a
    have c5 : Tryd.prog.cellsOf 5 = 1 := by kernel_rfl
    have hcell : ∀ i, i < len → ∃ x : Int, w.cell? (Addr.add (Addr.add ⟨b, off, spot⟩ (i * 1)) 0) = some (.int .u8 x) := by
      intro i hil
      obtain ⟨cs', hc, ht⟩ := hi i (by omega)
      rw [c5] at hc
      obtain ⟨_, _, hat⟩ := World.cells?_some hc
      obtain ⟨x, e1, _, _⟩ := DataW.trod_int Tryd.underlying5 ht
      have := hat 0 (by omega)
      rw [e1] at this
      exact ⟨x, by simpa using this⟩
    by_cases hpos : 0 < len
    · have hspot : spot = none := by
        obtain ⟨x, hx⟩ := hcell 0 hpos
        simp [Addr.add, World.cell?] at hx
        split at hx
        · cases spot with
          | none => rfl
          | some s => simp at hx
        · cases hx
      subst hspot
      have e : ∀ i, Addr.add (Addr.add ⟨b, off, none⟩ (i * 1)) 0 = ⟨b, off + i, none⟩ := by
        intro i
        rw [Go.Deep.add_add]
        unfold Addr.add
        split
        · rename_i h; congr 1; omega
        · simp
      simp only [e] at hcell
      refine ⟨(List.range len).map (fun i => match w.cell? ⟨b, off + i, none⟩ with | some (Value.int _ k) => k | _ => 0), by simp, .inr ⟨b, off, rfl, fun i hi => ?_⟩, by omega⟩
      simp at hi
      obtain ⟨x, hx⟩ := hcell i hi
      rw [hx]
      simp [List.getD, hi, hx]
    · exact ⟨[], by simp; omega, .inl rfl, by omega⟩

namespace topHmac
set_option maxRecDepth 100000 in
theorem lifted (os : Os) (started : os.Started) (H : Type) (enc : TypeId × Value → H) :
    ReturnsInHanded {} Tryd.checked os 3 .any (fun w args => (Rows.topHmacSpec.pre enc Tryd.prog Tryd.f3 [] false w args ∧ laidMetH Tryd.prog lay w) ∧ sizedMet enc Tryd.prog Tryd.f3 (OpenSpec.ofChange Rows.topHmacSpec) false w args)
      (Rows.topHmacSpec.post enc Tryd.prog Tryd.f3 false true false false) := by
  refine returnsInHanded_of_change_and (C := Tryd.checked) (X := fun w _ => laidMetH Tryd.prog lay w) (fun _ _ _ hh h => h.of_heap hh) own started (by kernel_rfl) Tryd.func3
    (ChangeSpec.witness_shaped (enc := enc) (C := Tryd.checked) (os := os) (X := fun w _ => laidMetH Tryd.prog lay w) false (World.doorLaid Tryd.prog 400 os) #[.agg (U8A (List.replicate 64 0)), .slice none 0 0] 8 rfl (World.shaped_of_RefB (by kernel_rfl) (by kernel_rfl)) (by kernel_rfl) (by kernel_rfl) (by kernel_rfl) (door_met os _)) ?_
  intro W base args ds gs before hval0 hW _ _ hL _
  have hval : ∀ (j : Nat) t v, Tryd.f3.params[j]? = some t → args[j]? = some v → Value.okWide Tryd.prog W .any base t v := hval0
  have hW' := hW
  obtain ⟨p, q, hA0, hV, rfl, hfz, hnd⟩ := hW
  have hA : DataW.TrodAll enc Tryd.prog W 0 (fun _ => true) true Tryd.f3.params.toList args.toList ds p := hA0
  rw [Tryd.params3] at hA hval
  obtain ⟨v0, vs0, d0, ds0, p0, q0, hargs, rfl, rfl, h0, r0⟩ := trodAll_cons hA
  obtain ⟨v1, vs1, d1, ds1, p1, q1, rfl, rfl, rfl, h1, r1⟩ := trodAll_cons r0
  obtain ⟨rfl, rfl, rfl⟩ := trodAll_nil r1
  obtain rfl : args = #[v0, v1] := by cases args; simp_all
  obtain ⟨rfl, rfl⟩ := trodVars_none hV
  obtain ⟨ks, hkl, rfl⟩ := open_key (hval 0 22 v0 rfl rfl) h0
  obtain ⟨a1, len1, cap1, rfl⟩ := okWide_slice Tryd.underlying23 (hval 1 23 v1 rfl rfl)
  have k0 := h0
  have k1 := h1
  have lt0 : ∀ x ∈ p0, x.block < W.heap.size := by obtain ⟨m, hm⟩ := k0; exact DataW.trod_lt m _ _ _ hm
  have lt1 : ∀ x ∈ p1, x.block < W.heap.size := by obtain ⟨m, hm⟩ := k1; exact DataW.trod_lt m _ _ _ hm
  obtain ⟨ys, rfl, hin, hlen⟩ := open_bytes h1
  obtain ⟨K, hK⟩ := of_laid hL
  clear hA0 hval0
  refine (top_walk K W ks ys a1 cap1 hkl hin hK hlen).mono fun e W' ⟨he, bel⟩ => ?_
  subst he
  exact ⟨_, rfl, _, _, _, [], _, [], hW', trodAll_mk1 (shut_bool Tryd.underlying4 _), (trodAll_cons_mk (Below.trod laidOut (by kernel_rfl) (of_decide_eq_true (by kernel_rfl)) k0 bel lt0) (trodAll_cons_mk (Below.trod laidOut (by kernel_rfl) (of_decide_eq_true (by kernel_rfl)) k1 bel lt1) trodAll_mk0)), rfl, bel.frame _, fun h => by cases h⟩

theorem over : Rows.TopHmacSaid :=
  OpenClaim.holds_of_wide 3 Tryd.f3 rfl rfl rfl rfl rfl rfl rfl ⟨rfl, rfl, rfl, rfl, rfl⟩ rfl rfl rfl rfl rfl (by kernel_rfl) Tryd.func3 (by kernel_rfl)
    (of_decide_eq_true (by kernel_rfl)) (by unfold Func.isWrapper; first | (rw [if_pos (by decide +kernel)]; kernel_rfl) | (rw [if_neg (by decide +kernel)]; exact ⟨rfl, rfl⟩))
    (fun os started H enc _ => lifted os started H enc)
end topHmac
end Go.Proofs.YtelmjlfhmbicjaaDoor
