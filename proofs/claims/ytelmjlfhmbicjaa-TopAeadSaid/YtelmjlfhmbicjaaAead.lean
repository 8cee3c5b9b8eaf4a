/- TopAead: for every key and IV, every associated text and every text the law's call returns true, and what came in reads as it did. No condition. -/
import Derived.Test.YtelmjlfhmbicjaaAH
import Derived.ProofKit
import Derived.OpenShut
import Derived.Deep.Strs
import Derived.Deep.Slices
namespace Go.Proofs.Ytelmjlfhmbicjaa
open Go.ChangeShapes Go.WideShapes Go.ChangeAt Go.WideElems Go.RowKit Go.Deep
set_option linter.unusedVariables false

/-- The bytes of an array that came in. -/
theorem open_row {H : Type} {enc : TypeId × Value → H} {w : World} {base fuel n : Nat} {spare : Nat → Bool} {held : Bool} {t : TypeId} {L : List Value} {x : DataW H × List MemPlace} (ht : Try.prog.underlying t = some (.array n 5))
    (h : DataW.trod enc Try.prog w base spare held fuel t L = some x) : ∀ i, i < n → ∃ k : Int, L[i]? = some (.int .u8 k) := fun i hi => by
  obtain ⟨xs, m, _, _, _, hn, hel⟩ := DataW.trod_array ht h
  have c5 : Try.prog.cellsOf 5 = 1 := by kernel_rfl
  have hi' := hel i hi
  rw [List.getElem?_eq_getElem (by omega : i < xs.length)] at hi'
  obtain ⟨k, e1, e2, _⟩ := DataW.trod_int Try.underlying5 hi'
  rw [c5, Nat.mul_one] at e1
  have : (List.take 1 (List.drop i L))[0]? = some (.int .u8 k) := by rw [e1]; rfl
  refine ⟨k, ?_⟩
  rw [List.getElem?_take, if_pos (by omega), List.getElem?_drop, Nat.add_zero] at this
  exact this

/-- The key that came in. -/
theorem open_key {H : Type} {enc : TypeId × Value → H} {w : World} {base b0 : Nat} {spare : Nat → Bool} {held : Bool} {v : Value} {d : DataW H} {p : List MemPlace} (hv : Value.okWide Try.prog w .any b0 25 v)
    (h : DataW.Trod enc Try.prog w base spare held 25 v d p) : ∃ (cs : Array Value) (kl nl : List Int), v = .agg cs ∧ kl.length = 32 ∧ nl.length = 12 ∧
      (∀ i, i < 32 → cs[i]? = some (.int .u8 (kl.getD i 0))) ∧ ∀ i, i < 12 → cs[33 + i]? = some (.int .u8 (nl.getD i 0)) := by
  obtain ⟨fuel, hf⟩ := h
  obtain ⟨cs, rfl⟩ : ∃ cs, v = .agg cs := by
    simp only [Value.okWide, Try.underlying25] at hv
    obtain ⟨cs, h1, h2, _⟩ := hv
    exact ⟨cs, h1⟩
  obtain ⟨xs, m, rfl, _, hlen, hn, hel⟩ := DataW.trod_struct Try.underlying25 hf
  have c22 : Try.prog.cellsOf 22 = 32 := by kernel_rfl
  have c23 : Try.prog.cellsOf 23 = 16 := by kernel_rfl
  have hn3 : xs.length = 3 := hn
  obtain ⟨x0, hx0⟩ : ∃ x, xs[0]? = some x := ⟨_, List.getElem?_eq_getElem (by omega)⟩
  obtain ⟨x2, hx2⟩ : ∃ x, xs[2]? = some x := ⟨_, List.getElem?_eq_getElem (by omega)⟩
  have e0 := hel 0 { name := "K", type := 22, offset := 0, embedded := false, tag := "", pkgPath := "", byteOffset := 0 } rfl
  have e2 := hel 2 { name := "IV", type := 23, offset := 33, embedded := false, tag := "", pkgPath := "", byteOffset := 33 } rfl
  rw [hx0] at e0
  rw [hx2] at e2
  dsimp only at e0 e2
  rw [c22] at e0
  rw [c23] at e2
  have hK : ∀ i, i < 32 → ∃ k : Int, cs[i]? = some (.int .u8 k) := fun i hi => by
    obtain ⟨k, hk⟩ := open_row Try.underlying22 e0 i hi
    rw [List.getElem?_take, if_pos hi, List.getElem?_drop] at hk
    exact ⟨k, by simpa [Value.cells] using hk⟩
  have hN : ∀ i, i < 12 → ∃ k : Int, cs[33 + i]? = some (.int .u8 k) := fun i hi => by
    obtain ⟨k, hk⟩ := open_row Try.underlying23 e2 i (by omega)
    rw [List.getElem?_take, if_pos (by omega), List.getElem?_drop] at hk
    exact ⟨k, by simpa [Value.cells] using hk⟩
  refine ⟨cs, (List.range 32).map (fun i => match cs[i]? with | some (Value.int _ k) => k | _ => 0), (List.range 12).map (fun i => match cs[33 + i]? with | some (Value.int _ k) => k | _ => 0), rfl, by simp, by simp, fun i hi => ?_, fun i hi => ?_⟩
  · obtain ⟨k, hk⟩ := hK i hi
    simp [List.getD, hi, hk]
  · obtain ⟨k, hk⟩ := hN i hi
    simp [List.getD, hi, hk]

theorem open_bytes {H : Type} {enc : TypeId × Value → H} {w : World} {base : Nat} {spare : Nat → Bool} {held : Bool} {A : Option Addr} {len cap : Nat} {d : DataW H} {p : List MemPlace}
    (h : DataW.Trod enc Try.prog w base spare held 26 (.slice A len cap) d p) : ∃ ys : List Int, ys.length = len ∧ Inb w A ys ∧ len ≤ 9223372036854775807 := by
  obtain ⟨fuel, hf⟩ := h
  rcases open_slice Try.underlying26 hf with ⟨hcs, _⟩ | ⟨a, len', cap', m, n, D, Pl, hcs, hb, hl, hm, hmm, _, hi⟩
  · simp [Value.cells] at hcs
    obtain ⟨rfl, rfl, rfl⟩ := hcs
    exact ⟨[], rfl, .inl rfl, by omega⟩
  · simp [Value.cells] at hcs
    obtain ⟨rfl, rfl, rfl⟩ := hcs
    unfold maxLen at hm
    have hle : len ≤ m := by rw [hmm]; split <;> omega
    obtain ⟨b, off, spot⟩ := a
    have c5 : Try.prog.cellsOf 5 = 1 := by kernel_rfl
    have hcell : ∀ i, i < len → ∃ x : Int, w.cell? (Addr.add (Addr.add ⟨b, off, spot⟩ (i * 1)) 0) = some (.int .u8 x) := by
      intro i hil
      obtain ⟨cs', hc, ht⟩ := hi i (by omega)
      rw [c5] at hc
      obtain ⟨_, _, hat⟩ := World.cells?_some hc
      obtain ⟨x, e1, _, _⟩ := DataW.trod_int Try.underlying5 ht
      have := hat 0 (by omega)
      rw [e1] at this
      exact ⟨x, by simpa using this⟩
    by_cases hpos : 0 < len
    · have hspot : spot = none := by
        obtain ⟨x, hx⟩ := hcell 0 hpos
        simp [Addr.add, World.cell?] at hx
        split at hx
        · cases spot with
          | none => rfl
          | some s => simp at hx
        · cases hx
      subst hspot
      have e : ∀ i, Addr.add (Addr.add ⟨b, off, none⟩ (i * 1)) 0 = ⟨b, off + i, none⟩ := by
        intro i
        rw [Go.Deep.add_add]
        unfold Addr.add
        split
        · rename_i h; congr 1; omega
        · simp
      simp only [e] at hcell
      refine ⟨(List.range len).map (fun i => match w.cell? ⟨b, off + i, none⟩ with | some (Value.int _ k) => k | _ => 0), by simp, .inr ⟨b, off, rfl, fun i hi => ?_⟩, by omega⟩
      simp at hi
      obtain ⟨x, hx⟩ := hcell i hi
      rw [hx]
      simp [List.getD, hi, hx]
    · exact ⟨[], by simp; omega, .inl rfl, by omega⟩

/-- The walk, whole. -/
theorem law_any (w : World) (cs : Array Value) (kl nl aad b : List Int) (A1 A2 : Option Addr) (c1 c2 : Nat) (hk : kl.length = 32) (hn : nl.length = 12)
    (hck : ∀ i, i < 32 → cs[i]? = some (.int .u8 (kl.getD i 0))) (hcn : ∀ i, i < 12 → cs[33 + i]? = some (.int .u8 (nl.getD i 0)))
    (h1 : Inb w A1 aad) (h2 : Inb w A2 b) (la : aad.length ≤ 9223372036854775807) (lb : b.length ≤ 9223372036854775807) :
    Calls Try.prog 3 #[.agg cs, .slice A1 aad.length c1, .slice A2 b.length c2] w fun e w' => e = .returned (.bool true) ∧ Below w.heap.size w w' := by
  by_cases hf : Fits aad b
  · exact law_in w cs kl nl aad b A1 A2 c1 c2 hk hn hck hcn h1 h2 hf
  · exact law_out w cs aad b A1 A2 c1 c2 la lb hf

namespace topAead
theorem own : ownKnob Try.prog.godebug = none := by kernel_rfl
theorem laidOut : laidOutB Try.prog = true := by kernel_rfl

set_option maxRecDepth 100000 in
theorem lifted (os : Os) (started : os.Started) (H : Type) (enc : TypeId × Value → H) :
    ReturnsInHanded {} Try.checked os 3 .any (Rows.topAeadSpec.pre6 enc Try.prog Try.f3 Rows.topAeadRow.domain false) (Rows.topAeadSpec.post enc Try.prog Try.f3 false true false false) := by
  refine returnsInHanded_of_change (C := Try.checked) own started (by kernel_rfl) Try.func3
    (ChangeSpec.witness6 (enc := enc) (C := Try.checked) false ⟨#[], #[.agg #[.int .u8 0, .int .u8 0, .int .u8 0, .int .u8 0, .int .u8 0, .int .u8 0, .int .u8 0, .int .u8 0, .int .u8 0, .int .u8 0, .int .u8 0, .int .u8 0, .int .u8 0, .int .u8 0, .int .u8 0, .int .u8 0, .int .u8 0, .int .u8 0, .int .u8 0, .int .u8 0, .int .u8 0, .int .u8 0, .int .u8 0, .int .u8 0, .int .u8 0, .int .u8 0, .int .u8 0, .int .u8 0, .int .u8 0, .int .u8 0, .int .u8 0, .int .u8 0, .bool false, .int .u8 0, .int .u8 0, .int .u8 0, .int .u8 0, .int .u8 0, .int .u8 0, .int .u8 0, .int .u8 0, .int .u8 0, .int .u8 0, .int .u8 0, .int .u8 0, .int .u8 0, .int .u8 0, .int .u8 0, .int .u8 0], .slice none 0 0, .slice none 0 0], []⟩ 8 (by kernel_rfl) (by kernel_rfl) (by kernel_rfl) (by kernel_rfl)) ?_
  intro W base args ds gs before hval0 hW hcnd _
  have hval : ∀ (j : Nat) t v, Try.f3.params[j]? = some t → args[j]? = some v → Value.okWide Try.prog W .any base t v := hval0
  have hW' := hW
  obtain ⟨p, q, hA0, hV, rfl, hfz, hnd⟩ := hW
  have hA : DataW.TrodAll enc Try.prog W 0 (fun _ => true) true Try.f3.params.toList args.toList ds p := hA0
  rw [Try.params3] at hA hval
  obtain ⟨v0, vs0, d0, ds0, p0, q0, hargs, rfl, rfl, h0, r0⟩ := trodAll_cons hA
  obtain ⟨v1, vs1, d1, ds1, p1, q1, rfl, rfl, rfl, h1, r1⟩ := trodAll_cons r0
  obtain ⟨v2, vs2, d2, ds2, p2, q2, rfl, rfl, rfl, h2, r2⟩ := trodAll_cons r1
  obtain ⟨rfl, rfl, rfl⟩ := trodAll_nil r2
  obtain rfl : args = #[v0, v1, v2] := by cases args; simp_all
  obtain ⟨rfl, rfl⟩ := trodVars_none hV
  obtain ⟨cs, kl, nl, rfl, hkl, hnl, hck, hcn⟩ := open_key (hval 0 25 v0 rfl rfl) h0
  obtain ⟨a1, len1, cap1, rfl⟩ := okWide_slice Try.underlying26 (hval 1 26 v1 rfl rfl)
  obtain ⟨a2, len2, cap2, rfl⟩ := okWide_slice Try.underlying26 (hval 2 26 v2 rfl rfl)
  have k0 := h0
  have k1 := h1
  have k2 := h2
  have lt0 : ∀ x ∈ p0, x.block < W.heap.size := by obtain ⟨m, hm⟩ := k0; exact DataW.trod_lt m _ _ _ hm
  have lt1 : ∀ x ∈ p1, x.block < W.heap.size := by obtain ⟨m, hm⟩ := k1; exact DataW.trod_lt m _ _ _ hm
  have lt2 : ∀ x ∈ p2, x.block < W.heap.size := by obtain ⟨m, hm⟩ := k2; exact DataW.trod_lt m _ _ _ hm
  obtain ⟨xs, rfl, hin1, hlen1⟩ := open_bytes h1
  obtain ⟨ys, rfl, hin2, hlen2⟩ := open_bytes h2
  clear hA0 hval0
  refine (law_any W cs kl nl xs ys a1 a2 cap1 cap2 hkl hnl hck hcn hin1 hin2 hlen1 hlen2).mono fun e W' ⟨he, bel⟩ => ?_
  subst he
  exact ⟨_, rfl, _, _, _, [], _, [], hW', trodAll_mk1 (shut_bool Try.underlying4 _), (trodAll_cons_mk (Below.trod laidOut (by kernel_rfl) (of_decide_eq_true (by kernel_rfl)) k0 bel lt0) (trodAll_cons_mk (Below.trod laidOut (by kernel_rfl) (of_decide_eq_true (by kernel_rfl)) k1 bel lt1) (trodAll_cons_mk (Below.trod laidOut (by kernel_rfl) (of_decide_eq_true (by kernel_rfl)) k2 bel lt2) trodAll_mk0))), rfl, bel.frame _, fun h => by cases h⟩

theorem over : Rows.topAeadRow.holds Try.pinned (OpenSpec.ofChange Rows.topAeadSpec) :=
  OpenClaim.holds_of_wide 3 Try.f3 rfl rfl rfl rfl rfl rfl rfl ⟨rfl, rfl, rfl, rfl, rfl⟩ rfl rfl rfl rfl rfl (by kernel_rfl) Try.func3 (by kernel_rfl)
    (of_decide_eq_true (by kernel_rfl)) (by unfold Func.isWrapper; first | (rw [if_pos (by decide +kernel)]; kernel_rfl) | (rw [if_neg (by decide +kernel)]; exact ⟨rfl, rfl⟩))
    (fun os started H enc _ => lifted os started H enc)
end topAead
theorem topAead_holds : Rows.TopAeadSaid := topAead.over
#print axioms topAead_holds
end Go.Proofs.Ytelmjlfhmbicjaa
