/- slices.Clone, New, Free. -/
import Derived.Test.YtgoeocfgajbldaaI
import Derived.Maps.OwnOps
namespace Go.Proofs.Ytgoeocfgajbldaa
open Go.RowKit
set_option linter.unusedVariables false

theorem eqnil_none (w : World) : (binOp BinOp.eql 22 (.slice none 0 0) (.slice none 0 0)).run Try.prog w = .ok (.bool true) w := by kernel_rfl
theorem eqnil_some (a : Addr) (n c : Nat) (w : World) : (binOp BinOp.eql 22 (.slice (some a) n c) (.slice none 0 0)).run Try.prog w = .ok (.bool false) w := by kernel_rfl

theorem clone_nil (w : World) : Calls Try.prog 20 #[.slice none 0 0] w fun e w' => e = .returned (.slice none 0 0) ∧ Touch (fun _ => False) w w' := by
  have e := eqnil_none w
  go_enter Try.func20, Try.ntmps20
  go_wp2
  go_ret
  exact ⟨rfl, Touch.refl _ _⟩

theorem Rw2.blk52 {w : World} {t : TypeId} {A : Option Addr} {cap : Nat} {l : List V2} (h : Rw2 w t A cap l) {a : Addr} (ha : A = some a) : ∃ cs, Blk w a.block t cs := by
  rcases h with ⟨rfl, _⟩ | ⟨g, cur, rfl, hb, _⟩
  · cases ha
  · injection ha with ha; subst ha; exact ⟨cur, hb⟩

theorem clone_any (w : World) (A : Option Addr) (c n : Nat) (l : List Sp) (hn : l.length = n) (h0 : A = none → n = 0 ∧ c = 0) (hl : n ≤ 100000) (hr : Row2 w A (l.map spV2)) :
    Calls Try.prog 20 #[.slice A n c] w fun e w' => (∃ A' c', e = .returned (.slice A' n c') ∧ Row2 w' A' (l.map spV2) ∧ ∀ a, A' = some a → ∃ cs, Blk w' a.block 52 cs) ∧ Touch (fun _ => False) w w' := by
  cases A with
  | none =>
    obtain ⟨h1, h2⟩ := h0 rfl
    subst h1 h2
    refine (clone_nil w).mono ?_
    rintro e w' ⟨rfl, hT⟩
    exact ⟨⟨none, 0, rfl, hr.touch0 hT, fun a h => by cases h⟩, hT⟩
  | some a =>
    have hs := src2 el52 hr (one2_sp l) n c (by simpa using hn)
    have H := Lib.hid (And.intro hr (And.intro hn hl))
    clear hr hn hs h0 hl
    have e := eqnil_some a n c w
    have hn' : n ≤ 100000 := H.out.2.2
    have hT5 : Touch (fun _ => False) w (w.alloc (.cells #[] 52)) := (Touch.refl _ w).alloc _
    have hs5 := src2 el52 (H.out.1.touch0 hT5) (one2_sp l) n c (by simpa using H.out.2.1)
    have hr5 : Rw2 (w.alloc (.cells #[] 52)) 52 (some ⟨w.heap.size, 0, none⟩) 0 [] := Rw2.new w 52 [] (by simp)
    have HS := Lib.hid (And.intro hs5 (And.intro hr5 hT5))
    clear hs5 hr5 hT5
    go_enter Try.func20, Try.ntmps20
    go_wp2_with (at_builtin; refine wpList_rw2_push el52 rfl (.tmp 5) (.tmp 6) rfl (some ⟨w.heap.size, 0, none⟩) 0 0 n [] (l.map spV2) rfl (by simpa using H.out.2.1) rfl (.slice (some a) n c) rfl HS.out.1 HS.out.2.1 (by omega) ?_; intro A3 cap3 w3 hr3 hT3 hf3; have HR3 := Lib.hid (And.intro hr3 (And.intro hT3 hf3)); clear hr3 hT3 hf3)
    go_ret
    exact ⟨⟨A3, cap3, rfl, by simpa using HR3.out.1.row, fun a ha => HR3.out.1.blk52 ha⟩, HS.out.2.2.trans HR3.out.2.1 (fun b hb ⟨a0, ha, e⟩ => by injection ha with ha; subst ha; dsimp only at e; omega)⟩

theorem new_any (w : World) : Calls Try.prog 8 #[] w fun e w' => ∃ k m, e = .returned (.pointer (some ⟨k, 0, none⟩)) ∧ Lk w' k m [] ∧ Touch (fun _ => False) w w' ∧ w.heap.size ≤ m := by
  go_enter Try.func8, Try.ntmps8
  have hmm := @run_makeMap Try.prog
  go_wp2
  go_ret
  refine ⟨w.heap.size + 1, w.heap.size, rfl, ⟨?_, ?_, by simp, by simp, by simp⟩, ((Touch.refl _ w).alloc _).alloc _, Nat.le_refl _⟩
  · have := Blk.new (w.alloc (.map #[] 0)) 55 #[.map (some w.heap.size)]
    rw [World.size_alloc] at this
    exact this
  · have h1 : Mp (w.alloc (.map #[] 0)) w.heap.size [] := Mp.of (World.ownsMap_made w Try.prog 3 hR)
    exact h1.touch (S := fun _ => False) ((Touch.refl _ _).alloc _) (fun h => h)

theorem zero57 (w : World) : (zeroValue 57).run Try.prog w = .ok (.agg #[.slice none 0 0, .slice none 0 0]) w := by kernel_rfl
theorem touch_turned {w w' : World} {m : Nat} (h : w.mapTurned w' m) : Touch (fun b => b = m) w w' := by
  have hg := h.grown
  exact ⟨hg.os, hg.tape, hg.output, hg.size, fun k hk hs => hg.block k hk (fun e => hs (by injection e))⟩
theorem has_L (L : List LE) (n : Int) : Maps.has (dat (L.map entL)) (.int .i64 n) = L.any fun e => e.1 == n := by
  rw [has_dat, List.any_map]; rfl

theorem free_no (w : World) (k m : Nat) (L : List LE) (n : Int) (h : Lk w k m L) (hn : (L.any fun e => e.1 == n) = false) (hw : (Lit.int .i64 n).wf = true) :
    Calls Try.prog 11 #[.pointer (some ⟨k, 0, none⟩), .int .i64 n] w fun e w' => e = .returned (.int .i64 15) ∧ Touch (fun _ => False) w w' := by
  have hkey := Maps.keyOf_int_mk under3 hw
  have c0 := h.blk.cell 0
  simp only [List.getElem?_toArray, List.getElem?_cons_zero] at c0
  have hh := has_L L n
  rw [hn] at hh
  have hmp := h.mp
  unfold Mp at hmp
  have H := Lib.hid h
  clear h hn
  go_enter Try.func11, Try.ntmps11
  go_wp2_with (first
    | (at_lookup; refine wpList_lookup_own_ok _ rfl _ _ 53 rfl 3 57 K3 under53 hR (zero57 _) (.held ⟨none, 0, 0, none, 0, 0⟩) [] rfl m _ _ rfl hmp _ _ rfl hkey ?_; intro v ps hv; obtain ⟨⟨r1, r2, r3, r4, r5, r6⟩, rfl, _⟩ := hR_inv hv; rw [hh]; clear hv; dsimp only [agg2, HV.v2])
    | go_in)
  go_ret
  exact ⟨rfl, (Touch.refl _ _).alloc _⟩

theorem del_L (L : List LE) (n : Int) : (dat (L.map entL)).del (.int .i64 n) = dat ((L.filter fun e => !(e.1 == n)).map entL) := by
  rw [del_dat, List.filter_map]
  rfl
theorem Lk.map {w w' : World} {k m : Nat} {L L' : List LE} (h : Lk w k m L) (ht : Touch (fun b => b = m) w w') (hm : Mp w' m (L'.map entL)) (ho : ∀ e ∈ L', e ∈ L ∨ (HdOk w' e.2 ∧ HdT w' e.2)) (hl : L'.length ≤ 1000) : Lk w' k m L' :=
  ⟨h.blk.touch ht (fun e => by
    obtain ⟨es, clock, hb, _⟩ := h.mp
    have := h.blk
    unfold Blk at this
    rw [e, hb] at this
    cases this), hm, fun e he => (ho e he).elim (fun h1 => (h.ok e h1).map h.mp ht) (fun h2 => h2.1), hl, fun e he => (ho e he).elim (fun h1 => (h.ty e h1).touch ht (fun b cs hb e => by
    obtain ⟨es, clock, hb', _⟩ := h.mp
    unfold Blk at hb
    rw [e, hb'] at hb
    cases hb)) (fun h2 => h2.2)⟩

theorem free_yes (w : World) (k m : Nat) (L : List LE) (n : Int) (h : Lk w k m L) (hn : (L.any fun e => e.1 == n) = true) (hw : (Lit.int .i64 n).wf = true) :
    Calls Try.prog 11 #[.pointer (some ⟨k, 0, none⟩), .int .i64 n] w fun e w' => e = .returned (.int .i64 0) ∧ Lk w' k m (L.filter fun e => !(e.1 == n)) ∧ Touch (fun b => b = m) w w' := by
  have hkey := Maps.keyOf_int_mk under3 hw
  have c0 := h.blk.cell 0
  simp only [List.getElem?_toArray, List.getElem?_cons_zero] at c0
  have hh := has_L L n
  rw [hn] at hh
  have hmp := h.mp
  unfold Mp at hmp
  have H := Lib.hid h
  clear h hn
  go_enter Try.func11, Try.ntmps11
  go_wp2_with (first
    | (at_lookup; refine wpList_lookup_own_ok _ rfl _ _ 53 rfl 3 57 K3 under53 hR (zero57 _) (.held ⟨none, 0, 0, none, 0, 0⟩) [] rfl m _ _ rfl hmp _ _ rfl hkey ?_; intro v ps hv; obtain ⟨⟨r1, r2, r3, r4, r5, r6⟩, rfl, _⟩ := hR_inv hv; rw [hh]; clear hv; dsimp only [agg2, HV.v2]; have hmp2 := hmp.alloc (.cells #[.slice r1 r2 r3, .slice r4 r5 r6] 57); have c1 := (H.out.blk.alloc (.cells #[.slice r1 r2 r3, .slice r4 r5 r6] 57)).cell 0; simp only [List.getElem?_toArray, List.getElem?_cons_zero] at c1)
    | (at_delete; refine wpList_delete_own _ rfl _ _ 53 3 rfl 57 K3 under53 _ m _ _ rfl hmp2 _ _ rfl hkey ?_; intro w1 hown1 hturn1)
    | go_in)
  go_ret
  rw [del_L] at hown1
  have hT : Touch (fun b => b = m) w w1 := ((Touch.refl (fun _ => False) w).alloc _).weaken (fun _ _ h => h.elim) |>.trans (touch_turned hturn1) (fun _ _ h => h)
  refine ⟨rfl, H.out.map hT (Mp.of hown1) (fun e he => .inl ((List.mem_filter.1 he).1)) (Nat.le_trans (List.length_filter_le _ _) H.out.len), hT⟩
end Go.Proofs.Ytgoeocfgajbldaa
