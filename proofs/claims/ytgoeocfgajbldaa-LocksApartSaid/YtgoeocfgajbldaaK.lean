/- Take. -/
import Derived.Test.YtgoeocfgajbldaaJ
namespace Go.Proofs.Ytgoeocfgajbldaa
open Go.RowKit
set_option linter.unusedVariables false

/-- A slice of spans. -/
structure SpOk (w : World) (A : Option Addr) (c : Nat) (l : List Sp) : Prop where
  row : Row2 w A (l.map spV2)
  small : AllSmall l
  len : l.length ≤ 100000
  nil : A = none → l.length = 0 ∧ c = 0
theorem SpOk.touch {w w' : World} {A : Option Addr} {c : Nat} {l : List Sp} (h : SpOk w A c l) (ht : Touch (fun _ => False) w w') : SpOk w' A c l := ⟨h.row.touch0 ht, h.small, h.len, h.nil⟩
/-- What Take answers. -/
def takeN (L : List LE) (n : Int) (r t : List Sp) : Nat := if (L.any fun e => e.1 == n) = true then 1 else if (busyB L r false || busyB L t true) = true then 13 else 0
/-- One more, by its number. -/
def insL (x : LE) : List LE → List LE
  | [] => [x]
  | y :: r => if x.1 < y.1 then x :: y :: r else y :: insL x r
theorem insL_map (x : LE) : ∀ L : List LE, (insL x L).map entL = insE (entL x) (L.map entL)
  | [] => rfl
  | y :: r => by
    unfold insL
    show _ = if x.1 < y.1 then _ else _
    by_cases h : x.1 < y.1
    · rw [if_pos h, if_pos h]; rfl
    · rw [if_neg h, if_neg h, List.map_cons, insL_map x r]
theorem insL_mem (x : LE) : ∀ (L : List LE) (e : LE), e ∈ insL x L ↔ e = x ∨ e ∈ L
  | [], e => by simp [insL]
  | y :: r, e => by
    unfold insL
    split
    · simp
    · simp only [List.mem_cons, insL_mem x r e]
      constructor
      · rintro (h | h | h) <;> simp [h]
      · rintro (h | h | h) <;> simp [h]
theorem insL_len (x : LE) : ∀ L : List LE, (insL x L).length = L.length + 1
  | [] => rfl
  | y :: r => by
    unfold insL
    split
    · rfl
    · simp [insL_len x r]

theorem take_no (w : World) (k m : Nat) (L : List LE) (n : Int) (A B : Option Addr) (ca cb : Nat) (r t : List Sp) (h : Lk w k m L) (hr : SpOk w A ca r) (ht : SpOk w B cb t) (hw : (Lit.int .i64 n).wf = true) (hne : takeN L n r t ≠ 0) :
    Calls Try.prog 9 #[.pointer (some ⟨k, 0, none⟩), .int .i64 n, .slice A r.length ca, .slice B t.length cb] w fun e w' => e = .returned (.int .i64 (takeN L n r t)) ∧ Touch (fun _ => False) w w' := by
  have hkey := Maps.keyOf_int_mk under3 hw
  have c0 := h.blk.cell 0
  simp only [List.getElem?_toArray, List.getElem?_cons_zero] at c0
  obtain ⟨R, hR'⟩ : ∃ R, R = takeN L n r t := ⟨_, rfl⟩
  rw [← hR'] at hne ⊢
  unfold takeN at hR'
  have hh := has_L L n
  have hmp := h.mp
  unfold Mp at hmp
  have hb1 : ∀ w', Touch (fun _ => False) w w' → _ := fun w' T => busy_any w' k m L A ca r false (h.touch T) hr.small hr.len (hr.touch T).row
  have hb2 : ∀ w', Touch (fun _ => False) w w' → _ := fun w' T => busy_any w' k m L B cb t true (h.touch T) ht.small ht.len (ht.touch T).row
  obtain ⟨x, hx⟩ : ∃ x, x = L.any fun e => e.1 == n := ⟨_, rfl⟩
  rw [← hx] at hh hR'
  obtain ⟨y, hy⟩ : ∃ y, y = busyB L r false := ⟨_, rfl⟩
  rw [← hy] at hR' hb1
  obtain ⟨z, hz⟩ : ∃ z, z = busyB L t true := ⟨_, rfl⟩
  rw [← hz] at hR' hb2
  have HR := Lib.hid hR'
  have H := Lib.hid (And.intro h (And.intro hb1 hb2))
  clear h hr ht hb1 hb2 hx hy hz hR'
  go_enter Try.func9, Try.ntmps9
  cases x with
  | true =>
    go_wp2_with (first
      | (at_lookup; refine wpList_lookup_own_ok _ rfl _ _ 53 rfl 3 57 K3 under53 hR (zero57 _) (.held ⟨none, 0, 0, none, 0, 0⟩) [] rfl m _ _ rfl hmp _ _ rfl hkey ?_; intro v ps hv; obtain ⟨⟨r1, r2, r3, r4, r5, r6⟩, rfl, _⟩ := hR_inv hv; rw [hh]; clear hv; dsimp only [agg2, HV.v2])
      | go_in)
    go_ret
    exact ⟨by rw [HR.out]; rfl, (Touch.refl _ _).alloc _⟩
  | false =>
    go_upto_region 6 with (first
      | (at_lookup; refine wpList_lookup_own_ok _ rfl _ _ 53 rfl 3 57 K3 under53 hR (zero57 _) (.held ⟨none, 0, 0, none, 0, 0⟩) [] rfl m _ _ rfl hmp _ _ rfl hkey ?_; intro v ps hv; obtain ⟨⟨r1, r2, r3, r4, r5, r6⟩, rfl, _⟩ := hR_inv hv; rw [hh]; clear hv; dsimp only [agg2, HV.v2])
      | go_in)
    have hT0 : Touch (fun _ => False) w (w.alloc (.cells #[.slice r1 r2 r3, .slice r4 r5 r6] 57)) := (Touch.refl _ w).alloc _
    have H0 := Lib.hid hT0
    clear hT0
    go_wp2_with fail
    refine (H.out.2.1 _ H0.out).mono ?_
    rintro e w1 ⟨rfl, hT1⟩
    have hT01 := H0.out.trans hT1 (fun _ _ h => h)
    have H1 := Lib.hid hT01
    clear hT1 hT01
    cases y with
    | true =>
      go_wp2
      go_ret
      exact ⟨by rw [HR.out]; rfl, H1.out⟩
    | false =>
      go_wp2_with fail
      refine (H.out.2.2 _ H1.out).mono ?_
      rintro e w2 ⟨rfl, hT2⟩
      have hT02 := H1.out.trans hT2 (fun _ _ h => h)
      have H2 := Lib.hid hT02
      clear hT2 hT02
      cases z with
      | true =>
        go_wp2
        go_ret
        exact ⟨by rw [HR.out]; rfl, H2.out⟩
      | false => exact absurd (by rw [HR.out]; rfl) hne
end Go.Proofs.Ytgoeocfgajbldaa
