/- Acts: how they read; light. -/
import Derived.Test.YtgoeocfgajbldaaR
import Derived.Test.YtgoeocfgajbldaaO
namespace Go.Proofs.Ytgoeocfgajbldaa
open Go.ChangeShapes Go.WideShapes Go.ChangeAt Go.RowKit Go.Deep
set_option linter.unusedVariables false

abbrev Ac : Type := Bool × RH
/-- A row of acts. -/
def Row4 (w : World) (A : Option Addr) (L : List Ac) : Prop := ∀ i x, L[i]? = some x → (∃ g off, A = some ⟨g, off, none⟩ ∧ w.cell? ⟨g, off + i * 4, none⟩ = some (.bool x.1) ∧ w.cell? ⟨g, off + i * 4 + 1, none⟩ = some (.int .i64 x.2.n) ∧
  w.cell? ⟨g, off + i * 4 + 2, none⟩ = some (.slice x.2.A x.2.r.length x.2.ca) ∧ w.cell? ⟨g, off + i * 4 + 3, none⟩ = some (.slice x.2.B x.2.t.length x.2.cb)) ∧ RhOk w x.2
theorem Row4.touch {w w' : World} {A : Option Addr} {L : List Ac} (h : Row4 w A L) (ht : Touch (fun _ => False) w w') : Row4 w' A L := fun i x hx => by
  obtain ⟨⟨g, off, hA, h0, h1, h2, h3⟩, hr⟩ := h i x hx
  exact ⟨⟨g, off, hA, ht.cell h0 (fun h => h), ht.cell h1 (fun h => h), ht.cell h2 (fun h => h), ht.cell h3 (fun h => h)⟩, hr.touch ht (fun _ _ h => h)⟩
theorem Row4.map {w w' : World} {m : Nat} {E : List Ent} {A : Option Addr} {L : List Ac} (h : Row4 w A L) (hm : Mp w m E) (ht : Touch (fun b => b = m) w w') : Row4 w' A L := fun i x hx => by
  obtain ⟨⟨g, off, hA, h0, h1, h2, h3⟩, hr⟩ := h i x hx
  have hg : g ≠ m := cells_ne_map hm h0
  exact ⟨⟨g, off, hA, ht.cell h0 hg, ht.cell h1 hg, ht.cell h2 hg, ht.cell h3 hg⟩, hr.map hm ht⟩
def lightI (L : List Ac) : Bool := decide (L.length ≤ 60) && L.all fun x => smallI x.2.r && smallI x.2.t

section
variable {H : Type} {enc : TypeId × Value → H} {w : World} {base : Nat} {spare : Nat → Bool} {held : Bool} {fuel : Nat}

set_option maxRecDepth 100000 in
theorem act_cells {cs : List Value} {x : DataW H × List MemPlace} (h : DataW.trod enc Try.prog w base spare held fuel 42 cs = some x) :
    ∃ x : Ac, cs = [.bool x.1, .int .i64 x.2.n, .slice x.2.A x.2.r.length x.2.ca, .slice x.2.B x.2.t.length x.2.cb] ∧ RhOk w x.2 := by
  obtain ⟨y0, y1, n, _, hl, h0, h1⟩ := trod_struct2 Try.underlying42 h
  rw [cells42] at hl
  match cs, hl with
  | [c0, c1, c2, c3], _ =>
    simp only [cells4, cells40] at h0 h1
    obtain ⟨b, e0, _⟩ := DataW.trod_bool Try.underlying4 h0
    obtain ⟨hd, e1, ho⟩ := hold_cells h1
    simp [RH.cells] at e0 e1
    obtain ⟨rfl, rfl, rfl⟩ := e1
    subst e0
    exact ⟨(b, hd), rfl, ho⟩

set_option maxRecDepth 100000 in
theorem acts_open {A : Option Addr} {len cap : Nat} {d : DataW H} {p : List MemPlace} (h : DataW.Trod enc Try.prog w base spare held 35 (.slice A len cap) d p) :
    ∃ L : List Ac, L.length = len ∧ Row4 w A L := by
  obtain ⟨fuel, hf⟩ := h
  rcases open_slice Try.underlying35 hf with ⟨hcs, _⟩ | ⟨a, len', cap', m, n, D, Pl, hcs, hb, hl, hm, hmm, _, hi⟩
  · simp [Value.cells] at hcs
    obtain ⟨rfl, rfl, rfl⟩ := hcs
    exact ⟨[], rfl, fun i p h => by simp at h⟩
  · simp [Value.cells] at hcs
    obtain ⟨rfl, rfl, rfl⟩ := hcs
    have hle : len ≤ m := by rw [hmm]; split <;> omega
    obtain ⟨b, off, spot⟩ := a
    have hcell : ∀ i, ∃ x : Ac, i < len → (∀ j, j < 4 → w.cell? (Addr.add (Addr.add ⟨b, off, spot⟩ (i * 4)) j) = [Value.bool x.1, .int .i64 x.2.n, .slice x.2.A x.2.r.length x.2.ca, .slice x.2.B x.2.t.length x.2.cb][j]?) ∧ RhOk w x.2 := by
      intro i
      by_cases hil : i < len
      · obtain ⟨cs', hc, ht⟩ := hi i (by omega)
        rw [cells42] at hc
        obtain ⟨_, _, hat⟩ := World.cells?_some hc
        obtain ⟨x, rfl, ho⟩ := act_cells ht
        exact ⟨x, fun _ => ⟨hat, ho⟩⟩
      · exact ⟨(false, ⟨0, none, 0, [], none, 0, []⟩), fun h => absurd h hil⟩
    obtain ⟨xs, hxs⟩ := Classical.skolem.1 hcell
    refine ⟨(List.range len).map xs, by simp, fun i p hp => ?_⟩
    rw [List.getElem?_map] at hp
    have hil : i < len := by
      rcases Nat.lt_or_ge i len with h | h
      · exact h
      · rw [List.getElem?_eq_none (by simpa using h)] at hp; cases hp
    rw [List.getElem?_range hil] at hp
    have hp' : p = xs i := by simpa using hp.symm
    subst hp'
    have hspot : spot = none := by
      have h0 := (hxs 0 (by omega)).1 0 (by omega)
      simp [Addr.add, World.cell?] at h0
      split at h0
      · cases spot with
        | none => rfl
        | some s => simp at h0
      · cases h0
    subst hspot
    obtain ⟨hat, ho⟩ := hxs i hil
    have h0 := hat 0 (by omega)
    have h1 := hat 1 (by omega)
    have h2 := hat 2 (by omega)
    have h3 := hat 3 (by omega)
    rw [add_none] at h0 h1 h2 h3
    exact ⟨⟨b, off, rfl, by simpa using h0, by simpa using h1, by simpa using h2, by simpa using h3⟩, ho⟩
end

set_option maxHeartbeats 1000000 in
theorem light_any (w : World) (A : Option Addr) (c n : Nat) (L : List Ac) (hn : L.length = n) (hr : Row4 w A L) :
    Calls Try.prog 13 #[.slice A n c] w fun e w' => e = .returned (.bool (lightI L)) ∧ w' = w := by
  obtain ⟨R, hR⟩ : ∃ R, R = lightI L := ⟨_, rfl⟩
  rw [← hR]
  have H := Lib.hid (And.intro hn (And.intro hr hR))
  by_cases h12 : n ≤ 60
  · have h12' : ¬ ((60 : Int) < n) := by omega
    clear hn hr hR
    go_enter Try.func13, Try.ntmps13
    go_wp2_with fail
    go_loop [3] (fun u => ∃ i : Nat, i ≤ n ∧ u = .int .i64 i ∧ ∀ j x, j < i → L[j]? = some x → (smallI x.2.r && smallI x.2.t) = true) (fun u => n - (intOf u).toNat)
    case atStart => exact ⟨0, by omega, rfl, by intro j s h; omega⟩
    case round =>
      obtain ⟨i, hi, rfl, hall⟩ := hrel
      have HA := Lib.hid hall
      clear hall
      by_cases hin : i < n
      · obtain ⟨x, hx⟩ : ∃ x, L[i]? = some x := ⟨_, List.getElem?_eq_getElem (by rw [H.out.1]; exact hin)⟩
        obtain ⟨⟨g, off, rfl, c0, c1, c2, c3⟩, ho⟩ := H.out.2.1 i x hx
        have hbad : (smallI x.2.r && smallI x.2.t) = false → R = false := fun hb => by
          rw [H.out.2.2]
          unfold lightI
          rw [Bool.and_eq_false_iff]
          exact .inr (List.all_eq_false.2 ⟨_, List.mem_of_getElem? hx, by rw [hb]; decide⟩)
        have HS := Lib.hid (And.intro hx (And.intro hbad ho))
        clear hx hbad ho
        have hin' : (i : Int) < n := by omega
        go_wp2_with fail
        refine (small_any _ x.2.A x.2.ca x.2.r.length x.2.r rfl HS.out.2.2.row).mono ?_
        rintro e w' ⟨rfl, rfl⟩
        cases h1 : smallI x.2.r with
        | false =>
          have hf : false = R := by rw [HS.out.2.1 (by rw [h1]; rfl)]
          have HF := Lib.hid (And.intro hf h1)
          clear hf h1
          go_wp2_with fail
          go_ret
          exact ⟨by rw [← HF.out.1]; rfl, rfl⟩
        | true =>
          have HF1 := Lib.hid h1
          clear h1
          go_wp2_with fail
          refine (small_any _ x.2.B x.2.cb x.2.t.length x.2.t rfl HS.out.2.2.row2).mono ?_
          rintro e w' ⟨rfl, rfl⟩
          cases h2 : smallI x.2.t with
          | false =>
            have hf : false = R := by rw [HS.out.2.1 (by rw [HF1.out, h2]; rfl)]
            have HF := Lib.hid (And.intro hf h2)
            clear hf h2
            go_wp2_with fail
            go_ret
            exact ⟨by rw [← HF.out.1]; rfl, rfl⟩
          | true =>
            have HF2 := Lib.hid h2
            clear h2
            go_wp2_with fail
            go_round
            case rel =>
              refine ⟨i + 1, by omega, by go_num, fun j s hj hs => ?_⟩
              rcases Nat.lt_succ_iff_lt_or_eq.1 hj with h | rfl
              · exact HA.out j s h hs
              · rw [HS.out.1] at hs
                injection hs with hs
                subst hs
                rw [HF1.out, HF2.out]; rfl
            case measure => simp [intOf]; omega
      · obtain rfl : i = n := by omega
        have hf : true = R := by
          rw [H.out.2.2]
          unfold lightI
          rw [decide_eq_true (by rw [H.out.1]; exact h12), Bool.true_and]
          symm
          rw [List.all_eq_true]
          intro s hs
          obtain ⟨j, hj⟩ := List.getElem?_of_mem hs
          have hlt : j < L.length := by
            rcases Nat.lt_or_ge j L.length with h | h
            · exact h
            · rw [List.getElem?_eq_none h] at hj; cases hj
          exact HA.out j s (by rw [← H.out.1]; exact hlt) hj
        have HF := Lib.hid hf
        clear hf
        go_wp2_with fail
        go_ret
        exact ⟨by rw [← HF.out]; rfl, rfl⟩
  · have h12' : (60 : Int) < n := by omega
    have hf : false = R := by
      rw [hR]
      unfold lightI
      rw [decide_eq_false (by rw [hn]; exact h12)]
      rfl
    have HF := Lib.hid hf
    clear hn hr hR hf
    go_enter Try.func13, Try.ntmps13
    go_wp2_with fail
    go_ret
    exact ⟨by rw [← HF.out]; rfl, rfl⟩
end Go.Proofs.Ytgoeocfgajbldaa
