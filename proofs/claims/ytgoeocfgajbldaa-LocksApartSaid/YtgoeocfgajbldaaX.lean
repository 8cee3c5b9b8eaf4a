/- The document's Busy. -/
import Derived.Test.YtgoeocfgajbldaaW
namespace Go.Proofs.Ytgoeocfgajbldaa
open Go.RowKit
set_option linter.unusedVariables false

def busyI (l : List RH) (s : List SI) (wr : Bool) : Bool := l.any fun h => meetI h.t s || (wr && meetI h.r s)
/-- Each of the holds lies, and is small. -/
def RhsOk (w : World) (l : List RH) : Prop := ∀ h ∈ l, RhOk w h ∧ smallI h.r = true ∧ smallI h.t = true
theorem RhsOk.touch {w w' : World} {l : List RH} (h : RhsOk w l) (ht : Touch (fun _ => False) w w') : RhsOk w' l := fun x hx => ⟨(h x hx).1.touch ht (fun _ _ h => h), (h x hx).2⟩
theorem RhsOk.map {w w' : World} {m : Nat} {E : List Ent} {l : List RH} (h : RhsOk w l) (hm : Mp w m E) (ht : Touch (fun b => b = m) w w') : RhsOk w' l := fun x hx => ⟨(h x hx).1.map hm ht, (h x hx).2⟩
theorem smallI_all {l : List SI} (h : smallI l = true) : l.length ≤ 12 ∧ ∀ s ∈ l, smI s = true := by
  unfold smallI at h
  rw [Bool.and_eq_true, decide_eq_true_eq, List.all_eq_true] at h
  exact h

set_option maxHeartbeats 1000000 in
theorem busyR_any (w : World) (A B : Option Addr) (ca cb n m : Nat) (l : List RH) (s : List SI) (bw : Bool) (h : Rw3 w A ca l) (hn : l.length = n) (hlen : n ≤ 1000) (hok : RhsOk w l) (hm : s.length = m) (hs : smallI s = true) (rs : Row2 w B (s.map siV2)) :
    Calls Try.prog 18 #[.slice A n ca, .slice B m cb, .bool bw] w fun e w' => e = .returned (.bool (busyI l s bw)) ∧ Touch (fun _ => False) w w' := by
  obtain ⟨R, hR⟩ : ∃ R, R = busyI l s bw := ⟨_, rfl⟩
  rw [← hR]
  have H := Lib.hid (And.intro h (And.intro hn (And.intro hok (And.intro hm (And.intro hs (And.intro rs hR))))))
  have hm12 : m ≤ 12 := by rw [← hm]; exact (smallI_all hs).1
  clear h hn hok hm hs rs hR
  go_enter Try.func18, Try.ntmps18
  go_wp2_with fail
  go_loopw [7] (fun u w' => ∃ i : Nat, i ≤ n ∧ u = .int .i64 i ∧ (∀ i' y, i' < i → l[i']? = some y → (meetI y.t s || (bw && meetI y.r s)) = false) ∧ Touch (fun _ => False) w w') (fun u _ => n - (intOf u).toNat)
  case atStart => exact ⟨0, by omega, rfl, by intro i' y h; omega, Touch.refl _ _⟩
  case round =>
    obtain ⟨i, hi, rfl, hno, hT⟩ := hrel
    have HO := Lib.hid (And.intro hno hT)
    clear hno hT
    by_cases hin : i < n
    · have hin' : (i : Int) < n := by omega
      obtain ⟨y, hy⟩ : ∃ y, l[i]? = some y := ⟨_, List.getElem?_eq_getElem (by rw [H.out.2.1]; exact hin)⟩
      obtain ⟨g, rfl, c0, c1, c2⟩ := (H.out.1.touch HO.out.2 (fun _ _ h => h)).cell hy
      have hyo := H.out.2.2.1.touch HO.out.2 y (List.mem_of_getElem? hy)
      have m1 := fun w' (T : Touch (fun _ => False) wr w') => meet19_any w' y.B B y.cb cb y.t.length m y.t s rfl H.out.2.2.2.1 (by have := (smallI_all hyo.2.2).1; omega) (by omega) (smallI_all hyo.2.2).2 (smallI_all H.out.2.2.2.2.1).2 (hyo.1.row2.touch0 T) (H.out.2.2.2.2.2.1.touch0 (HO.out.2.trans T (fun _ _ h => h)))
      have m2 := fun w' (T : Touch (fun _ => False) wr w') => meet19_any w' y.A B y.ca cb y.r.length m y.r s rfl H.out.2.2.2.1 (by have := (smallI_all hyo.2.1).1; omega) (by omega) (smallI_all hyo.2.1).2 (smallI_all H.out.2.2.2.2.1).2 (hyo.1.row.touch0 T) (H.out.2.2.2.2.2.1.touch0 (HO.out.2.trans T (fun _ _ h => h)))
      have d1 := fun w' (T : Touch (fun _ => False) wr w') => T.cell c1 (fun h => h)
      obtain ⟨b1, hb1⟩ : ∃ b1, b1 = meetI y.t s := ⟨_, rfl⟩
      obtain ⟨b2, hb2⟩ : ∃ b2, b2 = meetI y.r s := ⟨_, rfl⟩
      rw [← hb1] at m1
      rw [← hb2] at m2
      have hbad : (b1 || (bw && b2)) = true → true = R := fun hb => by
        rw [H.out.2.2.2.2.2.2]
        exact (any_true_of hy (by rw [← hb1, ← hb2]; exact hb)).symm
      have HY := Lib.hid (And.intro hy (And.intro m1 (And.intro m2 (And.intro hb1 (And.intro hb2 (And.intro hbad d1))))))
      clear hy hyo m1 m2 hb1 hb2 hbad d1
      go_wp2_with fail
      refine (HY.out.2.1 _ (Touch.refl _ _)).mono ?_
      rintro e v1 ⟨rfl, hV1⟩
      have c1' := HY.out.2.2.2.2.2.2 _ hV1
      have HV1 := Lib.hid hV1
      clear hV1 c0 c1 c2
      cases b1 with
      | true =>
        have HF := Lib.hid (HY.out.2.2.2.2.2.1 rfl)
        go_wp2_with fail
        go_ret
        exact ⟨by rw [← HF.out]; rfl, HO.out.2.trans HV1.out (fun _ _ h => h)⟩
      | false =>
        cases bw with
        | false =>
          go_wp2_with fail
          go_roundw
          case rel =>
            refine ⟨i + 1, by omega, by go_num, fun i' z hi' hz => ?_, HO.out.2.trans HV1.out (fun _ _ h => h)⟩
            rcases Nat.lt_succ_iff_lt_or_eq.1 hi' with h | rfl
            · exact HO.out.1 i' z h hz
            · rw [HY.out.1] at hz
              injection hz with hz
              subst hz
              rw [← HY.out.2.2.2.1]; rfl
          case measure => simp [intOf]; omega
        | true =>
          go_wp2_with fail
          refine (HY.out.2.2.1 _ HV1.out).mono ?_
          rintro e v2 ⟨rfl, hV2⟩
          have HV2 := Lib.hid (HO.out.2.trans (HV1.out.trans hV2 (fun _ _ h => h)) (fun _ _ h => h))
          clear hV2 c1'
          cases b2 with
          | true =>
            have HF := Lib.hid (HY.out.2.2.2.2.2.1 rfl)
            go_wp2_with fail
            go_ret
            exact ⟨by rw [← HF.out]; rfl, HV2.out⟩
          | false =>
            go_wp2_with fail
            go_roundw
            case rel =>
              refine ⟨i + 1, by omega, by go_num, fun i' z hi' hz => ?_, HV2.out⟩
              rcases Nat.lt_succ_iff_lt_or_eq.1 hi' with h | rfl
              · exact HO.out.1 i' z h hz
              · rw [HY.out.1] at hz
                injection hz with hz
                subst hz
                rw [← HY.out.2.2.2.1, ← HY.out.2.2.2.2.1]; rfl
            case measure => simp [intOf]; omega
    · obtain rfl : i = n := by omega
      have hf : false = R := by
        rw [H.out.2.2.2.2.2.2]
        exact (any_false_of (fun i' x hi' hx => HO.out.1 i' x (by rw [← H.out.2.1]; exact hi') hx)).symm
      have HF := Lib.hid hf
      clear hf
      go_wp2_with fail
      go_ret
      exact ⟨by rw [← HF.out]; rfl, HO.out.2⟩
end Go.Proofs.Ytgoeocfgajbldaa
