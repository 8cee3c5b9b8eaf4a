/- awake. -/
import Derived.Test.YtgoeocfgajbldaaM
namespace Go.Proofs.Ytgoeocfgajbldaa
open Go.RowKit
set_option linter.unusedVariables false

theorem SpOk.none_ (w : World) : SpOk w none 0 [] := ⟨(fun i p h => by simp at h), (fun s h => by cases h), by simp, fun _ => ⟨rfl, rfl⟩⟩
theorem SpOk.one (w : World) (s : Sp) (hs : Small s) : SpOk (w.alloc (.cells #[.int .i64 s.1, .int .i64 s.2] 52)) (some ⟨w.heap.size, 0, none⟩) 1 [s] :=
  ⟨(Rw2.new w 52 [spV2 s] (by simp)).row, (fun t ht => by simp at ht; rw [ht]; exact hs), by simp, fun h => by cases h⟩
theorem SpOk.map {w w' : World} {m : Nat} {E : List Ent} {A : Option Addr} {c : Nat} {l : List Sp} (h : SpOk w A c l) (hm : Mp w m E) (ht : Touch (fun b => b = m) w w') : SpOk w' A c l :=
  ⟨h.row.touch ht (fun a ha hn _ => hm.row_ne h.row hn a ha), h.small, h.len, h.nil⟩

set_option maxRecDepth 20000 in
theorem awake_any (w : World) : Calls Try.prog 12 #[] w fun e w' => e = .returned (.bool true) ∧ Touch (fun _ => False) w w' := by
  go_enter Try.func12, Try.ntmps12
  go_wp2_with fail
  refine (new_any _).mono ?_
  rintro e w1 ⟨k, m, rfl, hk1, hT1, hm⟩
  have H1 := Lib.hid (And.intro hk1 (And.intro hT1 hm))
  clear hk1 hT1 hm
  go_wp2_with fail
  have hTa : Touch (fun _ => False) w1 (w1.alloc (.cells #[.int .i64 0, .int .i64 4] 52)) := (Touch.refl _ _).alloc _
  refine (take_ok _ k m [] 1 (some ⟨w1.heap.size, 0, none⟩) none 1 0 [(0, 4)] [] (H1.out.1.touch hTa) (SpOk.one w1 (0, 4) ⟨by decide, by decide⟩) (SpOk.none_ _) (by decide) rfl (by simp)).mono ?_
  rintro e w2 ⟨rfl, ⟨hd1, e1, e2, hk2⟩, hT2⟩
  have hT02 : Touch (fun _ => False) w w2 := (H1.out.2.1.trans hTa (fun _ _ h => h)).trans hT2 (fun b hb h => by have := H1.out.2.2; omega)
  have H2 := Lib.hid (And.intro e1 (And.intro e2 (And.intro hk2 hT02)))
  clear e1 e2 hk2 hT02 hT2 hTa
  go_wp2_with fail
  have hTb : Touch (fun _ => False) w2 (w2.alloc (.cells #[.int .i64 2, .int .i64 4] 52)) := (Touch.refl _ _).alloc _
  refine (take_ok _ k m [(1, hd1)] 2 (some ⟨w2.heap.size, 0, none⟩) none 1 0 [(2, 4)] [] (H2.out.2.2.1.touch hTb) (SpOk.one w2 (2, 4) ⟨by decide, by decide⟩) (SpOk.none_ _) (by decide) (by simp [takeN, busyB, clashB, meetB, H2.out.1, H2.out.2.1]) (by simp)).mono ?_
  rintro e w3 ⟨rfl, ⟨hd2, e1, e2, hk3⟩, hT3⟩
  have hT03 : Touch (fun _ => False) w w3 := (H2.out.2.2.2.trans hTb (fun _ _ h => h)).trans hT3 (fun b hb h => by have := H1.out.2.2; omega)
  have H3 := Lib.hid (And.intro e1 (And.intro e2 (And.intro hk3 hT03)))
  clear e1 e2 hk3 hT03 hT3 hTb
  go_wp2_with fail
  have hTc : Touch (fun _ => False) w3 (w3.alloc (.cells #[.int .i64 3, .int .i64 1] 52)) := (Touch.refl _ _).alloc _
  have ht : takeN (insL (2, hd2) [(1, hd1)]) 3 [] [(3, 1)] = 13 := by
    have e : insL (2, hd2) [(1, hd1)] = [(1, hd1), (2, hd2)] := by simp [insL]
    rw [e]
    simp [takeN, busyB, clashB, meetB, meetsB, H2.out.1, H2.out.2.1, H3.out.1, H3.out.2.1]
  have hc := take_no _ k m (insL (2, hd2) [(1, hd1)]) 3 none (some ⟨w3.heap.size, 0, none⟩) 0 1 [] [(3, 1)] (H3.out.2.2.1.touch hTc) (SpOk.none_ _) (SpOk.one w3 (3, 1) ⟨by decide, by decide⟩) (by decide) (by rw [ht]; decide)
  rw [ht] at hc
  refine hc.mono ?_
  rintro e w4 ⟨rfl, hT4⟩
  have H4 := Lib.hid ((H3.out.2.2.2.trans hTc (fun _ _ h => h)).trans hT4 (fun _ _ h => h))
  clear hT4 hTc hc ht
  go_wp2
  go_ret
  exact ⟨rfl, H4.out⟩
end Go.Proofs.Ytgoeocfgajbldaa
