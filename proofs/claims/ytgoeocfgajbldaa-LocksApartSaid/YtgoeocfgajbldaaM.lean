/- spans; awake. -/
import Derived.Test.YtgoeocfgajbldaaL
namespace Go.Proofs.Ytgoeocfgajbldaa
open Go.RowKit
set_option linter.unusedVariables false

theorem Rw2.nil_of {w : World} {t : TypeId} {A : Option Addr} {cap : Nat} {l : List V2} (h : Rw2 w t A cap l) (hA : A = none) : l.length = 0 ∧ cap = 0 := by
  rcases h with ⟨_, h1, h2⟩ | ⟨g, cur, hg, _⟩
  · exact ⟨by rw [h2]; rfl, h1⟩
  · rw [hA] at hg; cases hg

set_option maxRecDepth 20000 in
set_option maxHeartbeats 1000000 in
theorem spans_any (w : World) (A : Option Addr) (c n : Nat) (l : List Sp) (hn : l.length = n) (hl : n ≤ 1000) (hs : AllSmall l) (hr : Row2 w A (l.map spV2)) :
    Calls Try.prog 7 #[.slice A n c] w fun e w' => (∃ A' c', e = .returned (.slice A' n c') ∧ SpOk w' A' c' l) ∧ Touch (fun _ => False) w w' := by
  have H := Lib.hid (And.intro hn (And.intro hs hr))
  clear hn hs hr
  go_enter Try.func7, Try.ntmps7
  go_wp2_with fail
  go_loopw [3, 4] (fun u v wr => ∃ (i : Nat) (A' : Option Addr) (c' : Nat), i ≤ n ∧ v = .int .i64 i ∧ u = .slice A' i c' ∧ Rw2 wr 52 A' c' ((l.take i).map spV2) ∧ (∀ a, A' = some a → w.heap.size ≤ a.block) ∧ Touch (fun _ => False) w wr) (fun _ v _ => n - (intOf v).toNat)
  case atStart => exact ⟨0, none, 0, by omega, rfl, rfl, Rw2.nil _ _, (fun a h => by cases h), Touch.refl _ _⟩
  case round =>
    obtain ⟨i, A', c', hi, rfl, rfl, hrw, hfr, hT⟩ := hrel
    by_cases hin : i < n
    · obtain ⟨s, hsi⟩ : ∃ s, l[i]? = some s := ⟨_, List.getElem?_eq_getElem (by rw [H.out.1]; exact hin)⟩
      obtain ⟨g, off, rfl, h1, h2⟩ := H.out.2.2 i (spV2 s) (by rw [List.getElem?_map, hsi]; rfl)
      have HR := Lib.hid (And.intro hrw (And.intro hfr (And.intro hT hsi)))
      clear hrw hfr hsi
      obtain ⟨S, HS⟩ : ∃ S : World → Prop, Hid (∀ w', S w' ↔ (w'.cell? ⟨g, off + i * 2, none⟩ = some (.int .i64 s.1) ∧ w'.cell? ⟨g, off + i * 2 + 1, none⟩ = some (.int .i64 s.2))) := ⟨_, fun _ => Iff.rfl⟩
      have hSS : ∀ w', Touch (fun _ => False) w w' → S w' := fun w' ht => (HS.out _).2 ⟨ht.cell h1 (fun h => h), ht.cell h2 (fun h => h)⟩
      have hlt : (i : Int) < n := by omega
      go_wp2_with fail
      refine wp_region_tr S (.q 0 (.q 1 (.q 2 (.q 3 (.q 4 (.q 5 (.q 6 (.q 7 (.q 8 (.q 9 (.q 10 (.q 11 (.e 12 (.e 13 (.e 14 .nil))))))))))))))) (by kernel_rfl) (by kernel_rfl) (hSS _ hT.drew) (fun hne => ?_)
      have z0 : ∀ x : SW S, x.w.cell? ⟨g, off + i * 2, none⟩ = some (.int .i64 s.1) := fun x => ((HS.out _).1 x.ok).1
      have z1 : ∀ x : SW S, x.w.cell? ⟨g, off + i * 2 + 1, none⟩ = some (.int .i64 s.2) := fun x => ((HS.out _).1 x.ok).2
      repeat (refine wpTr_q (by simp only [List.getElem?_toArray, List.getElem?_cons_zero, List.getElem?_cons_succ]; rfl) ?_; (first | go_big_quiet_skip | (go_big_quiet_want; go_big_quiet_op; go_big_quiet_on)); refine wpQuiet_nil ?_)
      have HSS := Lib.hid hSS
      have HZ := Lib.hid hT
      clear z0 z1 hSS h1 h2 hT
      refine wpTr_e (by simp only [List.getElem?_toArray, List.getElem?_cons_zero, List.getElem?_cons_succ]; rfl) (fun K1 hK1 => ?_)
      go_wp2_with fail
      obtain ⟨w2, hw2⟩ : ∃ w2, w2 = (wr.alloc (.cells #[.int .i64 s.1, .int .i64 s.2] 52)).drew := ⟨_, rfl⟩
      rw [← hw2]
      have hT2 : Touch (fun _ => False) wr w2 := by rw [hw2]; exact ((Touch.refl _ wr).alloc _).drew
      have hT02 : Touch (fun _ => False) w w2 := HZ.out.trans hT2 (fun _ _ h => h)
      have hr2 : Row2 w2 (some ⟨wr.heap.size, 0, none⟩) ([s].map spV2) := by rw [hw2]; exact (Rw2.new wr 52 [spV2 s] (by simp)).row
      have hs2 := src2 el52 hr2 (one2_sp [s]) 1 1 rfl
      clear hw2
      try refine ⟨HSS.out _ hT02, ?_⟩
      refine wpTr_e (by simp only [List.getElem?_toArray, List.getElem?_cons_zero, List.getElem?_cons_succ]; rfl) (fun K2 hK2 => ?_)
      refine wp_rw2_push el52 rfl (.tmp 11) (.tmp 23) rfl A' c' i 1 ((l.take i).map spV2) ([s].map spV2) (by rw [List.length_map, List.length_take, H.out.1]; omega) rfl rfl (.slice (some ⟨wr.heap.size, 0, none⟩) 1 1) rfl hs2 (HR.out.1.touch hT2 (fun _ _ h => h)) (by omega) (fun A3 c3 w3 hr3 hT3 hf3 => ?_)
      have hT03 : Touch (fun _ => False) w w3 := hT02.trans hT3 (fun b hb ⟨a, ha, e⟩ => by have := HR.out.2.1 a ha; omega)
      refine hK2 _ _ ⟨HSS.out _ hT03, ?_⟩
      have H3 := Lib.hid (And.intro hr3 (And.intro hf3 (And.intro hT03 hT2)))
      clear hr3 hf3 hT3 hT03 hT02 hr2 hs2 hK2
      refine wpTr_e (by simp only [List.getElem?_toArray, List.getElem?_cons_zero, List.getElem?_cons_succ]; rfl) (fun K3 hK3 => ?_)
      go_wp2_with fail
      try refine ⟨HSS.out _ H3.out.2.2.1, wpTr_nil ?_⟩
      try clear hK3
      go_wp2_with fail
      go_roundw
      case rel =>
        have hlen : i < l.length := by rw [H.out.1]; exact hin
        have e : l.take (i + 1) = l.take i ++ [s] := by rw [List.take_add_one, HR.out.2.2.2]; rfl
        refine ⟨i + 1, A3, c3, by omega, by go_num, rfl, by rw [e, List.map_append]; exact H3.out.1, fun a ha => ?_, H3.out.2.2.1⟩
        rcases H3.out.2.1 a ha with ⟨a0, h0, h1⟩ | h1
        · rw [← h1]; exact HR.out.2.1 a0 h0
        · have := HR.out.2.2.1.size; have := H3.out.2.2.2.size; omega
      case measure => simp [intOf]; omega
    · obtain rfl : i = n := by omega
      have HR := Lib.hid (And.intro hrw (And.intro hfr hT))
      clear hrw hfr hT
      go_wp2_with fail
      go_ret
      have e : l.take i = l := List.take_of_length_le (by rw [H.out.1]; omega)
      have hrw := HR.out.1
      rw [e] at hrw
      exact ⟨⟨A', c', rfl, hrw.row, H.out.2.1, by rw [H.out.1]; omega, fun hA => by have := hrw.nil_of hA; simpa using this⟩, HR.out.2.2⟩
end Go.Proofs.Ytgoeocfgajbldaa
