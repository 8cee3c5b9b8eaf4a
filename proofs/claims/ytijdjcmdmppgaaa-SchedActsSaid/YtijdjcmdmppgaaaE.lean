/- Jobs, Add. -/
import Derived.Test.YtijdjcmdmppgaaaD
namespace Go.Proofs.Ytijdjcmdmppgaaa
open Go.RowKit
set_option linter.unusedVariables false

def idv (p : Nat × Jb) : Value := .int .i64 p.2.id
theorem one_idv (l : List (Nat × Jb)) : ∀ u ∈ l.map idv, u.oneCell' = true := by
  intro u hu
  obtain ⟨p, _, rfl⟩ := List.mem_map.1 hu
  rfl
theorem one_pv (l : List (Nat × Jb)) : ∀ u ∈ l.map pv, u.oneCell' = true := by
  intro u hu
  obtain ⟨p, _, rfl⟩ := List.mem_map.1 hu
  rfl

/-- A row of numbers that is new. -/
def RowPost (vs : List Value) (w : World) (e : Ending) (w' : World) : Prop :=
  ∃ (A : Option Addr) (cap : Nat), e = .returned (.slice A vs.length cap) ∧ Rw w' 3 A cap vs ∧ (∀ a, A = some a → w.heap.size ≤ a.block) ∧ Touch (fun _ => False) w w'

theorem take_map_snoc {α β : Type} (f : α → β) (l : List α) (k : Nat) (p : α) (h : l[k]? = some p) : (l.take (k + 1)).map f = (l.take k).map f ++ [f p] := by
  rw [List.take_add_one, h]; simp

theorem jobs_any (w : World) (S : Nat → Prop) (q o C k bt nx M c : Nat) (L : Nat → List (Nat × Jb)) (h : Que w S q o C k bt nx M L) (hM : M ≤ 10000) (hcC : c < C) :
    Calls Try.prog 15 #[.pointer (some ⟨q, 0, none⟩), .int .i64 c] w (RowPost ((L c).map idv) w) := by
  obtain ⟨A, cp, h⟩ := h
  have hC := h.hC
  have c0 := h.hq.cell 0
  simp at c0
  obtain ⟨cs, ho, hcs, hce⟩ := h.ho
  have hco := ho.cell c
  rw [hce c hcC] at hco
  have hll := h.hl c hcC
  have hrr := h.hr c hcC
  obtain ⟨Ac, hAc⟩ : ∃ x, x = A c := ⟨_, rfl⟩
  obtain ⟨cpc, hcpc⟩ : ∃ x, x = cp c := ⟨_, rfl⟩
  rw [← hAc, ← hcpc] at hco hrr
  obtain ⟨n, hn⟩ : ∃ n, n = (L c).length := ⟨_, rfl⟩
  rw [← hn] at hll hco
  have HN := Lib.hid hn
  have HQ := Lib.hid h
  have HR := Lib.hid hrr
  clear h hce hcs ho hn hrr hAc hcpc
  have d0 : decide ((c : Int) < 0) = false := by simp
  have d1 : decide (C ≤ c) = false := by simp; omega
  go_enter Try.func15, Try.ntmps15
  go_wp2_with fail
  go_loopw [5, 31] (fun v u wr => ∃ (j : Nat) (A' : Option Addr) (cap' : Nat), j ≤ n ∧ u = .int .i64 j ∧ v = .slice A' j cap' ∧ Rw wr 3 A' cap' (((L c).take j).map idv) ∧ (∀ a, A' = some a → w.heap.size ≤ a.block) ∧ Touch (fun _ => False) w wr) (fun _ u _ => n - (intOf u).toNat)
  case atStart => exact ⟨0, none, 0, by omega, rfl, rfl, Rw.nil _ _, by simp, Touch.refl _ _⟩
  case round =>
    obtain ⟨j, A', cap', hj, rfl, rfl, hR, hF, hT⟩ := hrel
    have HRF := Lib.hid (And.intro hR hF)
    clear hR hF
    by_cases hjn : j < n
    · obtain ⟨p, hp⟩ : ∃ p, (L c)[j]? = some p := ⟨_, List.getElem?_eq_getElem (by rw [← HN.out]; exact hjn)⟩
      obtain ⟨g, rfl, hc⟩ := HR.out.cell (i := j) (v := pv p) (by rw [List.getElem?_map, hp]; rfl)
      have hc1 := hT.cell hc (fun h => h)
      unfold pv at hc1
      have hid := ((HQ.out.hj c hcC p (List.mem_of_getElem? hp)).touch hT (fun h => h)).cell 0
      simp [jc] at hid
      have HP := Lib.hid hp
      have hlen : (((L c).take j).map idv).length = j := by simp; have := HN.out; omega
      have HL := Lib.hid hlen
      clear hp hc hlen
      go_wp2_with (at_builtin; refine wpList_rw_push elem38 rfl (.tmp 35) (.tmp 40) rfl A' cap' j (((L c).take j).map idv) HL.out rfl wr.heap.size (idv p) rfl ((Blk.new wr 3 #[idv p]).cell 0) rfl (HRF.out.1.touch ((Touch.refl (fun _ => False) wr).alloc _) (fun _ _ h => h)) (one_idv _) (by omega) ?_; intro A2 cap2 w2 hr2 hT2 hf2; have HR2 := Lib.hid hr2; have HT2 := Lib.hid hT2; have HF2 := Lib.hid hf2; clear hr2 hT2 hf2)
      go_roundw
      case rel =>
        refine ⟨j + 1, A2, cap2, by omega, by go_num, rfl, by rw [take_map_snoc idv _ _ p HP.out]; exact HR2.out, fun a ha => ?_, ?_⟩
        · rcases HF2.out a ha with ⟨a0, h0, h1⟩ | h
          · rw [← h1]; exact HRF.out.2 a0 h0
          · have := hT.size
            simp at h; omega
        · exact (hT.alloc _).trans HT2.out (fun b hb ⟨a, ha, e⟩ => by have := HRF.out.2 a ha; omega)
      case measure => simp [intOf]; omega
    · have hjn' : j = n := by omega
      have hle := HN.out
      rw [hjn'] at HRF ⊢
      clear hjn' hle
      go_wp2
      go_ret
      refine ⟨A', cap', by rw [List.length_map, ← HN.out]; rfl, ?_, HRF.out.2, hT⟩
      have := HRF.out.1
      rw [List.take_of_length_le (by rw [← HN.out]; exact Nat.le_refl _)] at this
      exact this

theorem jobs_none (w : World) (S : Nat → Prop) (q o C k bt nx M : Nat) (c : Int) (L : Nat → List (Nat × Jb)) (h : Que w S q o C k bt nx M L) (hc : c < 0 ∨ (C : Int) ≤ c) :
    Calls Try.prog 15 #[.pointer (some ⟨q, 0, none⟩), .int .i64 c] w fun e w' => e = .returned (.slice none 0 0) ∧ w = w' := by
  obtain ⟨A, cp, h⟩ := h
  have c0 := h.hq.cell 0
  simp at c0
  clear h
  rcases hc with hc | hc
  · go_enter Try.func15, Try.ntmps15
    go_wp2
    go_ret
    exact ⟨rfl, rfl⟩
  · have hc0 : decide (c < 0) = false := by simp; omega
    go_enter Try.func15, Try.ntmps15
    go_wp2
    go_ret
    exact ⟨rfl, rfl⟩
theorem jobs_nil (w : World) (c : Int) : Calls Try.prog 15 #[.pointer none, .int .i64 c] w fun e w' => e = .returned (.slice none 0 0) ∧ w = w' := by
  go_enter Try.func15, Try.ntmps15
  go_wp2
  go_ret
  exact ⟨rfl, rfl⟩
end Go.Proofs.Ytijdjcmdmppgaaa
