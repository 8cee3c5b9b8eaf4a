/- poly: Clamp. -/
import Derived.Test.YtelmjlfhmbicjaaZ
namespace Go.Proofs.Ytelmjlfhmbicjaa
open Go.RowKit
set_option linter.unusedVariables false

def andF (o : Nat) (m : Int) (k : Nat) (xs : List Int) : List Int := xs.set (o + 4 * k) (bits .and .u8 (xs.getD (o + 4 * k) 0) m)
def clampF (r : List Int) : List Int := iter (andF 4 252) 3 (iter (andF 3 15) 4 r)
theorem andF_len (o : Nat) (m : Int) (k : Nat) (xs : List Int) : (andF o m k xs).length = xs.length := by simp [andF]
theorem clampF_len (r : List Int) : (clampF r).length = r.length := by
  unfold clampF
  rw [iter_len _ (andF_len _ _), iter_len _ (andF_len _ _)]

set_option maxHeartbeats 1000000 in
theorem clamp_any (w : World) (r : List Int) (hr : r.length = 16) :
    Calls Try.prog 18 #[.agg (U8A r)] w fun e w' => e = .returned (.agg (U8A (clampF r))) ∧ Touch (fun _ => False) w w' := by
  obtain ⟨W, hW⟩ : ∃ W, W = ((w.alloc (Obj.cells (U8A r) 23)).alloc (Obj.cells (U8A (List.replicate 16 0)) 23)) := ⟨_, rfl⟩
  have hTW : Touch (fun _ => False) w W := by rw [hW]; exact ((Touch.refl _ w).alloc _).alloc _
  have hbR : Blk W w.heap.size 23 (U8A r) := by rw [hW]; exact (Blk.new w 23 _).alloc _
  have hbO : Blk W (w.heap.size + 1) 23 (U8A (List.replicate 16 0)) := by
    have := Blk.new (w.alloc (Obj.cells (U8A r) 23)) 23 (U8A (List.replicate 16 0))
    rw [World.size_alloc] at this
    rw [hW]; exact this
  go_enter Try.func18, Try.ntmps18
  go_upto_region 1 with fail
  refine Eq.mp (congrArg (fun x => Code.wp _ _ _ _ x) hW) ?_
  obtain ⟨b, hb⟩ : ∃ b, b = w.heap.size := ⟨_, rfl⟩
  rw [← hb] at hbR hbO ⊢
  have H := Lib.hid (And.intro hr (And.intro hbR (And.intro hbO (And.intro hTW hb))))
  clear hW hTW hbR hbO hr hb
  go_wp2_with fail
  go_loopw [3] (fun x wr => ∃ (k : Nat) (X : List Int), k ≤ 4 ∧ x = .int .i64 (3 + 4 * k : Nat) ∧ Hid (X = iter (andF 3 15) k r ∧ X.length = 16) ∧ Blk wr b 23 (U8A X) ∧ Touch (fun z => z = b) W wr) (fun x _ => 19 - (intOf x).toNat)
  case atStart => exact ⟨0, r, by omega, rfl, Lib.hid ⟨rfl, H.out.1⟩, H.out.2.1, Touch.refl _ _⟩
  case round =>
    obtain ⟨k, X, hk, rfl, hX, hb, hT⟩ := hrel
    obtain ⟨o, ho⟩ : ∃ o : Nat, o = 3 + 4 * k := ⟨_, rfl⟩
    rw [← ho]
    by_cases hk4 : k < 4
    · have ho16 : o < 16 := by omega
      obtain ⟨x, hx⟩ : ∃ x, x = X.getD o 0 := ⟨_, rfl⟩
      have c0 := hb.cell o
      rw [U8A_get (by rw [hX.out.2]; omega), ← hx] at c0
      have f0 := hb.frozen
      have HI := Lib.hid (And.intro hb (And.intro hT (And.intro hx ho)))
      clear hb hT hx ho
      go_wp2
      go_roundw
      case rel =>
        refine ⟨k + 1, X.set o (bits .and .u8 x 15), by omega, ?_, Lib.hid ⟨?_, ?_⟩, ?_, HI.out.2.1.setCell (p := ⟨b, o, none⟩) (.inr rfl) _⟩
        · have := HI.out.2.2.2; congr 1; omega
        · rw [iter, ← hX.out.1, andF, ← HI.out.2.2.2, ← HI.out.2.2.1]
        · rw [List.length_set]; exact hX.out.2
        · have := HI.out.1.set_ o (.int .u8 (bits .and .u8 x 15)); rw [U8A_set] at this; exact this
      case measure => simp [intOf]; omega
    · have hk4' : k = 4 := by omega
      rw [hk4'] at hX
      have ho19 : o = 19 := by omega
      have HI := Lib.hid (And.intro hb hT)
      subst ho19
      clear hb hT hk4' ho
      go_wp2_with fail
      go_loopw [4] (fun x wr => ∃ (k : Nat) (Y : List Int), k ≤ 3 ∧ x = .int .i64 (4 + 4 * k : Nat) ∧ Hid (Y = iter (andF 4 252) k X ∧ Y.length = 16) ∧ Blk wr b 23 (U8A Y) ∧ Touch (fun z => z = b) W wr) (fun x _ => 19 - (intOf x).toNat)
      case atStart => exact ⟨0, X, by omega, rfl, Lib.hid ⟨rfl, hX.out.2⟩, HI.out.1, HI.out.2⟩
      case round =>
        obtain ⟨k2, Y, hk2, rfl, hY, hb, hT⟩ := hrel
        obtain ⟨o, ho⟩ : ∃ o : Nat, o = 4 + 4 * k2 := ⟨_, rfl⟩
        rw [← ho]
        by_cases hk3 : k2 < 3
        · have ho16 : o < 16 := by omega
          obtain ⟨x, hx⟩ : ∃ x, x = Y.getD o 0 := ⟨_, rfl⟩
          have c0 := hb.cell o
          rw [U8A_get (by rw [hY.out.2]; omega), ← hx] at c0
          have f0 := hb.frozen
          have HI := Lib.hid (And.intro hb (And.intro hT (And.intro hx ho)))
          clear hb hT hx ho
          go_wp2
          go_roundw
          case rel =>
            refine ⟨k2 + 1, Y.set o (bits .and .u8 x 252), by omega, ?_, Lib.hid ⟨?_, ?_⟩, ?_, HI.out.2.1.setCell (p := ⟨b, o, none⟩) (.inr rfl) _⟩
            · have := HI.out.2.2.2; congr 1; omega
            · rw [iter, ← hY.out.1, andF, ← HI.out.2.2.2, ← HI.out.2.2.1]
            · rw [List.length_set]; exact hY.out.2
            · have := HI.out.1.set_ o (.int .u8 (bits .and .u8 x 252)); rw [U8A_set] at this; exact this
          case measure => simp [intOf]; omega
        · have hk3' : k2 = 3 := by omega
          rw [hk3'] at hY
          have ho16 : o = 16 := by omega
          subst ho16
          have hr16 : (Try.prog.info? 23).map (·.size) = some (U8A Y).size := by rw [U8A_size, hY.out.2]; kernel_rfl
          have hsz : (U8A (List.replicate 16 0)).size = (U8A Y).size := by rw [U8A_size, U8A_size, hY.out.2]; rfl
          have hO := H.out.2.2.1.touch hT (by omega)
          have HE := Lib.hid (And.intro hr16 (And.intro hsz hT))
          clear hT hr16 hsz hk3' ho
          go_wp2_with (first | (refine wpList_load_row rfl 23 (.tmp 1) rfl b rfl 23 (U8A Y) (0, 0) (.array 16 5) hb (by kernel_rfl) rfl HE.out.1 ?_) | (refine wpList_store_row rfl 23 (.tmp 2) (.tmp 23) rfl (b + 1) (U8A Y) rfl rfl 23 _ hO HE.out.1 HE.out.2.1 (U8A_one _) ?_))
          refine bodyPost_ret (v := .agg (U8A Y)) (results_cell_row (P := Try.prog) rfl _ _ (b + 1) 23 _ (0, 0) (.array 16 5) rfl (hO.row _) (by kernel_rfl) rfl HE.out.1) rfl ⟨by rw [hY.out.1, clampF, ← hX.out.1], ?_⟩
          exact (H.out.2.2.2.1.trans HE.out.2.2 (by intro z hz e; have := H.out.2.2.2.2; omega)).row (.inl (by have := H.out.2.2.2.2; omega)) _
end Go.Proofs.Ytelmjlfhmbicjaa
