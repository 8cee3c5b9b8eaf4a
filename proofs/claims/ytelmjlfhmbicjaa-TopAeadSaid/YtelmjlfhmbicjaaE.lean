/- bits: PutLittle, Reverse, PutBig. -/
import Derived.Test.YtelmjlfhmbicjaaD
import Derived.RegionTactic
import Derived.BigRegion
namespace Go.Proofs.Ytelmjlfhmbicjaa
open Go.RowKit
set_option linter.unusedVariables false

def leF (x : Int) (j : Nat) : Int := x / 2 ^ (8 * j) % 256
theorem le_any (w : World) (g j : Nat) (x : Int) (hj : j < 8) (hb : Blk w g 38 #[.int .u64 x]) :
    Calls Try.prog 23 #[.int .i64 j, .pointer (some ⟨g, 0, none⟩)] w fun e w' => e = .returned (.int .u8 (leF x j)) ∧ w' = w := by
  have c := hb.cell 0
  simp only [List.getElem?_toArray, List.getElem?_cons_zero] at c
  go_enter Try.func23, Try.ntmps23
  go_wp2
  go_ret
  exact ⟨rfl, rfl⟩

/-- One swap. -/
def swpF (n i : Nat) (xs : List Int) : List Int := (xs.set i (xs.getD (n - 1 - i) 0)).set (n - 1 - i) (xs.getD i 0)
def revF (n : Nat) (xs : List Int) : List Int := iter (swpF n) (n / 2) xs
theorem revF_len (n : Nat) (xs : List Int) : (revF n xs).length = xs.length := iter_len _ (by intro i x; simp [swpF]) _ _

set_option maxHeartbeats 1000000 in
theorem rev_any (w : World) (g n c : Nat) (t : TypeId) (xs : List Int) (hn : n ≤ 4096) (h1 : 1 ≤ n) (hx : xs.length = n) (hb : Blk w g t (U8A xs)) :
    Calls Try.prog 35 #[.slice (some ⟨g, 0, none⟩) n c] w fun e w' => e = .returned (.tuple #[]) ∧ Blk w' g t (U8A (revF n xs)) ∧ Touch (fun b => b = g) w w' := by
  have HX := Lib.hid hx
  clear hx
  go_enter Try.func35, Try.ntmps35
  go_wp2_with fail
  go_loopw [2, 3] (fun i k wr => ∃ j : Nat, j ≤ n / 2 ∧ i = .int .i64 j ∧ k = .int .i64 ((n : Int) - 1 - j) ∧ Blk wr g t (U8A (iter (swpF n) j xs)) ∧ Touch (fun b => b = g) w wr) (fun i _ _ => n - (intOf i).toNat)
  case atStart => exact ⟨0, by omega, rfl, by simp, hb, Touch.refl _ _⟩
  case round =>
    obtain ⟨j, hj, rfl, rfl, hb, hT⟩ := hrel
    by_cases hjn : j < n / 2
    · have hl : (iter (swpF n) j xs).length = n := by rw [iter_len _ (by intro i x; simp [swpF])]; exact HX.out
      obtain ⟨Z, hZ⟩ : ∃ Z, Z = iter (swpF n) j xs := ⟨_, rfl⟩
      rw [← hZ] at hl hb
      obtain ⟨k, hk⟩ : ∃ k : Nat, k = n - 1 - j := ⟨_, rfl⟩
      have hk' : (n : Int) - 1 - j = k := by omega
      rw [hk']
      have hjk : j < k := by omega
      have hkn : k < n := by omega
      have hf := hb.frozen
      have cj := hb.cell j
      have ck := hb.cell k
      rw [U8A_get (by omega)] at cj ck
      obtain ⟨a, ha⟩ : ∃ x, x = Z.getD j 0 := ⟨_, rfl⟩
      obtain ⟨b, hbb⟩ : ∃ x, x = Z.getD k 0 := ⟨_, rfl⟩
      rw [← ha] at cj
      rw [← hbb] at ck
      have HA := Lib.hid (And.intro ha (And.intro hbb (And.intro hZ (And.intro hl (And.intro hk hk')))))
      clear ha hbb hZ hl hk hk'
      go_wp2_with fail
      go_region
      go_wp2
      go_roundw
      case rel =>
        obtain ⟨ha, hbb, hZ, hl, hk, hk'⟩ := HA.out
        refine ⟨j + 1, by omega, by go_num, ?_, ?_, ((hT.setCell (p := ⟨g, j, none⟩) (.inr rfl) _).setCell (p := ⟨g, k, none⟩) (.inr rfl) _).drew⟩
        · congr 1; omega
        · have := ((hb.set_ j (.int .u8 b)).set_ k (.int .u8 a)).drew
          rw [U8A_set, U8A_set] at this
          have e : (Z.set j b).set k a = iter (swpF n) (j + 1) xs := by rw [iter, ← hZ, swpF, ← hk, ← ha, ← hbb]
          rw [e] at this
          exact this
      case measure => simp [intOf]; omega
    · have hj' : j = n / 2 := by omega
      have hge : ¬ (j : Int) < (n : Int) - 1 - j := by omega
      rw [hj'] at hb
      clear hj'
      go_wp2
      go_end0
      exact ⟨rfl, hb, hT⟩
end Go.Proofs.Ytelmjlfhmbicjaa
