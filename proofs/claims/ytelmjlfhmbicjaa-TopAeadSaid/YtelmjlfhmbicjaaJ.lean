/- Reverse on the head of a row. -/
import Derived.Test.YtelmjlfhmbicjaaI
namespace Go.Proofs.Ytelmjlfhmbicjaa
open Go.RowKit
set_option linter.unusedVariables false

/-- The bytes at a place of an array. -/
def At (cur : Array Value) (off : Nat) (xs : List Int) : Prop := ∀ i, i < xs.length → cur[off + i]? = some (.int .u8 (xs.getD i 0))
theorem At.set {cur : Array Value} {off : Nat} {xs : List Int} (h : At cur off xs) {j : Nat} (hj : j < xs.length) (x : Int) : At (cur.setIfInBounds (off + j) (.int .u8 x)) off (xs.set j x) := fun i hi => by
  simp only [List.length_set] at hi
  have hlt : off + j < cur.size := (Array.getElem?_eq_some_iff.1 (h j hj)).1
  by_cases hij : i = j
  · subst hij
    rw [Array.getElem?_setIfInBounds_self_of_lt hlt]
    simp [List.getD, hi]
  · rw [Array.getElem?_setIfInBounds_ne (by omega), h i hi]
    simp [List.getD, Ne.symm hij]

set_option maxHeartbeats 1000000 in
theorem rev_row (w : World) (g off n c : Nat) (t : TypeId) (cur : Array Value) (xs : List Int) (hn : n ≤ 4096) (h1 : 1 ≤ n) (hx : xs.length = n) (hb : Blk w g t cur) (ha : At cur off xs) :
    Calls Try.prog 35 #[.slice (some ⟨g, off, none⟩) n c] w fun e w' => e = .returned (.tuple #[]) ∧ (∃ cur', Blk w' g t cur' ∧ cur'.size = cur.size ∧ At cur' off (revF n xs)) ∧ Touch (fun b => b = g) w w' := by
  have HX := Lib.hid (And.intro hx (And.intro hb ha))
  clear hx hb ha
  go_enter Try.func35, Try.ntmps35
  go_wp2_with fail
  go_loopw [2, 3] (fun i k wr => ∃ (j : Nat) (cr : Array Value), j ≤ n / 2 ∧ i = .int .i64 j ∧ k = .int .i64 ((n : Int) - 1 - j) ∧ Blk wr g t cr ∧ cr.size = cur.size ∧ At cr off (iter (swpF n) j xs) ∧ Touch (fun b => b = g) w wr) (fun i _ _ => n - (intOf i).toNat)
  case atStart => exact ⟨0, cur, by omega, rfl, by simp, HX.out.2.1, rfl, HX.out.2.2, Touch.refl _ _⟩
  case round =>
    obtain ⟨j, cr, hj, rfl, rfl, hb, hsz, ha, hT⟩ := hrel
    by_cases hjn : j < n / 2
    · have hl : (iter (swpF n) j xs).length = n := by rw [iter_len _ (by intro i x; simp [swpF])]; exact HX.out.1
      obtain ⟨Z, hZ⟩ : ∃ Z, Z = iter (swpF n) j xs := ⟨_, rfl⟩
      rw [← hZ] at hl ha
      obtain ⟨k, hk⟩ : ∃ k : Nat, k = n - 1 - j := ⟨_, rfl⟩
      have hk' : (n : Int) - 1 - j = k := by omega
      rw [hk']
      have hjk : j < k := by omega
      have hkn : k < n := by omega
      have hf := hb.frozen
      have cj := hb.cell (off + j)
      have ck := hb.cell (off + k)
      rw [ha j (by omega)] at cj
      rw [ha k (by omega)] at ck
      obtain ⟨a, haa⟩ : ∃ x, x = Z.getD j 0 := ⟨_, rfl⟩
      obtain ⟨b, hbb⟩ : ∃ x, x = Z.getD k 0 := ⟨_, rfl⟩
      rw [← haa] at cj
      rw [← hbb] at ck
      have HA := Lib.hid (And.intro haa (And.intro hbb (And.intro hZ (And.intro hl (And.intro hk (And.intro hk' (And.intro hb (And.intro hsz ha))))))))
      clear haa hbb hZ hl hk hk' hb hsz ha
      go_wp2_with fail
      go_region
      go_wp2
      go_roundw
      case rel =>
        obtain ⟨haa, hbb, hZ, hl, hk, hk', hb, hsz, ha⟩ := HA.out
        refine ⟨j + 1, _, by omega, by go_num, ?_, ((hb.set_ (off + j) (.int .u8 b)).set_ (off + k) (.int .u8 a)).drew, by simpa using hsz, ?_, ((hT.setCell (p := ⟨g, off + j, none⟩) (.inr rfl) _).setCell (p := ⟨g, off + k, none⟩) (.inr rfl) _).drew⟩
        · congr 1; omega
        · have e : (Z.set j b).set k a = iter (swpF n) (j + 1) xs := by rw [iter, ← hZ, swpF, ← hk, ← haa, ← hbb]
          rw [← e]
          exact (ha.set (by omega) b).set (by simp; omega) a
      case measure => simp [intOf]; omega
    · have hj' : j = n / 2 := by omega
      have hge : ¬ (j : Int) < (n : Int) - 1 - j := by omega
      rw [hj'] at ha
      have HB := Lib.hid (And.intro hb (And.intro hsz ha))
      clear hj' hb hsz ha
      go_wp2
      go_end0
      exact ⟨rfl, ⟨cr, HB.out⟩, hT⟩
end Go.Proofs.Ytelmjlfhmbicjaa
