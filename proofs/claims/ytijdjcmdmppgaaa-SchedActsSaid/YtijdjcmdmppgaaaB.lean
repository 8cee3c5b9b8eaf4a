/- find$1, slices.IndexFunc. -/
import Derived.Test.YtijdjcmdmppgaaaA
namespace Go.Proofs.Ytijdjcmdmppgaaa
open Go.RowKit
set_option linter.unusedVariables false

/-- A request. -/
structure Jb where
  id : Int
  client : Nat
  cls : Int
  bytes : Nat

def jc (j : Jb) : Array Value := #[.int .i64 j.id, .int .i64 j.client, .int .i64 j.cls, .int .i64 j.bytes]
def pv (p : Nat × Jb) : Value := .pointer (some ⟨p.1, 0, none⟩)

theorem Touch.cell {S : Nat → Prop} {w w' : World} (ht : Touch S w w') {b i : Nat} {v : Value} (h : w.cell? ⟨b, i, none⟩ = some v) (hS : ¬ S b) : w'.cell? ⟨b, i, none⟩ = some v := by
  have hlt := block_lt_of_cell h
  rw [← h]
  unfold World.cell?
  rw [ht.block b hlt hS]

theorem f32_yes (w : World) (j x : Nat) (id : Int) (hj : w.cell? ⟨j, 0, none⟩ = some (.int .i64 id)) (hx : w.cell? ⟨x, 0, none⟩ = some (.int .i64 id)) :
    Calls Try.prog 32 #[.pointer (some ⟨j, 0, none⟩), .pointer (some ⟨x, 0, none⟩)] w fun e w' => e = .returned (.bool true) ∧ w' = w.drew := by
  go_enter Try.func32, Try.ntmps32
  go_wp2
  refine wp_region_qall (by kernel_rfl) (by kernel_rfl) ?_
  repeat (first | go_big_quiet_skip | (go_big_quiet_want; go_big_quiet_op; go_big_quiet_on))
  refine wpQuiet_nil ?_
  go_wp2
  go_ret
  exact ⟨rfl, rfl⟩
theorem f32_no (w : World) (j x : Nat) (id id' : Int) (hj : w.cell? ⟨j, 0, none⟩ = some (.int .i64 id')) (hx : w.cell? ⟨x, 0, none⟩ = some (.int .i64 id)) (hne : (id' == id) = false) :
    Calls Try.prog 32 #[.pointer (some ⟨j, 0, none⟩), .pointer (some ⟨x, 0, none⟩)] w fun e w' => e = .returned (.bool false) ∧ w' = w.drew := by
  have hne' : ¬ id' = id := by simpa using hne
  go_enter Try.func32, Try.ntmps32
  go_wp2
  refine wp_region_qall (by kernel_rfl) (by kernel_rfl) ?_
  repeat (first | go_big_quiet_skip | (go_big_quiet_want; go_big_quiet_op; go_big_quiet_on))
  refine wpQuiet_nil ?_
  go_wp2
  go_ret
  exact ⟨rfl, rfl⟩

theorem enter32 (cap : Array Value) (w : World) : (callFunc 32 cap).run Try.prog w = .ok (.enter 32 cap) w := by kernel_rfl

/-- Where a request stands in a row. -/
def IdxPost (L : List (Nat × Jb)) (id : Int) (w : World) (e : Ending) (w' : World) : Prop :=
  Touch (fun _ => False) w w' ∧ ((∃ (i : Nat) (p : Nat × Jb), L[i]? = some p ∧ p.2.id = id ∧ e = .returned (.int .i64 i)) ∨ ((∀ p ∈ L, p.2.id ≠ id) ∧ e = .returned (.int .i64 (-1))))

theorem idx_any (w : World) (A : Option Addr) (cap n : Nat) (L : List (Nat × Jb)) (hn : L.length = n) (x : Nat) (id : Int) (hr : Rw w 68 A cap (L.map pv)) (hj : ∀ p ∈ L, Blk w p.1 34 (jc p.2)) (hx : w.cell? ⟨x, 0, none⟩ = some (.int .i64 id)) (hle : n ≤ 100000) :
    Calls Try.prog 31 #[.slice A n cap, .func (.func 32) #[] #[.pointer (some ⟨x, 0, none⟩)]] w (IdxPost L id w) := by
  have HN := Lib.hid hn
  have HR := Lib.hid hr
  have HJ := Lib.hid hj
  have HX := Lib.hid hx
  clear hn hr hj hx
  go_enter Try.func31, Try.ntmps31
  go_wp2_with fail
  go_loopw [8] (fun u wr => ∃ k : Nat, k ≤ n ∧ u = .int .i64 k ∧ (∀ i p, i < k → L[i]? = some p → p.2.id ≠ id) ∧ Touch (fun _ => False) w wr) (fun u _ => n - (intOf u).toNat)
  case atStart => exact ⟨0, by omega, rfl, by intro i p h; omega, Touch.refl _ _⟩
  case round =>
    obtain ⟨k, hk, rfl, hno, hT⟩ := hrel
    have HO := Lib.hid hno
    clear hno
    by_cases hkn : k < n
    · obtain ⟨p, hp⟩ : ∃ p, L[k]? = some p := ⟨_, List.getElem?_eq_getElem (by rw [HN.out]; exact hkn)⟩
      obtain ⟨g, rfl, hc⟩ := HR.out.cell (i := k) (v := pv p) (by rw [List.getElem?_map, hp]; rfl)
      have hc1 := hT.cell hc (fun h => h)
      unfold pv at hc1
      have hb := (HJ.out p (List.mem_of_getElem? hp)).touch hT (fun h => h)
      have hid := hb.cell 0
      simp [jc] at hid
      have hxx := hT.cell HX.out (fun h => h)
      have e32 := enter32
      have HP := Lib.hid hp
      clear hp hb hc
      by_cases heq : p.2.id = id
      · go_wp2_with fail
        refine (f32_yes _ _ _ id (by rw [hid, heq]) hxx).mono ?_
        rintro e w' ⟨rfl, rfl⟩
        go_wp2
        go_ret
        exact ⟨hT.drew, .inl ⟨k, p, HP.out, heq, rfl⟩⟩
      · have hbe : (p.2.id == id) = false := by simpa using heq
        go_wp2_with fail
        refine (f32_no _ _ _ id _ hid hxx hbe).mono ?_
        rintro e w' ⟨rfl, rfl⟩
        go_wp2
        go_roundw
        case rel =>
          refine ⟨k + 1, by omega, by go_num, fun i q hi hq => ?_, hT.drew⟩
          rcases Nat.lt_succ_iff_lt_or_eq.1 hi with h | rfl
          · exact HO.out i q h hq
          · rw [HP.out] at hq; injection hq with hq; subst hq; exact heq
        case measure => simp [intOf]; omega
    · go_wp2
      go_ret
      refine ⟨hT, .inr ⟨fun p hp => ?_, rfl⟩⟩
      obtain ⟨i, hi⟩ := List.getElem?_of_mem hp
      have hlt : i < L.length := by
        rcases Nat.lt_or_ge i L.length with h | h
        · exact h
        · rw [List.getElem?_eq_none h] at hi; cases hi
      exact HO.out i p (by have := HN.out; omega) hi
end Go.Proofs.Ytijdjcmdmppgaaa
