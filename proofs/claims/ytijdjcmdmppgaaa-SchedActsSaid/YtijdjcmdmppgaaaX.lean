/- Add and Drop of whatever; acts that came in; 'in' once more. -/
import Derived.Test.YtijdjcmdmppgaaaV
namespace Go.Proofs.Ytijdjcmdmppgaaa
open Go.RowKit
set_option linter.unusedVariables false

/-- May it be added? -/
def AddOk (C : Nat) (P : Nat → List Jb) (id cl b : Int) : Prop := 0 ≤ cl ∧ cl < (C : Int) ∧ 0 ≤ b ∧ Free C P id
def AddAny (S : Nat → Prop) (q C k bt nx M : Nat) (P : Nat → List Jb) (id cl cls b : Int) (w : World) (e : Ending) (w' : World) : Prop :=
  ∃ (r : Int) (S' : Nat → Prop) (P' : Nat → List Jb), e = .returned (.int .i64 r) ∧ Qm w' S' q C k bt nx (M + 1) P' ∧ Touch S w w' ∧ (∀ x, S' x → S x ∨ w.heap.size ≤ x) ∧
    ((r = 0 ∧ AddOk C P id cl b ∧ P' = upd P cl.toNat (P cl.toNat ++ [⟨id, cl.toNat, cls, b.toNat⟩])) ∨ (r = 1 ∧ ¬ AddOk C P id cl b ∧ P' = P))
theorem addAny (w : World) (S : Nat → Prop) (q C k bt nx M : Nat) (P : Nat → List Jb) (id cl cls b : Int) (h : Qm w S q C k bt nx M P) (hM : M ≤ 10000) (hbm : b ≤ 9223372036854775807) :
    Calls Try.prog 11 #[.pointer (some ⟨q, 0, none⟩), .agg #[.int .i64 id, .int .i64 cl, .int .i64 cls, .int .i64 b]] w (AddAny S q C k bt nx M P id cl cls b w) := by
  by_cases hok : AddOk C P id cl b
  · obtain ⟨h1, h2, h3, h4⟩ := hok
    have hok : AddOk C P id cl b := ⟨h1, h2, h3, h4⟩
    obtain ⟨c, rfl⟩ := Int.eq_ofNat_of_zero_le h1
    obtain ⟨n, rfl⟩ := Int.eq_ofNat_of_zero_le h3
    refine (addP w S q C k bt nx M P ⟨id, c, cls, n⟩ h hM (by show c < C; omega) (by show n ≤ _; omega) h4).mono ?_
    rintro e w' ⟨S', rfl, hq, ht, hf⟩
    exact ⟨0, S', _, rfl, hq, ht, hf, .inl ⟨rfl, hok, rfl⟩⟩
  · refine (addP_no w S q C k bt nx M P id cl cls b h hM hbm ?_).mono ?_
    · refine Classical.byContradiction fun hn => hok ?_
      simp only [not_or, Classical.not_not] at hn
      exact ⟨by omega, by omega, by omega, hn.2.2.2⟩
    · rintro e w' ⟨rfl, ht⟩
      exact ⟨1, S, P, rfl, (h.touch ht (fun _ _ h => h)).mono (by omega), ht.weaken (fun _ _ h => h.elim), fun x hx => .inl hx, .inr ⟨rfl, hok, rfl⟩⟩

def DropAny (S : Nat → Prop) (q C k bt nx M : Nat) (P : Nat → List Jb) (id : Int) (w : World) (e : Ending) (w' : World) : Prop :=
  ∃ (r : Int) (P' : Nat → List Jb), e = .returned (.int .i64 r) ∧ Qm w' S q C k bt nx M P' ∧ Touch S w w' ∧
    ((r = 0 ∧ ∃ (c i : Nat) (j : Jb), c < C ∧ (P c)[i]? = some j ∧ j.id = id ∧ P' = upd P c ((P c).eraseIdx i)) ∨ (r = 15 ∧ Free C P id ∧ P' = P))
theorem dropAny (w : World) (S : Nat → Prop) (q C k bt nx M : Nat) (P : Nat → List Jb) (id : Int) (h : Qm w S q C k bt nx M P) (hM : M ≤ 10000) :
    Calls Try.prog 12 #[.pointer (some ⟨q, 0, none⟩), .int .i64 id] w (DropAny S q C k bt nx M P id w) := by
  by_cases hf : Free C P id
  · refine (dropP_no w S q C k bt nx M P id h hM hf).mono ?_
    rintro e w' ⟨rfl, ht⟩
    exact ⟨15, P, rfl, h.touch ht (fun _ _ h => h), ht.weaken (fun _ _ h => h.elim), .inr ⟨rfl, hf, rfl⟩⟩
  · have : ∃ (c i : Nat) (j : Jb), c < C ∧ (P c)[i]? = some j ∧ j.id = id := by
      refine Classical.byContradiction fun hn => hf fun c hc j hj e => ?_
      obtain ⟨i, hi⟩ := List.getElem?_of_mem hj
      exact hn ⟨c, i, j, hc, hi, e⟩
    obtain ⟨c, i, j, hc, hi, rfl⟩ := this
    refine (dropP w S q C k bt nx M c i j P h hM hc hi).mono ?_
    rintro e w' ⟨rfl, hq, ht⟩
    exact ⟨0, _, rfl, hq, ht, .inl ⟨rfl, c, i, j, hc, hi, rfl, rfl⟩⟩

/-- An act. -/
structure Ac where
  what : Nat
  id : Int
  cl : Int
  cls : Int
  bytes : Int
/-- Within an int. -/
def I64in (x : Int) : Prop := -9223372036854775808 ≤ x ∧ x ≤ 9223372036854775807
/-- Element i of the acts that came in. -/
def ActAt (w : World) (b off i : Nat) (x : Ac) : Prop :=
  (x.what < 256 ∧ I64in x.id ∧ I64in x.cl ∧ I64in x.cls ∧ I64in x.bytes) ∧ w.cell? ⟨b, off + i * 5, none⟩ = some (.int .u8 x.what) ∧ w.cell? ⟨b, off + i * 5 + 1, none⟩ = some (.int .i64 x.id) ∧
    w.cell? ⟨b, off + i * 5 + 2, none⟩ = some (.int .i64 x.cl) ∧ w.cell? ⟨b, off + i * 5 + 3, none⟩ = some (.int .i64 x.cls) ∧ w.cell? ⟨b, off + i * 5 + 4, none⟩ = some (.int .i64 x.bytes)
def Acts (w : World) (A : Option Addr) (n : Nat) (xs : Nat → Ac) : Prop := 0 < n → ∃ b off, A = some ⟨b, off, none⟩ ∧ b < w.heap.size ∧ ∀ i, i < n → ActAt w b off i (xs i)
theorem ActAt.touch {w w' : World} {b off i : Nat} {x : Ac} (h : ActAt w b off i x) (ht : Touch (fun _ => False) w w') : ActAt w' b off i x :=
  ⟨h.1, ht.cell h.2.1 (fun h => h), ht.cell h.2.2.1 (fun h => h), ht.cell h.2.2.2.1 (fun h => h), ht.cell h.2.2.2.2.1 (fun h => h), ht.cell h.2.2.2.2.2 (fun h => h)⟩

theorem in_mem' (w : World) (A : Option Addr) (c n : Nat) (xs : List Int) (x : Int) (hn : xs.length = n) (hA : Rw w 3 A c (iv xs)) (hle : n ≤ 100000) (hx : x ∈ xs) :
    Calls Try.prog 17 #[.slice A n c, .int .i64 x] w fun e w' => e = .returned (.bool true) ∧ w' = w := by
  have HN := Lib.hid hn
  have HA := Lib.hid hA
  have HX := Lib.hid hx
  clear hn hA hx
  go_enter Try.func17, Try.ntmps17
  go_wp2
  go_loop [5] (fun u => ∃ k : Nat, k ≤ n ∧ u = .int .i64 k ∧ (∀ i, i < k → xs[i]? ≠ some x)) (fun u => n - (intOf u).toNat)
  case atStart => exact ⟨0, by omega, rfl, by intro i h; omega⟩
  case round =>
    obtain ⟨k, hk, rfl, hno⟩ := hrel
    have HO := Lib.hid hno
    clear hno
    by_cases hkn : k < n
    · obtain ⟨y, hy⟩ : ∃ y, xs[k]? = some y := ⟨_, List.getElem?_eq_getElem (by rw [HN.out]; exact hkn)⟩
      obtain ⟨g, rfl, hc⟩ := HA.out.cell (iv_get hy)
      have HY := Lib.hid hy
      clear hy
      by_cases hxy : y = x
      · have hb : (y == x) = true := by simpa using hxy
        have HXY := Lib.hid hxy
        clear hxy
        go_wp2
        go_ret
        exact ⟨rfl, rfl⟩
      · have hb : (y == x) = false := by simpa using hxy
        have HXY := Lib.hid hxy
        clear hxy
        go_wp2
        go_round
        case rel =>
          refine ⟨k + 1, by omega, by go_num, fun i hi e => ?_⟩
          rcases Nat.lt_succ_iff_lt_or_eq.1 hi with h | rfl
          · exact HO.out i h e
          · rw [HY.out] at e; injection e with e; exact HXY.out e
        case measure => simp [intOf]; omega
    · obtain ⟨i, hi⟩ := List.getElem?_of_mem HX.out
      have hlt : i < xs.length := by
        rcases Nat.lt_or_ge i xs.length with h | h
        · exact h
        · rw [List.getElem?_eq_none h] at hi; cases hi
      exact absurd hi (HO.out i (by have := HN.out; omega))

theorem in_not' (w : World) (A : Option Addr) (c n : Nat) (xs : List Int) (x : Int) (hn : xs.length = n) (hA : Rw w 3 A c (iv xs)) (hle : n ≤ 100000) (hx : x ∉ xs) :
    Calls Try.prog 17 #[.slice A n c, .int .i64 x] w fun e w' => e = .returned (.bool false) ∧ w' = w := by
  have HN := Lib.hid hn
  have HA := Lib.hid hA
  have HX := Lib.hid hx
  clear hn hA hx
  go_enter Try.func17, Try.ntmps17
  go_wp2
  go_loop [5] (fun u => ∃ k : Nat, k ≤ n ∧ u = .int .i64 k) (fun u => n - (intOf u).toNat)
  case atStart => exact ⟨0, by omega, rfl⟩
  case round =>
    obtain ⟨k, hk, rfl⟩ := hrel
    by_cases hkn : k < n
    · obtain ⟨y, hy⟩ : ∃ y, xs[k]? = some y := ⟨_, List.getElem?_eq_getElem (by rw [HN.out]; exact hkn)⟩
      obtain ⟨g, rfl, hc⟩ := HA.out.cell (iv_get hy)
      have hxy : ¬ y = x := fun e => HX.out (e ▸ List.mem_of_getElem? hy)
      have hb : (y == x) = false := by simpa using hxy
      clear hy hxy
      go_wp2
      go_round
      case rel => exact ⟨k + 1, by omega, by go_num⟩
      case measure => simp [intOf]; omega
    · go_wp2
      go_ret
      exact ⟨rfl, rfl⟩
end Go.Proofs.Ytijdjcmdmppgaaa
