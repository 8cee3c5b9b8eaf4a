/- The document's queue: its row of requests; At, oldest. -/
import Derived.Test.YtijdjcmdmppgaaaX
import Derived.Deep.DeepCutAuto
namespace Go.Proofs.Ytijdjcmdmppgaaa
open Go.RowKit
set_option linter.unusedVariables false

/-- A request's cells; a row's. -/
def jv (j : Jb) : List Value := [.int .i64 j.id, .int .i64 j.client, .int .i64 j.cls, .int .i64 j.bytes]
def jf : List Jb → List Value
  | [] => []
  | j :: l => jv j ++ jf l
theorem jf_app : ∀ a b : List Jb, jf (a ++ b) = jf a ++ jf b
  | [], b => rfl
  | j :: a, b => by simp [jf, jf_app a b]
theorem jf_len : ∀ l : List Jb, (jf l).length = l.length * 4
  | [] => rfl
  | j :: l => by simp [jf, jf_len l, jv]; omega
theorem jf_get : ∀ (l : List Jb) (i : Nat) (j : Jb), l[i]? = some j → ∀ f, f < 4 → (jf l)[i * 4 + f]? = (jv j)[f]?
  | [], i, j, h, _, _ => by simp at h
  | x :: l, 0, j, h, f, hf => by
    simp at h; subst h
    rw [jf, List.getElem?_append_left (by simp [jv]; omega)]; simp
  | x :: l, i + 1, j, h, f, hf => by
    have e := jf_get l i j (by simpa using h) f hf
    rw [jf, List.getElem?_append_right (by simp [jv]; omega), ← e]
    congr 1; simp [jv]; omega
theorem jf_one (l : List Jb) : ∀ u ∈ jf l, u.oneCell' = true := by
  induction l with
  | nil => intro u h; cases h
  | cons j l ih =>
    intro u h
    rw [jf] at h
    rcases List.mem_append.1 h with h | h
    · simp [jv] at h
      rcases h with rfl | rfl | rfl | rfl <;> rfl
    · exact ih u h

/-- A row of requests: they lie at its head. -/
def RwJ (w : World) (A : Option Addr) (cap : Nat) (l : List Jb) : Prop :=
  (A = none ∧ cap = 0 ∧ l = []) ∨ ∃ g cur, A = some ⟨g, 0, none⟩ ∧ Blk w g 31 cur ∧ l.length ≤ cap ∧ cap ≤ 9223372036854775807 ∧ cap * 4 ≤ cur.size ∧ ∀ i, i < l.length * 4 → cur[i]? = (jf l)[i]?
theorem RwJ.touch {w w' : World} {S : Nat → Prop} {A : Option Addr} {cap : Nat} {l : List Jb} (h : RwJ w A cap l) (ht : Touch S w w') (hS : ∀ a, A = some a → ¬ S a.block) : RwJ w' A cap l := by
  rcases h with h | ⟨g, cur, rfl, hb, hr⟩
  · exact .inl h
  · exact .inr ⟨g, cur, rfl, hb.touch ht (hS _ rfl), hr⟩
theorem RwJ.lt {w : World} {A : Option Addr} {cap : Nat} {l : List Jb} (h : RwJ w A cap l) {a : Addr} (ha : A = some a) : a.block < w.heap.size := by
  rcases h with ⟨rfl, _⟩ | ⟨g, cur, rfl, hb, hr⟩
  · cases ha
  · injection ha with ha; subst ha; exact hb.lt
theorem RwJ.nil (w : World) : RwJ w none 0 [] := .inl ⟨rfl, rfl, rfl⟩
theorem RwJ.cell {w : World} {A : Option Addr} {cap : Nat} {l : List Jb} (h : RwJ w A cap l) {i : Nat} {j : Jb} (hi : l[i]? = some j) :
    ∃ g, A = some ⟨g, 0, none⟩ ∧ w.cell? ⟨g, i * 4, none⟩ = some (.int .i64 j.id) ∧ w.cell? ⟨g, i * 4 + 1, none⟩ = some (.int .i64 j.client) ∧ w.cell? ⟨g, i * 4 + 2, none⟩ = some (.int .i64 j.cls) ∧ w.cell? ⟨g, i * 4 + 3, none⟩ = some (.int .i64 j.bytes) := by
  rcases h with ⟨rfl, rfl, rfl⟩ | ⟨g, cur, rfl, hb, h1, h2, h3, h4⟩
  · simp at hi
  · have hlt : i < l.length := by
      rcases Nat.lt_or_ge i l.length with h | h
      · exact h
      · rw [List.getElem?_eq_none h] at hi; cases hi
    have e : ∀ f, f < 4 → w.cell? ⟨g, i * 4 + f, none⟩ = (jv j)[f]? := fun f hf => by rw [hb.cell, h4 _ (by omega), jf_get l i j hi f hf]
    exact ⟨g, rfl, e 0 (by omega), e 1 (by omega), e 2 (by omega), e 3 (by omega)⟩
theorem RwJ.le {w : World} {A : Option Addr} {cap : Nat} {l : List Jb} (h : RwJ w A cap l) : l.length ≤ cap ∧ cap ≤ 9223372036854775807 := by
  rcases h with ⟨rfl, rfl, rfl⟩ | ⟨g, cur, rfl, hb, h1, h2, _⟩
  · simp
  · exact ⟨h1, h2⟩

/-- The document's queue: T are its blocks. -/
structure RqA (w : World) (T : Nat → Prop) (r : Nat) (C k bt nx M : Nat) (l : List Jb) (A : Option Addr) (cap : Nat) : Prop where
  blk : Blk w r 73 #[.slice A l.length cap, .int .i64 C, .int .i64 k, .int .i64 bt, .int .i64 nx]
  row : RwJ w A cap l
  own : T r
  mine : ∀ a, A = some a → T a.block
  lt : ∀ b, T b → b < w.heap.size
  len : l.length ≤ M
  cl : ∀ j ∈ l, j.client < C
  byt : ∀ j ∈ l, j.bytes ≤ 9223372036854775807
  id : ∀ (i i' : Nat) (j j' : Jb), l[i]? = some j → l[i']? = some j' → j.id = j'.id → i = i'
def Rq (w : World) (T : Nat → Prop) (r : Nat) (C k bt nx M : Nat) (l : List Jb) : Prop := ∃ A cap, RqA w T r C k bt nx M l A cap
theorem RqA.touch {w w' : World} {T : Nat → Prop} {r C k bt nx M : Nat} {l : List Jb} {A : Option Addr} {cap : Nat} (h : RqA w T r C k bt nx M l A cap) (ht : Touch (fun _ => False) w w') : RqA w' T r C k bt nx M l A cap :=
  ⟨h.blk.touch ht (fun h => h), h.row.touch ht (fun _ _ h => h), h.own, h.mine, fun b hb => Nat.lt_of_lt_of_le (h.lt b hb) ht.size, h.len, h.cl, h.byt, h.id⟩
theorem Rq.touch {w w' : World} {S T : Nat → Prop} {r C k bt nx M : Nat} {l : List Jb} (h : Rq w T r C k bt nx M l) (ht : Touch S w w') (hS : ∀ b, T b → ¬ S b) : Rq w' T r C k bt nx M l := by
  obtain ⟨A, cap, h⟩ := h
  exact ⟨A, cap, h.blk.touch ht (hS _ h.own), h.row.touch ht (fun a ha => hS _ (h.mine a ha)), h.own, h.mine, fun b hb => Nat.lt_of_lt_of_le (h.lt b hb) ht.size, h.len, h.cl, h.byt, h.id⟩
theorem Rq.mono {w : World} {T : Nat → Prop} {r C k bt nx M : Nat} {l : List Jb} (h : Rq w T r C k bt nx M l) {M' : Nat} (hM : M ≤ M') : Rq w T r C k bt nx M' l := by
  obtain ⟨A, cap, h⟩ := h
  exact ⟨A, cap, h.blk, h.row, h.own, h.mine, h.lt, by have := h.len; omega, h.cl, h.byt, h.id⟩
theorem Rq.lt {w : World} {T : Nat → Prop} {r C k bt nx M : Nat} {l : List Jb} (h : Rq w T r C k bt nx M l) : ∀ b, T b → b < w.heap.size := by
  obtain ⟨A, cap, h⟩ := h; exact h.lt

theorem at_yes (w : World) (T : Nat → Prop) (r C k bt nx M : Nat) (l : List Jb) (h : Rq w T r C k bt nx M l) (hM : M ≤ 10000) (i : Nat) (j : Jb) (x : Int) (hi : l[i]? = some j) (hx : Jb.id j = x) (hno : ∀ (i' : Nat) (y : Jb), i' < i → l[i']? = some y → Jb.id y ≠ x) :
    Calls Try.prog 29 #[.pointer (some ⟨r, 0, none⟩), .int .i64 x] w fun e w' => e = .returned (.int .i64 i) ∧ w' = w := by
  obtain ⟨A, cap, h⟩ := h
  obtain ⟨n, hn⟩ : ∃ n, n = l.length := ⟨_, rfl⟩
  have y0 := h.blk.cell 0
  simp [← hn] at y0
  have hnM : n ≤ 10000 := by have := h.len; omega
  have hin : i < n := by
    rcases Nat.lt_or_ge i n with h | h
    · exact h
    · rw [List.getElem?_eq_none (by omega)] at hi; cases hi
  have HH := Lib.hid h
  have HI := Lib.hid (And.intro hi (And.intro hx (And.intro hno hn)))
  clear h hi hx hno hn
  go_enter Try.func29, Try.ntmps29
  go_wp2
  go_loop [5] (fun u => ∃ m : Nat, m ≤ i ∧ u = .int .i64 m) (fun u => i - (intOf u).toNat)
  case atStart => exact ⟨0, by omega, rfl⟩
  case round =>
    obtain ⟨m, hm, rfl⟩ := hrel
    obtain ⟨y, hy⟩ : ∃ y, l[m]? = some y := ⟨_, List.getElem?_eq_getElem (by have := HI.out.2.2.2; omega)⟩
    obtain ⟨g, rfl, c0, c1, c2, c3⟩ := HH.out.row.cell hy
    obtain ⟨v, hv⟩ : ∃ v, v = Jb.id y := ⟨_, rfl⟩
    rw [← hv] at c0
    have HY := Lib.hid (And.intro hy hv)
    clear hy hv
    by_cases hvx : v = x
    · have hb : (v == x) = true := by simpa using hvx
      have hmi : m = i := by
        rcases Nat.lt_or_ge m i with h | h
        · exact absurd (HY.out.2 ▸ hvx) (HI.out.2.2.1 m y h HY.out.1)
        · omega
      have HV := Lib.hid (And.intro hvx hmi)
      clear hvx hmi
      go_wp2
      go_ret
      exact ⟨by rw [HV.out.2]; rfl, rfl⟩
    · have hb : (v == x) = false := by simpa using hvx
      have hmi : m < i := by
        rcases Nat.lt_or_ge m i with h | h
        · exact h
        · have e : m = i := by omega
          rw [e] at HY
          have := HI.out.1.symm.trans HY.out.1
          injection this with this
          exact absurd (by rw [HY.out.2, ← this]; exact HI.out.2.1) hvx
      have HV := Lib.hid hvx
      clear hvx
      go_wp2
      go_round
      case rel => exact ⟨m + 1, by omega, by go_num⟩
      case measure => simp [intOf]; omega

theorem at_no (w : World) (T : Nat → Prop) (r C k bt nx M : Nat) (l : List Jb) (h : Rq w T r C k bt nx M l) (hM : M ≤ 10000) (x : Int) (hno : ∀ (i : Nat) (y : Jb), l[i]? = some y → Jb.id y ≠ x) :
    Calls Try.prog 29 #[.pointer (some ⟨r, 0, none⟩), .int .i64 x] w fun e w' => e = .returned (.int .i64 (-1)) ∧ w' = w := by
  obtain ⟨A, cap, h⟩ := h
  obtain ⟨n, hn⟩ : ∃ n, n = l.length := ⟨_, rfl⟩
  have y0 := h.blk.cell 0
  simp [← hn] at y0
  have hnM : n ≤ 10000 := by have := h.len; omega
  have HH := Lib.hid h
  have HI := Lib.hid (And.intro hno hn)
  clear h hno hn
  go_enter Try.func29, Try.ntmps29
  go_wp2
  go_loop [5] (fun u => ∃ m : Nat, m ≤ n ∧ u = .int .i64 m) (fun u => n - (intOf u).toNat)
  case atStart => exact ⟨0, by omega, rfl⟩
  case round =>
    obtain ⟨m, hm, rfl⟩ := hrel
    by_cases hmn : m < n
    · obtain ⟨y, hy⟩ : ∃ y, l[m]? = some y := ⟨_, List.getElem?_eq_getElem (by have := HI.out.2; omega)⟩
      obtain ⟨g, rfl, c0, c1, c2, c3⟩ := HH.out.row.cell hy
      have hb : (Jb.id y == x) = false := by simpa using HI.out.1 m y hy
      obtain ⟨v, hv⟩ : ∃ v, v = Jb.id y := ⟨_, rfl⟩
      rw [← hv] at c0 hb
      clear hy hv
      go_wp2
      go_round
      case rel => exact ⟨m + 1, by omega, by go_num⟩
      case measure => simp [intOf]; omega
    · go_wp2
      go_ret
      exact ⟨rfl, rfl⟩

/-- Whose it is. -/
def jcl (j : Jb) : Int := (j.client : Int)

theorem old_yes (w : World) (T : Nat → Prop) (r C k bt nx M : Nat) (l : List Jb) (h : Rq w T r C k bt nx M l) (hM : M ≤ 10000) (i : Nat) (j : Jb) (x : Int) (hi : l[i]? = some j) (hx : jcl j = x) (hno : ∀ (i' : Nat) (y : Jb), i' < i → l[i']? = some y → jcl y ≠ x) :
    Calls Try.prog 30 #[.pointer (some ⟨r, 0, none⟩), .int .i64 x] w fun e w' => e = .returned (.int .i64 i) ∧ w' = w := by
  obtain ⟨A, cap, h⟩ := h
  obtain ⟨n, hn⟩ : ∃ n, n = l.length := ⟨_, rfl⟩
  have y0 := h.blk.cell 0
  simp [← hn] at y0
  have hnM : n ≤ 10000 := by have := h.len; omega
  have hin : i < n := by
    rcases Nat.lt_or_ge i n with h | h
    · exact h
    · rw [List.getElem?_eq_none (by omega)] at hi; cases hi
  have HH := Lib.hid h
  have HI := Lib.hid (And.intro hi (And.intro hx (And.intro hno hn)))
  clear h hi hx hno hn
  go_enter Try.func30, Try.ntmps30
  go_wp2
  go_loop [5] (fun u => ∃ m : Nat, m ≤ i ∧ u = .int .i64 m) (fun u => i - (intOf u).toNat)
  case atStart => exact ⟨0, by omega, rfl⟩
  case round =>
    obtain ⟨m, hm, rfl⟩ := hrel
    obtain ⟨y, hy⟩ : ∃ y, l[m]? = some y := ⟨_, List.getElem?_eq_getElem (by have := HI.out.2.2.2; omega)⟩
    obtain ⟨g, rfl, c0, c1, c2, c3⟩ := HH.out.row.cell hy
    obtain ⟨v, hv⟩ : ∃ v, v = jcl y := ⟨_, rfl⟩
    rw [show ((y.client : Int)) = v from hv.symm] at c1
    have HY := Lib.hid (And.intro hy hv)
    clear hy hv
    by_cases hvx : v = x
    · have hb : (v == x) = true := by simpa using hvx
      have hmi : m = i := by
        rcases Nat.lt_or_ge m i with h | h
        · exact absurd (HY.out.2 ▸ hvx) (HI.out.2.2.1 m y h HY.out.1)
        · omega
      have HV := Lib.hid (And.intro hvx hmi)
      clear hvx hmi
      go_wp2
      go_ret
      exact ⟨by rw [HV.out.2]; rfl, rfl⟩
    · have hb : (v == x) = false := by simpa using hvx
      have hmi : m < i := by
        rcases Nat.lt_or_ge m i with h | h
        · exact h
        · have e : m = i := by omega
          rw [e] at HY
          have := HI.out.1.symm.trans HY.out.1
          injection this with this
          exact absurd (by rw [HY.out.2, ← this]; exact HI.out.2.1) hvx
      have HV := Lib.hid hvx
      clear hvx
      go_wp2
      go_round
      case rel => exact ⟨m + 1, by omega, by go_num⟩
      case measure => simp [intOf]; omega

theorem old_no (w : World) (T : Nat → Prop) (r C k bt nx M : Nat) (l : List Jb) (h : Rq w T r C k bt nx M l) (hM : M ≤ 10000) (x : Int) (hno : ∀ (i : Nat) (y : Jb), l[i]? = some y → jcl y ≠ x) :
    Calls Try.prog 30 #[.pointer (some ⟨r, 0, none⟩), .int .i64 x] w fun e w' => e = .returned (.int .i64 (-1)) ∧ w' = w := by
  obtain ⟨A, cap, h⟩ := h
  obtain ⟨n, hn⟩ : ∃ n, n = l.length := ⟨_, rfl⟩
  have y0 := h.blk.cell 0
  simp [← hn] at y0
  have hnM : n ≤ 10000 := by have := h.len; omega
  have HH := Lib.hid h
  have HI := Lib.hid (And.intro hno hn)
  clear h hno hn
  go_enter Try.func30, Try.ntmps30
  go_wp2
  go_loop [5] (fun u => ∃ m : Nat, m ≤ n ∧ u = .int .i64 m) (fun u => n - (intOf u).toNat)
  case atStart => exact ⟨0, by omega, rfl⟩
  case round =>
    obtain ⟨m, hm, rfl⟩ := hrel
    by_cases hmn : m < n
    · obtain ⟨y, hy⟩ : ∃ y, l[m]? = some y := ⟨_, List.getElem?_eq_getElem (by have := HI.out.2; omega)⟩
      obtain ⟨g, rfl, c0, c1, c2, c3⟩ := HH.out.row.cell hy
      have hb : (jcl y == x) = false := by simpa using HI.out.1 m y hy
      obtain ⟨v, hv⟩ : ∃ v, v = jcl y := ⟨_, rfl⟩
      rw [show ((y.client : Int)) = v from hv.symm] at c1; rw [← hv] at hb
      clear hy hv
      go_wp2
      go_round
      case rel => exact ⟨m + 1, by omega, by go_num⟩
      case measure => simp [intOf]; omega
    · go_wp2
      go_ret
      exact ⟨rfl, rfl⟩
end Go.Proofs.Ytijdjcmdmppgaaa
