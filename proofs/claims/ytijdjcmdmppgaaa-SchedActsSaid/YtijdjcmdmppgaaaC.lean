/- The queue in memory; find. -/
import Derived.Test.YtijdjcmdmppgaaaB
namespace Go.Proofs.Ytijdjcmdmppgaaa
open Go.RowKit
set_option linter.unusedVariables false

/-- Block q is a queue of C clients; L: each client's requests and their blocks; S: blocks of its own; M: no client has more. -/
structure QueA (w : World) (S : Nat → Prop) (q o C k bt nx M : Nat) (A : Nat → Option Addr) (cp : Nat → Nat) (L : Nat → List (Nat × Jb)) : Prop where
  hq : Blk w q 64 #[.slice (some ⟨o, 0, none⟩) C C, .int .i64 k, .int .i64 bt, .int .i64 nx]
  ho : ∃ cs, Blk w o 67 cs ∧ cs.size = C ∧ ∀ c, c < C → cs[c]? = some (.slice (A c) (L c).length (cp c))
  hr : ∀ c, c < C → Rw w 68 (A c) (cp c) ((L c).map pv)
  hj : ∀ c, c < C → ∀ p ∈ L c, Blk w p.1 34 (jc p.2)
  hcl : ∀ c, c < C → ∀ p ∈ L c, p.2.client = c
  ha : ∀ c d a a', c < C → d < C → c ≠ d → A c = some a → A d = some a' → a.block ≠ a'.block
  hd : ∀ (c d i j : Nat) (p p' : Nat × Jb), c < C → d < C → (L c)[i]? = some p → (L d)[j]? = some p' → (p.1 = p'.1 ∨ p.2.id = p'.2.id) → c = d ∧ i = j
  hC : 1 ≤ C ∧ C ≤ 8
  hnx : nx < C
  hk : 1 ≤ k ∧ k ≤ 4096
  hbt : 1 ≤ bt ∧ bt ≤ 16
  hb : ∀ c, c < C → ∀ p ∈ L c, p.2.bytes ≤ 9223372036854775807
  hl : ∀ c, c < C → (L c).length ≤ M
  sq : S q
  so : S o
  sa : ∀ c a, c < C → A c = some a → S a.block
  sj : ∀ c, c < C → ∀ p ∈ L c, S p.1
  slt : ∀ b, S b → b < w.heap.size

def Que (w : World) (S : Nat → Prop) (q o C k bt nx M : Nat) (L : Nat → List (Nat × Jb)) : Prop := ∃ A cp, QueA w S q o C k bt nx M A cp L

section
variable {w w' : World} {S T : Nat → Prop} {q o C k bt nx M : Nat} {A : Nat → Option Addr} {cp : Nat → Nat} {L : Nat → List (Nat × Jb)}
theorem QueA.touch (h : QueA w S q o C k bt nx M A cp L) (ht : Touch T w w') (hS : ∀ b, S b → ¬ T b) : QueA w' S q o C k bt nx M A cp L :=
  { hq := h.hq.touch ht (hS _ h.sq)
    ho := by obtain ⟨cs, h1, h2⟩ := h.ho; exact ⟨cs, h1.touch ht (hS _ h.so), h2⟩
    hr := fun c hc => (h.hr c hc).touch ht (fun a ha => hS _ (h.sa c a hc ha))
    hj := fun c hc p hp => (h.hj c hc p hp).touch ht (hS _ (h.sj c hc p hp))
    hcl := h.hcl, ha := h.ha, hd := h.hd, hC := h.hC, hnx := h.hnx, hk := h.hk, hbt := h.hbt, hb := h.hb, hl := h.hl, sq := h.sq, so := h.so, sa := h.sa, sj := h.sj
    slt := fun b hb => Nat.lt_of_lt_of_le (h.slt b hb) ht.size }
theorem Que.touch (h : Que w S q o C k bt nx M L) (ht : Touch T w w') (hS : ∀ b, S b → ¬ T b) : Que w' S q o C k bt nx M L := by
  obtain ⟨A, cp, h⟩ := h
  exact ⟨A, cp, h.touch ht hS⟩
theorem Que.mono (h : Que w S q o C k bt nx M L) {M' : Nat} (hM : M ≤ M') : Que w S q o C k bt nx M' L := by
  obtain ⟨A, cp, h⟩ := h
  exact ⟨A, cp, { h with hl := fun c hc => Nat.le_trans (h.hl c hc) hM }⟩
end

def FindPost (C : Nat) (L : Nat → List (Nat × Jb)) (id : Int) (w : World) (e : Ending) (w' : World) : Prop :=
  Touch (fun _ => False) w w' ∧ ((∃ (c i : Nat) (p : Nat × Jb), c < C ∧ (L c)[i]? = some p ∧ p.2.id = id ∧ e = .returned (.tuple #[.int .i64 c, .int .i64 i, .bool true])) ∨ ((∀ c, c < C → ∀ p ∈ L c, p.2.id ≠ id) ∧ e = .returned (.tuple #[.int .i64 0, .int .i64 0, .bool false])))

theorem find_any (w : World) (S : Nat → Prop) (q o C k bt nx M : Nat) (L : Nat → List (Nat × Jb)) (id : Int) (h : Que w S q o C k bt nx M L) (hM : M ≤ 100000) :
    Calls Try.prog 26 #[.pointer (some ⟨q, 0, none⟩), .int .i64 id] w (FindPost C L id w) := by
  obtain ⟨A, cp, h⟩ := h
  have hC := h.hC
  obtain ⟨w1, hw1⟩ : ∃ w1, w1 = w.alloc (.cells #[.int .i64 id] 3) := ⟨_, rfl⟩
  have hT : Touch (fun _ => False) w w1 := by rw [hw1]; exact (Touch.refl _ w).alloc _
  have hx : w1.cell? ⟨w.heap.size, 0, none⟩ = some (.int .i64 id) := by rw [hw1]; exact (Blk.new w 3 #[.int .i64 id]).cell 0
  have h1 := h.touch hT (fun _ _ h => h)
  have c0 := h1.hq.cell 0
  simp at c0
  rw [hw1] at c0
  have HW := Lib.hid hw1
  clear hw1
  have HQ := Lib.hid h1
  clear h h1
  have HX := Lib.hid hx
  clear hx
  go_enter Try.func26, Try.ntmps26
  go_wp2_with fail
  rw [← HW.out]
  clear HW c0
  go_loopw [17] (fun u wr => ∃ c : Nat, c ≤ C ∧ u = .int .i64 c ∧ (∀ d p, d < c → p ∈ L d → p.2.id ≠ id) ∧ Touch (fun _ => False) w1 wr) (fun u _ => C - (intOf u).toNat)
  case atStart => exact ⟨0, by omega, rfl, by intro d p h; omega, Touch.refl _ _⟩
  case round =>
    obtain ⟨c, hc, rfl, hno, hTr⟩ := hrel
    have HO := Lib.hid hno
    clear hno
    by_cases hcC : c < C
    · obtain ⟨cs, ho, hcs, hce⟩ := HQ.out.ho
      have hco := (ho.touch hTr (fun h => h)).cell c
      rw [hce c hcC] at hco
      have hrr := (HQ.out.hr c hcC).touch hTr (fun _ _ h => h)
      have hjj : ∀ p ∈ L c, Blk wr p.1 34 (jc p.2) := fun p hp => (HQ.out.hj c hcC p hp).touch hTr (fun h => h)
      have hll := HQ.out.hl c hcC
      have hxx := hTr.cell HX.out (fun h => h)
      have HRR := Lib.hid hrr
      have HJJ := Lib.hid hjj
      have HXX := Lib.hid hxx
      clear ho hcs hce hrr hjj hxx
      go_wp2_with fail
      refine (idx_any _ _ _ _ (L c) rfl _ id HRR.out HJJ.out HXX.out (by omega)).mono ?_
      rintro e w' ⟨hT2, (⟨i, p, hi, hid, rfl⟩ | ⟨hall, rfl⟩)⟩
      · have hi0 : (0 : Int) ≤ (i : Int) := by omega
        have HI := Lib.hid (And.intro hi hid)
        clear hi hid
        go_wp2
        go_ret3
        exact ⟨(hT.trans hTr (fun _ _ h => h)).trans hT2 (fun _ _ h => h), .inl ⟨c, i, p, hcC, HI.out.1, HI.out.2, rfl⟩⟩
      · have HA := Lib.hid hall
        clear hall
        go_wp2
        go_roundw
        case rel =>
          refine ⟨c + 1, by omega, by go_num, fun d p hd hp => ?_, hTr.trans hT2 (fun _ _ h => h)⟩
          rcases Nat.lt_succ_iff_lt_or_eq.1 hd with h | rfl
          · exact HO.out d p h hp
          · exact HA.out p hp
        case measure => simp [intOf]; omega
    · go_wp2
      go_ret3
      exact ⟨hT.trans hTr (fun _ _ h => h), .inr ⟨fun d hd p hp => HO.out d p (by omega) hp, rfl⟩⟩

theorem find_nil (w : World) (id : Int) :
    Calls Try.prog 26 #[.pointer none, .int .i64 id] w fun e w' => e = .returned (.tuple #[.int .i64 0, .int .i64 0, .bool false]) ∧ Touch (fun _ => False) w w' := by
  go_enter Try.func26, Try.ntmps26
  go_wp2
  go_ret3
  exact ⟨rfl, (Touch.refl _ w).alloc _⟩
end Go.Proofs.Ytijdjcmdmppgaaa
