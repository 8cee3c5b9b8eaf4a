/- New, Len, Left. -/
import Derived.Test.YtijdjcmdmppgaaaC
namespace Go.Proofs.Ytijdjcmdmppgaaa
open Go.RowKit
set_option linter.unusedVariables false

theorem in_yes (w : World) (n m : Int) (h1 : 1 ≤ n) (h2 : n ≤ m) : Calls Try.prog 25 #[.int .i64 n, .int .i64 m] w fun e w' => e = .returned (.bool true) ∧ w = w' := by
  go_enter Try.func25, Try.ntmps25
  go_wp2
  go_ret
  exact ⟨rfl, rfl⟩
theorem in_no (w : World) (n m : Int) (h : n < 1 ∨ m < n) : Calls Try.prog 25 #[.int .i64 n, .int .i64 m] w fun e w' => e = .returned (.bool false) ∧ w = w' := by
  rcases h with h | h
  · have h' : decide (1 ≤ n) = false := by simpa using h
    go_enter Try.func25, Try.ntmps25
    go_wp2
    go_ret
    exact ⟨rfl, rfl⟩
  · by_cases h1 : 1 ≤ n
    · have h' : decide (n ≤ m) = false := by simpa using h
      go_enter Try.func25, Try.ntmps25
      go_wp2
      go_ret
      exact ⟨rfl, rfl⟩
    · have h' : decide (1 ≤ n) = false := by simpa using h1
      go_enter Try.func25, Try.ntmps25
      go_wp2
      go_ret
      exact ⟨rfl, rfl⟩

theorem Try.info67 : (Try.prog.info? 67).map (fun i => (i.zero, i.size, i.bytes)) = some (some (.slice none 0 0), 1, 24) := by kernel_rfl
theorem make62 (n : Nat) (hn : n ≤ 8) : ∀ w : World, (Instr.makeSlice 62 (.int .i64 n) (.int .i64 n)).run Try.prog w = .ok (.slice (some ⟨w.heap.size, 0, none⟩) n n) (w.alloc (.cells (List.replicate n (.slice none 0 0)).toArray 67)) := by
  intro w
  obtain ⟨i0, hi, hz0, hz1, hz2⟩ := info_parts Try.info67
  have h := run_make (P := Try.prog) w 62 67 i0 _ (by kernel_rfl) hi hz0 .i64 .i64 n n (by omega) (by omega) (by rw [hz2]; omega) (by omega)
  have e : madeCells (Value.slice none 0 0).cells (n * 1) = (List.replicate n (.slice none 0 0)).toArray := by
    apply Array.toList_inj.1
    have := toList_madeCells_one (.slice none 0 0) n
    simp only [Nat.mul_one]
    rw [show (Value.slice none 0 0).cells = #[.slice none 0 0] from rfl, this]
  rw [hz1, show ((n : Int)).toNat = n from by omega, e] at h
  exact h

/-- A queue that is new. -/
def NewPost (C k bt : Nat) (w : World) (e : Ending) (w' : World) : Prop :=
  ∃ (S : Nat → Prop) (q o : Nat), e = .returned (.tuple #[.pointer (some ⟨q, 0, none⟩), .int .i64 0]) ∧ Que w' S q o C k bt 0 0 (fun _ => []) ∧ Touch (fun _ => False) w w' ∧ ∀ b, S b → w.heap.size ≤ b

theorem new_yes (w : World) (C k bt : Nat) (h1 : 1 ≤ C) (h2 : C ≤ 8) (h3 : 1 ≤ k) (h4 : k ≤ 4096) (h5 : 1 ≤ bt) (h6 : bt ≤ 16) :
    Calls Try.prog 8 #[.int .i64 C, .int .i64 k, .int .i64 bt] w (NewPost C k bt w) := by
  have hm := make62 C h2
  have e25 : ∀ (cap : Array Value) (w : World), (callFunc 25 cap).run Try.prog w = .ok (.enter 25 cap) w := fun cap w => by kernel_rfl
  go_enter Try.func8, Try.ntmps8
  go_wp2_with fail
  refine (in_yes _ _ _ (by omega) (by omega)).mono ?_
  rintro e w' ⟨rfl, rfl⟩
  go_wp2_with fail
  refine (in_yes _ _ _ (by omega) (by omega)).mono ?_
  rintro e w' ⟨rfl, rfl⟩
  go_wp2_with fail
  refine (in_yes _ _ _ (by omega) (by omega)).mono ?_
  rintro e w' ⟨rfl, rfl⟩
  go_wp2
  go_ret2
  have hT := ((Touch.refl (fun _ => False) w).alloc (.cells (List.replicate C (.slice none 0 0)).toArray 67)).alloc (.cells #[.slice (some ⟨w.heap.size, 0, none⟩) C C, .int .i64 k, .int .i64 bt, .int .i64 0] 64)
  refine ⟨fun b => b = w.heap.size ∨ b = w.heap.size + 1, w.heap.size + 1, w.heap.size, rfl, ⟨fun _ => none, fun _ => 0, ?_⟩, hT, fun b hb => by omega⟩
  exact
    { hq := by
        have := Blk.new (w.alloc (.cells (List.replicate C (.slice none 0 0)).toArray 67)) 64 #[.slice (some ⟨w.heap.size, 0, none⟩) C C, .int .i64 k, .int .i64 bt, .int .i64 0]
        rw [World.size_alloc] at this
        exact this
      ho := ⟨_, (Blk.new w 67 _).alloc _, by simp, fun c hc => by simp [hc]⟩
      hr := fun c _ => Rw.nil _ _
      hj := fun c _ p hp => by simp at hp
      hcl := fun c _ p hp => by simp at hp
      ha := fun c d a a' _ _ _ h => by cases h
      hd := fun c d i j p p' _ _ h => by simp at h
      hC := ⟨h1, h2⟩, hnx := by omega, hk := ⟨h3, h4⟩, hbt := ⟨h5, h6⟩
      hb := fun c _ p hp => by simp at hp
      hl := fun c _ => by simp
      sq := .inr rfl, so := .inl rfl
      sa := fun c a _ h => by cases h
      sj := fun c _ p hp => by simp at hp
      slt := fun b hb => by simp; omega }

theorem new_no (w : World) (C k bt : Int) (h : ¬ (1 ≤ C ∧ C ≤ 8 ∧ 1 ≤ k ∧ k ≤ 4096 ∧ 1 ≤ bt ∧ bt ≤ 16)) :
    Calls Try.prog 8 #[.int .i64 C, .int .i64 k, .int .i64 bt] w fun e w' => e = .returned (.tuple #[.pointer none, .int .i64 1]) ∧ w = w' := by
  have e25 : ∀ (cap : Array Value) (w : World), (callFunc 25 cap).run Try.prog w = .ok (.enter 25 cap) w := fun cap w => by kernel_rfl
  by_cases hC : 1 ≤ C ∧ C ≤ 8
  · by_cases hk : 1 ≤ k ∧ k ≤ 4096
    · have hbt : bt < 1 ∨ 16 < bt := by omega
      have HB := Lib.hid (And.intro h hbt)
      clear h hbt
      go_enter Try.func8, Try.ntmps8
      go_wp2_with fail
      refine (in_yes _ _ _ (by omega) (by omega)).mono ?_
      rintro e w' ⟨rfl, rfl⟩
      go_wp2_with fail
      refine (in_yes _ _ _ (by omega) (by omega)).mono ?_
      rintro e w' ⟨rfl, rfl⟩
      go_wp2_with fail
      refine (in_no _ _ _ HB.out.2).mono ?_
      rintro e w' ⟨rfl, rfl⟩
      go_wp2
      go_ret2
      exact ⟨rfl, rfl⟩
    · have hbt : k < 1 ∨ 4096 < k := by omega
      have HB := Lib.hid (And.intro h hbt)
      clear h hbt hk
      go_enter Try.func8, Try.ntmps8
      go_wp2_with fail
      refine (in_yes _ _ _ (by omega) (by omega)).mono ?_
      rintro e w' ⟨rfl, rfl⟩
      go_wp2_with fail
      refine (in_no _ _ _ HB.out.2).mono ?_
      rintro e w' ⟨rfl, rfl⟩
      go_wp2
      go_ret2
      exact ⟨rfl, rfl⟩
  · have hbt : C < 1 ∨ 8 < C := by omega
    have HB := Lib.hid (And.intro h hbt)
    clear h hbt hC
    go_enter Try.func8, Try.ntmps8
    go_wp2_with fail
    refine (in_no _ _ _ HB.out.2).mono ?_
    rintro e w' ⟨rfl, rfl⟩
    go_wp2
    go_ret2
    exact ⟨rfl, rfl⟩

/-! ### Len -/
def tot (L : Nat → List (Nat × Jb)) : Nat → Nat
  | 0 => 0
  | c + 1 => tot L c + (L c).length
theorem tot_le (L : Nat → List (Nat × Jb)) (M : Nat) : ∀ C, (∀ c, c < C → (L c).length ≤ M) → tot L C ≤ C * M
  | 0, _ => by simp [tot]
  | C + 1, h => by
    have h1 := tot_le L M C (fun c hc => h c (by omega))
    have h2 := h C (by omega)
    rw [tot, Nat.succ_mul]; omega

theorem len_any (w : World) (S : Nat → Prop) (q o C k bt nx M : Nat) (L : Nat → List (Nat × Jb)) (h : Que w S q o C k bt nx M L) (hM : M ≤ 100000) :
    Calls Try.prog 16 #[.pointer (some ⟨q, 0, none⟩)] w fun e w' => e = .returned (.int .i64 (tot L C)) ∧ w = w' := by
  obtain ⟨A, cp, h⟩ := h
  have hC := h.hC
  have c0 := h.hq.cell 0
  simp at c0
  have HQ := Lib.hid h
  clear h
  go_enter Try.func16, Try.ntmps16
  go_wp2_with fail
  go_loop [3, 13] (fun v u => ∃ c : Nat, c ≤ C ∧ u = .int .i64 c ∧ v = .int .i64 (tot L c)) (fun _ u => C - (intOf u).toNat)
  case atStart => exact ⟨0, by omega, rfl, rfl⟩
  case round =>
    obtain ⟨c, hc, rfl, rfl⟩ := hrel
    have htot : tot L c ≤ c * M := tot_le L M c (fun d hd => HQ.out.hl d (by omega))
    have hmul : c * M ≤ 8 * 100000 := Nat.mul_le_mul (by omega) hM
    by_cases hcC : c < C
    · obtain ⟨cs, ho, hcs, hce⟩ := HQ.out.ho
      have hco := ho.cell c
      rw [hce c hcC] at hco
      have hll := HQ.out.hl c hcC
      clear ho hcs hce
      go_wp2
      go_round
      case rel => exact ⟨c + 1, by omega, by go_num, by rw [tot]; go_num⟩
      case measure => simp [intOf]; omega
    · have hcC' : c = C := by omega
      rw [hcC']
      clear hcC' 
      go_wp2
      go_ret
      exact ⟨rfl, rfl⟩
theorem len_nil (w : World) : Calls Try.prog 16 #[.pointer none] w fun e w' => e = .returned (.int .i64 0) ∧ w = w' := by
  go_enter Try.func16, Try.ntmps16
  go_wp2
  go_ret
  exact ⟨rfl, rfl⟩

/-! ### Left -/
def LeftPost (C : Nat) (L : Nat → List (Nat × Jb)) (id : Int) (w : World) (e : Ending) (w' : World) : Prop :=
  Touch (fun _ => False) w w' ∧ ((∃ (c i : Nat) (p : Nat × Jb), c < C ∧ (L c)[i]? = some p ∧ p.2.id = id ∧ e = .returned (.tuple #[.int .i64 p.2.bytes, .int .i64 0])) ∨ ((∀ c, c < C → ∀ p ∈ L c, p.2.id ≠ id) ∧ e = .returned (.tuple #[.int .i64 0, .int .i64 15])))

theorem left_any (w : World) (S : Nat → Prop) (q o C k bt nx M : Nat) (L : Nat → List (Nat × Jb)) (id : Int) (h : Que w S q o C k bt nx M L) (hM : M ≤ 100000) :
    Calls Try.prog 24 #[.pointer (some ⟨q, 0, none⟩), .int .i64 id] w (LeftPost C L id w) := by
  have HQ := Lib.hid h
  clear h
  go_enter Try.func24, Try.ntmps24
  go_wp2_with fail
  refine (find_any _ S q o C k bt nx M L id HQ.out hM).mono ?_
  rintro e w1 ⟨hT, (⟨c, i, p, hcC, hi, hid, rfl⟩ | ⟨hall, rfl⟩)⟩
  · obtain ⟨A, cp, hq⟩ := HQ.out.touch hT (fun _ _ h => h)
    obtain ⟨cs, ho, hcs, hce⟩ := hq.ho
    have hco := ho.cell c
    rw [hce c hcC] at hco
    have hilt : i < (L c).length := by
      rcases Nat.lt_or_ge i (L c).length with h | h
      · exact h
      · rw [List.getElem?_eq_none h] at hi; cases hi
    have hll := hq.hl c hcC
    obtain ⟨g, hg, hcell⟩ := (hq.hr c hcC).cell (i := i) (v := pv p) (by rw [List.getElem?_map, hi]; rfl)
    unfold pv at hcell
    rw [hg] at hco
    have hb := (hq.hj c hcC p (List.mem_of_getElem? hi)).cell 3
    simp [jc] at hb
    have c0 := hq.hq.cell 0
    simp at c0
    have hCb := hq.hC
    have HI := Lib.hid (And.intro hi hid)
    clear hi hid hce hcs ho hq hg HQ
    go_wp2
    go_ret2
    exact ⟨hT, .inl ⟨c, i, p, hcC, HI.out.1, HI.out.2, rfl⟩⟩
  · have HA := Lib.hid hall
    clear hall
    go_wp2
    go_ret2
    exact ⟨hT, .inr ⟨HA.out, rfl⟩⟩
theorem left_nil (w : World) (id : Int) : Calls Try.prog 24 #[.pointer none, .int .i64 id] w fun e w' => e = .returned (.tuple #[.int .i64 0, .int .i64 15]) ∧ Touch (fun _ => False) w w' := by
  go_enter Try.func24, Try.ntmps24
  go_wp2_with fail
  refine (find_nil _ id).mono ?_
  rintro e w1 ⟨rfl, hT⟩
  go_wp2
  go_ret2
  exact ⟨rfl, hT⟩
end Go.Proofs.Ytijdjcmdmppgaaa
