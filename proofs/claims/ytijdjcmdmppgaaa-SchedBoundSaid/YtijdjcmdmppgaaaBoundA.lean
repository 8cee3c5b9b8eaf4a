/- 'act' of SchedBound. -/
import Derived.Test.YtijdjcmdmppgaaaBoundP
import Derived.Deep.DeepCutAuto
namespace Go.Proofs.Ytijdjcmdmppgaaa
open Go.RowKit
set_option linter.unusedVariables false

def ActPost (S : Nat → Prop) (q k bt nx M : Nat) (P : Nat → List Jb) (id : Nat) (w : World) (e : Ending) (w' : World) : Prop :=
  ∃ (S' : Nat → Prop) (P' : Nat → List Jb), e = .returned (.int .i64 ((id : Int) + 1)) ∧ Qm w' S' q 4 k bt nx (M + 1) P' ∧ Touch S w w' ∧ (∀ x, S' x → S x ∨ w.heap.size ≤ x) ∧ ActR P P'

theorem tmod_bd (x : Int) (n : Int) (hn : 0 < n) : -n < Int.tmod x n ∧ Int.tmod x n < n := by
  constructor
  · have := Int.lt_tmod_of_pos x hn; exact this
  · exact Int.tmod_lt_of_pos x hn

set_option maxHeartbeats 2000000 in
theorem act_any (w : World) (S : Nat → Prop) (q k bt nx M : Nat) (P : Nat → List Jb) (x : Ac) (id : Nat) (h : Qm w S q 4 k bt nx M P) (hM : M ≤ 5000) (hF : Fit P) (hid : id ≤ 100000) (hx : x.what < 256 ∧ I64in x.id ∧ I64in x.cl ∧ I64in x.cls ∧ I64in x.bytes) :
    Calls Try.prog 14 #[.pointer (some ⟨q, 0, none⟩), .agg #[.int .u8 x.what, .int .i64 x.id, .int .i64 x.cl, .int .i64 x.cls, .int .i64 x.bytes], .int .i64 id, .int .i64 3, .int .i64 100] w (ActPost S q k bt nx M P id w) := by
  obtain ⟨what, xid, cl, cls, by'⟩ := x
  simp only at hx
  obtain ⟨x1, x2, x3, x4, x5⟩ := hx
  obtain ⟨t, ht⟩ : ∃ t, Int.tmod cl 4 = t := ⟨_, rfl⟩
  have htb := tmod_bd cl 4 (by omega)
  rw [ht] at htb
  obtain ⟨c, hc⟩ : ∃ c : Nat, (t + 4) % 4 = (c : Int) := ⟨((t + 4) % 4).toNat, by omega⟩
  have hc4 : c < 4 := by omega
  have ht1 : -4 < t := htb.1
  have ht2 : t < 4 := htb.2
  obtain ⟨s, hs⟩ : ∃ s, Int.tmod by' 101 = s := ⟨_, rfl⟩
  have hsb := tmod_bd by' 101 (by omega)
  rw [hs] at hsb
  obtain ⟨b, hb⟩ : ∃ b : Nat, (s + 100 + 1) % 101 = (b : Int) := ⟨((s + 100 + 1) % 101).toNat, by omega⟩
  have hb1 : b ≤ 100 := by omega
  have hs1 : -101 < s := hsb.1
  have hs2 : s < 101 := hsb.2
  obtain ⟨w1, hw1⟩ : ∃ w1, w1 = w.alloc (.cells #[.int .u8 what, .int .i64 xid, .int .i64 cl, .int .i64 cls, .int .i64 by'] 33) := ⟨_, rfl⟩
  have hT1 : Touch (fun _ => False) w w1 := by rw [hw1]; exact (Touch.refl _ w).alloc _
  have hb0 : Blk w1 w.heap.size 33 #[.int .u8 what, .int .i64 xid, .int .i64 cl, .int .i64 cls, .int .i64 by'] := by rw [hw1]; exact Blk.new _ _ _
  have y2 := hb0.cell 2
  simp at y2
  rw [hw1] at y2
  have HW := Lib.hid hw1
  have HB := Lib.hid hb0
  have HQ := Lib.hid (h.touch hT1 (fun _ _ h => h))
  have HS := Lib.hid (And.intro hs hb)
  clear hw1 hb0 h htb hsb hs hb
  go_enter Try.func14, Try.ntmps14
  go_upto_region 2 with (fail)
  rw [hc, ← HW.out]
  have HC := Lib.hid (And.intro ht hc)
  clear ht hc y2
  have y0 := HB.out.cell 0
  have y1 := HB.out.cell 1
  have y3 := HB.out.cell 3
  have y4 := HB.out.cell 4
  simp at y0 y1 y3 y4
  by_cases hw2 : what < 2
  · obtain ⟨ln, hln⟩ : ∃ ln, ((P c).map idJ).length = ln := ⟨_, rfl⟩
    have hln' : (P c).length = ln := by rw [← hln, List.length_map]
    have hl3 : ln ≤ 3 := by rw [← hln']; exact (hF c hc4).1
    have HLN := Lib.hid (And.intro hln hln')
    clear hln hln'
    go_wp2_with fail
    refine (jobsP _ S q 4 k bt nx M c P HQ.out (by omega) hc4).mono ?_
    rintro e w2 ⟨A8, c8, rfl, hR8, hF8, hT8⟩
    rw [HLN.out.1]
    have hb2 := HB.out.touch hT8 (fun h => h)
    have z0 := hb2.cell 0
    have z1 := hb2.cell 1
    have z3 := hb2.cell 3
    have z4 := hb2.cell 4
    simp at z0 z1 z3 z4
    have HQ2 := Lib.hid (HQ.out.touch hT8 (fun _ _ h => h))
    clear hR8 hF8 hb2 y0 y1 y3 y4
    have hne2 : ((what : Int) == 2) = false := by rw [beq_eq_false_iff_ne]; omega
    by_cases hl : ln < 3
    · have hw3 : IntKind.i64.wrap (s + 100) = s + 100 := IntWalk.i64_in _ (by omega)
      have hw4 : IntKind.i64.wrap (s + 100 + 1) = s + 100 + 1 := IntWalk.i64_in _ (by omega)
      have hp : 0 ≤ s + 100 + 1 := by omega
      go_wp2
      have hs' := HS.out.1
      have hb' := HS.out.2
      refine wp_region_qtail 19 (by kernel_rfl) (by kernel_rfl) ?_
      simp only [List.take_succ_cons, List.take_zero, List.drop_succ_cons, List.drop_zero]
      repeat (first | go_big_quiet_skip | (go_big_quiet_want; go_big_quiet_op; go_big_quiet_on))
      refine wpQuiet_nil ?_
      rw [hb']
      clear hs' hb' hw3 hw4 hp z0 z1 z3 z4
      go_wp2_with fail
      refine (addAny _ S q 4 k bt nx M P id c cls b (HQ2.out.touch (Touch.refl (fun _ => False) w2).drew (fun _ _ h => h)) (by omega) (by omega)).mono ?_
      rintro e w3 ⟨r, S', P', rfl, hQ3, hT3, hF3, hres⟩
      have hT02 : Touch (fun _ => False) w w2.drew := (hT1.trans hT8 (fun _ _ h => h)).drew
      have hsz := hT02.size
      have hfin : ActPost S q k bt nx M P id w (.returned (.int .i64 ((id : Int) + 1))) w3 := by
        refine ⟨S', P', rfl, hQ3, (hT02.weaken (fun _ _ h => h.elim)).trans hT3 (fun _ _ h => h), fun x hx => ?_, ?_⟩
        · rcases hF3 x hx with h | h
          · exact .inl h
          · exact .inr (Nat.le_trans hsz h)
        · rcases hres with ⟨_, _, rfl⟩ | ⟨_, _, rfl⟩
          · exact .inr (.inl ⟨c, _, hc4, by rw [HLN.out.2]; exact hl, by show (b : Int).toNat ≤ 100; omega, rfl⟩)
          · exact .inl rfl
      have HFN := Lib.hid hfin
      clear hfin hQ3 hT3 hF3 hres
      go_wp2
      go_ret
      exact HFN.out
    · have hl' : decide ((ln : Int) < 3) = false := by simp; omega
      have hfin : ActPost S q k bt nx M P id w (.returned (.int .i64 ((id : Int) + 1))) w2 :=
        ⟨S, P, rfl, HQ2.out.mono (by omega), (hT1.trans hT8 (fun _ _ h => h)).weaken (fun _ _ h => h.elim), fun x hx => .inl hx, .inl rfl⟩
      have HFN := Lib.hid hfin
      clear hfin
      go_wp2
      go_ret
      exact HFN.out
  · have hwl : decide ((what : Int) < 2) = false := by simp; omega
    by_cases hw3 : what = 2 ∧ xid ≠ 1
    · have hwe : ((what : Int) == 2) = true := by simp [hw3.1]
      have hx1 : (xid != 1) = true := by simpa using hw3.2
      have HX := Lib.hid hw3.2
      clear hw3 hw2
      go_wp2_with fail
      refine (dropAny _ S q 4 k bt nx M P xid HQ.out (by omega)).mono ?_
      rintro e w3 ⟨r, P', rfl, hQ3, hT3, hres⟩
      have hfin : ActPost S q k bt nx M P id w (.returned (.int .i64 ((id : Int) + 1))) w3 := by
        refine ⟨S, P', rfl, hQ3.mono (by omega), (hT1.weaken (fun _ _ h => h.elim)).trans hT3 (fun _ _ h => h), fun x hx => .inl hx, ?_⟩
        rcases hres with ⟨_, c', i', j', hc', hi', hj', rfl⟩ | ⟨_, _, rfl⟩
        · exact .inr (.inr ⟨c', i', j', hc', hi', by rw [hj']; exact HX.out, rfl⟩)
        · exact .inl rfl
      have HFN := Lib.hid hfin
      clear hfin hQ3 hT3 hres
      go_wp2
      go_ret
      exact HFN.out
    · have hfin : ActPost S q k bt nx M P id w (.returned (.int .i64 ((id : Int) + 1))) w1 :=
        ⟨S, P, rfl, HQ.out.mono (by omega), hT1.weaken (fun _ _ h => h.elim), fun x hx => .inl hx, .inl rfl⟩
      have HFN := Lib.hid hfin
      clear hfin
      by_cases hw4 : what = 2
      · have hwe : ((what : Int) == 2) = true := by simp [hw4]
        have hx1 : (xid != 1) = false := by
          rw [bne_eq_false_iff_eq]
          exact Classical.byContradiction fun hn => hw3 ⟨hw4, hn⟩
        clear hw3 hw4 hw2
        go_wp2
        go_ret
        exact HFN.out
      · have hwe : ((what : Int) == 2) = false := by rw [beq_eq_false_iff_ne]; omega
        clear hw3 hw4 hw2
        go_wp2
        go_ret
        exact HFN.out
end Go.Proofs.Ytijdjcmdmppgaaa
