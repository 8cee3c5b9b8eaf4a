/- poly: Write. (Printed by genZ.py.) -/
import Derived.Test.YtelmjlfhmbicjaaY
import Derived.WalkMore
import Derived.ScopeJumps
namespace Go.Proofs.Ytelmjlfhmbicjaa
open Go.RowKit
set_option linter.unusedVariables false

set_option maxHeartbeats 1000000 in
theorem write_any (F : N3 → N3) (B0 r0 r1 : Nat) (x2 x3 : Value) (hF : Mul r0 r1 F) (w : World) (p : Nat) (h0 : N3) (xs ys : List Int) (B : Option Addr) (c : Nat) (hp : Pol B0 r0 r1 x2 x3 w p h0 xs) (hs : Inb w B ys) (hb : xs.length + ys.length ≤ 20000) (hB0 : B0 ≤ w.heap.size) :
    Calls Try.prog 7 #[.pointer (some ⟨p, 0, none⟩), .slice B ys.length c] w fun e w' => e = .returned (.tuple #[]) ∧ Pol B0 r0 r1 x2 x3 w' p (wrH F h0 (xs ++ ys)) (wrR (xs ++ ys)) ∧ Touch (fun b => B0 ≤ b) w w' := by
  obtain ⟨zs, hzs⟩ : ∃ zs, zs = xs ++ ys := ⟨_, rfl⟩
  rw [← hzs]
  obtain ⟨hBp, hg0, A, cap, hbk, hrest, hAs⟩ := hp
  have hbb := hbk
  simp only [polA] at hbb
  have c0 := hbb.cell 0
  have c7 := hbb.cell 7
  simp only [List.getElem?_toArray, List.getElem?_cons_succ, List.getElem?_cons_zero] at c0 c7
  have HP := Lib.hid (And.intro hBp (And.intro hg0 (And.intro hbk (And.intro hrest (And.intro hAs (And.intro hs (And.intro hzs hB0)))))))
  have HF := Lib.hid hF
  clear hBp hg0 hbk hrest hAs hs hzs hbb hF hB0
  go_enter Try.func7, Try.ntmps7
  go_wp2
  refine wp_scope_jumps 0 (fun a' w' => ∃ k, (16 * k ≤ zs.length ∧ Pol B0 r0 r1 x2 x3 w' p (eatF F h0 zs k) (zs.drop (16 * k)) ∧ Touch (fun b => B0 ≤ b) w w') ∧ ∃ (u2 u3 u4 u5 u6 u7 u8 u9 u10 u11 u12 u13 u14 u15 u16 u17 u18 u19 u20 u21 u22 u23 u24 u25 u26 u27 u28 u29 u30 u31 u32 u33 u34 u35 u36 u37 : Value), a' = { tmps := #[.pointer (some ⟨p, 0, none⟩), .slice B ys.length c, u2, u3, u4, u5, u6, u7, u8, u9, u10, u11, u12, u13, u14, u15, u16, u17, u18, u19, u20, u21, u22, u23, u24, u25, u26, u27, u28, u29, u30, u31, u32, u33, u34, u35, u36, u37], defers := [] }) (fun a' w' => match w'.cell? ⟨p, 7, none⟩ with | some (.slice _ r _) => r | _ => 0) rfl ?_ ?_
  · go_wp2_with (at_builtin; refine wpList_rest_append rfl (.tmp 10) (.tmp 11) rfl A cap xs rfl B c ys rfl HP.out.2.2.2.1 HP.out.2.2.2.2.2.1 (by omega) ?_; intro A' cap' w2 hr2 hT2 hf2; have hb2 := HP.out.2.2.1.touch hT2 (fun ⟨a, ha, e⟩ => (HP.out.2.2.2.2.1 a ha).2 e); have c7' := hb2.cell 7; have c0' := hb2.cell 0; simp only [polA, List.getElem?_toArray, List.getElem?_cons_succ, List.getElem?_cons_zero] at c7' c0'; have hfr2 := hb2.frozen; have HR2 := Lib.hid (And.intro hr2 (And.intro hT2 (And.intro hf2 hb2))); clear hr2 hT2 hf2 hb2)
    obtain ⟨W, hW⟩ : ∃ W, W = (w2.setCell ⟨p, 7, none⟩ (.slice A' (xs.length + ys.length) cap')) := ⟨_, rfl⟩
    obtain ⟨k, hk⟩ : ∃ k, k = 0 := ⟨_, rfl⟩
    have hpw := HP.out.2.2.1.lt
    have hTp : Touch (fun b => b = p) w2 W := by rw [hW]; exact (Touch.refl (fun b => b = p) w2).setCell (p := ⟨p, 7, none⟩) (.inr rfl) _
    have hNA : ∀ a, A' = some a → B0 ≤ a.block ∧ a.block ≠ p := fun a ha => by
      rcases HR2.out.2.2.1 a ha with ⟨a0, h1, h2⟩ | h
      · rw [← h2]; exact HP.out.2.2.2.2.1 a0 h1
      · have := HP.out.2.2.2.2.2.2.2; omega
    have hsk : 16 * k ≤ zs.length ∧ Pol B0 r0 r1 x2 x3 W p (eatF F h0 zs k) (zs.drop (16 * k)) ∧ Touch (fun b => B0 ≤ b) w W := by
      subst hk
      rw [Nat.mul_zero, List.drop_zero, eatF]
      refine ⟨by omega, ⟨HP.out.1, HP.out.2.1, A', cap', ?_, ?_, hNA⟩, ?_⟩
      · rw [hW, HP.out.2.2.2.2.2.2.1, List.length_append]
        have := HR2.out.2.2.2.set_ 7 (.slice A' (xs.length + ys.length) cap')
        simp only [polA, List.setIfInBounds_toArray, List.set_cons_zero, List.set_cons_succ] at this
        exact this
      · rw [HP.out.2.2.2.2.2.2.1]
        exact HR2.out.1.touch hTp (fun a ha => (hNA a ha).2)
      · exact (HR2.out.2.1.weaken (fun b _ ⟨a, ha, e⟩ => by rw [← e]; exact (HP.out.2.2.2.2.1 a ha).1)).trans hTp (fun b _ e => by rw [e]; exact HP.out.1)
    rw [← hW]
    clear hW hk hTp hNA HR2 c0 c7 c0' c7' hfr2
    go_step3
    obtain ⟨hk16, ⟨hB0, hg, A2, cap2, hbk2, hrest2, hAs2⟩, hTW⟩ := hsk
    obtain ⟨rz, hrz⟩ : ∃ rz, rz = zs.drop (16 * k) := ⟨_, rfl⟩
    rw [← hrz] at hbk2 hrest2
    have hrzl : rz.length + 16 * k = zs.length := by rw [hrz]; simp; omega
    obtain ⟨E, hE⟩ : ∃ E, E = eatF F h0 zs k := ⟨_, rfl⟩
    rw [← hE] at hbk2 hg
    have hbb := hbk2
    simp only [polA] at hbb
    have e0 := hbb.cell 0
    have e7 := hbb.cell 7
    simp only [List.getElem?_toArray, List.getElem?_cons_succ, List.getElem?_cons_zero] at e0 e7
    have H2 := Lib.hid (And.intro hbk2 (And.intro hrest2 (And.intro hAs2 (And.intro hTW (And.intro hB0 hg)))))
    have HZ2 := Lib.hid (And.intro hrz (And.intro hrzl (And.intro hk16 hE)))
    clear hbk2 hrest2 hAs2 hTW hB0 hg hrz hrzl hk16 hE hbb
    by_cases hlt : rz.length < 16
    · go_wp2
      simp only [Exit.jump]
      change bodyPost Try.prog Try.f7 _ Exit.ret _ _
      refine bodyPost_ret (fn := Try.f7) (results_none rfl _ _ _) rfl ?_
      have hkz : k = zs.length / 16 := by have := HZ2.out.2.1; omega
      refine ⟨rfl, ⟨H2.out.2.2.2.2.1, ?_⟩, H2.out.2.2.2.1⟩
      rw [wrH, wrR, ← hkz, ← HZ2.out.2.2.2, ← HZ2.out.1]
      exact ⟨H2.out.2.2.2.2.2, A2, cap2, H2.out.1, H2.out.2.1, H2.out.2.2.1⟩
    · obtain ⟨g, off, cur, rfl, hcur, hle2, hmx2, hfit2, hcells⟩ : ∃ g off cur, A2 = some ⟨g, off, none⟩ ∧ Blk W g 5 cur ∧ rz.length ≤ cap2 ∧ cap2 ≤ 9223372036854775807 ∧ off + cap2 ≤ cur.size ∧ ∀ i, i < rz.length → cur[off + i]? = some (.int .u8 (rz.getD i 0)) := by
        rcases H2.out.2.1 with ⟨_, _, h⟩ | h
        · rw [h] at hlt; simp at hlt
        · exact h
      have hgs : ¬ g = p := (H2.out.2.2.1 _ rfl).2
      have hge16 : 16 ≤ rz.length := by omega
      have hby : Byt W g off rz := fun i hi => by rw [hcur.cell]; exact hcells i hi
      have HC := Lib.hid (And.intro hcur (And.intro hcells hby))
      clear hcur hcells hby
      go_wp2_with fail
      refine (half_any W g off rz.length cap2 rz rfl hge16 hle2 HC.out.2.2).mono ?_
      rintro e W1 ⟨rfl, hT1⟩
      have hb1 := H2.out.1.touch hT1 (fun h => h)
      have HT1 := Lib.hid hT1
      clear hT1 e0 e7
      go_wp2_with fail
      refine (addF_any W1 p r0 r1 x2 x3 _ E H2.out.2.2.2.2.2 rz 1 (by omega) hb1).mono ?_
      rintro e W2 ⟨rfl, hb2, hT2⟩
      have HT2 := Lib.hid (And.intro hT2 hb2)
      clear hT2 hb2 hb1
      go_wp2_with fail
      refine ((HF.out _ (addF_good E rz 1)).2 W2 p x2 x3 _ HT2.out.2).mono ?_
      rintro e W3 ⟨rfl, hb3, hT3⟩
      have hT03 : Touch (fun b => b = p) W W3 := ((HT1.out.weaken (fun _ _ h => h.elim)).trans HT2.out.1 (fun _ _ h => h)).trans hT3 (fun _ _ h => h)
      obtain ⟨E2, hE2⟩ : ∃ E2, E2 = F (addF E rz 1) := ⟨_, rfl⟩
      have hgE2 : Good E2 := by rw [hE2]; exact (HF.out _ (addF_good E rz 1)).1
      rw [← hE2] at hb3
      have hbb := hb3
      simp only [polA] at hbb
      have e0 := hbb.cell 0
      have e7 := hbb.cell 7
      simp only [List.getElem?_toArray, List.getElem?_cons_succ, List.getElem?_cons_zero] at e0 e7
      have hfz := hbb.frozen
      have H3 := Lib.hid (And.intro hT03 (And.intro hb3 (And.intro hE2 hgE2)))
      clear hT3 hT03 hb3 hE2 hgE2 hbb HT1 HT2
      have hc0 : ¬ cap2 = 0 := by omega
      have hc16 : (16 : Int) ≤ rz.length := by omega
      obtain ⟨o2, ho2⟩ : ∃ o2, o2 = (if cap2 = 16 then off else off + 16) := ⟨_, rfl⟩
      have HO2 := Lib.hid ho2
      have hmain : ∀ W4, W4 = W3.setCell ⟨p, 7, none⟩ (.slice (some ⟨g, o2, none⟩) (rz.length - 16) (cap2 - 16)) → Pol B0 r0 r1 x2 x3 W4 p (eatF F h0 zs (k + 1)) (zs.drop (16 * (k + 1))) ∧ Touch (fun b => B0 ≤ b) w W4 := fun W4 hW4 => by
        have hd : zs.drop (16 * (k + 1)) = rz.drop 16 := by rw [HZ2.out.1, List.drop_drop]; congr 1
        have hT4 : Touch (fun b => b = p) W W4 := by rw [hW4]; exact H3.out.1.setCell (p := ⟨p, 7, none⟩) (.inr rfl) _
        refine ⟨⟨H2.out.2.2.2.2.1, ?_, some ⟨g, o2, none⟩, cap2 - 16, ?_, ?_, fun a ha => ?_⟩, ?_⟩
        · rw [eatF, ← HZ2.out.1, ← HZ2.out.2.2.2, ← H3.out.2.2.1]; exact H3.out.2.2.2
        · rw [hd, eatF, ← HZ2.out.1, ← HZ2.out.2.2.2, ← H3.out.2.2.1, hW4, List.length_drop]
          have := H3.out.2.1.set_ 7 (.slice (some ⟨g, o2, none⟩) (rz.length - 16) (cap2 - 16))
          simp only [polA, List.setIfInBounds_toArray, List.set_cons_zero, List.set_cons_succ] at this
          exact this
        · rw [hd]
          refine .inr ⟨g, o2, cur, rfl, HC.out.1.touch hT4 hgs, by simp; omega, by omega, ?_, fun i hi => ?_⟩
          · rw [HO2.out]; split <;> omega
          · simp only [List.length_drop] at hi
            have hne : ¬ cap2 = 16 := by omega
            rw [HO2.out, if_neg hne]
            have := HC.out.2.1 (16 + i) (by omega)
            rw [show off + 16 + i = off + (16 + i) from by omega, this]
            congr 2
            simp [List.getD]
        · injection ha with ha; subst ha; exact H2.out.2.2.1 ⟨g, off, none⟩ rfl
        · exact H2.out.2.2.2.1.trans hT4 (fun b _ e => by rw [e]; exact H2.out.2.2.2.2.1)
      have HMN := Lib.hid hmain
      clear hmain
      by_cases hcap : cap2 = 16
      · rw [if_pos hcap] at ho2
        rw [hcap] at HMN
        subst ho2
        have hcl := HMN.out
        clear HMN
        have HMN := Lib.hid hcl
        clear hcl HO2
        go_wp2
        obtain ⟨W4, hW4⟩ : ∃ W4, W4 = W3.setCell ⟨p, 7, none⟩ (.slice (some ⟨g, o2, none⟩) (rz.length - 16) 0) := ⟨_, rfl⟩
        obtain ⟨hpol, hTF⟩ := HMN.out W4 hW4
        rw [← hW4]
        clear hW4
        go_step3
        exact ⟨rfl, k + 1, ⟨by have := HZ2.out.2.1; omega, hpol, hTF⟩, _, _, _, _, _, _, _, _, _, _, _, _, _, _, _, _, _, _, _, _, _, _, _, _, _, _, _, _, _, _, _, _, _, _, _, _, rfl⟩
      · rw [if_neg hcap] at ho2
        subst ho2
        go_wp2
        obtain ⟨W4, hW4⟩ : ∃ W4, W4 = W3.setCell ⟨p, 7, none⟩ (.slice (some ⟨g, off + 16, none⟩) (rz.length - 16) (cap2 - 16)) := ⟨_, rfl⟩
        obtain ⟨hpol, hTF⟩ := HMN.out W4 hW4
        rw [← hW4]
        clear hW4
        go_step3
        exact ⟨rfl, k + 1, ⟨by have := HZ2.out.2.1; omega, hpol, hTF⟩, _, _, _, _, _, _, _, _, _, _, _, _, _, _, _, _, _, _, _, _, _, _, _, _, _, _, _, _, _, _, _, _, _, _, _, _, rfl⟩
  · rintro a' W ⟨k, hsk, u2, u3, u4, u5, u6, u7, u8, u9, u10, u11, u12, u13, u14, u15, u16, u17, u18, u19, u20, u21, u22, u23, u24, u25, u26, u27, u28, u29, u30, u31, u32, u33, u34, u35, u36, u37, rfl⟩
    clear c0 c7
    obtain ⟨hk16, ⟨hB0, hg, A2, cap2, hbk2, hrest2, hAs2⟩, hTW⟩ := hsk
    obtain ⟨rz, hrz⟩ : ∃ rz, rz = zs.drop (16 * k) := ⟨_, rfl⟩
    rw [← hrz] at hbk2 hrest2
    have hrzl : rz.length + 16 * k = zs.length := by rw [hrz]; simp; omega
    obtain ⟨E, hE⟩ : ∃ E, E = eatF F h0 zs k := ⟨_, rfl⟩
    rw [← hE] at hbk2 hg
    have hbb := hbk2
    simp only [polA] at hbb
    have e0 := hbb.cell 0
    have e7 := hbb.cell 7
    simp only [List.getElem?_toArray, List.getElem?_cons_succ, List.getElem?_cons_zero] at e0 e7
    have HE7 := Lib.hid e7
    have H2 := Lib.hid (And.intro hbk2 (And.intro hrest2 (And.intro hAs2 (And.intro hTW (And.intro hB0 hg)))))
    have HZ2 := Lib.hid (And.intro hrz (And.intro hrzl (And.intro hk16 hE)))
    clear hbk2 hrest2 hAs2 hTW hB0 hg hrz hrzl hk16 hE hbb
    by_cases hlt : rz.length < 16
    · go_wp2
      simp only [Exit.jump]
      change bodyPost Try.prog Try.f7 _ Exit.ret _ _
      refine bodyPost_ret (fn := Try.f7) (results_none rfl _ _ _) rfl ?_
      have hkz : k = zs.length / 16 := by have := HZ2.out.2.1; omega
      refine ⟨rfl, ⟨H2.out.2.2.2.2.1, ?_⟩, H2.out.2.2.2.1⟩
      rw [wrH, wrR, ← hkz, ← HZ2.out.2.2.2, ← HZ2.out.1]
      exact ⟨H2.out.2.2.2.2.2, A2, cap2, H2.out.1, H2.out.2.1, H2.out.2.2.1⟩
    · obtain ⟨g, off, cur, rfl, hcur, hle2, hmx2, hfit2, hcells⟩ : ∃ g off cur, A2 = some ⟨g, off, none⟩ ∧ Blk W g 5 cur ∧ rz.length ≤ cap2 ∧ cap2 ≤ 9223372036854775807 ∧ off + cap2 ≤ cur.size ∧ ∀ i, i < rz.length → cur[off + i]? = some (.int .u8 (rz.getD i 0)) := by
        rcases H2.out.2.1 with ⟨_, _, h⟩ | h
        · rw [h] at hlt; simp at hlt
        · exact h
      have hgs : ¬ g = p := (H2.out.2.2.1 _ rfl).2
      have hge16 : 16 ≤ rz.length := by omega
      have hby : Byt W g off rz := fun i hi => by rw [hcur.cell]; exact hcells i hi
      have HC := Lib.hid (And.intro hcur (And.intro hcells hby))
      clear hcur hcells hby
      go_wp2_with fail
      refine (half_any W g off rz.length cap2 rz rfl hge16 hle2 HC.out.2.2).mono ?_
      rintro e W1 ⟨rfl, hT1⟩
      have hb1 := H2.out.1.touch hT1 (fun h => h)
      have HT1 := Lib.hid hT1
      clear hT1 e0 e7
      go_wp2_with fail
      refine (addF_any W1 p r0 r1 x2 x3 _ E H2.out.2.2.2.2.2 rz 1 (by omega) hb1).mono ?_
      rintro e W2 ⟨rfl, hb2, hT2⟩
      have HT2 := Lib.hid (And.intro hT2 hb2)
      clear hT2 hb2 hb1
      go_wp2_with fail
      refine ((HF.out _ (addF_good E rz 1)).2 W2 p x2 x3 _ HT2.out.2).mono ?_
      rintro e W3 ⟨rfl, hb3, hT3⟩
      have hT03 : Touch (fun b => b = p) W W3 := ((HT1.out.weaken (fun _ _ h => h.elim)).trans HT2.out.1 (fun _ _ h => h)).trans hT3 (fun _ _ h => h)
      obtain ⟨E2, hE2⟩ : ∃ E2, E2 = F (addF E rz 1) := ⟨_, rfl⟩
      have hgE2 : Good E2 := by rw [hE2]; exact (HF.out _ (addF_good E rz 1)).1
      rw [← hE2] at hb3
      have hbb := hb3
      simp only [polA] at hbb
      have e0 := hbb.cell 0
      have e7 := hbb.cell 7
      simp only [List.getElem?_toArray, List.getElem?_cons_succ, List.getElem?_cons_zero] at e0 e7
      have hfz := hbb.frozen
      have H3 := Lib.hid (And.intro hT03 (And.intro hb3 (And.intro hE2 hgE2)))
      clear hT3 hT03 hb3 hE2 hgE2 hbb HT1 HT2
      have hc0 : ¬ cap2 = 0 := by omega
      have hc16 : (16 : Int) ≤ rz.length := by omega
      obtain ⟨o2, ho2⟩ : ∃ o2, o2 = (if cap2 = 16 then off else off + 16) := ⟨_, rfl⟩
      have HO2 := Lib.hid ho2
      have hmain : ∀ W4, W4 = W3.setCell ⟨p, 7, none⟩ (.slice (some ⟨g, o2, none⟩) (rz.length - 16) (cap2 - 16)) → Pol B0 r0 r1 x2 x3 W4 p (eatF F h0 zs (k + 1)) (zs.drop (16 * (k + 1))) ∧ Touch (fun b => B0 ≤ b) w W4 := fun W4 hW4 => by
        have hd : zs.drop (16 * (k + 1)) = rz.drop 16 := by rw [HZ2.out.1, List.drop_drop]; congr 1
        have hT4 : Touch (fun b => b = p) W W4 := by rw [hW4]; exact H3.out.1.setCell (p := ⟨p, 7, none⟩) (.inr rfl) _
        refine ⟨⟨H2.out.2.2.2.2.1, ?_, some ⟨g, o2, none⟩, cap2 - 16, ?_, ?_, fun a ha => ?_⟩, ?_⟩
        · rw [eatF, ← HZ2.out.1, ← HZ2.out.2.2.2, ← H3.out.2.2.1]; exact H3.out.2.2.2
        · rw [hd, eatF, ← HZ2.out.1, ← HZ2.out.2.2.2, ← H3.out.2.2.1, hW4, List.length_drop]
          have := H3.out.2.1.set_ 7 (.slice (some ⟨g, o2, none⟩) (rz.length - 16) (cap2 - 16))
          simp only [polA, List.setIfInBounds_toArray, List.set_cons_zero, List.set_cons_succ] at this
          exact this
        · rw [hd]
          refine .inr ⟨g, o2, cur, rfl, HC.out.1.touch hT4 hgs, by simp; omega, by omega, ?_, fun i hi => ?_⟩
          · rw [HO2.out]; split <;> omega
          · simp only [List.length_drop] at hi
            have hne : ¬ cap2 = 16 := by omega
            rw [HO2.out, if_neg hne]
            have := HC.out.2.1 (16 + i) (by omega)
            rw [show off + 16 + i = off + (16 + i) from by omega, this]
            congr 2
            simp [List.getD]
        · injection ha with ha; subst ha; exact H2.out.2.2.1 ⟨g, off, none⟩ rfl
        · exact H2.out.2.2.2.1.trans hT4 (fun b _ e => by rw [e]; exact H2.out.2.2.2.2.1)
      have HMN := Lib.hid hmain
      clear hmain
      by_cases hcap : cap2 = 16
      · rw [if_pos hcap] at ho2
        rw [hcap] at HMN
        subst ho2
        have hcl := HMN.out
        clear HMN
        have HMN := Lib.hid hcl
        clear hcl HO2
        go_wp2
        obtain ⟨W4, hW4⟩ : ∃ W4, W4 = W3.setCell ⟨p, 7, none⟩ (.slice (some ⟨g, o2, none⟩) (rz.length - 16) 0) := ⟨_, rfl⟩
        obtain ⟨hpol, hTF⟩ := HMN.out W4 hW4
        rw [← hW4]
        clear hW4
        go_step3
        refine ⟨rfl, ⟨k + 1, ⟨by have := HZ2.out.2.1; omega, hpol, hTF⟩, _, _, _, _, _, _, _, _, _, _, _, _, _, _, _, _, _, _, _, _, _, _, _, _, _, _, _, _, _, _, _, _, _, _, _, _, rfl⟩, ?_⟩
        obtain ⟨_, _, A5, cap5, hb5, _, _⟩ := hpol
        have hm := hb5.cell 7
        simp only [polA, List.getElem?_toArray, List.getElem?_cons_succ, List.getElem?_cons_zero] at hm
        rw [hm, HE7.out]
        show (zs.drop (16 * (k + 1))).length < rz.length
        rw [List.length_drop]
        have := HZ2.out.2.1
        omega
      · rw [if_neg hcap] at ho2
        subst ho2
        go_wp2
        obtain ⟨W4, hW4⟩ : ∃ W4, W4 = W3.setCell ⟨p, 7, none⟩ (.slice (some ⟨g, off + 16, none⟩) (rz.length - 16) (cap2 - 16)) := ⟨_, rfl⟩
        obtain ⟨hpol, hTF⟩ := HMN.out W4 hW4
        rw [← hW4]
        clear hW4
        go_step3
        refine ⟨rfl, ⟨k + 1, ⟨by have := HZ2.out.2.1; omega, hpol, hTF⟩, _, _, _, _, _, _, _, _, _, _, _, _, _, _, _, _, _, _, _, _, _, _, _, _, _, _, _, _, _, _, _, _, _, _, _, _, rfl⟩, ?_⟩
        obtain ⟨_, _, A5, cap5, hb5, _, _⟩ := hpol
        have hm := hb5.cell 7
        simp only [polA, List.getElem?_toArray, List.getElem?_cons_succ, List.getElem?_cons_zero] at hm
        rw [hm, HE7.out]
        show (zs.drop (16 * (k + 1))).length < rz.length
        rw [List.length_drop]
        have := HZ2.out.2.1
        omega
end Go.Proofs.Ytelmjlfhmbicjaa
