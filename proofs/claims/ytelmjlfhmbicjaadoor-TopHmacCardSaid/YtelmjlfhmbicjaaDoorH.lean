/- sha: Write. -/
import Derived.Test.YtelmjlfhmbicjaaDoorG
import Derived.WalkMore
import Derived.ScopeJumps
namespace Go.Proofs.YtelmjlfhmbicjaaDoor
open Go.RowKit
set_option linter.unusedVariables false

section
variable {P : Program} {ops : Array Oper} {Q : Exit → Act → World → Prop} {S : World → Prop} {z : Nat}
/-- A whole array is read. -/
theorem wpGr_load {K : Act → World → Prop} {i : Nat} {o : Oper} {r : List (Nat × Bool × Oper)} {a : Act} {w : World} (hg : o.guard = none) (ty : TypeId) (x : Operand) (ho : o.op = .load ty x)
    (b off : Nat) (hx : a.eval x = .pointer (some ⟨b, off, none⟩)) (cs : List Value) (d : TypeDesc) (hc : ∀ y : SW S, y.w.rangeAt b off cs)
    (hu : P.underlying ty = some d) (hd : d.isRow = true) (hi : (P.info? ty).map (·.size) = some cs.length)
    (h : wpGr P ops Q S z K r (a.put o.dst (.agg cs.toArray)) w) : wpGr P ops Q S z K ((i, false, o) :: r) a w := by
  show wpQuiet P ops (fun w0 => ∃ x : SW S, w0 = x.w) (fun a' => wpGr P ops Q S z K r a' w) [o] a
  unfold wpQuiet
  rw [if_pos (by simp [Region.wanted, hg])]
  refine ⟨.agg cs.toArray, fun w0 hw0 => ?_, h⟩
  obtain ⟨y, rfl⟩ := hw0
  unfold Oper.quietAt execOp
  simp only [ho, hx, Instr.loadAt, Instr.sureAddr, Sem.run_bind, Sem.run_pure, Result.andThen_ok, run_loadVar_mid y.w b off ty cs d (hc y) hu hd hi, Oper.quietUpon, and_self]
end

/-- The state behind the first k blocks. -/
def hK (K zs : List Int) : Nat → List Int
  | 0 => start
  | k + 1 => blockF K (hK K zs k) ((zs.drop (64 * k)).take 64)
theorem hK_len (K zs : List Int) (k : Nat) : (hK K zs k).length = 8 := by
  induction k with
  | zero => rfl
  | succ k ih => rw [hK]; exact blockF_len _ _ _ ih
theorem hK_pre (K xs ys : List Int) (k : Nat) (h : 64 * k ≤ xs.length) : hK K (xs ++ ys) k = hK K xs k := by
  induction k with
  | zero => rfl
  | succ k ih =>
    rw [hK, hK, ih (by omega), List.drop_append_of_le_length (by omega), List.take_append_of_le_length (by simp; omega)]

/-- A state lies in block sb: these bytes have come, of which k blocks are eaten. -/
def ShaK (K : List Int) (w : World) (sb : Nat) (zs : List Int) (k : Nat) (N : Nat) : Prop :=
  64 * k ≤ zs.length ∧ ∃ A cap, Blk w sb 36 (shaA (hK K zs k) (.slice A (zs.drop (64 * k)).length cap) N) ∧ Rest w A cap (zs.drop (64 * k)) ∧ ∀ a, A = some a → ¬ a.block = sb
def Sha (K : List Int) (w : World) (sb : Nat) (xs : List Int) (N : Nat) : Prop := ShaK K w sb xs (xs.length / 64) N

/-- Its own blocks. -/
def OwnS (w : World) (sb : Nat) (b : Nat) : Prop := b = sb ∨ ∃ v, w.cell? ⟨sb, 8, none⟩ = some v ∧ v.ownBlock = some b

theorem arr22 (W : World) (ad : Addr) (n c : Nat) (h : 64 ≤ n) : (Instr.arrayAt 22 (.slice (some ad) n c)).run Tryd.prog W = .ok (.pointer (some ad)) W := by
  have h22 : Tryd.prog.underlying 22 = some (.array 64 5) := by kernel_rfl
  have hn : ¬ n < 64 := by omega
  simp [Instr.arrayAt, run_underlying h22, hn, go_sem]

theorem OwnS.of {w : World} {sb : Nat} {hs : List Int} {A : Option Addr} {r cap : Nat} {N : Int} (hb : Blk w sb 36 (shaA hs (.slice A r cap) N)) (hl : hs.length = 8) {b : Nat} : OwnS w sb b ↔ (b = sb ∨ ∃ a, A = some a ∧ a.block = b) := by
  unfold OwnS
  have h8 : w.cell? ⟨sb, 8, none⟩ = some (.slice A r cap) := by
    rw [hb.cell, shaA, List.getElem?_toArray, List.getElem?_append_right (by simp [hl])]
    simp [hl]
  rw [h8]
  constructor
  · rintro (h | ⟨v, hv, ho⟩)
    · exact .inl h
    · injection hv with hv
      subst hv
      cases A with
      | none => simp [Value.ownBlock] at ho
      | some a => exact .inr ⟨a, rfl, by simpa [Value.ownBlock] using ho⟩
  · rintro (h | ⟨a, rfl, h⟩)
    · exact .inl h
    · exact .inr ⟨_, rfl, by simp [Value.ownBlock, h]⟩

set_option maxHeartbeats 800000 in
theorem write_any (K : List Int) (w : World) (sb : Nat) (xs ys : List Int) (B : Option Addr) (c N : Nat) (h : Sha K w sb xs N) (hs : Inb w B ys) (hB : ∀ a, B = some a → ys ≠ [] → ¬ OwnS w sb a.block) (hK0 : Tab K w) (h0 : ¬ OwnS w sb 0) (hb : xs.length + ys.length ≤ 20000) (hN : N ≤ 20000) :
    Calls Tryd.prog 5 #[.pointer (some ⟨sb, 0, none⟩), .slice B ys.length c] w fun e w' => e = .returned (.tuple #[]) ∧ Sha K w' sb (xs ++ ys) (N + ys.length) ∧ Touch (OwnS w sb) w w' ∧ ∀ b, OwnS w' sb b → OwnS w sb b ∨ w.heap.size ≤ b := by
  obtain ⟨zs, hzs⟩ : ∃ zs, zs = xs ++ ys := ⟨_, rfl⟩
  obtain ⟨N2, hN2⟩ : ∃ N2, N2 = N + ys.length := ⟨_, rfl⟩
  rw [← hzs, ← hN2]
  have HN2 := Lib.hid hN2
  clear hN2
  have HZ := Lib.hid hzs
  clear hzs
  obtain ⟨hk0, A, cap, hbk, hrest, hAs⟩ := h
  obtain ⟨a0, a1, a2, a3, a4, a5, a6, a7, hh⟩ : ∃ a0 a1 a2 a3 a4 a5 a6 a7, hK K xs (xs.length / 64) = [a0, a1, a2, a3, a4, a5, a6, a7] := ⟨_, _, _, _, _, _, _, _, list8 _ (hK_len K xs _)⟩
  obtain ⟨rs, hrs⟩ : ∃ rs, rs = xs.drop (64 * (xs.length / 64)) := ⟨_, rfl⟩
  rw [hh, ← hrs] at hbk
  rw [← hrs] at hrest
  have hrl : rs.length ≤ xs.length := by rw [hrs]; simp
  have hown : ∀ b, OwnS w sb b ↔ (b = sb ∨ ∃ a, A = some a ∧ a.block = b) := fun b => OwnS.of hbk rfl
  have c8 := hbk.cell 8
  have c9 := hbk.cell 9
  simp only [shaA, List.map_cons, List.map_nil, List.cons_append, List.nil_append, List.getElem?_toArray, List.getElem?_cons_succ, List.getElem?_cons_zero] at c8 c9
  have hfr := hbk.frozen
  have hT1 : Touch (fun b => b = sb) w (w.setCell ⟨sb, 9, none⟩ (.int .i64 ((N : Int) + ys.length))) := (Touch.refl (fun b => b = sb) w).setCell (p := ⟨sb, 9, none⟩) (.inr rfl) _
  have hb1 := hbk.set_ 9 (.int .i64 ((N : Int) + ys.length))
  have hr1 := hrest.touch hT1 hAs
  have hs1 := hs.touch hT1 (fun a ha hy _ e => hB a ha hy (.inl e))
  have HR := Lib.hid (And.intro hr1 hs1)
  have HB1 := Lib.hid hb1
  have HT1 := Lib.hid hT1
  have HH := Lib.hid (And.intro hh hrs)
  have HO := Lib.hid hown
  have HAs := Lib.hid hAs
  have HK := Lib.hid hK0
  have HZ0 := Lib.hid h0
  clear hrest hs hh hrs hr1 hs1 hT1 hb1 hown hAs hK0 h0
  go_enter Tryd.func5, Tryd.ntmps5
  go_wp2
  refine wp_scope_jumps 0 (fun a' w' => ∃ k, ShaK K w' sb zs k N2 ∧ Touch (OwnS w sb) w w' ∧ (∀ b, OwnS w' sb b → OwnS w sb b ∨ w.heap.size ≤ b) ∧ ∃ (u2 u3 u4 u5 u6 u7 u8 u9 u10 u11 u12 u13 u14 u15 u16 u17 u18 u19 u20 u21 u22 u23 u24 u25 u26 u27 u28 u29 u30 u31 u32 u33 u34 u35 u36 u37 u38 u39 u40 u41 u42 u43 u44 u45 u46 u47 u48 u49 u50 u51 : Value), a' = { tmps := #[.pointer (some ⟨sb, 0, none⟩), .slice B ys.length c, u2, u3, u4, u5, u6, u7, u8, u9, u10, u11, u12, u13, u14, u15, u16, u17, u18, u19, u20, u21, u22, u23, u24, u25, u26, u27, u28, u29, u30, u31, u32, u33, u34, u35, u36, u37, u38, u39, u40, u41, u42, u43, u44, u45, u46, u47, u48, u49, u50, u51], defers := [] }) (fun a' w' => match w'.cell? ⟨sb, 8, none⟩ with | some (.slice _ r _) => r | _ => 0) rfl ?_ ?_
  · go_wp2_with (at_builtin; refine wpList_rest_append rfl (.tmp 19) (.tmp 20) rfl A cap rs rfl B c ys rfl HR.out.1 HR.out.2 (by omega) ?_; intro A' cap' w2 hr2 hT2 hf2; have hb2 := HB1.out.touch hT2 (fun ⟨a, ha, e⟩ => HAs.out a ha e); have c8' := hb2.cell 8; simp only [shaA, List.map_cons, List.map_nil, List.cons_append, List.nil_append, List.setIfInBounds_toArray, List.set_cons_succ, List.set_cons_zero, List.getElem?_toArray, List.getElem?_cons_succ, List.getElem?_cons_zero] at c8'; have hfr2 := hb2.frozen; have HR2 := Lib.hid hr2; have HT2 := Lib.hid hT2; have HF2 := Lib.hid hf2; have HB2 := Lib.hid hb2; clear hr2 hT2 hf2 hb2)
    obtain ⟨W, hW⟩ : ∃ W, W = (w2.setCell ⟨sb, 8, none⟩ (.slice A' (rs.length + ys.length) cap')) := ⟨_, rfl⟩
    have hzs := HZ.out
    obtain ⟨k, hk⟩ : ∃ k, k = xs.length / 64 := ⟨_, rfl⟩
    have hT12 : Touch (OwnS w sb) w w2 := (HT1.out.weaken (fun b _ e => (HO.out b).2 (.inl e))).trans HT2.out (fun b _ e => (HO.out b).2 (.inr e))
    have hTW : Touch (OwnS w sb) w W := by rw [hW]; exact hT12.setCell (p := ⟨sb, 8, none⟩) (.inr ((HO.out sb).2 (.inl rfl))) _
    have hbW : Blk W sb 36 (shaA [a0, a1, a2, a3, a4, a5, a6, a7] (.slice A' (rs.length + ys.length) cap') ((N : Int) + ys.length)) := by rw [hW]; exact HB2.out.set_ 8 _
    have hlt2 := HB2.out.lt
    have hne' : ∀ a, A' = some a → ¬ a.block = sb := fun a ha e => by
      rcases HF2.out a ha with ⟨a0, h1, h2⟩ | h
      · exact HAs.out a0 h1 (h2.trans e)
      · have := HB1.out.lt; omega
    have hrW : Rest W A' cap' (rs ++ ys) := by
      have : Touch (fun b => b = sb) w2 W := by rw [hW]; exact (Touch.refl (fun b => b = sb) w2).setCell (p := ⟨sb, 8, none⟩) (.inr rfl) _
      exact HR2.out.touch this hne'
    have hd : zs.drop (64 * k) = rs ++ ys := by rw [hzs, hk, List.drop_append_of_le_length (by omega), ← HH.out.2]
    have hsk : ShaK K W sb zs k N2 := by
      refine ⟨by rw [hzs, hk]; simp; omega, A', cap', ?_, by rw [hd]; exact hrW, hne'⟩
      rw [hd, hzs, hk, hK_pre K xs ys _ (by omega), HH.out.1, List.length_append, HN2.out]
      rw [show ((N + ys.length : Nat) : Int) = (N : Int) + ys.length from by omega]
      exact hbW
    have hfW : ∀ b, OwnS W sb b → OwnS w sb b ∨ w.heap.size ≤ b := fun b ho => by
      rcases (OwnS.of hbW rfl).1 ho with h | ⟨a, ha, h⟩
      · exact .inl ((HO.out b).2 (.inl h))
      · rcases HF2.out a ha with ⟨a0, h1, h2⟩ | h'
        · exact .inl ((HO.out b).2 (.inr ⟨a0, h1, h2.trans h⟩))
        · have := HT1.out.size
          exact .inr (by omega)
    have HW := Lib.hid hW
    rw [← HW.out]
    have HZS := Lib.hid (And.intro hzs hk)
    clear hW HW hzs hk hT12 hbW hrW hd hne' HB1 HT1 HR HH HAs HR2 HT2 HF2 HB2 c8 c9 c8' hfr hfr2 hbk
    go_step3
    obtain ⟨hk64, A2, cap2, hbk2, hrest2, hAs2⟩ := hsk
    obtain ⟨d0, d1, d2, d3, d4, d5, d6, d7, hh2⟩ : ∃ d0 d1 d2 d3 d4 d5 d6 d7, hK K zs k = [d0, d1, d2, d3, d4, d5, d6, d7] := ⟨_, _, _, _, _, _, _, _, list8 _ (hK_len K zs _)⟩
    obtain ⟨rz, hrz⟩ : ∃ rz, rz = zs.drop (64 * k) := ⟨_, rfl⟩
    have HSK := Lib.hid (show ShaK K W sb zs k N2 from ⟨hk64, A2, cap2, hbk2, hrest2, hAs2⟩)
    rw [hh2, ← hrz] at hbk2
    rw [← hrz] at hrest2
    have hrzl : rz.length + 64 * k = zs.length := by rw [hrz]; simp; omega
    have hownW : ∀ b, OwnS W sb b ↔ (b = sb ∨ ∃ a, A2 = some a ∧ a.block = b) := fun b => OwnS.of hbk2 rfl
    have hb2 := hbk2
    simp only [shaA, List.map_cons, List.map_nil, List.cons_append, List.nil_append] at hb2
    have e0 := hb2.cell 0
    have e1 := hb2.cell 1
    have e2 := hb2.cell 2
    have e3 := hb2.cell 3
    have e4 := hb2.cell 4
    have e5 := hb2.cell 5
    have e6 := hb2.cell 6
    have e7 := hb2.cell 7
    have e8 := hb2.cell 8
    simp only [List.getElem?_toArray, List.getElem?_cons_succ, List.getElem?_cons_zero] at e0 e1 e2 e3 e4 e5 e6 e7 e8
    have hfrW := hb2.frozen
    have HB2 := Lib.hid hb2
    have HH2 := Lib.hid (And.intro hh2 (And.intro hrz hownW))
    have HR2 := Lib.hid (And.intro hrest2 (And.intro hAs2 (And.intro hTW hfW)))
    have htab : Tab K W := HK.out.touch hTW HZ0.out
    have HTab := Lib.hid htab
    have HRZ := Lib.hid hrzl
    have HK64 := Lib.hid hk64
    clear hh2 hrz hownW hb2 hbk2 hrest2 hAs2 hTW hfW htab hrzl hk64
    by_cases hlt : rz.length < 64
    · go_wp2
      simp only [Exit.jump]
      change bodyPost Tryd.prog Tryd.f5 _ Exit.ret _ _
      refine bodyPost_ret (fn := Tryd.f5) (results_none rfl _ _ _) rfl ?_
      have hkz : k = zs.length / 64 := by have := HRZ.out; have := HK64.out; omega
      refine ⟨rfl, ?_, HR2.out.2.2.1, HR2.out.2.2.2⟩
      have := HSK.out
      rw [hkz] at this
      exact this
    · obtain ⟨g, off, cur, rfl, hcur, hle2, hmx2, hfit2, hcells⟩ : ∃ g off cur, A2 = some ⟨g, off, none⟩ ∧ Blk W g 5 cur ∧ rz.length ≤ cap2 ∧ cap2 ≤ 9223372036854775807 ∧ off + cap2 ≤ cur.size ∧ ∀ i, i < rz.length → cur[off + i]? = some (.int .u8 (rz.getD i 0)) := by
        rcases HR2.out.1 with ⟨_, _, h⟩ | h
        · rw [h] at hlt; simp at hlt
        · exact h
      have hgs : ¬ g = sb := HR2.out.2.1 _ rfl
      have hge64 : 64 ≤ rz.length := by omega
      obtain ⟨S, HS⟩ : ∃ S : World → Prop, Hid (∀ w', S w' ↔ (Blk w' sb 36 #[.int .u32 d0, .int .u32 d1, .int .u32 d2, .int .u32 d3, .int .u32 d4, .int .u32 d5, .int .u32 d6, .int .u32 d7, .slice (some ⟨g, off, none⟩) rz.length cap2, .int .i64 N2] ∧ Blk w' g 5 cur)) := ⟨_, fun _ => Iff.rfl⟩
      have HC := Lib.hid hcur
      have HCS := Lib.hid hcells
      clear hcur hcells
      go_wp2_with fail
      refine wp_region_gr S 14 [(0, false), (1, false), (2, false), (3, false), (4, false), (5, false), (6, false), (7, false), (8, false), (9, true), (10, false), (11, true), (12, false), (13, false), (14, true)] (by kernel_rfl) (by kernel_rfl) ((HS.out _).2 ⟨HB2.out.drew, HC.out.drew⟩) (fun hne => ?_)
      have s0 : ∀ x : SW S, x.w.cell? ⟨sb, 0, none⟩ = some (.int .u32 d0) := fun x => ((HS.out _).1 x.ok).1.cell 0
      have s1 : ∀ x : SW S, x.w.cell? ⟨sb, 1, none⟩ = some (.int .u32 d1) := fun x => ((HS.out _).1 x.ok).1.cell 1
      have s2 : ∀ x : SW S, x.w.cell? ⟨sb, 2, none⟩ = some (.int .u32 d2) := fun x => ((HS.out _).1 x.ok).1.cell 2
      have s3 : ∀ x : SW S, x.w.cell? ⟨sb, 3, none⟩ = some (.int .u32 d3) := fun x => ((HS.out _).1 x.ok).1.cell 3
      have s4 : ∀ x : SW S, x.w.cell? ⟨sb, 4, none⟩ = some (.int .u32 d4) := fun x => ((HS.out _).1 x.ok).1.cell 4
      have s5 : ∀ x : SW S, x.w.cell? ⟨sb, 5, none⟩ = some (.int .u32 d5) := fun x => ((HS.out _).1 x.ok).1.cell 5
      have s6 : ∀ x : SW S, x.w.cell? ⟨sb, 6, none⟩ = some (.int .u32 d6) := fun x => ((HS.out _).1 x.ok).1.cell 6
      have s7 : ∀ x : SW S, x.w.cell? ⟨sb, 7, none⟩ = some (.int .u32 d7) := fun x => ((HS.out _).1 x.ok).1.cell 7
      have s8 : ∀ x : SW S, x.w.cell? ⟨sb, 8, none⟩ = some (.slice (some ⟨g, off, none⟩) rz.length cap2) := fun x => ((HS.out _).1 x.ok).1.cell 8
      simp only [withOps, List.filterMap_cons, List.filterMap_nil, Option.map_some, List.getElem?_cons_zero, List.getElem?_cons_succ]
      repeat (refine wpGr_q ?_; (first | go_big_quiet_skip | (go_big_quiet_want; go_big_quiet_op; go_big_quiet_on)); refine wpQuiet_nil ?_)
      refine wpGr_eff rfl (fun K0 hK0 => ?_)
      have har := arr22 W.drew ⟨g, off, none⟩ rz.length cap2 hge64
      go_wp2_with fail
      refine ⟨.inr ((HS.out _).2 ⟨HB2.out.drew, HC.out.drew⟩), ?_⟩
      obtain ⟨bs, hbs⟩ : ∃ bs, bs = rz.take 64 := ⟨_, rfl⟩
      have hl64 : bs.length = 64 := by rw [hbs]; simp; omega
      refine wpGr_load rfl 22 (.tmp 39) rfl g off rfl (bs.map (Value.int .u8)) (.array 64 5) (fun y j u hu => ?_) (by kernel_rfl) rfl (by rw [List.length_map, hl64]; kernel_rfl) ?_
      · have hj : j < 64 := by
          rcases Nat.lt_or_ge j 64 with h | h
          · exact h
          · rw [List.getElem?_eq_none (by simp; omega)] at hu; cases hu
        rw [u8_get _ j (by rw [hl64]; exact hj)] at hu
        rw [((HS.out _).1 y.ok).2.cell, HCS.out j (by omega), ← hu]
        congr 2
        rw [hbs]
        simp [List.getD, hj]
      refine wpGr_eff rfl (fun K1 hK1 => ?_)
      have HL64 := Lib.hid (And.intro hl64 hbs)
      clear hl64 hbs
      go_wp2_with fail
      have hT0 : Touch (fun _ => False) W W.drew := (Touch.refl _ W).drew
      refine (block_any K _ [d0, d1, d2, d3, d4, d5, d6, d7] bs rfl HL64.out.1 (HTab.out.touch hT0 (by simp))).mono ?_
      rintro e W4 ⟨rfl, hT4⟩
      obtain ⟨f0, f1, f2, f3, f4, f5, f6, f7, hf⟩ : ∃ f0 f1 f2 f3 f4 f5 f6 f7, blockF K [d0, d1, d2, d3, d4, d5, d6, d7] bs = [f0, f1, f2, f3, f4, f5, f6, f7] := ⟨_, _, _, _, _, _, _, _, list8 _ (blockF_len _ _ _ rfl)⟩
      rw [hf]
      simp only [U32A, List.map_cons, List.map_nil]
      have HF := Lib.hid hf
      have hT04 := hT0.trans hT4 (by simp)
      have hb4 := HB2.out.touch hT04 (by simp)
      have hc4 := HC.out.touch hT04 (by simp)
      clear hf hT0 hT4
      refine hK1 _ _ ⟨.inr ((HS.out _).2 ⟨hb4, hc4⟩), ?_⟩
      repeat (refine wpGr_q ?_; (first | go_big_quiet_skip | (go_big_quiet_want; go_big_quiet_op; go_big_quiet_on)); refine wpQuiet_nil ?_)
      refine wpGr_eff rfl (fun K2 hK2 => ?_)
      have g0 := hb4.cell 0
      have g1 := hb4.cell 1
      have g2 := hb4.cell 2
      have g3 := hb4.cell 3
      have g4 := hb4.cell 4
      have g5 := hb4.cell 5
      have g6 := hb4.cell 6
      have g7 := hb4.cell 7
      have g8 := hb4.cell 8
      simp only [List.getElem?_toArray, List.getElem?_cons_succ, List.getElem?_cons_zero] at g0 g1 g2 g3 g4 g5 g6 g7 g8
      have gz := hb4.frozen
      go_wp2_with fail
      refine wpGr_nil ?_
      by_cases hcap : cap2 = 64
      · have HLC := Lib.hid hcap
        go_wp2
        have hbF := ((((((((hb4.set_ 0 (.int .u32 f0)).set_ 1 (.int .u32 f1)).set_ 2 (.int .u32 f2)).set_ 3 (.int .u32 f3)).set_ 4 (.int .u32 f4)).set_ 5 (.int .u32 f5)).set_ 6 (.int .u32 f6)).set_ 7 (.int .u32 f7)).set_ 8 (.slice (some ⟨g, off, none⟩) (rz.length - 64) 0)
        simp only [List.setIfInBounds_toArray, List.set_cons_zero, List.set_cons_succ] at hbF
        have hTF := (((((((((Touch.refl (fun b => b = sb) W4).setCell (p := ⟨sb, 0, none⟩) (.inr rfl) (.int .u32 f0)).setCell (p := ⟨sb, 1, none⟩) (.inr rfl) (.int .u32 f1)).setCell (p := ⟨sb, 2, none⟩) (.inr rfl) (.int .u32 f2)).setCell (p := ⟨sb, 3, none⟩) (.inr rfl) (.int .u32 f3)).setCell (p := ⟨sb, 4, none⟩) (.inr rfl) (.int .u32 f4)).setCell (p := ⟨sb, 5, none⟩) (.inr rfl) (.int .u32 f5)).setCell (p := ⟨sb, 6, none⟩) (.inr rfl) (.int .u32 f6)).setCell (p := ⟨sb, 7, none⟩) (.inr rfl) (.int .u32 f7)).setCell (p := ⟨sb, 8, none⟩) (.inr rfl) (.slice (some ⟨g, off, none⟩) (rz.length - 64) 0)
        obtain ⟨W5, hW5⟩ : ∃ W5, W5 = (((((((((W4.setCell ⟨sb, 0, none⟩ (.int .u32 f0)).setCell ⟨sb, 1, none⟩ (.int .u32 f1)).setCell ⟨sb, 2, none⟩ (.int .u32 f2)).setCell ⟨sb, 3, none⟩ (.int .u32 f3)).setCell ⟨sb, 4, none⟩ (.int .u32 f4)).setCell ⟨sb, 5, none⟩ (.int .u32 f5)).setCell ⟨sb, 6, none⟩ (.int .u32 f6)).setCell ⟨sb, 7, none⟩ (.int .u32 f7)).setCell ⟨sb, 8, none⟩ (.slice (some ⟨g, off, none⟩) (rz.length - 64) 0)) := ⟨_, rfl⟩
        rw [← hW5] at hbF hTF ⊢
        have HW5 := Lib.hid hW5
        clear hW5
        have hz1 := HRZ.out
        have hz2 := HK64.out
        have hTWF : Touch (OwnS w sb) w W5 := (HR2.out.2.2.1.trans hT04 (by simp)).trans hTF (fun b _ e => (HO.out b).2 (.inl e))
        have hdrop : zs.drop (64 * (k + 1)) = rz.drop 64 := by rw [HH2.out.2.1, List.drop_drop]; congr 1
        have hskF : ShaK K W5 sb zs (k + 1) N2 := by
          refine ⟨by omega, some ⟨g, off, none⟩, 0, ?_, ?_, fun a ha e => hgs (by injection ha with ha; subst ha; exact e)⟩
          · rw [hdrop, hK, ← HH2.out.2.1, HH2.out.1, ← HL64.out.2, HF.out, List.length_drop]
            exact hbF
          · rw [hdrop]
            have hlc := HLC.out
            refine .inr ⟨g, off, cur, rfl, hc4.touch hTF hgs, by simp; omega, by omega, by omega, fun i hi => ?_⟩
            simp only [List.length_drop] at hi
            omega
        have hfF : ∀ b, OwnS W5 sb b → OwnS w sb b ∨ w.heap.size ≤ b := fun b ho => by
          have : OwnS W sb b := (HH2.out.2.2 b).2 (by
            rcases (OwnS.of (hs := [f0, f1, f2, f3, f4, f5, f6, f7]) hbF rfl).1 ho with h | ⟨a, ha, h⟩
            · exact .inl h
            · exact .inr ⟨_, rfl, by injection ha with ha; subst ha; exact h⟩)
          exact HR2.out.2.2.2 b this
        go_step3
        exact ⟨rfl, k + 1, hskF, hTWF, hfF, _, _, _, _, _, _, _, _, _, _, _, _, _, _, _, _, _, _, _, _, _, _, _, _, _, _, _, _, _, _, _, _, _, _, _, _, _, _, _, _, _, _, _, _, _, _, _, _, _, _, rfl⟩
      · go_wp2
        have hbF := ((((((((hb4.set_ 0 (.int .u32 f0)).set_ 1 (.int .u32 f1)).set_ 2 (.int .u32 f2)).set_ 3 (.int .u32 f3)).set_ 4 (.int .u32 f4)).set_ 5 (.int .u32 f5)).set_ 6 (.int .u32 f6)).set_ 7 (.int .u32 f7)).set_ 8 (.slice (some ⟨g, (off + 64), none⟩) (rz.length - 64) (cap2 - 64))
        simp only [List.setIfInBounds_toArray, List.set_cons_zero, List.set_cons_succ] at hbF
        have hTF := (((((((((Touch.refl (fun b => b = sb) W4).setCell (p := ⟨sb, 0, none⟩) (.inr rfl) (.int .u32 f0)).setCell (p := ⟨sb, 1, none⟩) (.inr rfl) (.int .u32 f1)).setCell (p := ⟨sb, 2, none⟩) (.inr rfl) (.int .u32 f2)).setCell (p := ⟨sb, 3, none⟩) (.inr rfl) (.int .u32 f3)).setCell (p := ⟨sb, 4, none⟩) (.inr rfl) (.int .u32 f4)).setCell (p := ⟨sb, 5, none⟩) (.inr rfl) (.int .u32 f5)).setCell (p := ⟨sb, 6, none⟩) (.inr rfl) (.int .u32 f6)).setCell (p := ⟨sb, 7, none⟩) (.inr rfl) (.int .u32 f7)).setCell (p := ⟨sb, 8, none⟩) (.inr rfl) (.slice (some ⟨g, (off + 64), none⟩) (rz.length - 64) (cap2 - 64))
        obtain ⟨W5, hW5⟩ : ∃ W5, W5 = (((((((((W4.setCell ⟨sb, 0, none⟩ (.int .u32 f0)).setCell ⟨sb, 1, none⟩ (.int .u32 f1)).setCell ⟨sb, 2, none⟩ (.int .u32 f2)).setCell ⟨sb, 3, none⟩ (.int .u32 f3)).setCell ⟨sb, 4, none⟩ (.int .u32 f4)).setCell ⟨sb, 5, none⟩ (.int .u32 f5)).setCell ⟨sb, 6, none⟩ (.int .u32 f6)).setCell ⟨sb, 7, none⟩ (.int .u32 f7)).setCell ⟨sb, 8, none⟩ (.slice (some ⟨g, (off + 64), none⟩) (rz.length - 64) (cap2 - 64))) := ⟨_, rfl⟩
        rw [← hW5] at hbF hTF ⊢
        have HW5 := Lib.hid hW5
        clear hW5
        have hz1 := HRZ.out
        have hz2 := HK64.out
        have hTWF : Touch (OwnS w sb) w W5 := (HR2.out.2.2.1.trans hT04 (by simp)).trans hTF (fun b _ e => (HO.out b).2 (.inl e))
        have hdrop : zs.drop (64 * (k + 1)) = rz.drop 64 := by rw [HH2.out.2.1, List.drop_drop]; congr 1
        have hskF : ShaK K W5 sb zs (k + 1) N2 := by
          refine ⟨by omega, some ⟨g, (off + 64), none⟩, (cap2 - 64), ?_, ?_, fun a ha e => hgs (by injection ha with ha; subst ha; exact e)⟩
          · rw [hdrop, hK, ← HH2.out.2.1, HH2.out.1, ← HL64.out.2, HF.out, List.length_drop]
            exact hbF
          · rw [hdrop]
            refine .inr ⟨g, (off + 64), cur, rfl, hc4.touch hTF hgs, by simp; omega, by omega, by omega, fun i hi => ?_⟩
            simp only [List.length_drop] at hi
            have := HCS.out (64 + i) (by omega)
            rw [show off + 64 + i = off + (64 + i) from by omega, this]
            congr 2
            simp [List.getD]
        have hfF : ∀ b, OwnS W5 sb b → OwnS w sb b ∨ w.heap.size ≤ b := fun b ho => by
          have : OwnS W sb b := (HH2.out.2.2 b).2 (by
            rcases (OwnS.of (hs := [f0, f1, f2, f3, f4, f5, f6, f7]) hbF rfl).1 ho with h | ⟨a, ha, h⟩
            · exact .inl h
            · exact .inr ⟨_, rfl, by injection ha with ha; subst ha; exact h⟩)
          exact HR2.out.2.2.2 b this
        go_step3
        exact ⟨rfl, k + 1, hskF, hTWF, hfF, _, _, _, _, _, _, _, _, _, _, _, _, _, _, _, _, _, _, _, _, _, _, _, _, _, _, _, _, _, _, _, _, _, _, _, _, _, _, _, _, _, _, _, _, _, _, _, _, _, _, rfl⟩
  · rintro a' W ⟨k, hsk, hTW, hfW, u2, u3, u4, u5, u6, u7, u8, u9, u10, u11, u12, u13, u14, u15, u16, u17, u18, u19, u20, u21, u22, u23, u24, u25, u26, u27, u28, u29, u30, u31, u32, u33, u34, u35, u36, u37, u38, u39, u40, u41, u42, u43, u44, u45, u46, u47, u48, u49, u50, u51, rfl⟩
    clear c8 c9 hfr hbk HB1 HT1 HR HH HAs
    obtain ⟨hk64, A2, cap2, hbk2, hrest2, hAs2⟩ := hsk
    obtain ⟨d0, d1, d2, d3, d4, d5, d6, d7, hh2⟩ : ∃ d0 d1 d2 d3 d4 d5 d6 d7, hK K zs k = [d0, d1, d2, d3, d4, d5, d6, d7] := ⟨_, _, _, _, _, _, _, _, list8 _ (hK_len K zs _)⟩
    obtain ⟨rz, hrz⟩ : ∃ rz, rz = zs.drop (64 * k) := ⟨_, rfl⟩
    have HSK := Lib.hid (show ShaK K W sb zs k N2 from ⟨hk64, A2, cap2, hbk2, hrest2, hAs2⟩)
    rw [hh2, ← hrz] at hbk2
    rw [← hrz] at hrest2
    have hrzl : rz.length + 64 * k = zs.length := by rw [hrz]; simp; omega
    have hownW : ∀ b, OwnS W sb b ↔ (b = sb ∨ ∃ a, A2 = some a ∧ a.block = b) := fun b => OwnS.of hbk2 rfl
    have hb2 := hbk2
    simp only [shaA, List.map_cons, List.map_nil, List.cons_append, List.nil_append] at hb2
    have e0 := hb2.cell 0
    have e1 := hb2.cell 1
    have e2 := hb2.cell 2
    have e3 := hb2.cell 3
    have e4 := hb2.cell 4
    have e5 := hb2.cell 5
    have e6 := hb2.cell 6
    have e7 := hb2.cell 7
    have e8 := hb2.cell 8
    simp only [List.getElem?_toArray, List.getElem?_cons_succ, List.getElem?_cons_zero] at e0 e1 e2 e3 e4 e5 e6 e7 e8
    have hfrW := hb2.frozen
    have HB2 := Lib.hid hb2
    have HH2 := Lib.hid (And.intro hh2 (And.intro hrz hownW))
    have HR2 := Lib.hid (And.intro hrest2 (And.intro hAs2 (And.intro hTW hfW)))
    have htab : Tab K W := HK.out.touch hTW HZ0.out
    have HTab := Lib.hid htab
    have HRZ := Lib.hid hrzl
    have HK64 := Lib.hid hk64
    clear hh2 hrz hownW hb2 hbk2 hrest2 hAs2 hTW hfW htab hrzl hk64
    by_cases hlt : rz.length < 64
    · go_wp2
      simp only [Exit.jump]
      change bodyPost Tryd.prog Tryd.f5 _ Exit.ret _ _
      refine bodyPost_ret (fn := Tryd.f5) (results_none rfl _ _ _) rfl ?_
      have hkz : k = zs.length / 64 := by have := HRZ.out; have := HK64.out; omega
      refine ⟨rfl, ?_, HR2.out.2.2.1, HR2.out.2.2.2⟩
      have := HSK.out
      rw [hkz] at this
      exact this
    · obtain ⟨g, off, cur, rfl, hcur, hle2, hmx2, hfit2, hcells⟩ : ∃ g off cur, A2 = some ⟨g, off, none⟩ ∧ Blk W g 5 cur ∧ rz.length ≤ cap2 ∧ cap2 ≤ 9223372036854775807 ∧ off + cap2 ≤ cur.size ∧ ∀ i, i < rz.length → cur[off + i]? = some (.int .u8 (rz.getD i 0)) := by
        rcases HR2.out.1 with ⟨_, _, h⟩ | h
        · rw [h] at hlt; simp at hlt
        · exact h
      have hgs : ¬ g = sb := HR2.out.2.1 _ rfl
      have hge64 : 64 ≤ rz.length := by omega
      obtain ⟨S, HS⟩ : ∃ S : World → Prop, Hid (∀ w', S w' ↔ (Blk w' sb 36 #[.int .u32 d0, .int .u32 d1, .int .u32 d2, .int .u32 d3, .int .u32 d4, .int .u32 d5, .int .u32 d6, .int .u32 d7, .slice (some ⟨g, off, none⟩) rz.length cap2, .int .i64 N2] ∧ Blk w' g 5 cur)) := ⟨_, fun _ => Iff.rfl⟩
      have HC := Lib.hid hcur
      have HCS := Lib.hid hcells
      clear hcur hcells
      go_wp2_with fail
      refine wp_region_gr S 14 [(0, false), (1, false), (2, false), (3, false), (4, false), (5, false), (6, false), (7, false), (8, false), (9, true), (10, false), (11, true), (12, false), (13, false), (14, true)] (by kernel_rfl) (by kernel_rfl) ((HS.out _).2 ⟨HB2.out.drew, HC.out.drew⟩) (fun hne => ?_)
      have s0 : ∀ x : SW S, x.w.cell? ⟨sb, 0, none⟩ = some (.int .u32 d0) := fun x => ((HS.out _).1 x.ok).1.cell 0
      have s1 : ∀ x : SW S, x.w.cell? ⟨sb, 1, none⟩ = some (.int .u32 d1) := fun x => ((HS.out _).1 x.ok).1.cell 1
      have s2 : ∀ x : SW S, x.w.cell? ⟨sb, 2, none⟩ = some (.int .u32 d2) := fun x => ((HS.out _).1 x.ok).1.cell 2
      have s3 : ∀ x : SW S, x.w.cell? ⟨sb, 3, none⟩ = some (.int .u32 d3) := fun x => ((HS.out _).1 x.ok).1.cell 3
      have s4 : ∀ x : SW S, x.w.cell? ⟨sb, 4, none⟩ = some (.int .u32 d4) := fun x => ((HS.out _).1 x.ok).1.cell 4
      have s5 : ∀ x : SW S, x.w.cell? ⟨sb, 5, none⟩ = some (.int .u32 d5) := fun x => ((HS.out _).1 x.ok).1.cell 5
      have s6 : ∀ x : SW S, x.w.cell? ⟨sb, 6, none⟩ = some (.int .u32 d6) := fun x => ((HS.out _).1 x.ok).1.cell 6
      have s7 : ∀ x : SW S, x.w.cell? ⟨sb, 7, none⟩ = some (.int .u32 d7) := fun x => ((HS.out _).1 x.ok).1.cell 7
      have s8 : ∀ x : SW S, x.w.cell? ⟨sb, 8, none⟩ = some (.slice (some ⟨g, off, none⟩) rz.length cap2) := fun x => ((HS.out _).1 x.ok).1.cell 8
      simp only [withOps, List.filterMap_cons, List.filterMap_nil, Option.map_some, List.getElem?_cons_zero, List.getElem?_cons_succ]
      repeat (refine wpGr_q ?_; (first | go_big_quiet_skip | (go_big_quiet_want; go_big_quiet_op; go_big_quiet_on)); refine wpQuiet_nil ?_)
      refine wpGr_eff rfl (fun K0 hK0 => ?_)
      have har := arr22 W.drew ⟨g, off, none⟩ rz.length cap2 hge64
      go_wp2_with fail
      refine ⟨.inr ((HS.out _).2 ⟨HB2.out.drew, HC.out.drew⟩), ?_⟩
      obtain ⟨bs, hbs⟩ : ∃ bs, bs = rz.take 64 := ⟨_, rfl⟩
      have hl64 : bs.length = 64 := by rw [hbs]; simp; omega
      refine wpGr_load rfl 22 (.tmp 39) rfl g off rfl (bs.map (Value.int .u8)) (.array 64 5) (fun y j u hu => ?_) (by kernel_rfl) rfl (by rw [List.length_map, hl64]; kernel_rfl) ?_
      · have hj : j < 64 := by
          rcases Nat.lt_or_ge j 64 with h | h
          · exact h
          · rw [List.getElem?_eq_none (by simp; omega)] at hu; cases hu
        rw [u8_get _ j (by rw [hl64]; exact hj)] at hu
        rw [((HS.out _).1 y.ok).2.cell, HCS.out j (by omega), ← hu]
        congr 2
        rw [hbs]
        simp [List.getD, hj]
      refine wpGr_eff rfl (fun K1 hK1 => ?_)
      have HL64 := Lib.hid (And.intro hl64 hbs)
      clear hl64 hbs
      go_wp2_with fail
      have hT0 : Touch (fun _ => False) W W.drew := (Touch.refl _ W).drew
      refine (block_any K _ [d0, d1, d2, d3, d4, d5, d6, d7] bs rfl HL64.out.1 (HTab.out.touch hT0 (by simp))).mono ?_
      rintro e W4 ⟨rfl, hT4⟩
      obtain ⟨f0, f1, f2, f3, f4, f5, f6, f7, hf⟩ : ∃ f0 f1 f2 f3 f4 f5 f6 f7, blockF K [d0, d1, d2, d3, d4, d5, d6, d7] bs = [f0, f1, f2, f3, f4, f5, f6, f7] := ⟨_, _, _, _, _, _, _, _, list8 _ (blockF_len _ _ _ rfl)⟩
      rw [hf]
      simp only [U32A, List.map_cons, List.map_nil]
      have HF := Lib.hid hf
      have hT04 := hT0.trans hT4 (by simp)
      have hb4 := HB2.out.touch hT04 (by simp)
      have hc4 := HC.out.touch hT04 (by simp)
      clear hf hT0 hT4
      refine hK1 _ _ ⟨.inr ((HS.out _).2 ⟨hb4, hc4⟩), ?_⟩
      repeat (refine wpGr_q ?_; (first | go_big_quiet_skip | (go_big_quiet_want; go_big_quiet_op; go_big_quiet_on)); refine wpQuiet_nil ?_)
      refine wpGr_eff rfl (fun K2 hK2 => ?_)
      have g0 := hb4.cell 0
      have g1 := hb4.cell 1
      have g2 := hb4.cell 2
      have g3 := hb4.cell 3
      have g4 := hb4.cell 4
      have g5 := hb4.cell 5
      have g6 := hb4.cell 6
      have g7 := hb4.cell 7
      have g8 := hb4.cell 8
      simp only [List.getElem?_toArray, List.getElem?_cons_succ, List.getElem?_cons_zero] at g0 g1 g2 g3 g4 g5 g6 g7 g8
      have gz := hb4.frozen
      go_wp2_with fail
      refine wpGr_nil ?_
      by_cases hcap : cap2 = 64
      · have HLC := Lib.hid hcap
        go_wp2
        have hbF := ((((((((hb4.set_ 0 (.int .u32 f0)).set_ 1 (.int .u32 f1)).set_ 2 (.int .u32 f2)).set_ 3 (.int .u32 f3)).set_ 4 (.int .u32 f4)).set_ 5 (.int .u32 f5)).set_ 6 (.int .u32 f6)).set_ 7 (.int .u32 f7)).set_ 8 (.slice (some ⟨g, off, none⟩) (rz.length - 64) 0)
        simp only [List.setIfInBounds_toArray, List.set_cons_zero, List.set_cons_succ] at hbF
        have hTF := (((((((((Touch.refl (fun b => b = sb) W4).setCell (p := ⟨sb, 0, none⟩) (.inr rfl) (.int .u32 f0)).setCell (p := ⟨sb, 1, none⟩) (.inr rfl) (.int .u32 f1)).setCell (p := ⟨sb, 2, none⟩) (.inr rfl) (.int .u32 f2)).setCell (p := ⟨sb, 3, none⟩) (.inr rfl) (.int .u32 f3)).setCell (p := ⟨sb, 4, none⟩) (.inr rfl) (.int .u32 f4)).setCell (p := ⟨sb, 5, none⟩) (.inr rfl) (.int .u32 f5)).setCell (p := ⟨sb, 6, none⟩) (.inr rfl) (.int .u32 f6)).setCell (p := ⟨sb, 7, none⟩) (.inr rfl) (.int .u32 f7)).setCell (p := ⟨sb, 8, none⟩) (.inr rfl) (.slice (some ⟨g, off, none⟩) (rz.length - 64) 0)
        obtain ⟨W5, hW5⟩ : ∃ W5, W5 = (((((((((W4.setCell ⟨sb, 0, none⟩ (.int .u32 f0)).setCell ⟨sb, 1, none⟩ (.int .u32 f1)).setCell ⟨sb, 2, none⟩ (.int .u32 f2)).setCell ⟨sb, 3, none⟩ (.int .u32 f3)).setCell ⟨sb, 4, none⟩ (.int .u32 f4)).setCell ⟨sb, 5, none⟩ (.int .u32 f5)).setCell ⟨sb, 6, none⟩ (.int .u32 f6)).setCell ⟨sb, 7, none⟩ (.int .u32 f7)).setCell ⟨sb, 8, none⟩ (.slice (some ⟨g, off, none⟩) (rz.length - 64) 0)) := ⟨_, rfl⟩
        rw [← hW5] at hbF hTF ⊢
        have HW5 := Lib.hid hW5
        clear hW5
        have hz1 := HRZ.out
        have hz2 := HK64.out
        have hTWF : Touch (OwnS w sb) w W5 := (HR2.out.2.2.1.trans hT04 (by simp)).trans hTF (fun b _ e => (HO.out b).2 (.inl e))
        have hdrop : zs.drop (64 * (k + 1)) = rz.drop 64 := by rw [HH2.out.2.1, List.drop_drop]; congr 1
        have hskF : ShaK K W5 sb zs (k + 1) N2 := by
          refine ⟨by omega, some ⟨g, off, none⟩, 0, ?_, ?_, fun a ha e => hgs (by injection ha with ha; subst ha; exact e)⟩
          · rw [hdrop, hK, ← HH2.out.2.1, HH2.out.1, ← HL64.out.2, HF.out, List.length_drop]
            exact hbF
          · rw [hdrop]
            have hlc := HLC.out
            refine .inr ⟨g, off, cur, rfl, hc4.touch hTF hgs, by simp; omega, by omega, by omega, fun i hi => ?_⟩
            simp only [List.length_drop] at hi
            omega
        have hfF : ∀ b, OwnS W5 sb b → OwnS w sb b ∨ w.heap.size ≤ b := fun b ho => by
          have : OwnS W sb b := (HH2.out.2.2 b).2 (by
            rcases (OwnS.of (hs := [f0, f1, f2, f3, f4, f5, f6, f7]) hbF rfl).1 ho with h | ⟨a, ha, h⟩
            · exact .inl h
            · exact .inr ⟨_, rfl, by injection ha with ha; subst ha; exact h⟩)
          exact HR2.out.2.2.2 b this
        go_step3
        refine ⟨rfl, ⟨k + 1, hskF, hTWF, hfF, _, _, _, _, _, _, _, _, _, _, _, _, _, _, _, _, _, _, _, _, _, _, _, _, _, _, _, _, _, _, _, _, _, _, _, _, _, _, _, _, _, _, _, _, _, _, _, _, _, _, rfl⟩, ?_⟩
        have hm := hbF.cell 8
        simp only [List.getElem?_toArray, List.getElem?_cons_succ, List.getElem?_cons_zero] at hm
        rw [hm, e8]
        show rz.length - 64 < rz.length
        omega
      · go_wp2
        have hbF := ((((((((hb4.set_ 0 (.int .u32 f0)).set_ 1 (.int .u32 f1)).set_ 2 (.int .u32 f2)).set_ 3 (.int .u32 f3)).set_ 4 (.int .u32 f4)).set_ 5 (.int .u32 f5)).set_ 6 (.int .u32 f6)).set_ 7 (.int .u32 f7)).set_ 8 (.slice (some ⟨g, (off + 64), none⟩) (rz.length - 64) (cap2 - 64))
        simp only [List.setIfInBounds_toArray, List.set_cons_zero, List.set_cons_succ] at hbF
        have hTF := (((((((((Touch.refl (fun b => b = sb) W4).setCell (p := ⟨sb, 0, none⟩) (.inr rfl) (.int .u32 f0)).setCell (p := ⟨sb, 1, none⟩) (.inr rfl) (.int .u32 f1)).setCell (p := ⟨sb, 2, none⟩) (.inr rfl) (.int .u32 f2)).setCell (p := ⟨sb, 3, none⟩) (.inr rfl) (.int .u32 f3)).setCell (p := ⟨sb, 4, none⟩) (.inr rfl) (.int .u32 f4)).setCell (p := ⟨sb, 5, none⟩) (.inr rfl) (.int .u32 f5)).setCell (p := ⟨sb, 6, none⟩) (.inr rfl) (.int .u32 f6)).setCell (p := ⟨sb, 7, none⟩) (.inr rfl) (.int .u32 f7)).setCell (p := ⟨sb, 8, none⟩) (.inr rfl) (.slice (some ⟨g, (off + 64), none⟩) (rz.length - 64) (cap2 - 64))
        obtain ⟨W5, hW5⟩ : ∃ W5, W5 = (((((((((W4.setCell ⟨sb, 0, none⟩ (.int .u32 f0)).setCell ⟨sb, 1, none⟩ (.int .u32 f1)).setCell ⟨sb, 2, none⟩ (.int .u32 f2)).setCell ⟨sb, 3, none⟩ (.int .u32 f3)).setCell ⟨sb, 4, none⟩ (.int .u32 f4)).setCell ⟨sb, 5, none⟩ (.int .u32 f5)).setCell ⟨sb, 6, none⟩ (.int .u32 f6)).setCell ⟨sb, 7, none⟩ (.int .u32 f7)).setCell ⟨sb, 8, none⟩ (.slice (some ⟨g, (off + 64), none⟩) (rz.length - 64) (cap2 - 64))) := ⟨_, rfl⟩
        rw [← hW5] at hbF hTF ⊢
        have HW5 := Lib.hid hW5
        clear hW5
        have hz1 := HRZ.out
        have hz2 := HK64.out
        have hTWF : Touch (OwnS w sb) w W5 := (HR2.out.2.2.1.trans hT04 (by simp)).trans hTF (fun b _ e => (HO.out b).2 (.inl e))
        have hdrop : zs.drop (64 * (k + 1)) = rz.drop 64 := by rw [HH2.out.2.1, List.drop_drop]; congr 1
        have hskF : ShaK K W5 sb zs (k + 1) N2 := by
          refine ⟨by omega, some ⟨g, (off + 64), none⟩, (cap2 - 64), ?_, ?_, fun a ha e => hgs (by injection ha with ha; subst ha; exact e)⟩
          · rw [hdrop, hK, ← HH2.out.2.1, HH2.out.1, ← HL64.out.2, HF.out, List.length_drop]
            exact hbF
          · rw [hdrop]
            refine .inr ⟨g, (off + 64), cur, rfl, hc4.touch hTF hgs, by simp; omega, by omega, by omega, fun i hi => ?_⟩
            simp only [List.length_drop] at hi
            have := HCS.out (64 + i) (by omega)
            rw [show off + 64 + i = off + (64 + i) from by omega, this]
            congr 2
            simp [List.getD]
        have hfF : ∀ b, OwnS W5 sb b → OwnS w sb b ∨ w.heap.size ≤ b := fun b ho => by
          have : OwnS W sb b := (HH2.out.2.2 b).2 (by
            rcases (OwnS.of (hs := [f0, f1, f2, f3, f4, f5, f6, f7]) hbF rfl).1 ho with h | ⟨a, ha, h⟩
            · exact .inl h
            · exact .inr ⟨_, rfl, by injection ha with ha; subst ha; exact h⟩)
          exact HR2.out.2.2.2 b this
        go_step3
        refine ⟨rfl, ⟨k + 1, hskF, hTWF, hfF, _, _, _, _, _, _, _, _, _, _, _, _, _, _, _, _, _, _, _, _, _, _, _, _, _, _, _, _, _, _, _, _, _, _, _, _, _, _, _, _, _, _, _, _, _, _, _, _, _, _, rfl⟩, ?_⟩
        have hm := hbF.cell 8
        simp only [List.getElem?_toArray, List.getElem?_cons_succ, List.getElem?_cons_zero] at hm
        rw [hm, e8]
        show rz.length - 64 < rz.length
        omega
end Go.Proofs.YtelmjlfhmbicjaaDoor
