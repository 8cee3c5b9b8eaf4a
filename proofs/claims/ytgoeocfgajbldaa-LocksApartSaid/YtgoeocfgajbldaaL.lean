/- Take that takes. -/
import Derived.Test.YtgoeocfgajbldaaK
namespace Go.Proofs.Ytgoeocfgajbldaa
open Go.RowKit
set_option linter.unusedVariables false

theorem wp_mapUpdate {H : Type} {P : Program} {w : World} {o : Oper} {a : Act} {K' : Act → World → Prop} {Q : Exit → Act → World → Prop} (m x v : Operand) (t : TypeId) (hop : o.op = Op.mapUpdate t m x v)
    (k e : TypeId) (K : Maps.Keyed P k) (ht : P.underlying t = some (.map k e)) (R : Value → Option (DataW H × List MemPlace)) (b n : Nat) (D : DataW H)
    (hm : a.eval m = .map (some b)) (hown : w.ownsMap P k R b n D) (hn : n < maxLen) (key val : Value) (kl : Lit) (hx : a.eval x = key) (hv : a.eval v = val) (hkey : keyOf P k key = some kl)
    (d : DataW H) (ps : List MemPlace) (hval : R val = some (d, ps))
    (hK : ∀ w', w'.ownsMap P k R b (n + 1) (D.put kl d) → w.mapTurned w' b → K' (a.put o.dst undef) w') : o.wp P a w K' Q := by
  obtain ⟨w', hrun, r1, r2⟩ := hown.store K ht hn hkey hval
  unfold Oper.wp
  simp [execOp, hop, hm, hx, hv, hrun, Result.andThen]
  exact hK w' r1 r2

theorem put_L (L : List LE) (x : LE) (h : (L.any fun e => e.1 == x.1) = false) : (dat (L.map entL)).put (.int .i64 x.1) (.held (hdHV x.2)) = dat ((insL x L).map entL) := by
  rw [insL_map]
  exact put_dat (L.map entL) (entL x) (by rw [List.any_map]; exact h)

set_option maxRecDepth 20000 in
set_option maxHeartbeats 1000000 in
theorem take_ok (w : World) (k m : Nat) (L : List LE) (n : Int) (A B : Option Addr) (ca cb : Nat) (r t : List Sp) (h : Lk w k m L) (hr : SpOk w A ca r) (ht : SpOk w B cb t) (hw : (Lit.int .i64 n).wf = true) (hne : takeN L n r t = 0) (hlen : L.length < 1000) :
    Calls Try.prog 9 #[.pointer (some ⟨k, 0, none⟩), .int .i64 n, .slice A r.length ca, .slice B t.length cb] w fun e w' => e = .returned (.int .i64 0) ∧ (∃ hd : Hd, hd.reads = r ∧ hd.writes = t ∧ Lk w' k m (insL (n, hd) L)) ∧ Touch (fun b => b = m) w w' := by
  have hkey := Maps.keyOf_int_mk under3 hw
  have c0 := h.blk.cell 0
  simp only [List.getElem?_toArray, List.getElem?_cons_zero] at c0
  unfold takeN at hne
  have hx : (L.any fun e => e.1 == n) = false := by
    cases hx : L.any fun e => e.1 == n with
    | true => rw [hx] at hne; cases hne
    | false => rfl
  rw [hx] at hne
  have hy : busyB L r false = false := by
    cases hy : busyB L r false with
    | true => rw [hy] at hne; cases hne
    | false => rfl
  rw [hy] at hne
  have hz : busyB L t true = false := by
    cases hz : busyB L t true with
    | true => rw [hz] at hne; cases hne
    | false => rfl
  clear hne
  have hh := has_L L n
  rw [hx] at hh
  have hmp := h.mp
  unfold Mp at hmp
  have hb1 : ∀ w', Touch (fun _ => False) w w' → _ := fun w' T => busy_any w' k m L A ca r false (h.touch T) hr.small hr.len (hr.touch T).row
  have hb2 : ∀ w', Touch (fun _ => False) w w' → _ := fun w' T => busy_any w' k m L B cb t true (h.touch T) ht.small ht.len (ht.touch T).row
  rw [hy] at hb1
  rw [hz] at hb2
  have HX := Lib.hid (And.intro hx (And.intro hr (And.intro ht hlen)))
  have H := Lib.hid (And.intro h (And.intro hb1 hb2))
  clear h hr ht hb1 hb2 hx hy hz hlen
  go_enter Try.func9, Try.ntmps9
  go_upto_region 6 with (first
      | (at_lookup; refine wpList_lookup_own_ok _ rfl _ _ 53 rfl 3 57 K3 under53 hR (zero57 _) (.held ⟨none, 0, 0, none, 0, 0⟩) [] rfl m _ _ rfl hmp _ _ rfl hkey ?_; intro v ps hv; obtain ⟨⟨r1, r2, r3, r4, r5, r6⟩, rfl, _⟩ := hR_inv hv; rw [hh]; clear hv; dsimp only [agg2, HV.v2])
      | go_in)
  have hT0 : Touch (fun _ => False) w (w.alloc (.cells #[.slice r1 r2 r3, .slice r4 r5 r6] 57)) := (Touch.refl _ w).alloc _
  have H0 := Lib.hid hT0
  clear hT0
  go_wp2_with fail
  refine (H.out.2.1 _ H0.out).mono ?_
  rintro e w1 ⟨rfl, hT1⟩
  have hT01 := H0.out.trans hT1 (fun _ _ h => h)
  have H1 := Lib.hid hT01
  clear hT1 hT01
  go_wp2_with fail
  refine (H.out.2.2 _ H1.out).mono ?_
  rintro e w2 ⟨rfl, hT2⟩
  have hT02 := H1.out.trans hT2 (fun _ _ h => h)
  have H2 := Lib.hid hT02
  clear hT2 hT02 c0 hmp
  go_wp2
  obtain ⟨S, HS⟩ : ∃ S : World → Prop, Hid (∀ w', S w' ↔ Blk w' k 55 #[.map (some m)]) := ⟨_, fun _ => Iff.rfl⟩
  have hSS : ∀ w', Touch (fun _ => False) w w' → S w' := fun w' ht => (HS.out _).2 (H.out.1.touch ht).blk
  refine wp_region_tr S (.q 0 (.q 1 (.q 2 (.q 3 (.q 4 (.q 5 (.q 7 (.e 6 (.e 8 (.q 9 (.e 10 .nil))))))))))) (by kernel_rfl) (by kernel_rfl) (hSS _ H2.out.drew) (fun hne => ?_)
  have z0 : ∀ x : SW S, x.w.cell? ⟨k, 0, none⟩ = some (.map (some m)) := fun x => ((HS.out _).1 x.ok).cell 0
  repeat (refine wpTr_q (by simp only [List.getElem?_toArray, List.getElem?_cons_zero, List.getElem?_cons_succ]; rfl) ?_; (first | go_big_quiet_skip | (go_big_quiet_want; go_big_quiet_op; go_big_quiet_on)); refine wpQuiet_nil ?_)
  have HSS := Lib.hid hSS
  clear hSS
  refine wpTr_e (by simp only [List.getElem?_toArray, List.getElem?_cons_zero, List.getElem?_cons_succ]; rfl) (fun K1 hK1 => ?_)
  have hT2 := H2.out.drew
  go_wp2_with fail
  refine (clone_any _ A ca r.length r rfl HX.out.2.1.nil HX.out.2.1.len (HX.out.2.1.touch hT2).row).mono ?_
  rintro e w3 ⟨⟨A', ca', rfl, hr3, hy3⟩, hT3⟩
  have hT03 := hT2.trans hT3 (fun _ _ h => h)
  refine hK1 _ _ ⟨HSS.out _ hT03, ?_⟩
  clear hT2 hT3 hK1
  refine wpTr_e (by simp only [List.getElem?_toArray, List.getElem?_cons_zero, List.getElem?_cons_succ]; rfl) (fun K2 hK2 => ?_)
  have H3 := Lib.hid (And.intro hT03 hr3)
  have HY3 := Lib.hid hy3
  clear hT03 hr3 hy3
  go_wp2_with fail
  refine (clone_any _ B cb t.length t rfl HX.out.2.2.1.nil HX.out.2.2.1.len (HX.out.2.2.1.touch H3.out.1).row).mono ?_
  rintro e w4 ⟨⟨B', cb', rfl, hr4, hy4⟩, hT4⟩
  have hT04 := H3.out.1.trans hT4 (fun _ _ h => h)
  refine hK2 _ _ ⟨HSS.out _ hT04, ?_⟩
  have H4 := Lib.hid (And.intro hT04 (And.intro hr4 hT4))
  have HY4 := Lib.hid hy4
  clear hT04 hr4 hT4 hK2 hy4
  repeat (refine wpTr_q (by simp only [List.getElem?_toArray, List.getElem?_cons_zero, List.getElem?_cons_succ]; rfl) ?_; (first | go_big_quiet_skip | (go_big_quiet_want; go_big_quiet_op; go_big_quiet_on)); refine wpQuiet_nil ?_)
  refine wpTr_e (by simp only [List.getElem?_toArray, List.getElem?_cons_zero, List.getElem?_cons_succ]; rfl) (fun K3' hK3 => ?_)
  have hk4 := H.out.1.touch H4.out.1
  have hmx : (L.map entL).length < maxLen := Nat.lt_of_le_of_lt (m := 1000) (by have := hk4.len; simpa using this) (by decide)
  refine wp_mapUpdate (.tmp 34) (.tmp 35) (.tmp 40) 53 rfl 3 57 K3 under53 hR m _ _ rfl hk4.mp hmx (.int .i64 n) (agg2 (hdHV ⟨A', ca', r, B', cb', t⟩).v2) (.int .i64 n) rfl rfl hkey (.held (hdHV ⟨A', ca', r, B', cb', t⟩)) [] (hR_mk _) (fun w5 hown5 hturn5 => ?_)
  have hT5 : Touch (fun b => b = m) w4 w5 := touch_turned hturn5
  have hT05 : Touch (fun b => b = m) w w5 := (H4.out.1.weaken (fun _ _ h => h.elim)).trans hT5 (fun _ _ h => h)
  rw [put_L L (n, ⟨A', ca', r, B', cb', t⟩) HX.out.1] at hown5
  have hmp5 := Mp.of hown5
  have hd4 : HdOk w4 ⟨A', ca', r, B', cb', t⟩ := ⟨HX.out.2.1.small, HX.out.2.2.1.small, HX.out.2.1.len, HX.out.2.2.1.len, H3.out.2.touch0 H4.out.2.2, H4.out.2.1⟩
  have hy5 : HdT w5 ⟨A', ca', r, B', cb', t⟩ := HdT.touch (w := w4) ⟨fun a ha => by obtain ⟨cs, hb⟩ := HY3.out a ha; exact ⟨cs, hb.touch H4.out.2.2 (fun h => h)⟩, HY4.out⟩ hT5 (fun b cs hb e => by
    obtain ⟨es, clock, hb', _⟩ := hk4.mp
    unfold Blk at hb
    rw [e, hb'] at hb
    cases hb)
  have hk5 : Lk w5 k m (insL (n, ⟨A', ca', r, B', cb', t⟩) L) := hk4.map hT5 hmp5 (fun e he => by
    rcases (insL_mem _ L e).1 he with rfl | he
    · exact .inr ⟨hd4.map hk4.mp hT5, hy5⟩
    · exact .inl he) (by rw [insL_len]; have := HX.out.2.2.2; omega)
  have HF := Lib.hid (And.intro hk5 hT05)
  refine hK3 _ _ ⟨(HS.out _).2 hk5.blk, wpTr_nil ?_⟩
  clear hown5 hmp5 hd4 hk5 hT5 hT05 hturn5 hk4 hkey hh hmx
  go_wp2
  go_ret
  exact ⟨rfl, ⟨_, rfl, rfl, HF.out.1⟩, HF.out.2⟩
end Go.Proofs.Ytgoeocfgajbldaa
