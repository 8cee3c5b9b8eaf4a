/- bytes.Repeat of one byte; bits.Xor. -/
import Derived.Test.YtelmjlfhmbicjaaDoorL
import Derived.Lib.MakeNoZero
namespace Go.Proofs.YtelmjlfhmbicjaaDoor
open Go.RowKit
set_option linter.unusedVariables false

set_option maxHeartbeats 400000 in
theorem mul64_any (w : World) : Calls Tryd.prog 35 #[.int .u64 1, .int .u64 64] w fun e w' => e = .returned (.tuple #[.int .u64 0, .int .u64 64]) ∧ w' = w := by
  go_enter Tryd.func35, Tryd.ntmps35
  go_wp2
  go_ret2
  exact ⟨rfl, rfl⟩

set_option maxHeartbeats 400000 in
theorem mul_any (w : World) : Calls Tryd.prog 32 #[.int .u64 1, .int .u64 64] w fun e w' => e = .returned (.tuple #[.int .u64 0, .int .u64 64]) ∧ w' = w := by
  go_enter Tryd.func32, Tryd.ntmps32
  go_wp2_with fail
  refine (mul64_any _).mono ?_
  rintro e w1 ⟨rfl, rfl⟩
  go_wp2
  go_ret2
  exact ⟨rfl, rfl⟩

theorem raw_any (w : World) : ∃ (cs : Array Value) (w' : World), 64 ≤ cs.size ∧ (callFunc 33 #[.int .i64 64]).run Tryd.prog w = .ok (.value (.slice (some ⟨w.heap.size, 0, none⟩) 64 cs.size)) w' ∧ Blk w' w.heap.size 5 cs ∧ Touch (fun _ => False) w w' ∧ cs.size ≤ maxLen := by
  obtain ⟨cs, hrun, hle, hmax⟩ := Lib.run_makeNoZero (P := Tryd.prog) w #[3] 23 5 (by kernel_rfl) 64 (by omega)
  refine ⟨cs, _, hle, ?_, Blk.new w.drew.drew _ _, ((Touch.refl _ w).drew.drew).alloc _, hmax (by unfold maxLen; omega)⟩
  rw [run_callFunc_extern Tryd.func33 (by kernel_rfl) (by kernel_rfl) (by kernel_rfl) (e := Extern.BytealgMakeNoZero.makeNoZero #[3] #[23]) (by kernel_rfl)]
  have hrun' : (Extern.BytealgMakeNoZero.makeNoZero #[3] #[23] #[.int .i64 64]).run Tryd.prog w = _ := hrun
  rw [hrun']
  rfl

/-- Cells are put over others. -/
def spl (cur : Array Value) (off : Nat) (cs : List Value) : Array Value := (cur.toList.take off ++ cs ++ cur.toList.drop (off + cs.length)).toArray
theorem spl_size {cur : Array Value} {off : Nat} {cs : List Value} (h : off + cs.length ≤ cur.size) : (spl cur off cs).size = cur.size := by
  simp [spl]; omega
theorem spl_lo {cur : Array Value} {off : Nat} {cs : List Value} {i : Nat} (h : i < off) (h2 : off ≤ cur.size) : (spl cur off cs)[i]? = cur[i]? := by
  simp only [spl, List.getElem?_toArray, List.append_assoc]
  rw [List.getElem?_append_left (by simp; omega), List.getElem?_take, if_pos h]
  simp
theorem spl_at {cur : Array Value} {off : Nat} {cs : List Value} {i : Nat} (h : i < cs.length) (h2 : off ≤ cur.size) : (spl cur off cs)[off + i]? = cs[i]? := by
  simp only [spl, List.getElem?_toArray, List.append_assoc]
  rw [List.getElem?_append_right (by simp; omega), List.getElem?_append_left (by simp; omega)]
  congr 1
  simp
  omega
theorem wp_copy_any {o : Oper} {a : Act} {w : World} {K : Act → World → Prop} {Q : Exit → Act → World → Prop} (d s : Operand) (ho : o.op = .call { callee := .builtin .copy, args := #[d, s], argTypes := #[23, 23] })
    (g off dLen dCap : Nat) (ad : Addr) (sLen sCap : Nat) (hd : a.eval d = .slice (some ⟨g, off, none⟩) dLen dCap) (hs : a.eval s = .slice (some ad) sLen sCap)
    (t : TypeId) (cur : Array Value) (cs : List Value) (hg : Blk w g t cur) (hn : cs.length = min sLen dLen) (hsrc : ∀ j u, cs[j]? = some u → w.cell? (ad.add j) = some u) (hfit : off + cs.length ≤ cur.size) (h1 : ∀ v ∈ cs, v.oneCell' = true)
    (h : K (a.put o.dst (goInt cs.length)) (w.setRow g (spl cur off cs))) : o.wp Tryd.prog a w K Q := by
  have hrun := run_copy_row (P := Tryd.prog) w 23 23 o.type 5 g off dLen dCap ad sLen sCap cur t cs (by kernel_rfl) (by kernel_rfl) hg hn hsrc hfit h1
  unfold Oper.wp
  simp [execOp, ho, resolve, invoke, builtin, hd, hs, hrun, Result.andThen]
  rw [← List.append_assoc]
  exact h

set_option maxHeartbeats 400000 in
theorem repeat_any (w : World) (g : Nat) (x : Int) (hb : Blk w g 5 #[.int .u8 x]) : Calls Tryd.prog 27 #[.slice (some ⟨g, 0, none⟩) 1 1, .int .i64 64] w fun e w' => e = .returned (.slice (some ⟨w.heap.size, 0, none⟩) 64 64) ∧ (∃ cur, Blk w' w.heap.size 5 cur ∧ ∀ i, i < 64 → cur[i]? = some (.int .u8 x)) ∧ Touch (fun _ => False) w w' := by
  obtain ⟨cs, w0, hcs, hraw, hb0, hT0, hmx⟩ := raw_any w
  have hg := hb.lt
  have hb' := hb.touch hT0 (by simp)
  have hcs' : (64 : Int) ≤ cs.size := by omega
  obtain ⟨w2, hw2⟩ : ∃ w2, w2 = w0.setRow w.heap.size (spl cs 0 [.int .u8 x]) := ⟨_, rfl⟩
  have hcp : (Builtin.copy_ #[23, 23] 3 #[.slice (some ⟨w.heap.size, 0, none⟩) 64 64, .slice (some ⟨g, 0, none⟩) 1 1]).run Tryd.prog w0 = .ok (.int .i64 1) w2 := by
    rw [hw2]
    exact run_copy_row (P := Tryd.prog) w0 23 23 3 5 w.heap.size 0 64 64 ⟨g, 0, none⟩ 1 1 cs 5 [.int .u8 x] (by kernel_rfl) (by kernel_rfl) hb0 rfl (fun j u hu => by
      have hj : j = 0 := by
        rcases Nat.eq_zero_or_pos j with h | h
        · exact h
        · rw [List.getElem?_eq_none (by simp; omega)] at hu; cases hu
      subst hj
      rw [Addr.add_mid, hb'.cell]
      exact hu) (by simp; omega) (by simp [Value.oneCell'])
  have hb2 : Blk w2 w.heap.size 5 (spl cs 0 [.int .u8 x]) := by rw [hw2]; exact hb0.row _
  have hT2 : Touch (fun _ => False) w w2 := by rw [hw2]; exact hT0.row (.inl (Nat.le_refl _)) _
  have hsz2 : (spl cs 0 [.int .u8 x]).size = cs.size := spl_size (by simp; omega)
  have hx0 : (spl cs 0 [.int .u8 x])[0]? = some (.int .u8 x) := spl_at (i := 0) (by simp) (by omega)
  have HB := Lib.hid (And.intro hb2 (And.intro hT2 (And.intro hsz2 (And.intro hx0 hcs))))
  clear hb' hb0 hT0 hb hcs hw2 hb2 hT2 hsz2 hx0
  go_enter Tryd.func27, Tryd.ntmps27
  go_wp2_with fail
  refine (mul_any _).mono ?_
  rintro e w1 ⟨rfl, rfl⟩
  go_wp2_with fail
  go_loopw [10] (fun i wr => ∃ (j : Nat) (cur : Array Value), 1 ≤ j ∧ j ≤ 64 ∧ i = .int .i64 j ∧ Blk wr w1.heap.size 5 cur ∧ 64 ≤ cur.size ∧ (∀ i, i < j → cur[i]? = some (.int .u8 x)) ∧ Touch (fun _ => False) w1 wr) (fun i _ => 64 - (intOf i).toNat)
  case atStart =>
    refine ⟨1, _, by omega, by omega, rfl, HB.out.1, by rw [HB.out.2.2.1]; exact HB.out.2.2.2.2, fun i hi => ?_, HB.out.2.1⟩
    obtain rfl : i = 0 := by omega
    exact HB.out.2.2.2.1
  case round =>
    obtain ⟨j, cur, h1, hj, rfl, hbk, hcur, hxs, hT⟩ := hrel
    by_cases hj64 : j < 64
    · have HX := Lib.hid hxs
      have HK := Lib.hid hbk
      have hmin : min (j : Int) 64 = j := by omega
      have hne : ¬ 64 = j := by omega
      have hne2 : ¬ j = 64 := by omega
      obtain ⟨S, HS⟩ : ∃ S : World → Prop, Hid (∀ w', S w') := ⟨fun _ => True, fun _ => trivial⟩
      obtain ⟨m, hm⟩ : ∃ m, m = min j (64 - j) := ⟨_, rfl⟩
      have hfit : j + (List.replicate m (Value.int .u8 x)).length ≤ cur.size := by simp; omega
      obtain ⟨wn, hwn⟩ : ∃ wn, wn = wr.drew.setRow w1.heap.size (spl cur j (List.replicate m (Value.int .u8 x))) := ⟨_, rfl⟩
      have hcp2 : (Builtin.copy_ #[23, 23] 3 #[.slice (some ⟨w1.heap.size, j, none⟩) (64 - j) (64 - j), .slice (some ⟨w1.heap.size, 0, none⟩) j 64]).run Tryd.prog wr.drew = .ok (.int .i64 m) wn := by
        rw [hwn]
        have := run_copy_row (P := Tryd.prog) wr.drew 23 23 3 5 w1.heap.size j (64 - j) (64 - j) ⟨w1.heap.size, 0, none⟩ j 64 cur 5 (List.replicate m (Value.int .u8 x)) (by kernel_rfl) (by kernel_rfl) hbk.drew (by simp [hm]) (fun i u hu => by
          have hi : i < m := by
            rcases Nat.lt_or_ge i m with h | h
            · exact h
            · rw [List.getElem?_eq_none (by simpa using h)] at hu; cases hu
          rw [Addr.add_mid, hbk.drew.cell, Nat.zero_add, hxs i (by omega), ← hu]
          simp [hi]) hfit (by simp [Value.oneCell'])
        rw [this]
        simp [goInt, spl]
      have hbn : Blk wn w1.heap.size 5 (spl cur j (List.replicate m (Value.int .u8 x))) := by rw [hwn]; exact hbk.drew.row _
      have hTn : Touch (fun b => b = w1.heap.size) wr wn := by rw [hwn]; exact ((Touch.refl (fun b => b = w1.heap.size) wr).drew).row (.inr rfl) _
      have HN := Lib.hid (And.intro hbn (And.intro hTn (And.intro hm hfit)))
      have hjm : j + m ≤ 64 := by omega
      have hm1 : 1 ≤ m := by omega
      clear hxs hbk hwn hbn hTn hm hfit
      go_wp2_with fail
      refine wp_region_gr S 9 [(0, false), (1, false), (2, false), (3, false), (4, false), (5, false), (6, false), (7, true), (8, false), (9, true)] (by kernel_rfl) (by kernel_rfl) (HS.out _) (fun hne => ?_)
      simp only [withOps, List.filterMap_cons, List.filterMap_nil, Option.map_some, List.getElem?_cons_zero, List.getElem?_cons_succ]
      repeat (refine wpGr_q ?_; (first | go_big_quiet_skip | (go_big_quiet_want; go_big_quiet_op; go_big_quiet_on)); refine wpQuiet_nil ?_)
      refine wpGr_eff rfl (fun K1 hK1 => ?_)
      go_wp2_with fail
      refine ⟨.inr (HS.out _), ?_⟩
      repeat (refine wpGr_q ?_; (first | go_big_quiet_skip | (go_big_quiet_want; go_big_quiet_op; go_big_quiet_on)); refine wpQuiet_nil ?_)
      refine wpGr_eff rfl (fun K2 hK2 => ?_)
      go_wp2_with fail
      refine wpGr_nil ?_
      obtain ⟨hbn, hTn, hm, hfit⟩ := HN.out
      have HM := Lib.hid hm
      clear hm
      go_wp2
      go_roundw
      case rel =>
        refine ⟨j + m, _, by omega, hjm, by go_num, hbn, by rw [spl_size hfit]; exact hcur, fun i hi => ?_, hT.trans hTn (by intro b hb e; omega)⟩
        by_cases hij : i < j
        · rw [spl_lo hij (by omega)]; exact HX.out i hij
        · have := spl_at (cur := cur) (off := j) (cs := List.replicate m (Value.int .u8 x)) (i := i - j) (by simp; omega) (by omega)
          rw [show j + (i - j) = i from by omega] at this
          rw [this, List.getElem?_replicate, if_pos (by omega)]
      case measure => simp [intOf]; omega
    · have hj' : j = 64 := by omega
      have HX := Lib.hid (And.intro hbk hxs)
      have hge : (64 : Int) ≤ j := by omega
      clear hbk hxs
      go_wp2
      go_ret
      exact ⟨rfl, ⟨cur, HX.out.1, fun i hi => HX.out.2 i (by omega)⟩, hT⟩
end Go.Proofs.YtelmjlfhmbicjaaDoor
