/- sha: Out. -/
import Derived.Test.YtelmjlfhmbicjaaDoorH
namespace Go.Proofs.YtelmjlfhmbicjaaDoor
open Go.RowKit
set_option linter.unusedVariables false

theorem ix33 (W : World) (cs : Array Value) (j : Nat) (u : Value) (hj : j < 8) (h : cs[j]? = some u) : (Instr.index 33 (.agg cs) (.int .i64 j)).run Tryd.prog W = .ok u W := by
  have h33 : Tryd.prog.underlying 33 = some (.array 8 32) := by kernel_rfl
  have hn : (0 : Int) ≤ j ∧ (j : Int) < 8 := by omega
  simp [Instr.index, run_underlying h33, asIntOf, hn, go_sem, hj, h]

theorem size5 (W : World) : (sizeOf 5).run Tryd.prog W = .ok 1 W := by
  have : (Tryd.prog.info? 5).map (·.size) = some 1 := by kernel_rfl
  cases hq : Tryd.prog.info? 5 with
  | none => simp [hq] at this
  | some i => simp [hq] at this; simp [sizeOf, typeInfo, hq, this, Sem.run_bind]

theorem sl27 (W : World) (g l : Nat) (h1 : l < 32) : (Instr.sliceAt 27 (.pointer (some ⟨g, 0, none⟩)) (some (.int .i64 l)) none none).run Tryd.prog W = .ok (.slice (some ⟨g, l, none⟩) (32 - l) (32 - l)) W := by
  have hl : Tryd.prog.arrayLen 27 = 32 := by kernel_rfl
  have he : Tryd.prog.elem 27 = 5 := by kernel_rfl
  rw [run_sliceAt_array_l W 27 ⟨g, 0, none⟩ (by kernel_rfl) .i64 l (by omega) (by rw [hl]; omega), he, size5, hl]
  simp only [Result.andThen_ok, slicedAt]
  have e2 : (l : Int).toNat = l := by omega
  rw [e2, if_neg (by omega), Addr.add_mid]
  simp

/-- Bytes are put over others. -/
def copyF (ys : List Int) (off : Nat) (bs : List Int) : List Int := ys.take off ++ (bs ++ ys.drop (off + bs.length))
theorem copyF_len (ys : List Int) (off : Nat) (bs : List Int) (h : off + bs.length ≤ ys.length) : (copyF ys off bs).length = ys.length := by
  simp [copyF]; omega
theorem U8A_copy (ys : List Int) (off : Nat) (bs : List Int) : ((U8A ys).toList.take off ++ ((bs.map (Value.int .u8)) ++ (U8A ys).toList.drop (off + (bs.map (Value.int .u8)).length))).toArray = U8A (copyF ys off bs) := by
  simp [U8A, copyF, List.map_take, List.map_drop]

/-- The builtin, as the walk meets it. -/
theorem wp_copy_u8 {o : Oper} {a : Act} {w : World} {K : Act → World → Prop} {Q : Exit → Act → World → Prop} (d s : Operand) (ho : o.op = .call { callee := .builtin .copy, args := #[d, s], argTypes := #[23, 23] })
    (g off dLen dCap : Nat) (ad : Addr) (sLen sCap : Nat) (hd : a.eval d = .slice (some ⟨g, off, none⟩) dLen dCap) (hs : a.eval s = .slice (some ad) sLen sCap)
    (t : TypeId) (ys bs : List Int) (hg : Blk w g t (U8A ys)) (hn : bs.length = Nat.min sLen dLen) (hsrc : ∀ j u, (bs.map (Value.int .u8))[j]? = some u → w.cell? (ad.add j) = some u) (hfit : off + bs.length ≤ ys.length)
    (h : K (a.put o.dst (goInt bs.length)) (w.setRow g (U8A (copyF ys off bs)))) : o.wp Tryd.prog a w K Q := by
  have hrun := run_copy_row (P := Tryd.prog) w 23 23 o.type 5 g off dLen dCap ad sLen sCap (U8A ys) t (bs.map (Value.int .u8)) (by kernel_rfl) (by kernel_rfl) hg (by simpa using hn) hsrc (by rw [U8A_size]; simpa using hfit) (fun v hv => by
    simp at hv
    obtain ⟨x, _, rfl⟩ := hv
    rfl)
  rw [List.append_assoc, U8A_copy] at hrun
  unfold Oper.wp
  simp [execOp, ho, resolve, invoke, builtin, hd, hs, hrun, Result.andThen]
  exact h

def outS (hs : List Int) (i : Nat) (ys : List Int) : List Int := copyF ys (4 * i) (beL (IntKind.u64.wrap (hs.getD i 0)) 4)
/-- A state as bytes. -/
def outF (hs : List Int) : List Int := iter (outS hs) 8 (List.replicate 32 0)
theorem outS_iter (hs : List Int) : ∀ j, j ≤ 8 → (iter (outS hs) j (List.replicate 32 0)).length = 32
  | 0, _ => by simp [iter]
  | j + 1, hj => by
    have ih := outS_iter hs j (by omega)
    rw [iter, outS, copyF_len _ _ _ (by rw [beL_len]; omega)]
    exact ih

set_option maxHeartbeats 800000 in
set_option maxRecDepth 100000 in
theorem out_any (w : World) (hs : List Int) (hh : hs.length = 8) :
    Calls Tryd.prog 12 #[.agg (U32A hs)] w fun e w' => e = .returned (.agg (U8A (outF hs))) ∧ Touch (fun _ => False) w w' := by
  have HH := Lib.hid hh
  have hi33 : (Tryd.prog.info? 33).map (·.size) = some (U32A hs).size := by rw [U32A_size, hh]; kernel_rfl
  have HI := Lib.hid hi33
  clear hi33 hh
  go_enter Tryd.func12, Tryd.ntmps12
  go_upto_region 2 with (fail)
  generalize hw1 : World.alloc (World.alloc (World.alloc w _) _) _ = w1
  have hT1 : Touch (fun _ => False) w w1 := by rw [← hw1]; exact (((Touch.refl _ w).alloc _).alloc _).alloc _
  have hh1 : Blk w1 w.heap.size 33 (U32A hs) := by rw [← hw1]; exact ((Blk.new _ _ _).alloc _).alloc _
  have hr1 : Blk w1 (w.heap.size + 1) 27 (U8A (List.replicate 32 0)) := by
    rw [← hw1]
    have := (Blk.new (w.alloc (.cells (U32A hs) 33)) 27 (U8A (List.replicate 32 0))).alloc (.cells (U8A (List.replicate 32 0)) 27)
    rw [World.size_alloc] at this
    exact this
  have hv1 : Blk w1 (w.heap.size + 2) 27 (U8A (List.replicate 32 0)) := by
    rw [← hw1]
    have := Blk.new ((w.alloc (.cells (U32A hs) 33)).alloc (.cells (U8A (List.replicate 32 0)) 27)) 27 (U8A (List.replicate 32 0))
    rw [World.size_alloc, World.size_alloc] at this
    exact this
  clear hw1
  go_wp2_with (refine wpList_load_row rfl 33 (.tmp 1) rfl w.heap.size rfl 33 (U32A hs) (0, 0) (.array 8 32) hh1 (by kernel_rfl) rfl HI.out ?_)
  go_loopw [7] (fun i wr => ∃ j : Nat, j ≤ 8 ∧ i = .int .i64 j ∧ Blk wr (w.heap.size + 2) 27 (U8A (iter (outS hs) j (List.replicate 32 0))) ∧ Touch (fun b => b = w.heap.size + 2) w1 wr) (fun i _ => 8 - (intOf i).toNat)
  case atStart => exact ⟨0, by omega, rfl, hv1, Touch.refl _ _⟩
  case round =>
    obtain ⟨j, hj, rfl, hv, hT⟩ := hrel
    by_cases hj8 : j < 8
    · have hix := ix33 wr (U32A hs) j _ hj8 (U32A_get (by rw [HH.out]; exact hj8))
      obtain ⟨x, hx⟩ : ∃ x, x = hs.getD j 0 := ⟨_, rfl⟩
      rw [← hx] at hix
      have hl := outS_iter hs j (by omega)
      obtain ⟨ys, hys⟩ : ∃ ys, ys = iter (outS hs) j (List.replicate 32 0) := ⟨_, rfl⟩
      rw [← hys] at hl hv
      have HX := Lib.hid (And.intro hx (And.intro hys hl))
      clear hx hys hl
      go_wp2_with fail
      obtain ⟨S, HS⟩ : ∃ S : World → Prop, Hid (∀ w', S w') := ⟨fun _ => True, fun _ => trivial⟩
      refine wp_region_gr S 6 [(0, false), (1, false), (2, false), (3, false), (4, false), (5, true), (6, true)] (by kernel_rfl) (by kernel_rfl) (HS.out _) (fun hne => ?_)
      have hsl : ∀ x : SW S, (Instr.sliceAt 27 (.pointer (some ⟨w.heap.size + 1 + 1, 0, none⟩)) (some (.int .i64 (4 * (j : Int)))) none none).run Tryd.prog x.w = .ok (.slice (some ⟨w.heap.size + 1 + 1, 4 * j, none⟩) (32 - 4 * j) (32 - 4 * j)) x.w := fun x => by
        have := sl27 x.w (w.heap.size + 1 + 1) (4 * j) (by omega)
        rw [show ((4 * j : Nat) : Int) = 4 * (j : Int) from by omega] at this
        exact this
      simp only [withOps, List.filterMap_cons, List.filterMap_nil, Option.map_some, List.getElem?_cons_zero, List.getElem?_cons_succ]
      repeat (refine wpGr_q ?_; (first | go_big_quiet_skip | (go_big_quiet_want; go_big_quiet_op; go_big_quiet_on)); refine wpQuiet_nil ?_)
      refine wpGr_eff rfl (fun K1 hK1 => ?_)
      go_wp2_with fail
      refine (big_put _ _ 4 (by omega) (by omega)).mono ?_
      rintro e w3 ⟨rfl, hb3, hT3⟩
      have hT03 : Touch (fun _ => False) wr w3 := ((Touch.refl _ wr).drew).trans hT3 (by simp)
      have hv3 := hv.touch hT03 (by simp)
      refine hK1 _ _ ⟨.inr (HS.out _), ?_⟩
      refine wpGr_eff rfl (fun K2 hK2 => ?_)
      obtain ⟨bs, hbs⟩ : ∃ bs, bs = beL (IntKind.u64.wrap x) 4 := ⟨_, rfl⟩
      have hbl : bs.length = 4 := by rw [hbs, beL_len]
      rw [← hbs] at hb3
      have HBS := Lib.hid hbs
      clear hbs
      refine wp_copy_u8 (.tmp 13) (.tmp 16) rfl (w.heap.size + 1 + 1) (4 * j) (32 - 4 * j) (32 - 4 * j) ⟨wr.drew.heap.size + 1, 0, none⟩ 4 4 rfl rfl 27 ys bs hv3 (by rw [hbl]; show 4 = min 4 (32 - 4 * j); omega) (fun i u hu => ?_) (by rw [hbl, HX.out.2.2]; omega) ?_
      · have hi : i < bs.length := by
          rcases Nat.lt_or_ge i bs.length with h | h
          · exact h
          · rw [List.getElem?_eq_none (by simpa using h)] at hu; cases hu
        rw [Addr.add_mid, hb3.cell, Nat.zero_add, U8A_get hi, ← hu, u8_get bs i hi]
      · refine hK2 _ _ ⟨.inl rfl, wpGr_nil ?_⟩
        go_wp2
        go_roundw
        case rel =>
          refine ⟨j + 1, by omega, by go_num, ?_, (hT.trans hT03 (by simp)).row (.inr rfl) _⟩
          have := hv3.row (U8A (copyF ys (4 * j) bs))
          have e : copyF ys (4 * j) bs = iter (outS hs) (j + 1) (List.replicate 32 0) := by rw [iter, ← HX.out.2.1, outS, ← HX.out.1, HBS.out]
          rw [e] at this ⊢
          exact this
        case measure => simp [intOf]; omega
    · have hj' : j = 8 := by omega
      rw [hj'] at hv
      have hb : Blk wr (w.heap.size + 1 + 1) 27 (U8A (outF hs)) := hv
      have hr5 := hr1.touch hT (by omega)
      have hl : (outF hs).length = 32 := outS_iter hs 8 (by omega)
      have hi : (Tryd.prog.info? 27).map (·.size) = some (U8A (outF hs)).size := by rw [U8A_size, hl]; kernel_rfl
      have hsz : (U8A (List.replicate 32 0)).size = (U8A (outF hs)).size := by rw [U8A_size, U8A_size, hl]; rfl
      have HI2 := Lib.hid (And.intro hi hsz)
      clear hj' hi hsz hv hl
      go_wp2_with (first | (refine wpList_load_row rfl 27 (.tmp 3) rfl (w.heap.size + 1 + 1) rfl 27 (U8A (outF hs)) (0, 0) (.array 32 5) hb (by kernel_rfl) rfl HI2.out.1 ?_) | (refine wpList_store_row rfl 27 (.tmp 2) (.tmp 19) rfl (w.heap.size + 1) (U8A (outF hs)) rfl rfl 27 _ hr5 HI2.out.1 HI2.out.2 (U8A_one _) ?_))
      refine bodyPost_ret (v := .agg (U8A (outF hs))) (results_cell_row (P := Tryd.prog) rfl _ _ (w.heap.size + 1) 27 _ (0, 0) (.array 32 5) rfl (hr5.row _) (by kernel_rfl) rfl HI2.out.1) rfl ⟨rfl, ?_⟩
      exact (hT1.trans hT (by intro b hb e; omega)).row (.inl (by omega)) _
end Go.Proofs.YtelmjlfhmbicjaaDoor
