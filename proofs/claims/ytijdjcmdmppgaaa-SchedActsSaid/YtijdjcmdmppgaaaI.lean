/- slices.Delete of one. -/
import Derived.Test.YtijdjcmdmppgaaaH
namespace Go.Proofs.Ytijdjcmdmppgaaa
open Go.RowKit
set_option linter.unusedVariables false

/-- An append for which there is room. -/
theorem wp_append_room {o : Oper} {a : Act} {w : World} {K : Act → World → Prop} {Q : Exit → Act → World → Prop} (hgd : o.guard = none) (s x : Operand) (ho : o.op = .call { callee := .builtin .append, args := #[s, x], argTypes := #[67, 67] })
    (g i cap : Nat) (hs : a.eval s = .slice (some ⟨g, 0, none⟩) i cap) (xv : Value) (hx : a.eval x = xv) (m : Nat) (ys : List Value) (hsrc : Src Try.prog 1 67 xv m ys w) (cur : Array Value) (hb : Blk w g 68 cur) (hr : i + m ≤ cap) (hc : cap ≤ cur.size)
    (hK : K (a.put o.dst (.slice (some ⟨g, 0, none⟩) (i + m) cap)) (w.setCells g i ys)) : o.wp Try.prog a w K Q := by
  obtain ⟨i0, hi, hz0, hz1, hz2⟩ := info_parts elem67.info
  have hn : ys.length = m := by have := hsrc.newsLen; simpa using this
  have hrun := run_append_room_src (P := Try.prog) w 67 67 o.type 68 i0 elem67.under hi g 0 i cap xv m ys (by rw [hz1]; exact hsrc) hr
    (fun j hj => by rw [hb.cell, hz1, Array.getElem?_eq_getElem (by omega)]; rfl) (fun j _ => hb.frozen _)
  rw [hz1, Nat.mul_one, Nat.zero_add] at hrun
  unfold Oper.wp
  simp [execOp, ho, resolve, invoke, builtin, hs, hx, hrun, Result.andThen]
  exact hK

/-- 'clear' of one place. -/
theorem run_clear1 (w : World) (g i c : Nat) (ty : TypeId) (cur : Array Value) (hb : Blk w g 68 cur) (hi : i < cur.size) :
    (Builtin.clear_ #[67] ty #[.slice (some ⟨g, i, none⟩) 1 c]).run Try.prog w = .ok (.tuple #[]) (w.setCells g i [.pointer none]) :=
  Lib.run_clear_slice (P := Try.prog) w 67 68 ty (.pointer none) elem67.under (fun w => by kernel_rfl) rfl rfl g i 1 c (by omega)
    (fun j hj => by rw [hb.cell, Array.getElem?_eq_getElem (by omega)]; rfl) (fun j _ => hb.frozen _)

theorem del_cells (cur : Array Value) (vs : List Value) (i n : Nat) (hn : vs.length = n) (hi : i < n) (hs : n ≤ cur.size) (hx : ∀ j, j < vs.length → cur[j]? = vs[j]?) :
    ∀ j, j < (vs.eraseIdx i).length → (setL (setL cur i (vs.drop (i + 1))) (n - 1) [.pointer none])[j]? = (vs.eraseIdx i)[j]? := by
  intro j hj
  have hl : (vs.eraseIdx i).length = n - 1 := by rw [List.length_eraseIdx]; split <;> omega
  rw [setL_lo _ _ _ _ (by omega), List.getElem?_eraseIdx]
  by_cases hji : j < i
  · rw [if_pos hji, setL_lo _ _ _ _ hji]
    exact hx j (by omega)
  · rw [if_neg hji]
    have := setL_at (vs.drop (i + 1)) i cur (j - i) (by simp; omega) (by simp; omega)
    rw [show i + (j - i) = j from by omega] at this
    rw [this, List.getElem?_drop]
    congr 1; omega

theorem del_end (w : World) (g cap n : Nat) (vs : List Value) (i : Nat) (cur : Array Value) (hn : vs.length = n) (hi : i < n) (hcn : n ≤ cap) (hcap : cap ≤ 9223372036854775807) (hsz : cap ≤ cur.size) (hx : ∀ j, j < vs.length → cur[j]? = vs[j]?) (hb : Blk w g 68 cur) :
    Rw ((w.drew.setCells g i (vs.drop (i + 1))).setCells g (n - 1) [.pointer none]) 68 (some ⟨g, 0, none⟩) cap (vs.eraseIdx i) ∧ Touch (fun b => ∃ a, some (⟨g, 0, none⟩ : Addr) = some a ∧ a.block = b) w ((w.drew.setCells g i (vs.drop (i + 1))).setCells g (n - 1) [.pointer none]) := by
  have hl : (vs.eraseIdx i).length = n - 1 := by rw [List.length_eraseIdx]; split <;> omega
  refine ⟨.inr ⟨g, _, rfl, ((hb.drew).setCells _ _ _ |>.setCells _ _ _), by omega, hcap, by rw [setL_size, setL_size]; exact hsz, del_cells cur vs i n hn hi (by omega) hx⟩, ?_⟩
  exact ((Touch.refl _ w).drew.setCells (.inr ⟨_, rfl, rfl⟩) _ _ _).setCells (.inr ⟨_, rfl, rfl⟩) _ _ _

theorem del_any (w : World) (A : Option Addr) (cap m : Nat) (vs : List Value) (i : Nat) (hn : vs.length = m + 1) (hi : i ≤ m) (hr : Rw w 68 A cap vs) (h1 : ∀ u ∈ vs, u.oneCell' = true) (hle : m ≤ 100000) :
    Calls Try.prog 27 #[.slice A (m + 1) cap, .int .i64 i, .int .i64 ((i : Int) + 1)] w fun e w' => e = .returned (.slice A m cap) ∧ Rw w' 68 A cap (vs.eraseIdx i) ∧ Touch (fun b => ∃ a, A = some a ∧ a.block = b) w w' := by
  rcases hr with ⟨_, _, h0⟩ | ⟨g, cur, rfl, hb, hlen, hcap, hsz, hx⟩
  · rw [h0] at hn; simp at hn
  have hcn : m + 1 ≤ cap := by omega
  have hE := del_end w g cap (m + 1) vs i cur hn (by omega) hcn hcap hsz hx hb
  have e1 : (((i : Int) + 1 == (i : Int)) = false) := by rw [beq_eq_false_iff_ne]; omega
  have e2 : ((i : Int) == (i : Int) + 1) = false := by rw [beq_eq_false_iff_ne]; omega
  have hin : (i : Int) + 1 ≤ (m + 1 : Nat) := by omega
  have hb3 := (hb.drew).setCells (vs.drop (i + 1)) i
  have hs3 : (setL cur i (vs.drop (i + 1))).size = cur.size := setL_size _ _ _
  have HN := Lib.hid (And.intro hn hx)
  have HB := Lib.hid hb
  have H1 := Lib.hid h1
  have hclr : ∀ (c : Nat) (ty : TypeId), (Builtin.clear_ #[67] ty #[.slice (some ⟨g, m, none⟩) 1 c]).run Try.prog (w.drew.setCells g i (vs.drop (i + 1))) = .ok (.tuple #[]) ((w.drew.setCells g i (vs.drop (i + 1))).setCells g m [.pointer none]) := fun c ty => run_clear1 _ g m c ty _ hb3 (by omega)
  obtain ⟨D, hD⟩ : ∃ D, D = vs.drop (i + 1) := ⟨_, rfl⟩
  rw [← hD] at hclr hE
  have HD := Lib.hid hD
  have HE := Lib.hid hE
  clear hn hx hb h1 hE hb3 hs3 hD
  go_enter Try.func27, Try.ntmps27
  go_wp2
  obtain ⟨R, HS⟩ : ∃ R : World → Prop, Hid (∀ w', R w') := ⟨fun _ => True, fun _ => trivial⟩
  by_cases hcc : cap = i + 1
  · obtain rfl : m = i := by omega
    subst hcc
    refine wp_region_gr R 7 [(0, false), (1, false), (2, false), (3, false), (4, false), (5, false), (6, true), (7, true)] (by kernel_rfl) (by kernel_rfl) (HS.out _) (fun hne => ?_)
    simp only [withOps, List.filterMap_cons, List.filterMap_nil, Option.map_some, List.getElem?_cons_zero, List.getElem?_cons_succ]
    repeat (refine wpGr_q ?_; (first | go_big_quiet_skip | (go_big_quiet_want; go_big_quiet_op; go_big_quiet_on)); refine wpQuiet_nil ?_)
    refine wpGr_eff rfl (fun K1 hK1 => ?_)
    have hdr : D = [] := by rw [HD.out]; exact List.drop_eq_nil_of_le (by rw [HN.out.1]; exact Nat.le_refl _)
    refine wp_append_room rfl (.tmp 22) (.tmp 25) rfl g m (m + 1) rfl _ rfl 0 D (by rw [hdr]; exact Src.ofSlice _ elem67.under ⟨g, 0, none⟩ 0 0 [] (by simp) (fun j u hu => by simp at hu) (fun u hu => by simp at hu)) cur HB.out.drew (Nat.le_succ m) hsz ?_
    clear hdr
    dsimp only [Act.put]
    simp only [List.setIfInBounds_toArray, List.set_cons_succ, List.set_cons_zero, Nat.add_zero]
    refine hK1 _ _ ⟨.inr (HS.out _), ?_⟩
    refine wpGr_eff rfl (fun K2 hK2 => ?_)
    go_wp2_with fail
    refine wpGr_nil ?_
    go_wp2
    go_ret
    exact ⟨rfl, HE.out⟩
  · refine wp_region_gr R 7 [(0, false), (1, false), (2, false), (3, false), (4, false), (5, false), (6, true), (7, true)] (by kernel_rfl) (by kernel_rfl) (HS.out _) (fun hne => ?_)
    simp only [withOps, List.filterMap_cons, List.filterMap_nil, Option.map_some, List.getElem?_cons_zero, List.getElem?_cons_succ]
    repeat (refine wpGr_q ?_; (first | go_big_quiet_skip | (go_big_quiet_want; go_big_quiet_op; go_big_quiet_on)); refine wpQuiet_nil ?_)
    refine wpGr_eff rfl (fun K1 hK1 => ?_)
    have hlenD : D.length = (m - i) * 1 := by have := HN.out.1; rw [HD.out]; simp; omega
    have hsrc : Src Try.prog 1 67 (.slice (some ⟨g, i + 1, none⟩) (m - i) (cap - (i + 1))) (m - i) D w.drew := by
      refine Src.ofSlice _ elem67.under ⟨g, i + 1, none⟩ _ _ D hlenD (fun j u hu => ?_) (fun u hu => H1.out u (List.mem_of_mem_drop (by rw [← HD.out]; exact hu)))
      rw [Addr.add_mid, HB.out.drew.cell]
      rw [HD.out, List.getElem?_drop] at hu
      have hlt : i + 1 + j < vs.length := by
        rcases Nat.lt_or_ge (i + 1 + j) vs.length with h | h
        · exact h
        · rw [List.getElem?_eq_none h] at hu; cases hu
      rw [HN.out.2 _ hlt, hu]
    clear hlenD
    refine wp_append_room rfl (.tmp 22) (.tmp 25) rfl g i cap rfl _ rfl (m - i) D hsrc cur HB.out.drew (by omega) hsz ?_
    clear hsrc
    have e3 : i + (m - i) = m := by omega
    rw [e3]
    clear e3
    dsimp only [Act.put]
    simp only [List.setIfInBounds_toArray, List.set_cons_succ, List.set_cons_zero]
    refine hK1 _ _ ⟨.inr (HS.out _), ?_⟩
    refine wpGr_eff rfl (fun K2 hK2 => ?_)
    go_wp2_with fail
    refine wpGr_nil ?_
    go_wp2
    go_ret
    exact ⟨rfl, HE.out⟩
end Go.Proofs.Ytijdjcmdmppgaaa
