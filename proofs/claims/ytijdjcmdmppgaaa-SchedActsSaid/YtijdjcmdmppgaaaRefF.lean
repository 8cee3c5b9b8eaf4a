/- 'same': is a queue the document's? -/
import Derived.Test.YtijdjcmdmppgaaaRefS
namespace Go.Proofs.Ytijdjcmdmppgaaa
open Go.RowKit
set_option linter.unusedVariables false

def idsC (x : Int) (l : List Jb) : List Int := (l.filter (fun j => decide (jcl j = x))).map (·.id)
theorem idsC_snoc (x : Int) (l : List Jb) (i : Nat) (y : Jb) (h : l[i]? = some y) : idsC x (l.take (i + 1)) = if jcl y = x then idsC x (l.take i) ++ [y.id] else idsC x (l.take i) := by
  rw [List.take_add_one, h]; unfold idsC; rw [List.filter_append]
  split <;> simp_all
theorem idsC_le (x : Int) (l : List Jb) : (idsC x l).length ≤ l.length := by unfold idsC; rw [List.length_map]; exact List.length_filter_le _ _
theorem idsC_in {C : Nat} {l : List Jb} {P : Nat → List Jb} (h : Fl C l P) {c : Nat} (hc : c < C) : idsC (c : Int) l = (P c).map (·.id) := by
  unfold idsC; rw [← h c hc]
  congr 2
  funext j
  unfold jcl isC
  simp
  omega
theorem idsC_out {C : Nat} {l : List Jb} (h : ∀ j ∈ l, j.client < C) {x : Int} (hx : x < 0 ∨ (C : Int) ≤ x) : idsC x l = [] := by
  unfold idsC
  rw [List.filter_eq_nil_iff.2 (fun j hj => ?_)]; · rfl
  have := h j hj
  simp only [decide_eq_true_eq]; unfold jcl; omega
theorem tot_len {C : Nat} {l : List Jb} {P : Nat → List Jb} (h : Fl C l P) (hcl : ∀ j ∈ l, j.client < C) : totP P C = l.length := by
  have key : ∀ c, c ≤ C → totP P c = (l.filter (fun j => decide (j.client < c))).length := by
    intro c
    induction c with
    | zero => intro _; rw [List.filter_eq_nil_iff.2 (fun j _ => by simp)]; rfl
    | succ c ih =>
      intro hc
      rw [totP, ih (by omega), ← h c (by omega)]
      have : ∀ l : List Jb, (l.filter (fun j => decide (j.client < c))).length + (l.filter (isC c)).length = (l.filter (fun j => decide (j.client < c + 1))).length := by
        intro l
        induction l with
        | nil => rfl
        | cons j l ih =>
          by_cases h1 : j.client < c
          · rw [List.filter_cons_of_pos (by simpa using h1), List.filter_cons_of_neg (by simp [isC]; omega), List.filter_cons_of_pos (by simp; omega)]; simp only [List.length_cons]; omega
          · by_cases h2 : j.client = c
            · rw [List.filter_cons_of_neg (by simpa using h1), List.filter_cons_of_pos (by simp [isC, h2]), List.filter_cons_of_pos (by simp; omega)]; simp only [List.length_cons]; omega
            · rw [List.filter_cons_of_neg (by simpa using h1), List.filter_cons_of_neg (by simp [isC, h2]), List.filter_cons_of_neg (by simp; omega)]; exact ih
      exact this l
  rw [key C (Nat.le_refl _), List.filter_eq_self.2 (fun j hj => by simpa using hcl j hj)]
theorem one_iv2 (xs : List Int) : ∀ u ∈ iv xs, u.oneCell' = true := by
  intro u hu
  obtain ⟨x, _, rfl⟩ := List.mem_map.1 hu
  rfl

set_option maxRecDepth 100000 in
set_option maxHeartbeats 4000000 in
theorem same_any (w : World) (S T : Nat → Prop) (q r C k bt nx M : Nat) (P : Nat → List Jb) (l : List Jb) (hq : Qm w S q C k bt nx M P) (hr : Rq w T r C k bt nx M l) (hF : Fl C l P) (hM : M ≤ 5000) :
    Calls Try.prog 23 #[.pointer (some ⟨q, 0, none⟩), .pointer (some ⟨r, 0, none⟩)] w fun e w' => e = .returned (.bool true) ∧ Touch (fun _ => False) w w' := by
  have hC2 := hq.nums.2.1
  obtain ⟨A, cap, hr⟩ := hr
  obtain ⟨n, hn⟩ : ∃ n, l.length = n := ⟨_, rfl⟩
  have hnM : n ≤ M := by have := hr.len; omega
  have y0 := hr.blk.cell 0
  have y1 := hr.blk.cell 1
  simp [hn] at y0 y1
  have HH := Lib.hid (And.intro hr (And.intro hq (And.intro hF hn)))
  have HY := Lib.hid (And.intro y0 y1)
  clear hr hq hF hn y0 y1
  go_enter Try.func23, Try.ntmps23
  go_wp2_with fail
  go_loopw [5] (fun u wr => ∃ j : Nat, j ≤ C + 2 ∧ u = .int .i64 ((j : Int) - 1) ∧ Touch (fun _ => False) w wr) (fun u _ => (C + 2) - (intOf u + 1).toNat)
  case atStart => exact ⟨0, by omega, rfl, Touch.refl _ _⟩
  case round =>
    obtain ⟨j, hj, rfl, hT⟩ := hrel
    have y0 := hT.cell HY.out.1 (fun h => h)
    have y1 := hT.cell HY.out.2 (fun h => h)
    obtain ⟨x, hx⟩ : ∃ x : Int, x = (j : Int) - 1 := ⟨_, rfl⟩
    rw [← hx]
    have HX := Lib.hid hx
    by_cases hjC : j < C + 2
    · have hxC : x ≤ (C : Int) := by omega
      have hx1 : -1 ≤ x := by omega
      clear hx
      go_wp2_with fail
      go_loopw [6, 7] (fun v u w2 => ∃ (i n6 : Nat) (A6 : Option Addr) (c6 : Nat), i ≤ n ∧ n6 ≤ i ∧ u = .int .i64 i ∧ v = .slice A6 n6 c6 ∧ Rw w2 3 A6 c6 (iv (idsC x (l.take i))) ∧ (idsC x (l.take i)).length = n6 ∧ (∀ a, A6 = some a → w.heap.size ≤ a.block) ∧ Touch (fun _ => False) w w2) (fun _ u _ => n - (intOf u).toNat)
      case atStart => exact ⟨0, 0, none, 0, by omega, by omega, rfl, rfl, Rw.nil _ _, rfl, (fun a ha => by cases ha), hT⟩
      case round =>
        obtain ⟨i, n6, A6, c6, hi, hn6, rfl, rfl, hR6, hl6, hf6, hT6⟩ := hrel
        obtain ⟨w2, rfl⟩ : ∃ w2 : World, w2 = wr := ⟨_, rfl⟩
        have z0 := hT6.cell HY.out.1 (fun h => h)
        have z1 := hT6.cell HY.out.2 (fun h => h)
        obtain ⟨xs, hxs⟩ : ∃ xs : List Int, xs = idsC x (l.take i) := ⟨_, rfl⟩
        rw [← hxs] at hR6 hl6
        have HR := Lib.hid (And.intro hR6 (And.intro (show (iv xs).length = n6 by unfold iv; rw [List.length_map, hl6]) (And.intro hf6 (And.intro hT6 (And.intro hxs hl6)))))
        clear hR6 hl6 hf6 hxs
        by_cases hin : i < n
        · obtain ⟨y, hy⟩ : ∃ y, l[i]? = some y := ⟨_, List.getElem?_eq_getElem (by rw [HH.out.2.2.2]; exact hin)⟩
          obtain ⟨g, rfl, c0, c1, c2, c3⟩ := (HH.out.1.touch hT6).row.cell hy
          obtain ⟨a, ha⟩ : ∃ a, a = y.id := ⟨_, rfl⟩
          obtain ⟨d, hd⟩ : ∃ d : Int, d = jcl y := ⟨_, rfl⟩
          rw [← ha] at c0
          rw [show ((y.client : Int)) = d from hd.symm] at c1
          have HYY := Lib.hid (And.intro hy (And.intro ha hd))
          clear hy ha hd c2 c3
          by_cases hdx : d = x
          · have e1 : (d == x) = true := by simpa using hdx
            have HD := Lib.hid hdx
            clear hdx
            go_wp2_with (at_builtin; refine wpList_rw_push elem38 rfl (.tmp 38) (.tmp 47) rfl A6 c6 n6 (iv xs) HR.out.2.1 rfl w2.heap.size (.int .i64 a) rfl ((Blk.new w2 3 #[.int .i64 a]).cell 0) rfl (HR.out.1.touch ((Touch.refl (fun _ => False) w2).alloc _) (fun _ _ h => h)) (one_iv2 _) (by omega) ?_; intro A8 c8 w8 hr8 hT8 hf8; have HR8 := Lib.hid (And.intro hr8 (And.intro hT8 hf8)); clear hr8 hT8 hf8)
            go_roundw
            case rel =>
              have hs := idsC_snoc x l i y HYY.out.1
              rw [if_pos (by rw [← HYY.out.2.2]; exact HD.out), ← HR.out.2.2.2.2.1, ← HYY.out.2.1] at hs
              refine ⟨i + 1, n6 + 1, A8, c8, by omega, by omega, by go_num, rfl, ?_, ?_, fun b hb => ?_, (hT6.alloc _).trans HR8.out.2.1 (fun b hb ⟨a', ha', e⟩ => by have := HR.out.2.2.1 a' ha'; omega)⟩
              · rw [hs]
                have := HR8.out.1
                simpa [iv] using this
              · rw [hs, List.length_append, HR.out.2.2.2.2.2]; rfl
              · rcases HR8.out.2.2 b hb with ⟨a0, h0, h1⟩ | h
                · rw [← h1]; exact HR.out.2.2.1 a0 h0
                · have := hT6.size
                  simp at h; omega
            case measure => simp [intOf]; omega
          · have e1 : (d == x) = false := by simpa using hdx
            have HD := Lib.hid hdx
            clear hdx
            go_wp2
            go_roundw
            case rel =>
              have hs := idsC_snoc x l i y HYY.out.1
              rw [if_neg (by rw [← HYY.out.2.2]; exact HD.out), ← HR.out.2.2.2.2.1] at hs
              exact ⟨i + 1, n6, A6, c6, by omega, by omega, by go_num, rfl, by rw [hs]; exact HR.out.1, by rw [hs]; exact HR.out.2.2.2.2.2, HR.out.2.2.1, HR.out.2.2.2.1⟩
            case measure => simp [intOf]; omega
        · have hin' : i = n := by omega
          subst hin'
          have htk : l.take i = l := List.take_of_length_le (by rw [HH.out.2.2.2]; exact Nat.le_refl _)
          have hxl : xs = idsC x l := by rw [← htk]; exact HR.out.2.2.2.2.1
          have HXL := Lib.hid hxl
          have hq2 := HH.out.2.1.touch hT6 (fun _ _ h => h)
          have HQ2 := Lib.hid hq2
          clear htk hxl hq2
          by_cases hx0 : 0 ≤ x ∧ x < (C : Int)
          · obtain ⟨c, rfl⟩ := Int.eq_ofNat_of_zero_le hx0.1
            have hcC : c < C := by omega
            have hP : (P c).map (·.id) = xs := by rw [HXL.out, idsC_in HH.out.2.2.1 hcC]
            have hPl : ((P c).map idJ).length = n6 := by rw [List.length_map, ← HR.out.2.2.2.2.2, ← hP, List.length_map]
            have HP := Lib.hid (And.intro hP hPl)
            clear hP hPl
            go_wp2_with fail
            refine (jobsP _ S q C k bt nx M c P HQ2.out (by omega) hcC).mono ?_
            rintro e w3 ⟨A8, c8, rfl, hR8, hF8, hT8⟩
            rw [HP.out.2]
            rw [iv_ids, HP.out.1] at hR8
            have HR8 := Lib.hid (And.intro hR8 (HR.out.1.touch hT8 (fun _ _ h => h)))
            clear hR8 hF8
            go_wp2_with fail
            refine (num_yes _ A8 A6 c8 c6 n6 xs HR.out.2.2.2.2.2 HR8.out.1 HR8.out.2 (by omega)).mono ?_
            rintro e w4 ⟨rfl, hT9⟩
            go_wp2
            go_roundw
            case rel => exact ⟨j + 1, by omega, by have := HX.out; rw [show (((j + 1 : Nat) : Int) - 1) = (c : Int) + 1 from by omega], (hT6.trans hT8 (fun _ _ h => h)).trans hT9 (fun _ _ h => h)⟩
            case measure => have := HX.out; simp [intOf]; omega
          · have hxs0 : xs = [] := by rw [HXL.out]; exact idsC_out HH.out.1.cl (by omega)
            have hn60 : n6 = 0 := by rw [← HR.out.2.2.2.2.2, hxs0]; rfl
            subst hn60
            have hRn := HR.out.1
            rw [hxs0] at hRn
            have HRN := Lib.hid hRn
            clear hxs0 hRn
            go_wp2_with fail
            refine (jobsP_none _ S q C k bt nx M x P HQ2.out (by omega)).mono ?_
            rintro e w3 ⟨rfl, rfl⟩
            go_wp2_with fail
            refine (num_yes _ none A6 0 c6 0 [] rfl (Rw.nil _ _) HRN.out (by omega)).mono ?_
            rintro e w4 ⟨rfl, hT9⟩
            go_wp2
            go_roundw
            case rel => exact ⟨j + 1, by omega, by have := HX.out; rw [show (((j + 1 : Nat) : Int) - 1) = x + 1 from by omega], hT6.trans hT9 (fun _ _ h => h)⟩
            case measure => have := HX.out; simp [intOf]; omega
    · have hxC : ¬ x ≤ (C : Int) := by omega
      clear hx
      go_wp2_with fail
      go_loopw [8] (fun u w2 => ∃ i : Nat, i ≤ n ∧ u = .int .i64 i ∧ Touch (fun _ => False) w w2) (fun u _ => n - (intOf u).toNat)
      case atStart => exact ⟨0, by omega, rfl, hT⟩
      case round =>
        obtain ⟨i, hi, rfl, hT6⟩ := hrel
        obtain ⟨w2, rfl⟩ : ∃ w2 : World, w2 = wr := ⟨_, rfl⟩
        have z0 := hT6.cell HY.out.1 (fun h => h)
        have HQ2 := Lib.hid (HH.out.2.1.touch hT6 (fun _ _ h => h))
        by_cases hin : i < n
        · obtain ⟨y, hy⟩ : ∃ y, l[i]? = some y := ⟨_, List.getElem?_eq_getElem (by rw [HH.out.2.2.2]; exact hin)⟩
          obtain ⟨g, rfl, c0, c1, c2, c3⟩ := (HH.out.1.touch hT6).row.cell hy
          have hyl := List.mem_of_getElem? hy
          have hyC := HH.out.1.cl y hyl
          obtain ⟨m, hm⟩ := List.getElem?_of_mem (show y ∈ P y.client by rw [← HH.out.2.2.1 y.client hyC]; exact List.mem_filter.2 ⟨hyl, by simp [isC]⟩)
          have hleft := leftP w2 S q C k bt nx M y.client m y P HQ2.out (by omega) hyC hm
          obtain ⟨a, ha⟩ : ∃ a, a = y.id := ⟨_, rfl⟩
          obtain ⟨b, hb⟩ : ∃ b, b = y.bytes := ⟨_, rfl⟩
          rw [← ha] at c0 hleft
          rw [← hb] at c3 hleft
          have HLF := Lib.hid hleft
          have HT6 := Lib.hid hT6
          clear hy c1 c2 hyl hyC hm hleft ha hb
          go_wp2_with fail
          refine HLF.out.mono ?_
          rintro e w3 ⟨rfl, hT7⟩
          have z0' := hT7.cell z0 (fun h => h)
          have c3' := hT7.cell c3 (fun h => h)
          clear z0 c0 c3
          go_wp2
          go_roundw
          case rel => exact ⟨i + 1, by omega, by go_num, HT6.out.trans hT7 (fun _ _ h => h)⟩
          case measure => simp [intOf]; omega
        · have htot : totP P C = n := by rw [tot_len HH.out.2.2.1 HH.out.1.cl, HH.out.2.2.2]
          have HTT := Lib.hid htot
          have hrl := (HH.out.1.touch hT6).blk.lt
          clear htot
          go_wp2
          obtain ⟨W, hW⟩ : ∃ W, W = w2.drew := ⟨_, rfl⟩
          have hTW : Touch (fun _ => False) w2 W := by rw [hW]; exact (Touch.refl _ w2).drew
          have z1 := hTW.cell z0 (fun h => h)
          have HZ := Lib.hid z1
          have HQ3 := Lib.hid (HQ2.out.touch hTW (fun _ _ h => h))
          obtain ⟨R, HS⟩ : ∃ R : World → Prop, Hid (∀ w', R w' ↔ w' = W) := ⟨_, fun _ => Iff.rfl⟩
          clear z0 z1 y0 y1
          refine wp_region_gr R 8 [(0, false), (2, false), (3, false), (4, false), (5, false), (6, false), (1, true), (7, false), (8, true)] (by kernel_rfl) (by kernel_rfl) ((HS.out _).2 hW.symm) (fun hne => ?_)
          rw [← hW]
          clear hW
          have s0 : ∀ x : SW R, x.w.cell? ⟨r, 0, none⟩ = some (.slice A n cap) := fun x => by rw [(HS.out _).1 x.ok]; exact HZ.out
          simp only [withOps, List.filterMap_cons, List.filterMap_nil, Option.map_some, List.getElem?_cons_zero, List.getElem?_cons_succ]
          repeat (refine wpGr_q ?_; (first | go_big_quiet_skip | (go_big_quiet_want; go_big_quiet_op; go_big_quiet_on)); refine wpQuiet_nil ?_)
          clear s0
          refine wpGr_eff rfl (fun K1 hK1 => ?_)
          go_wp2_with fail
          refine (lenP _ S q C k bt nx M P HQ3.out (by omega)).mono ?_
          rintro e w4 ⟨rfl, rfl⟩
          rw [HTT.out]
          refine hK1 _ _ ⟨.inr ((HS.out _).2 rfl), ?_⟩
          repeat (refine wpGr_q ?_; (first | go_big_quiet_skip | (go_big_quiet_want; go_big_quiet_op; go_big_quiet_on)); refine wpQuiet_nil ?_)
          refine wpGr_eff rfl (fun K2 hK2 => ?_)
          go_wp2_with fail
          refine wpGr_nil ?_
          go_wp2
          go_ret
          exact ⟨rfl, hT6.trans hTW (fun _ _ h => h)⟩
end Go.Proofs.Ytijdjcmdmppgaaa
