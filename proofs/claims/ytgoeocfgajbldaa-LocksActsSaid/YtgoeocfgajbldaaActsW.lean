/- LocksActs: the walk. (Printed by genActs.py.) -/
import Derived.Test.YtgoeocfgajbldaaAB
namespace Go.Proofs.Ytgoeocfgajbldaa
open Go.RowKit
set_option linter.unusedVariables false
set_option linter.unusedSimpArgs false

/-- What holds between two acts: the locks and the document's holds are alike. -/
structure TA (w0 w : World) (k m : Nat) (A0 B0 : Option Addr) (acts : List Ac) (s : List SI) (L : List LE) (l : List RH) (A : Option Addr) (c i : Nat) : Prop where
  lk : Lk w k m L
  cor : Cor L l
  row3 : Rw3 w A c l
  ok : RhsOk w l
  len : l.length ≤ i
  row4 : Row4 w A0 acts
  row2 : Row2 w B0 (s.map siV2)
  tch : Touch (fun _ => False) w0 w
  i60 : i ≤ 61
theorem TA.touch {w0 w w' : World} {k m : Nat} {A0 B0 : Option Addr} {acts : List Ac} {s : List SI} {L : List LE} {l : List RH} {A : Option Addr} {c i : Nat} (h : TA w0 w k m A0 B0 acts s L l A c i) (ht : Touch (fun _ => False) w w') : TA w0 w' k m A0 B0 acts s L l A c i :=
  ⟨h.lk.touch ht, h.cor, h.row3.touch ht (fun _ _ h => h), h.ok.touch ht, h.len, h.row4.touch ht, h.row2.touch0 ht, h.tch.trans ht (fun _ _ h => h), h.i60⟩

theorem Cor.takeL {L L2 : List LE} {l : List RH} {h : RH} (hc : Cor L l) (hl : Rise l) (ht : TakeL L h.n (h.r.map toSp) (h.t.map toSp) L2) : Cor L2 (takeRL l h) := by
  have e := hc.take hl h
  rcases ht with ⟨h0, hd, h1, h2, rfl⟩ | ⟨h0, rfl⟩
  · rw [e] at h0
    have hn : (l.any fun y => y.n == h.n) = false := by
      rw [← thereR_any hl]
      cases hb : thereR l h.n with
      | false => rfl
      | true => unfold takeRN at h0; rw [hb] at h0; cases h0
    unfold takeRL
    rw [if_pos h0]
    exact cor_ins h1 h2 hc hn
  · rw [e] at h0
    unfold takeRL
    rw [if_neg h0]
    exact hc
theorem takeRL_len (l : List RH) (h : RH) : (takeRL l h).length ≤ l.length + 1 := by
  unfold takeRL
  split
  · rw [List.length_append, List.length_append, List.length_take, List.length_drop]
    simp
    omega
  · omega
theorem RhsOk.takeRL {w : World} {l : List RH} {h : RH} (hl : RhsOk w l) (hh : RhOk w h ∧ smallI h.r = true ∧ smallI h.t = true) : RhsOk w (takeRL l h) := fun x hx => by
  unfold Go.Proofs.Ytgoeocfgajbldaa.takeRL at hx
  split at hx
  · rcases List.mem_append.1 hx with hx | hx
    · rcases List.mem_append.1 hx with hx | hx
      · exact hl x (List.mem_of_mem_take hx)
      · simp at hx; rw [hx]; exact hh
    · exact hl x (List.mem_of_mem_drop hx)
  · exact hl x hx

theorem take_nil (w : World) : Calls Try.prog 9 #[.pointer none, .int .i64 1, .slice none 0 0, .slice none 0 0] w fun e w' => e = .returned (.int .i64 1) ∧ Touch (fun _ => False) w w' := by
  go_enter Try.func9, Try.ntmps9
  go_wp2
  go_ret
  exact ⟨rfl, Touch.refl _ _⟩
theorem free_nil (w : World) : Calls Try.prog 11 #[.pointer none, .int .i64 1] w fun e w' => e = .returned (.int .i64 15) ∧ Touch (fun _ => False) w w' := by
  go_enter Try.func11, Try.ntmps11
  go_wp2
  go_ret
  exact ⟨rfl, Touch.refl _ _⟩
theorem busy_nil (w : World) (A : Option Addr) (n c : Nat) : Calls Try.prog 10 #[.pointer none, .slice A n c, .bool true] w fun e w' => e = .returned (.bool false) ∧ Touch (fun _ => False) w w' := by
  go_enter Try.func10, Try.ntmps10
  go_wp2
  go_ret
  exact ⟨rfl, ((Touch.refl _ _).alloc _).alloc _⟩
theorem held_nil (w : World) : Calls Try.prog 17 #[.pointer none] w fun e w' => e = .returned (.slice none 0 0) ∧ Touch (fun _ => False) w w' := by
  go_enter Try.func17, Try.ntmps17
  go_wp2
  go_ret
  exact ⟨rfl, Touch.refl _ _⟩

set_option maxRecDepth 20000 in
set_option maxHeartbeats 4000000 in
theorem acts_walk (w : World) (A0 B0 : Option Addr) (ca cb n : Nat) (acts : List Ac) (s : List SI) (hn : acts.length = n) (hr : Row4 w A0 acts) (rs : Row2 w B0 (s.map siV2)) :
    Calls Try.prog 4 #[.slice A0 n ca, .slice B0 s.length cb] w fun e w' => e = .returned (.bool true) ∧ Touch (fun _ => False) w w' := by
  have hlt := light_any w A0 ca n acts hn hr
  have hsl := small_any w B0 cb s.length s rfl rs
  obtain ⟨x1, hx1⟩ : ∃ x, x = lightI acts := ⟨_, rfl⟩
  obtain ⟨x2, hx2⟩ : ∃ x, x = smallI s := ⟨_, rfl⟩
  rw [← hx1] at hlt
  rw [← hx2] at hsl
  have H := Lib.hid (And.intro hn (And.intro hr (And.intro rs (And.intro hlt hsl))))
  have HX := Lib.hid (And.intro hx1 hx2)
  clear hn hr rs hlt hsl hx1 hx2
  go_enter Try.func4, Try.ntmps4
  go_wp2_with fail
  refine H.out.2.2.2.1.mono ?_
  rintro e w' ⟨rfl, hw⟩
  obtain rfl := hw.symm
  cases x1 with
  | false =>
    go_wp2_with fail
    go_ret
    exact ⟨rfl, Touch.refl _ _⟩
  | true =>
    go_wp2_with fail
    refine H.out.2.2.2.2.mono ?_
    rintro e w' ⟨rfl, hw⟩
    obtain rfl := hw.symm
    cases x2 with
    | false =>
      go_wp2_with fail
      go_ret
      exact ⟨rfl, Touch.refl _ _⟩
    | true =>
      have hli : lightI acts = true := HX.out.1.symm
      unfold lightI at hli
      rw [Bool.and_eq_true, decide_eq_true_eq, List.all_eq_true] at hli
      have hn60 : n ≤ 60 := by rw [← H.out.1]; exact hli.1
      have hsm := Lib.hid HX.out.2.symm
      have HLI := Lib.hid hli.2
      clear hli
      go_wp2_with fail
      refine (new_any _).mono ?_
      rintro e w1 ⟨k, m, rfl, hk, hT1, hm⟩
      have HM := Lib.hid hm
      have HB := Lib.hid (TA.mk hk (show Cor [] [] from rfl) (Rw3.nil w1) (fun h hh => by cases hh) (Nat.le_refl 0) (H.out.2.1.touch hT1) (H.out.2.2.1.touch0 hT1) hT1 (by omega : 0 ≤ 61))
      clear hk hT1 hm
      go_wp2_with fail
      go_loopw [7, 6] (fun u v wr => ∃ (i : Nat) (L : List LE) (l : List RH) (A : Option Addr) (c : Nat), i ≤ n ∧ u = .int .i64 i ∧ v = .slice A l.length c ∧ TA w wr k m A0 B0 acts s L l A c i) (fun u _ _ => n - (intOf u).toNat)
      case atStart => exact ⟨0, [], [], none, 0, by omega, rfl, rfl, HB.out⟩
      case round =>
        obtain ⟨i, L, l, A, c, hi, rfl, rfl, hta⟩ := hrel
        have HT := Lib.hid hta
        clear hta
        by_cases hin : i < n
        · have hin' : (i : Int) < n := by omega
          obtain ⟨⟨fr, h⟩, hx⟩ : ∃ x, acts[i]? = some x := ⟨_, List.getElem?_eq_getElem (by rw [H.out.1]; exact hin)⟩
          obtain ⟨⟨g, off, rfl, c0, c1, c2, c3⟩, ho⟩ := HT.out.row4 i _ hx
          have hsh := HLI.out _ (List.mem_of_getElem? hx)
          rw [Bool.and_eq_true] at hsh
          dsimp only at c0 c1 c2 c3 ho hsh
          have HH := Lib.hid (And.intro ho hsh)
          clear hx ho hsh
          go_upto_region 9 with fail
          obtain ⟨W1, hW1⟩ : ∃ W1, W1 = wr.alloc (.cells #[.int .i64 h.n, .slice h.A h.r.length h.ca, .slice h.B h.t.length h.cb] 40) := ⟨_, rfl⟩
          obtain ⟨p, hp⟩ : ∃ p, p = wr.heap.size := ⟨_, rfl⟩
          rw [← hW1, ← hp]
          have hTW : Touch (fun _ => False) wr W1 := by rw [hW1]; exact (Touch.refl _ _).alloc _
          have hbx : Blk W1 p 40 h.cells := by rw [hW1, hp]; exact Blk.new _ _ _
          have HX1 := Lib.hid (And.intro (HT.out.touch hTW) (And.intro hbx (HH.out.1.touch hTW (fun _ _ h => h))))
          have e0 : W1.cell? ⟨p, 0, none⟩ = some (.int .i64 h.n) := hbx.cell 0
          have d0 := hTW.cell c0 (fun h => h)
          clear hW1 hp hTW hbx c0 c1 c2 c3
          cases fr with
          | true =>
            have hcf := HX1.out.1.cor.free (n := h.n) (HX1.out.1.cor.rise HX1.out.1.lk.rise)
            have hfr := free_any W1 k m L h.n HX1.out.1.lk HX1.out.2.2.wf
            rw [hcf.2] at hfr
            obtain ⟨vn, hvn⟩ : ∃ v, v = freeRN l h.n := ⟨_, rfl⟩
            rw [← hvn] at hfr
            have HCF := Lib.hid (And.intro hcf.1 hvn)
            clear hvn hcf
            go_wp2_with fail
            refine hfr.mono ?_
            rintro e w4 ⟨rfl, hk4, hT4⟩
            have hll : l.length ≤ 1000 := by have := HX1.out.1.len; have := HX1.out.1.i60; omega
            have hb4 := HX1.out.2.1.touch hT4 (HX1.out.2.1.ne_map HX1.out.1.lk.mp)
            have f0 : w4.cell? ⟨p, 0, none⟩ = some (.int .i64 h.n) := hb4.cell 0
            have hfR := freeR_any w4 A c l.length l h.n (HX1.out.1.row3.map HX1.out.1.lk.mp hT4) rfl hll
            rw [← HCF.out.2] at hfR
            have H4 := Lib.hid (And.intro hk4 hT4)
            clear hk4 hT4 hb4 hfr e0 d0
            go_wp2_with fail
            refine hfR.mono ?_
            rintro e u ⟨⟨A2, c2, rfl, hr5, _⟩, hT5⟩
            obtain ⟨L2, hL2⟩ : ∃ L2, L2 = freeL L h.n := ⟨_, rfl⟩
            obtain ⟨l2, hl2e⟩ : ∃ l2, l2 = freeRL l h.n := ⟨_, rfl⟩
            have hTw : Touch (fun _ => False) w w4 := HX1.out.1.tch.trans H4.out.2 (fun x hx hh => by have := HM.out; omega)
            have hU : TA w u k m (some ⟨g, off, none⟩) B0 acts s L2 l2 A2 c2 (i + 1) := by
              rw [hL2, hl2e]
              exact ⟨H4.out.1.touch hT5, HCF.out.1, hr5, (fun x hx => (HX1.out.1.ok.map HX1.out.1.lk.mp H4.out.2).touch hT5 x (List.mem_of_mem_eraseP hx)), Nat.le_trans (List.length_eraseP_le ..) (by have := HX1.out.1.len; omega),
                (HX1.out.1.row4.map HX1.out.1.lk.mp H4.out.2).touch hT5, (HX1.out.1.row2.touch H4.out.2 (fun a ha hn _ => HX1.out.1.lk.mp.row_ne HX1.out.1.row2 hn a ha)).touch0 hT5, hTw.trans hT5 (fun _ _ h => h), by omega⟩
            rw [← hl2e] at hr5 ⊢
            have HU := Lib.hid hU
            have hvv : ((vn : Int) != (vn : Int)) = false := by simp
            clear hU hTw hT5 hr5 hL2 hl2e hfR f0
            have hheld := held_any _ k m L2 HU.out.lk
            rw [HU.out.cor.len, HU.out.cor.nums] at hheld
            go_wp2_with fail
            refine hheld.mono ?_
            rintro e v1 ⟨⟨Ah, ch, rfl, hrh, _⟩, hV1⟩
            have H1 := Lib.hid (And.intro (HU.out.touch hV1) hrh)
            have hl2 : l2.length ≤ 1000 := by have := HU.out.len; omega
            clear hheld hrh hV1
            go_wp2_with fail
            refine (spansI_any _ B0 cb s.length s rfl hsm.out H1.out.1.row2).mono ?_
            rintro e v2 ⟨⟨B2, cb2, rfl, hs2⟩, hV2⟩
            have H2 := Lib.hid (And.intro (H1.out.1.touch hV2) (And.intro hs2 hV2))
            clear hs2 hV2
            go_wp2_with fail
            have hbz := busy_any v2 k m L2 B2 cb2 (s.map toSp) true H2.out.1.lk H2.out.2.1.small H2.out.2.1.len H2.out.2.1.row
            rw [List.length_map, H2.out.1.cor.busy] at hbz
            refine hbz.mono ?_
            rintro e v3 ⟨rfl, hV3⟩
            have H3 := Lib.hid (And.intro (H2.out.1.touch hV3) hV3)
            clear hbz hV3
            go_wp2_with fail
            refine (busyR_any _ A2 B0 c2 cb l2.length s.length l2 s true H3.out.1.row3 rfl hl2 H3.out.1.ok rfl hsm.out H3.out.1.row2).mono ?_
            rintro e v4 ⟨rfl, hV4⟩
            have H4 := Lib.hid (And.intro (H3.out.1.touch hV4) hV4)
            clear hV4
            obtain ⟨y1, hy1⟩ : ∃ y, y = busyI l2 s true := ⟨_, rfl⟩
            rw [← hy1]
            clear hy1
            have hyy1 : (y1 != y1) = false := by simp
            go_wp2_with fail
            refine (spansI_any _ B0 cb s.length s rfl hsm.out H4.out.1.row2).mono ?_
            rintro e v5 ⟨⟨B5, cb5, rfl, hs5⟩, hV5⟩
            have H5 := Lib.hid (And.intro (H4.out.1.touch hV5) (And.intro hs5 hV5))
            clear hs5 hV5
            go_wp2_with fail
            have hbz := busy_any v5 k m L2 B5 cb5 (s.map toSp) false H5.out.1.lk H5.out.2.1.small H5.out.2.1.len H5.out.2.1.row
            rw [List.length_map, H5.out.1.cor.busy] at hbz
            refine hbz.mono ?_
            rintro e v6 ⟨rfl, hV6⟩
            have H6 := Lib.hid (And.intro (H5.out.1.touch hV6) hV6)
            clear hbz hV6
            go_wp2_with fail
            refine (busyR_any _ A2 B0 c2 cb l2.length s.length l2 s false H6.out.1.row3 rfl hl2 H6.out.1.ok rfl hsm.out H6.out.1.row2).mono ?_
            rintro e v7 ⟨rfl, hV7⟩
            have hTh : Touch (fun _ => False) v1 v7 := ((((H2.out.2.2.trans H3.out.2 (fun _ _ h => h)).trans H4.out.2 (fun _ _ h => h)).trans H5.out.2.2 (fun _ _ h => h)).trans H6.out.2 (fun _ _ h => h)).trans hV7 (fun _ _ h => h)
            have H7 := Lib.hid (And.intro (H6.out.1.touch hV7) (H1.out.2.touch hTh (fun _ _ h => h)))
            clear hV7 hTh
            obtain ⟨y2, hy2⟩ : ∃ y, y = busyI l2 s false := ⟨_, rfl⟩
            rw [← hy2]
            clear hy2
            have hyy2 : (y2 != y2) = false := by simp
            go_wp2_with fail
            go_loopw [12] (fun u w' => ∃ j : Nat, j ≤ l2.length ∧ u = .int .i64 j ∧ Touch (fun _ => False) v7 w') (fun u _ => l2.length - (intOf u).toNat)
            case atStart => exact ⟨0, by omega, rfl, Touch.refl _ _⟩
            case round =>
              obtain ⟨j, hj, rfl, hTj⟩ := hrel
              have HJ := Lib.hid (And.intro (H7.out.1.touch hTj) (H7.out.2.touch hTj (fun _ _ h => h)))
              have HTJ := Lib.hid hTj
              clear hTj
              by_cases hjl : j < l2.length
              · have hjl' : (j : Int) < l2.length := by omega
                obtain ⟨y, hy⟩ : ∃ y, l2[j]? = some y := ⟨_, List.getElem?_eq_getElem hjl⟩
                obtain ⟨g2, hg2, d0, _, _⟩ := HJ.out.1.row3.cell hy
                obtain ⟨g3, hg3, d1⟩ := HJ.out.2 j y.n (by rw [List.getElem?_map, hy]; rfl)
                subst hg2 hg3
                have hyn : (y.n != y.n) = false := by simp
                clear hy
                go_wp2_with fail
                refine wp_region_qall (by kernel_rfl) (by kernel_rfl) ?_
                repeat (first | go_big_quiet_skip | (go_big_quiet_want; go_big_quiet_op; go_big_quiet_on))
                refine wpQuiet_nil ?_
                go_wp2_with fail
                go_roundw
                case rel => exact ⟨j + 1, by omega, by go_num, HTJ.out.drew⟩
                case measure => simp [intOf]; omega
              · have hjl' : ¬ (j : Int) < l2.length := by omega
                go_wp2_with fail
                go_roundw
                case rel => exact ⟨i + 1, L2, l2, A2, c2, by omega, by go_num, rfl, HJ.out.1⟩
                case measure => simp [intOf]; omega
          | false =>
            go_wp2_with fail
            obtain ⟨S, HS⟩ : ∃ S : World → Prop, Hid (∀ w', S w' ↔ Blk w' p 40 h.cells) := ⟨_, fun _ => Iff.rfl⟩
            refine wp_region_tr S (.q 0 (.q 1 (.q 2 (.q 3 (.q 4 (.q 6 (.q 7 (.e 5 (.e 8 (.e 9 (.e 10 .nil))))))))))) (by kernel_rfl) (by kernel_rfl) ((HS.out _).2 HX1.out.2.1) (fun hne => ?_)
            have z0 : ∀ x : SW S, x.w.cell? ⟨p, 0, none⟩ = some (.int .i64 h.n) := fun x => ((HS.out _).1 x.ok).cell 0
            have z1 : ∀ x : SW S, x.w.cell? ⟨p, 1, none⟩ = some (.slice h.A h.r.length h.ca) := fun x => ((HS.out _).1 x.ok).cell 1
            have z2 : ∀ x : SW S, x.w.cell? ⟨p, 2, none⟩ = some (.slice h.B h.t.length h.cb) := fun x => ((HS.out _).1 x.ok).cell 2
            repeat (refine wpTr_q (by simp only [List.getElem?_toArray, List.getElem?_cons_zero, List.getElem?_cons_succ]; rfl) ?_; (first | go_big_quiet_skip | (go_big_quiet_want; go_big_quiet_op; go_big_quiet_on)); refine wpQuiet_nil ?_)
            clear z0 z1 z2 e0 d0
            have hD : Touch (fun _ => False) W1 W1.drew := (Touch.refl _ _).drew
            refine wpTr_e (by simp only [List.getElem?_toArray, List.getElem?_cons_zero, List.getElem?_cons_succ]; rfl) (fun K1 hK1 => ?_)
            go_wp2_with fail
            refine (spansI_any _ h.A h.ca h.r.length h.r rfl HH.out.2.1 (HX1.out.2.2.row.touch0 hD)).mono ?_
            rintro e v1 ⟨⟨A1, c1, rfl, hs1⟩, hV1⟩
            have hV := hD.trans hV1 (fun _ _ h => h)
            have hF1 := HX1.out.2.1.touch hV (fun h => h)
            refine hK1 _ _ ⟨(HS.out _).2 hF1, ?_⟩
            have HV1 := Lib.hid (And.intro hV hs1)
            clear hV1 hV hF1 hs1 hK1 hD
            refine wpTr_e (by simp only [List.getElem?_toArray, List.getElem?_cons_zero, List.getElem?_cons_succ]; rfl) (fun K2 hK2 => ?_)
            go_wp2_with fail
            refine (spansI_any _ h.B h.cb h.t.length h.t rfl HH.out.2.2 (HX1.out.2.2.row2.touch0 HV1.out.1)).mono ?_
            rintro e v2 ⟨⟨A3, c3, rfl, hs2⟩, hV2⟩
            have hV := HV1.out.1.trans hV2 (fun _ _ h => h)
            have hF2 := HX1.out.2.1.touch hV (fun h => h)
            refine hK2 _ _ ⟨(HS.out _).2 hF2, ?_⟩
            have HV2 := Lib.hid (And.intro hV (And.intro hs2 (And.intro (HV1.out.2.touch hV2) (And.intro (HX1.out.1.touch hV) hF2))))
            clear hV2 hV hF2 hs2 hK2
            have hri := HX1.out.1.cor.rise HX1.out.1.lk.rise
            have hll : l.length ≤ 1000 := by have := HX1.out.1.len; have := HX1.out.1.i60; omega
            have htk := take_any v2 k m L h.n A1 A3 c1 c3 _ _ (h.r.map toSp) (h.t.map toSp) HV2.out.2.2.2.1.lk HV2.out.2.2.1 HV2.out.2.1 rfl rfl HX1.out.2.2.wf (by have := HX1.out.1.cor.len; have := HX1.out.1.len; have := HX1.out.1.i60; omega)
            rw [HX1.out.1.cor.take hri h, List.length_map, List.length_map] at htk
            obtain ⟨vn, hvn⟩ : ∃ v, v = takeRN l h := ⟨_, rfl⟩
            rw [← hvn] at htk
            have HCF := Lib.hid (And.intro hri hvn)
            clear hvn hri
            refine wpTr_e (by simp only [List.getElem?_toArray, List.getElem?_cons_zero, List.getElem?_cons_succ]; rfl) (fun K3 hK3 => ?_)
            go_wp2_with fail
            refine htk.mono ?_
            rintro e w4 ⟨rfl, ⟨L2, hL2, hk4⟩, hT4⟩
            have hb4 := HV2.out.2.2.2.2.touch hT4 (HV2.out.2.2.2.2.ne_map HV2.out.2.2.2.1.lk.mp)
            refine hK3 _ _ ⟨(HS.out _).2 hb4, ?_⟩
            clear hK3 htk
            refine wpTr_e (by simp only [List.getElem?_toArray, List.getElem?_cons_zero, List.getElem?_cons_succ]; rfl) (fun K4 hK4 => ?_)
            go_wp2_with fail
            try refine ⟨(HS.out _).2 hb4, wpTr_nil ?_⟩
            try clear hK4
            have f0 : w4.cell? ⟨p, 0, none⟩ = some (.int .i64 h.n) := hb4.cell 0
            have f1 : w4.cell? ⟨p, 1, none⟩ = some (.slice h.A h.r.length h.ca) := hb4.cell 1
            have f2 : w4.cell? ⟨p, 2, none⟩ = some (.slice h.B h.t.length h.cb) := hb4.cell 2
            have hmp2 := HV2.out.2.2.2.1.lk.mp
            have hh4 := (HX1.out.2.2.touch HV2.out.1 (fun _ _ h => h)).map hmp2 hT4
            have hfR := takeR_any w4 A c l.length l h (HV2.out.2.2.2.1.row3.map hmp2 hT4) rfl hll (HV2.out.2.2.2.1.ok.map hmp2 hT4) hh4 HH.out.2.1 HH.out.2.2
            rw [← HCF.out.2] at hfR
            unfold RH.cells at hfR
            have H4 := Lib.hid (And.intro hk4 (And.intro hT4 (And.intro hL2 hh4)))
            clear hk4 hT4 hb4 hL2 hh4
            go_wp2_with fail
            refine hfR.mono ?_
            rintro e u ⟨⟨A2, c2, rfl, hr5, _⟩, hT5⟩
            obtain ⟨l2, hl2e⟩ : ∃ l2, l2 = takeRL l h := ⟨_, rfl⟩
            have hTw : Touch (fun _ => False) w w4 := HV2.out.2.2.2.1.tch.trans H4.out.2.1 (fun x hx hh => by have := HM.out; omega)
            have hU : TA w u k m (some ⟨g, off, none⟩) B0 acts s L2 l2 A2 c2 (i + 1) := by
              rw [hl2e]
              exact ⟨H4.out.1.touch hT5, HX1.out.1.cor.takeL HCF.out.1 H4.out.2.2.1, hr5, ((HV2.out.2.2.2.1.ok.map hmp2 H4.out.2.1).takeRL ⟨H4.out.2.2.2, HH.out.2⟩).touch hT5, Nat.le_trans (takeRL_len l h) (by have := HX1.out.1.len; omega),
                (HV2.out.2.2.2.1.row4.map hmp2 H4.out.2.1).touch hT5, (HV2.out.2.2.2.1.row2.touch H4.out.2.1 (fun a ha hn _ => hmp2.row_ne HV2.out.2.2.2.1.row2 hn a ha)).touch0 hT5, hTw.trans hT5 (fun _ _ h => h), by omega⟩
            rw [← hl2e] at hr5 ⊢
            have HU := Lib.hid hU
            have hvv : ((vn : Int) != (vn : Int)) = false := by simp
            clear hU hTw hT5 hr5 hl2e hfR f0 f1 f2 hmp2
            have hheld := held_any _ k m L2 HU.out.lk
            rw [HU.out.cor.len, HU.out.cor.nums] at hheld
            go_wp2_with fail
            refine hheld.mono ?_
            rintro e v1 ⟨⟨Ah, ch, rfl, hrh, _⟩, hV1⟩
            have H1 := Lib.hid (And.intro (HU.out.touch hV1) hrh)
            have hl2 : l2.length ≤ 1000 := by have := HU.out.len; omega
            clear hheld hrh hV1
            go_wp2_with fail
            refine (spansI_any _ B0 cb s.length s rfl hsm.out H1.out.1.row2).mono ?_
            rintro e v2 ⟨⟨B2, cb2, rfl, hs2⟩, hV2⟩
            have H2 := Lib.hid (And.intro (H1.out.1.touch hV2) (And.intro hs2 hV2))
            clear hs2 hV2
            go_wp2_with fail
            have hbz := busy_any v2 k m L2 B2 cb2 (s.map toSp) true H2.out.1.lk H2.out.2.1.small H2.out.2.1.len H2.out.2.1.row
            rw [List.length_map, H2.out.1.cor.busy] at hbz
            refine hbz.mono ?_
            rintro e v3 ⟨rfl, hV3⟩
            have H3 := Lib.hid (And.intro (H2.out.1.touch hV3) hV3)
            clear hbz hV3
            go_wp2_with fail
            refine (busyR_any _ A2 B0 c2 cb l2.length s.length l2 s true H3.out.1.row3 rfl hl2 H3.out.1.ok rfl hsm.out H3.out.1.row2).mono ?_
            rintro e v4 ⟨rfl, hV4⟩
            have H4 := Lib.hid (And.intro (H3.out.1.touch hV4) hV4)
            clear hV4
            obtain ⟨y1, hy1⟩ : ∃ y, y = busyI l2 s true := ⟨_, rfl⟩
            rw [← hy1]
            clear hy1
            have hyy1 : (y1 != y1) = false := by simp
            go_wp2_with fail
            refine (spansI_any _ B0 cb s.length s rfl hsm.out H4.out.1.row2).mono ?_
            rintro e v5 ⟨⟨B5, cb5, rfl, hs5⟩, hV5⟩
            have H5 := Lib.hid (And.intro (H4.out.1.touch hV5) (And.intro hs5 hV5))
            clear hs5 hV5
            go_wp2_with fail
            have hbz := busy_any v5 k m L2 B5 cb5 (s.map toSp) false H5.out.1.lk H5.out.2.1.small H5.out.2.1.len H5.out.2.1.row
            rw [List.length_map, H5.out.1.cor.busy] at hbz
            refine hbz.mono ?_
            rintro e v6 ⟨rfl, hV6⟩
            have H6 := Lib.hid (And.intro (H5.out.1.touch hV6) hV6)
            clear hbz hV6
            go_wp2_with fail
            refine (busyR_any _ A2 B0 c2 cb l2.length s.length l2 s false H6.out.1.row3 rfl hl2 H6.out.1.ok rfl hsm.out H6.out.1.row2).mono ?_
            rintro e v7 ⟨rfl, hV7⟩
            have hTh : Touch (fun _ => False) v1 v7 := ((((H2.out.2.2.trans H3.out.2 (fun _ _ h => h)).trans H4.out.2 (fun _ _ h => h)).trans H5.out.2.2 (fun _ _ h => h)).trans H6.out.2 (fun _ _ h => h)).trans hV7 (fun _ _ h => h)
            have H7 := Lib.hid (And.intro (H6.out.1.touch hV7) (H1.out.2.touch hTh (fun _ _ h => h)))
            clear hV7 hTh
            obtain ⟨y2, hy2⟩ : ∃ y, y = busyI l2 s false := ⟨_, rfl⟩
            rw [← hy2]
            clear hy2
            have hyy2 : (y2 != y2) = false := by simp
            go_wp2_with fail
            go_loopw [12] (fun u w' => ∃ j : Nat, j ≤ l2.length ∧ u = .int .i64 j ∧ Touch (fun _ => False) v7 w') (fun u _ => l2.length - (intOf u).toNat)
            case atStart => exact ⟨0, by omega, rfl, Touch.refl _ _⟩
            case round =>
              obtain ⟨j, hj, rfl, hTj⟩ := hrel
              have HJ := Lib.hid (And.intro (H7.out.1.touch hTj) (H7.out.2.touch hTj (fun _ _ h => h)))
              have HTJ := Lib.hid hTj
              clear hTj
              by_cases hjl : j < l2.length
              · have hjl' : (j : Int) < l2.length := by omega
                obtain ⟨y, hy⟩ : ∃ y, l2[j]? = some y := ⟨_, List.getElem?_eq_getElem hjl⟩
                obtain ⟨g2, hg2, d0, _, _⟩ := HJ.out.1.row3.cell hy
                obtain ⟨g3, hg3, d1⟩ := HJ.out.2 j y.n (by rw [List.getElem?_map, hy]; rfl)
                subst hg2 hg3
                have hyn : (y.n != y.n) = false := by simp
                clear hy
                go_wp2_with fail
                refine wp_region_qall (by kernel_rfl) (by kernel_rfl) ?_
                repeat (first | go_big_quiet_skip | (go_big_quiet_want; go_big_quiet_op; go_big_quiet_on))
                refine wpQuiet_nil ?_
                go_wp2_with fail
                go_roundw
                case rel => exact ⟨j + 1, by omega, by go_num, HTJ.out.drew⟩
                case measure => simp [intOf]; omega
              · have hjl' : ¬ (j : Int) < l2.length := by omega
                go_wp2_with fail
                go_roundw
                case rel => exact ⟨i + 1, L2, l2, A2, c2, by omega, by go_num, rfl, HJ.out.1⟩
                case measure => simp [intOf]; omega
        · have hin' : ¬ (i : Int) < n := by omega
          go_wp2_with fail
          refine (take_nil _).mono ?_
          rintro e v1 ⟨rfl, hV1⟩
          have H1 := Lib.hid (HT.out.touch hV1)
          clear hV1
          go_wp2_with fail
          refine (free_nil _).mono ?_
          rintro e v2 ⟨rfl, hV2⟩
          have H2 := Lib.hid (H1.out.touch hV2)
          clear hV2
          go_wp2_with fail
          refine (spansI_any _ B0 cb s.length s rfl hsm.out H2.out.row2).mono ?_
          rintro e v3 ⟨⟨B2, cb2, rfl, hs2⟩, hV3⟩
          have H3 := Lib.hid (H2.out.touch hV3)
          clear hV3 hs2
          go_wp2_with fail
          refine (busy_nil _ _ _ _).mono ?_
          rintro e v4 ⟨rfl, hV4⟩
          have H4 := Lib.hid (H3.out.touch hV4)
          clear hV4
          go_wp2_with fail
          refine (held_nil _).mono ?_
          rintro e v5 ⟨rfl, hV5⟩
          have H5 := Lib.hid (H4.out.touch hV5)
          clear hV5
          go_wp2_with fail
          refine (awake_any _).mono ?_
          rintro e v6 ⟨rfl, hV6⟩
          have H6 := Lib.hid (H5.out.tch.trans hV6 (fun _ _ h => h))
          clear hV6
          go_wp2_with fail
          go_ret
          exact ⟨rfl, H6.out⟩
end Go.Proofs.Ytgoeocfgajbldaa
