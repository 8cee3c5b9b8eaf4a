/- TopHmac's walk. -/
import Derived.Test.YtelmjlfhmbicjaaDoorS
namespace Go.Proofs.YtelmjlfhmbicjaaDoor
open Go.RowKit
set_option linter.unusedVariables false

/-- Two states, apart; nothing that was has changed. -/
def Two (K : List Int) (w : World) (wr : World) (s1 s2 : Nat) (xs ys : List Int) : Prop :=
  Sha K wr s1 xs xs.length ∧ Sha K wr s2 ys ys.length ∧ Touch (fun _ => False) w wr ∧ (∀ b, OwnS wr s1 b → w.heap.size ≤ b) ∧ (∀ b, OwnS wr s2 b → w.heap.size ≤ b) ∧ (∀ b, OwnS wr s1 b → ¬ OwnS wr s2 b)

/-- Into the one. -/
theorem two_fst {K : List Int} {w wr wt w' : World} {s1 s2 : Nat} {xs ys zs : List Int} (h : Two K w wr s1 s2 xs ys) (ht : Touch (fun _ => False) wr wt) (hs : Sha K w' s1 (xs ++ zs) (xs.length + zs.length)) (hT : Touch (OwnS wt s1) wt w') (hf : ∀ b, OwnS w' s1 b → OwnS wt s1 b ∨ wt.heap.size ≤ b) : Two K w w' s1 s2 (xs ++ zs) ys := by
  obtain ⟨h1, h2, h3, h4, h5, h6⟩ := h
  have o1 : ∀ b, OwnS wt s1 b → OwnS wr s1 b := fun b ho => OwnS.touch h1 ht (by simp) ho
  have o2 : ∀ b, OwnS wt s2 b → OwnS wr s2 b := fun b ho => OwnS.touch h2 ht (by simp) ho
  have h2t := h2.touch ht (by simp)
  have ho2 : ¬ OwnS wt s1 s2 := fun ho => h6 _ (o1 _ ho) (.inl rfl)
  have h2' := h2t.touch hT (fun b ho ho1 => h6 b (o1 b ho1) (o2 b ho))
  have hsz := ht.size
  have hw := h3.size
  refine ⟨by rw [List.length_append]; exact hs, h2', (h3.trans ht (by simp)).trans hT (fun b hb ho => by have := h4 b (o1 b ho); omega), fun b ho => ?_, fun b ho => h5 b (o2 b (OwnS.touch h2t hT ho2 ho)), fun b ho ho2' => ?_⟩
  · rcases hf b ho with h | h
    · exact h4 b (o1 b h)
    · omega
  · have q2 := OwnS.touch h2t hT ho2 ho2'
    rcases hf b ho with h | h
    · exact h6 b (o1 b h) (o2 b q2)
    · have := sha_own h2t q2; omega
theorem two_swap {K : List Int} {w wr : World} {s1 s2 : Nat} {xs ys : List Int} (h : Two K w wr s1 s2 xs ys) : Two K w wr s2 s1 ys xs := by
  obtain ⟨h1, h2, h3, h4, h5, h6⟩ := h
  exact ⟨h2, h1, h3, h5, h4, fun b ho ho' => h6 b ho' ho⟩

theorem write_two {K : List Int} {w wr wt : World} {s1 s2 : Nat} {xs ys zs : List Int} {B : Option Addr} {c : Nat} (h : Two K w wr s1 s2 xs ys) (ht : Touch (fun _ => False) wr wt) (hin : Inb wt B zs) (hB : ∀ a, B = some a → zs ≠ [] → ¬ OwnS wr s1 a.block) (hK : Tab K w) (hb : xs.length + zs.length ≤ 20000) :
    Calls Tryd.prog 5 #[.pointer (some ⟨s1, 0, none⟩), .slice B zs.length c] wt fun e w' => e = .returned (.tuple #[]) ∧ Two K w w' s1 s2 (xs ++ zs) ys := by
  have h1 := h.1
  have o1 : ∀ b, OwnS wt s1 b → OwnS wr s1 b := fun b ho => OwnS.touch h1 ht (by simp) ho
  have hpos := hK.1
  refine (write_any K wt s1 xs zs B c xs.length (h1.touch ht (by simp)) hin (fun a ha hz ho => hB a ha hz (o1 _ ho)) ((hK.touch h.2.2.1 (by simp)).touch ht (by simp)) (fun ho => by have := h.2.2.2.1 0 (o1 _ ho); omega) hb (by omega)).mono ?_
  rintro e w' ⟨he, h5, h6, h7⟩
  exact ⟨he, two_fst h ht h5 h6 h7⟩

theorem xorL_take (ks : List Int) (x : Int) (j : Nat) (hj : j < ks.length) : (xorL ks x).take (j + 1) = (xorL ks x).take j ++ [bits .xor .u8 (ks.getD j 0) x] := by
  rw [List.take_add_one]
  congr 1
  simp [xorL, List.getElem?_eq_getElem hj, List.getD]

set_option maxHeartbeats 800000 in
set_option maxRecDepth 100000 in
theorem top_walk (K : List Int) (w : World) (ks ys : List Int) (B : Option Addr) (c : Nat) (hk : ks.length = 64) (hs : Inb w B ys) (hK : Tab K w) (hy63 : ys.length ≤ 9223372036854775807) :
    Calls Tryd.prog 3 #[.agg (U8A ks), .slice B ys.length c] w fun e w' => e = .returned (.bool true) ∧ Below w.heap.size w w' := by
  by_cases h200 : ys.length ≤ 200
  · have HK := Lib.hid (And.intro hk (And.intro hs hK))
    have hpos : 0 < w.heap.size := hK.1
    clear hk hs hK
    go_enter Tryd.func3, Tryd.ntmps3
    go_upto_region 1 with (fail)
    generalize hw1 : World.alloc w _ = w1
    have hT1 : Touch (fun _ => False) w w1 := by rw [← hw1]; exact (Touch.refl _ w).alloc _
    have hb1 : Blk w1 w.heap.size 22 (U8A ks) := by rw [← hw1]; exact Blk.new _ _ _
    have hs1 : w1.heap.size = w.heap.size + 1 := by rw [← hw1]; simp
    have H1 := Lib.hid (And.intro hT1 (And.intro hb1 hs1))
    clear hw1 hT1 hb1 hs1
    go_wp2_with fail
    refine (new_any w1).mono ?_
    rintro e w2 ⟨s1, hsb1, rfl, hb2, hT2⟩
    go_wp2_with fail
    refine (new_any w2).mono ?_
    rintro e w3 ⟨s2, hsb2, rfl, hb3, hT3⟩
    have hs1lt := hb2.lt
    have hTwo : Two K w1 w3 s1 s2 [] [] := ⟨sha_new (hb2.touch hT3 (by simp)), sha_new hb3, hT2.trans hT3 (by simp), fun b ho => by have := own_new (hb2.touch hT3 (by simp)) ho; omega, fun b ho => by have := own_new hb3 ho; have := hT2.size; omega, fun b ho ho' => by have := own_new (hb2.touch hT3 (by simp)) ho; have := own_new hb3 ho'; omega⟩
    have HT := Lib.hid hTwo
    clear hTwo hb2 hb3 hT2 hT3
    go_wp2_with fail
    go_loopw [7] (fun i wr => ∃ j : Nat, j ≤ 64 ∧ i = .int .i64 j ∧ Two K w1 wr s1 s2 ((xorL ks 54).take j) ((xorL ks 92).take j)) (fun i _ => 64 - (intOf i).toNat)
    case atStart => exact ⟨0, by omega, rfl, by simpa using HT.out⟩
    case round =>
      obtain ⟨j, hj, rfl, htw⟩ := hrel
      by_cases hj64 : j < 64
      · have hbk := H1.out.2.1.touch htw.2.2.1 (by simp)
        have cj := hbk.cell j
        rw [U8A_get (by rw [HK.out.1]; exact hj64)] at cj
        obtain ⟨x, hx⟩ : ∃ x, x = ks.getD j 0 := ⟨_, rfl⟩
        rw [← hx] at cj
        have HX := Lib.hid (And.intro hx (And.intro htw hbk))
        clear hx htw hbk
        go_wp2_with fail
        have hT4 : Touch (fun _ => False) wr (wr.alloc (.cells #[.int .u8 (bits .xor .u8 x 54)] 5)) := (Touch.refl _ wr).alloc _
        have hi4 : Inb (wr.alloc (.cells #[.int .u8 (bits .xor .u8 x 54)] 5)) (some ⟨wr.heap.size, 0, none⟩) [bits .xor .u8 x 54] := .inr ⟨_, 0, rfl, fun i hi => by
          obtain rfl : i = 0 := by simp at hi; omega
          rw [(Blk.new wr 5 _).cell]; rfl⟩
        have hl1 : ((xorL ks 54).take j).length = j := by rw [List.length_take, xorL_len, HK.out.1]; omega
        have hl2 : ((xorL ks 92).take j).length = j := by rw [List.length_take, xorL_len, HK.out.1]; omega
        have HL := Lib.hid (And.intro hl1 hl2)
        clear hl1 hl2
        refine (write_two (zs := [bits .xor .u8 x 54]) HX.out.2.1 hT4 hi4 (fun a ha _ ho => by injection ha with ha; subst ha; have := sha_own HX.out.2.1.1 ho; simp at this) (HK.out.2.2.touch H1.out.1 (by simp)) (by rw [HL.out.1]; simp; omega)).mono ?_
        rintro e w4 ⟨rfl, htw4⟩
        have hbk4 := H1.out.2.1.touch htw4.2.2.1 (by simp)
        have cj4 := hbk4.cell j
        rw [U8A_get (by rw [HK.out.1]; exact hj64), ← HX.out.1] at cj4
        have HX4 := Lib.hid htw4
        clear htw4 hbk4 hT4 hi4 cj
        go_wp2_with fail
        have hT5 : Touch (fun _ => False) w4 (w4.alloc (.cells #[.int .u8 (bits .xor .u8 x 92)] 5)) := (Touch.refl _ w4).alloc _
        have hi5 : Inb (w4.alloc (.cells #[.int .u8 (bits .xor .u8 x 92)] 5)) (some ⟨w4.heap.size, 0, none⟩) [bits .xor .u8 x 92] := .inr ⟨_, 0, rfl, fun i hi => by
          obtain rfl : i = 0 := by simp at hi; omega
          rw [(Blk.new w4 5 _).cell]; rfl⟩
        refine (write_two (zs := [bits .xor .u8 x 92]) (two_swap HX4.out) hT5 hi5 (fun a ha _ ho => by injection ha with ha; subst ha; have := sha_own HX4.out.2.1 ho; simp at this) (HK.out.2.2.touch H1.out.1 (by simp)) (by rw [HL.out.2]; simp; omega)).mono ?_
        rintro e w5 ⟨rfl, htw5⟩
        have HX5 := Lib.hid htw5
        clear htw5 hT5 hi5 cj4
        go_wp2
        go_roundw
        case rel =>
          refine ⟨j + 1, by omega, by go_num, ?_⟩
          have := two_swap HX5.out
          rw [HX.out.1, ← xorL_take ks 54 j (by rw [HK.out.1]; exact hj64), ← xorL_take ks 92 j (by rw [HK.out.1]; exact hj64)] at this
          exact this
        case measure => simp [intOf]; omega
      · have hj' : j = 64 := by omega
        have hx1 : (xorL ks 54).take j = xorL ks 54 := List.take_of_length_le (by rw [xorL_len, HK.out.1]; omega)
        have hx2 : (xorL ks 92).take j = xorL ks 92 := List.take_of_length_le (by rw [xorL_len, HK.out.1]; omega)
        rw [hx1, hx2] at htw
        have HX := Lib.hid htw
        have hxl1 : (xorL ks 54).length = 64 := by rw [xorL_len, HK.out.1]
        have hxl2 : (xorL ks 92).length = 64 := by rw [xorL_len, HK.out.1]
        have HL := Lib.hid (And.intro hxl1 hxl2)
        have hge : ¬ (j : Int) < 64 := by omega
        clear hj' hx1 hx2 htw hxl1 hxl2
        go_wp2_with fail
        have hiw := (HK.out.2.1.touch H1.out.1 (by simp)).touch HX.out.2.2.1 (by simp)
        refine (write_two (zs := ys) HX.out (Touch.refl _ wr) hiw (fun a ha hy ho => by have h1 := HK.out.2.1.lt hy ha; have h2 := HX.out.2.2.2.1 _ ho; have := H1.out.2.2; omega) (HK.out.2.2.touch H1.out.1 (by simp)) (by rw [HL.out.1]; omega)).mono ?_
        rintro e w4 ⟨rfl, htw4⟩
        have HX4 := Lib.hid htw4
        clear htw4 hiw
        go_wp2_with fail
        have htabw1 : Tab K w1 := HK.out.2.2.touch H1.out.1 (by simp)
        refine (sum_any K w4 s1 (xorL ks 54 ++ ys) (xorL ks 54 ++ ys).length HX4.out.1 (htabw1.touch HX4.out.2.2.1 (by simp)) (by rw [List.length_append, HL.out.1]; omega) (by rw [List.length_append, HL.out.1]; omega)).mono ?_
        rintro e w5 ⟨he, hT5⟩
        obtain ⟨ds, hds⟩ : ∃ ds, ds = digest K (xorL ks 54 ++ ys) (xorL ks 54 ++ ys).length := ⟨_, rfl⟩
        rw [← hds] at he
        have hdl : ds.length = 32 := by rw [hds]; exact outS_iter _ 8 (by omega)
        have hi27 : (Tryd.prog.info? 27).map (·.size) = some (U8A ds).size := by rw [U8A_size, hdl]; kernel_rfl
        have hsz27 : (U8A (List.replicate 32 0)).size = (U8A ds).size := by rw [U8A_size, U8A_size, hdl]; rfl
        have hb5 := Blk.new w5 27 (U8A (List.replicate 32 0))
        have HD := Lib.hid (And.intro hds (And.intro hdl (And.intro hi27 hsz27)))
        have HT5 := Lib.hid (And.intro hT5 htabw1)
        clear hds hdl hi27 hsz27 hT5 htabw1
        subst he
        go_wp2_with (refine wpList_store_row rfl 27 (.tmp 8) (.tmp 36) rfl w5.heap.size (U8A ds) rfl rfl 27 _ hb5 HD.out.2.2.1 HD.out.2.2.2 (U8A_one _) ?_)
        generalize hw6 : World.setRow _ _ _ = w6
        have hT56 : Touch (fun _ => False) w5 w6 := by rw [← hw6]; exact ((Touch.refl _ w5).alloc _).row (.inl (Nat.le_refl _)) _
        have hd6 : Blk w6 w5.heap.size 27 (U8A ds) := by rw [← hw6]; exact hb5.row _
        have hT46 := HT5.out.1.trans hT56 (by simp)
        have hin6 : Inb w6 (some ⟨w5.heap.size, 0, none⟩) ds := .inr ⟨_, 0, rfl, fun i hi => by rw [hd6.cell, Nat.zero_add, U8A_get hi]⟩
        have hsz5 := HT5.out.1.size
        have hwr := write_two (c := 32) (two_swap HX4.out) hT46 hin6 (fun a ha _ ho => by injection ha with ha; subst ha; have := sha_own HX4.out.2.1 ho; simp at this; omega) HT5.out.2 (by rw [HL.out.2, HD.out.2.1]; omega)
        rw [HD.out.2.1] at hwr
        have HWR := Lib.hid hwr
        clear hw6 hT56 hd6 hT46 hin6 hwr hb5
        refine HWR.out.mono ?_
        rintro e w7 ⟨rfl, htw7⟩
        have HX7 := Lib.hid htw7
        clear htw7
        go_wp2_with fail
        have hbk7 := H1.out.2.1.touch HX7.out.2.2.1 (by simp)
        have hk7 : Byt w7 w.heap.size 0 ks := fun i hi => by rw [hbk7.cell, Nat.zero_add, U8A_get hi]
        have hi7 : Inb w7 B ys := (HK.out.2.1.touch H1.out.1 (by simp)).touch HX7.out.2.2.1 (by simp)
        have htab7 : Tab K w7 := HT5.out.2.touch HX7.out.2.2.1 (by simp)
        have hes : hmacF K ks ys = digest K (xorL ks 92 ++ ds) (xorL ks 92 ++ ds).length := by
          rw [hmacF, HD.out.1, List.length_append, HL.out.1, List.length_append, HL.out.2]
          congr 1
        refine (hmac_any K w7 w.heap.size 64 c ks ys B HK.out.1 hk7 hi7 htab7 (by omega)).mono ?_
        rintro e w8 ⟨he8, hT8⟩
        obtain ⟨es, hes2⟩ : ∃ es, es = hmacF K ks ys := ⟨_, rfl⟩
        rw [← hes2] at he8 hes
        have hel : es.length = 32 := by rw [hes2, hmacF_len]
        have HES := Lib.hid (And.intro hes hel)
        have HT8 := Lib.hid (And.intro hT8 htab7)
        clear hes hes2 hel hT8 hbk7 hk7 hi7 htab7
        subst he8
        go_wp2_with fail
        refine (sum_any K w8 s2 (xorL ks 92 ++ ds) (xorL ks 92 ++ ds).length (HX7.out.1.touch HT8.out.1 (by simp)) (HT8.out.2.touch HT8.out.1 (by simp)) (by rw [List.length_append, HL.out.2, HD.out.2.1]; omega) (by rw [List.length_append, HL.out.2, HD.out.2.1]; omega)).mono ?_
        rintro e w9 ⟨he9, hT9⟩
        rw [← HES.out.1] at he9
        subst he9
        have heq := eql_self w9 es HES.out.2
        have hT19 : Touch (fun _ => False) w w9 := (((H1.out.1.trans HX7.out.2.2.1 (by simp)).trans HT8.out.1 (by simp))).trans hT9 (by simp)
        have HT9 := Lib.hid hT19
        clear hT9 hT19
        go_wp2_with fail
        refine (awake_any w9).mono ?_
        rintro e w10 ⟨rfl, hT10⟩
        have HT10 := Lib.hid hT10
        clear hT10
        go_wp2
        go_ret
        exact ⟨rfl, (HT9.out.trans HT10.out (by simp)).below _ (Nat.le_refl _) (by simp)⟩
  · go_enter Tryd.func3, Tryd.ntmps3
    go_wp2
    go_ret
    exact ⟨rfl, ((Touch.refl (fun _ => False) w).alloc _).below _ (Nat.le_refl _) (by simp)⟩
end Go.Proofs.YtelmjlfhmbicjaaDoor
