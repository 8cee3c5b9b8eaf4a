/- aead: Seal. -/
import Derived.Test.YtelmjlfhmbicjaaAE
namespace Go.Proofs.Ytelmjlfhmbicjaa
open Go.RowKit
set_option linter.unusedVariables false

section
variable {P : Program} {ops : Array Oper} {Q : Exit → Act → World → Prop} {S : World → Prop}
/-- A whole array is read. -/
theorem wpTr_load {K : Act → World → Prop} {i : Nat} {t : Tr} {o : Oper} {a : Act} {w : World} (hi0 : ops[i]? = some o) (hg : o.guard = none) (ty : TypeId) (x : Operand) (ho : o.op = .load ty x)
    (b off : Nat) (hx : a.eval x = .pointer (some ⟨b, off, none⟩)) (cs : List Value) (d : TypeDesc) (hc : ∀ y : SW S, y.w.rangeAt b off cs)
    (hu : P.underlying ty = some d) (hd : d.isRow = true) (hi : (P.info? ty).map (·.size) = some cs.length)
    (h : wpTr P ops Q S K t (a.put o.dst (.agg cs.toArray)) w) : wpTr P ops Q S K (.q i t) a w := by
  refine wpTr_q hi0 ?_
  unfold wpQuiet
  rw [if_pos (by simp [Region.wanted, hg])]
  refine ⟨.agg cs.toArray, fun w0 hw0 => ?_, h⟩
  obtain ⟨y, rfl⟩ := hw0
  unfold Oper.quietAt execOp
  simp only [ho, hx, Instr.loadAt, Instr.sureAddr, Sem.run_bind, Sem.run_pure, Result.andThen_ok, run_loadVar_mid y.w b off ty cs d (hc y) hu hd hi, Oper.quietUpon, and_self]
/-- A struct is built. -/
theorem wpTr_build {K : Act → World → Prop} {i : Nat} {t : Tr} {o : Oper} {a : Act} {w : World} (hi0 : ops[i]? = some o) (hg : o.guard = none) (ty : TypeId) (ps : Array (Nat × Operand)) (ho : o.op = .build ty ps) (v : Value)
    (hv : ∀ w0, (Instr.build ty (ps.map fun (i, x) => (i, a.eval x))).run P w0 = .ok v w0) (h : wpTr P ops Q S K t (a.put o.dst v) w) : wpTr P ops Q S K (.q i t) a w := by
  refine wpTr_q hi0 ?_
  unfold wpQuiet
  rw [if_pos (by simp [Region.wanted, hg])]
  refine ⟨v, fun w0 hw0 => ?_, h⟩
  unfold Oper.quietAt execOp
  simp only [ho, Sem.run_bind, Sem.run_pure, hv, Result.andThen_ok, Oper.quietUpon, and_self]
end

theorem Byt.touch {w w' : World} {S : Nat → Prop} {g off : Nat} {xs : List Int} (h : Byt w g off xs) (ht : Touch S w w') (hS : ¬ S g) : Byt w' g off xs := fun i hi => by
  have hu := h i hi
  have hlt := block_lt_of_cell hu
  have e : w'.cell? ⟨g, off + i, none⟩ = w.cell? ⟨g, off + i, none⟩ := by unfold World.cell?; rw [ht.block g hlt hS]
  rw [e, hu]
theorem enter13 (a b : Nat) (v : Value) (w : World) : (callFunc 13 #[v, .pointer (some ⟨a, 0, none⟩), .pointer (some ⟨b, 0, none⟩)]).run Try.prog w = .ok (.enter 13 #[v, .pointer (some ⟨a, 0, none⟩), .pointer (some ⟨b, 0, none⟩)]) w := by kernel_rfl
theorem build45e (k0 k1 k2 k3 k4 k5 k6 k7 k8 k9 k10 k11 k12 k13 k14 k15 k16 k17 k18 k19 k20 k21 k22 k23 k24 k25 k26 k27 k28 k29 k30 k31 n0 n1 n2 n3 n4 n5 n6 n7 n8 n9 n10 n11 : Int) (w : World) : (Instr.build 45 #[(0, .agg #[.int .u8 k0, .int .u8 k1, .int .u8 k2, .int .u8 k3, .int .u8 k4, .int .u8 k5, .int .u8 k6, .int .u8 k7, .int .u8 k8, .int .u8 k9, .int .u8 k10, .int .u8 k11, .int .u8 k12, .int .u8 k13, .int .u8 k14, .int .u8 k15, .int .u8 k16, .int .u8 k17, .int .u8 k18, .int .u8 k19, .int .u8 k20, .int .u8 k21, .int .u8 k22, .int .u8 k23, .int .u8 k24, .int .u8 k25, .int .u8 k26, .int .u8 k27, .int .u8 k28, .int .u8 k29, .int .u8 k30, .int .u8 k31]), (1, .agg #[.int .u8 n0, .int .u8 n1, .int .u8 n2, .int .u8 n3, .int .u8 n4, .int .u8 n5, .int .u8 n6, .int .u8 n7, .int .u8 n8, .int .u8 n9, .int .u8 n10, .int .u8 n11])]).run Try.prog w = .ok (.agg #[.int .u8 k0, .int .u8 k1, .int .u8 k2, .int .u8 k3, .int .u8 k4, .int .u8 k5, .int .u8 k6, .int .u8 k7, .int .u8 k8, .int .u8 k9, .int .u8 k10, .int .u8 k11, .int .u8 k12, .int .u8 k13, .int .u8 k14, .int .u8 k15, .int .u8 k16, .int .u8 k17, .int .u8 k18, .int .u8 k19, .int .u8 k20, .int .u8 k21, .int .u8 k22, .int .u8 k23, .int .u8 k24, .int .u8 k25, .int .u8 k26, .int .u8 k27, .int .u8 k28, .int .u8 k29, .int .u8 k30, .int .u8 k31, .int .u8 n0, .int .u8 n1, .int .u8 n2, .int .u8 n3, .int .u8 n4, .int .u8 n5, .int .u8 n6, .int .u8 n7, .int .u8 n8, .int .u8 n9, .int .u8 n10, .int .u8 n11]) w := by kernel_rfl
theorem U8A_32 (xs : List Int) (h : xs.length = 32) : U8A xs = #[.int .u8 (xs.getD 0 0), .int .u8 (xs.getD 1 0), .int .u8 (xs.getD 2 0), .int .u8 (xs.getD 3 0), .int .u8 (xs.getD 4 0), .int .u8 (xs.getD 5 0), .int .u8 (xs.getD 6 0), .int .u8 (xs.getD 7 0), .int .u8 (xs.getD 8 0), .int .u8 (xs.getD 9 0), .int .u8 (xs.getD 10 0), .int .u8 (xs.getD 11 0), .int .u8 (xs.getD 12 0), .int .u8 (xs.getD 13 0), .int .u8 (xs.getD 14 0), .int .u8 (xs.getD 15 0), .int .u8 (xs.getD 16 0), .int .u8 (xs.getD 17 0), .int .u8 (xs.getD 18 0), .int .u8 (xs.getD 19 0), .int .u8 (xs.getD 20 0), .int .u8 (xs.getD 21 0), .int .u8 (xs.getD 22 0), .int .u8 (xs.getD 23 0), .int .u8 (xs.getD 24 0), .int .u8 (xs.getD 25 0), .int .u8 (xs.getD 26 0), .int .u8 (xs.getD 27 0), .int .u8 (xs.getD 28 0), .int .u8 (xs.getD 29 0), .int .u8 (xs.getD 30 0), .int .u8 (xs.getD 31 0)] := by
  have : xs = (List.range 32).map (fun i => xs.getD i 0) := by
    refine List.ext_getElem (by simp [h]) (fun i h1 h2 => ?_)
    simp [List.getD, h1]
  unfold U8A
  conv => lhs; rw [this]
  rfl
theorem U8A_12 (xs : List Int) (h : xs.length = 12) : U8A xs = #[.int .u8 (xs.getD 0 0), .int .u8 (xs.getD 1 0), .int .u8 (xs.getD 2 0), .int .u8 (xs.getD 3 0), .int .u8 (xs.getD 4 0), .int .u8 (xs.getD 5 0), .int .u8 (xs.getD 6 0), .int .u8 (xs.getD 7 0), .int .u8 (xs.getD 8 0), .int .u8 (xs.getD 9 0), .int .u8 (xs.getD 10 0), .int .u8 (xs.getD 11 0)] := by
  have : xs = (List.range 12).map (fun i => xs.getD i 0) := by
    refine List.ext_getElem (by simp [h]) (fun i h1 h2 => ?_)
    simp [List.getD, h1]
  unfold U8A
  conv => lhs; rw [this]
  rfl
theorem build45 (w : World) (key nonce : List Int) (hk : key.length = 32) (hn : nonce.length = 12) : (Instr.build 45 #[(0, .agg (U8A key)), (1, .agg (U8A nonce))]).run Try.prog w = .ok (.agg (U8A (key ++ nonce))) w := by
  have h : U8A (key ++ nonce) = U8A key ++ U8A nonce := by simp [U8A]
  rw [h, U8A_32 key hk, U8A_12 nonce hn, build45e]
  rfl

set_option maxRecDepth 100000 in
set_option maxHeartbeats 1000000 in
theorem does_any (w : World) (key nonce : List Int) (hk : key.length = 32) (hn : nonce.length = 12) (gk ok gn on p1 p2 : Nat) (R : Ending → World → Prop)
    (h1 : Byt w gk ok key) (h2 : Byt w gn on nonce)
    (hc : ∀ w', Touch (fun _ => False) w w' → Calls Try.prog 13 #[.agg (U8A (key ++ nonce)), .pointer (some ⟨p1, 0, none⟩), .pointer (some ⟨p2, 0, none⟩)] w' fun e w'' => ∃ A n cap, e = .returned (.tuple #[.slice A n cap, .int .i64 0]) ∧ Touch (fun _ => False) w' w'' ∧ R e w'') :
    Calls Try.prog 12 #[.slice (some ⟨gk, ok, none⟩) 32 32, .slice (some ⟨gn, on, none⟩) 12 12, .func (.func 13) #[] #[.pointer (some ⟨p1, 0, none⟩), .pointer (some ⟨p2, 0, none⟩)]] w R := by
  have H := Lib.hid (And.intro hk (And.intro hn (And.intro h1 (And.intro h2 hc))))
  clear hk hn h1 h2 hc
  go_enter Try.func12, Try.ntmps12
  go_upto_region 6 with fail
  obtain ⟨W, hW⟩ : ∃ W, W = w.alloc (Obj.cells (U8A (List.replicate 44 0)) 45) := ⟨_, rfl⟩
  have hTW : Touch (fun _ => False) w W := by rw [hW]; exact (Touch.refl _ w).alloc _
  refine Eq.mp (congrArg (fun x => Code.wp _ _ _ _ x) hW) ?_
  have hi22 : (Try.prog.info? 22).map (·.size) = some ((key.map (Value.int .u8))).length := by rw [List.length_map, H.out.1]; kernel_rfl
  have hi27 : (Try.prog.info? 27).map (·.size) = some ((nonce.map (Value.int .u8))).length := by rw [List.length_map, H.out.2.1]; kernel_rfl
  have H2 := Lib.hid (And.intro hTW (And.intro hi22 hi27))
  clear hW hTW hi22 hi27
  obtain ⟨S, HS⟩ : ∃ S : World → Prop, Hid (∀ w', S w' ↔ (w'.rangeAt gk ok (key.map (Value.int .u8)) ∧ w'.rangeAt gn on (nonce.map (Value.int .u8)))) := ⟨_, fun _ => Iff.rfl⟩
  have hSS : ∀ w', Touch (fun _ => False) w w' → S w' := fun w' ht => (HS.out _).2 ⟨byt_range (H.out.2.2.1.touch ht (fun h => h)), byt_range (H.out.2.2.2.1.touch ht (fun h => h))⟩
  refine wp_region_tr S (.q 0 (.q 1 (.q 4 (.b 2 5 (.q 3 (.e 5 (.q 6 (.q 7 (.e 8 (.q 9 (.q 10 (.e 11 (.e 12 .nil))))))))) (.q 6 (.e 2 (.q 3 (.q 7 (.e 8 (.q 9 (.q 10 (.e 11 (.e 12 .nil))))))))))))) (by kernel_rfl) (by kernel_rfl) (hSS _ H2.out.1.drew) (fun hne => ?_)
  have HSS := Lib.hid hSS
  clear hSS
  repeat (refine wpTr_q (by simp only [List.getElem?_toArray, List.getElem?_cons_zero, List.getElem?_cons_succ]; rfl) ?_; (first | go_big_quiet_skip | (go_big_quiet_want; go_big_quiet_op; go_big_quiet_on)); refine wpQuiet_nil ?_)
  have ark : ∀ W', (Instr.arrayAt 22 (.slice (some ⟨gk, ok, none⟩) 32 32)).run Try.prog W' = .ok (.pointer (some ⟨gk, ok, none⟩)) W' := fun W' => arr22 W' _ 32 32 (by omega)
  have arn : ∀ W', (Instr.arrayAt 27 (.slice (some ⟨gn, on, none⟩) 12 12)).run Try.prog W' = .ok (.pointer (some ⟨gn, on, none⟩)) W' := fun W' => arr27 W' _ 12 12 (by omega)
  refine wpTr_b (by simp only [List.getElem?_toArray, List.getElem?_cons_zero, List.getElem?_cons_succ]; rfl) (by simp only [List.getElem?_toArray, List.getElem?_cons_zero, List.getElem?_cons_succ]; rfl) (fun K1 hK1 => ?_) (fun K1 hK1 => ?_)
  · go_wp2_with fail
    refine ⟨HSS.out _ H2.out.1.drew, ?_⟩
    refine wpTr_load (by simp only [List.getElem?_toArray, List.getElem?_cons_zero, List.getElem?_cons_succ]; rfl) rfl 22 (.tmp 19) rfl gk ok rfl (key.map (Value.int .u8)) (.array 32 5) (fun y => ((HS.out _).1 y.ok).1) (by kernel_rfl) rfl H2.out.2.1 ?_
    rw [show (key.map (Value.int .u8)).toArray = U8A key from rfl]
    dsimp only [Act.put]
    simp only [List.setIfInBounds_toArray, List.set_cons_succ, List.set_cons_zero]
    refine wpTr_e (by simp only [List.getElem?_toArray, List.getElem?_cons_zero, List.getElem?_cons_succ]; rfl) (fun K2 hK2 => ?_)
    go_wp2_with fail
    refine ⟨HSS.out _ H2.out.1.drew, ?_⟩
    refine wpTr_load (by simp only [List.getElem?_toArray, List.getElem?_cons_zero, List.getElem?_cons_succ]; rfl) rfl 27 (.tmp 22) rfl gn on rfl (nonce.map (Value.int .u8)) (.array 12 5) (fun y => ((HS.out _).1 y.ok).2) (by kernel_rfl) rfl H2.out.2.2 ?_
    rw [show (nonce.map (Value.int .u8)).toArray = U8A nonce from rfl]
    dsimp only [Act.put]
    simp only [List.setIfInBounds_toArray, List.set_cons_succ, List.set_cons_zero]
    refine wpTr_build (by simp only [List.getElem?_toArray, List.getElem?_cons_zero, List.getElem?_cons_succ]; rfl) rfl 45 #[(0, .tmp 20), (1, .tmp 23)] rfl (.agg (U8A (key ++ nonce))) (fun w0 => by have := build45 w0 key nonce H.out.1 H.out.2.1; simpa [Act.eval] using this) ?_
    dsimp only [Act.put]
    simp only [List.setIfInBounds_toArray, List.set_cons_succ, List.set_cons_zero]
    refine wpTr_e (by simp only [List.getElem?_toArray, List.getElem?_cons_zero, List.getElem?_cons_succ]; rfl) (fun K5 hK5 => ?_)
    have hen : ∀ W', (callFunc 13 #[.agg (U8A (key ++ nonce)), .pointer (some ⟨p1, 0, none⟩), .pointer (some ⟨p2, 0, none⟩)]).run Try.prog W' = .ok (.enter 13 #[.agg (U8A (key ++ nonce)), .pointer (some ⟨p1, 0, none⟩), .pointer (some ⟨p2, 0, none⟩)]) W' := fun W' => enter13 p1 p2 _ W'
    go_wp2_with fail
    refine (H.out.2.2.2.2 _ H2.out.1.drew).mono ?_
    rintro e w5 ⟨A, n, cap, rfl, hT5, hR⟩
    have HR := Lib.hid (And.intro (H2.out.1.drew.trans hT5 (fun _ _ h => h)) hR)
    clear hR hen hT5
    refine hK5 _ _ ⟨HSS.out _ HR.out.1, ?_⟩
    repeat (refine wpTr_q (by simp only [List.getElem?_toArray, List.getElem?_cons_zero, List.getElem?_cons_succ]; rfl) ?_; (first | go_big_quiet_skip | (go_big_quiet_want; go_big_quiet_op; go_big_quiet_on)); refine wpQuiet_nil ?_)
    refine wpTr_e (by simp only [List.getElem?_toArray, List.getElem?_cons_zero, List.getElem?_cons_succ]; rfl) (fun K6 hK6 => ?_)
    go_wp2_with fail
    try refine ⟨HSS.out _ HR.out.1, ?_⟩
    refine wpTr_e (by simp only [List.getElem?_toArray, List.getElem?_cons_zero, List.getElem?_cons_succ]; rfl) (fun K7 hK7 => ?_)
    go_wp2_with fail
    try refine ⟨HSS.out _ HR.out.1, wpTr_nil ?_⟩
    try go_wp2
    exact HR.out.2
  · go_wp2_with fail
    refine ⟨HSS.out _ H2.out.1.drew, ?_⟩
    refine wpTr_load (by simp only [List.getElem?_toArray, List.getElem?_cons_zero, List.getElem?_cons_succ]; rfl) rfl 27 (.tmp 22) rfl gn on rfl (nonce.map (Value.int .u8)) (.array 12 5) (fun y => ((HS.out _).1 y.ok).2) (by kernel_rfl) rfl H2.out.2.2 ?_
    rw [show (nonce.map (Value.int .u8)).toArray = U8A nonce from rfl]
    dsimp only [Act.put]
    simp only [List.setIfInBounds_toArray, List.set_cons_succ, List.set_cons_zero]
    refine wpTr_e (by simp only [List.getElem?_toArray, List.getElem?_cons_zero, List.getElem?_cons_succ]; rfl) (fun K2 hK2 => ?_)
    go_wp2_with fail
    refine ⟨HSS.out _ H2.out.1.drew, ?_⟩
    refine wpTr_load (by simp only [List.getElem?_toArray, List.getElem?_cons_zero, List.getElem?_cons_succ]; rfl) rfl 22 (.tmp 19) rfl gk ok rfl (key.map (Value.int .u8)) (.array 32 5) (fun y => ((HS.out _).1 y.ok).1) (by kernel_rfl) rfl H2.out.2.1 ?_
    rw [show (key.map (Value.int .u8)).toArray = U8A key from rfl]
    dsimp only [Act.put]
    simp only [List.setIfInBounds_toArray, List.set_cons_succ, List.set_cons_zero]
    refine wpTr_build (by simp only [List.getElem?_toArray, List.getElem?_cons_zero, List.getElem?_cons_succ]; rfl) rfl 45 #[(0, .tmp 20), (1, .tmp 23)] rfl (.agg (U8A (key ++ nonce))) (fun w0 => by have := build45 w0 key nonce H.out.1 H.out.2.1; simpa [Act.eval] using this) ?_
    dsimp only [Act.put]
    simp only [List.setIfInBounds_toArray, List.set_cons_succ, List.set_cons_zero]
    refine wpTr_e (by simp only [List.getElem?_toArray, List.getElem?_cons_zero, List.getElem?_cons_succ]; rfl) (fun K5 hK5 => ?_)
    have hen : ∀ W', (callFunc 13 #[.agg (U8A (key ++ nonce)), .pointer (some ⟨p1, 0, none⟩), .pointer (some ⟨p2, 0, none⟩)]).run Try.prog W' = .ok (.enter 13 #[.agg (U8A (key ++ nonce)), .pointer (some ⟨p1, 0, none⟩), .pointer (some ⟨p2, 0, none⟩)]) W' := fun W' => enter13 p1 p2 _ W'
    go_wp2_with fail
    refine (H.out.2.2.2.2 _ H2.out.1.drew).mono ?_
    rintro e w5 ⟨A, n, cap, rfl, hT5, hR⟩
    have HR := Lib.hid (And.intro (H2.out.1.drew.trans hT5 (fun _ _ h => h)) hR)
    clear hR hen hT5
    refine hK5 _ _ ⟨HSS.out _ HR.out.1, ?_⟩
    repeat (refine wpTr_q (by simp only [List.getElem?_toArray, List.getElem?_cons_zero, List.getElem?_cons_succ]; rfl) ?_; (first | go_big_quiet_skip | (go_big_quiet_want; go_big_quiet_op; go_big_quiet_on)); refine wpQuiet_nil ?_)
    refine wpTr_e (by simp only [List.getElem?_toArray, List.getElem?_cons_zero, List.getElem?_cons_succ]; rfl) (fun K6 hK6 => ?_)
    go_wp2_with fail
    try refine ⟨HSS.out _ HR.out.1, ?_⟩
    refine wpTr_e (by simp only [List.getElem?_toArray, List.getElem?_cons_zero, List.getElem?_cons_succ]; rfl) (fun K7 hK7 => ?_)
    go_wp2_with fail
    try refine ⟨HSS.out _ HR.out.1, wpTr_nil ?_⟩
    try go_wp2
    exact HR.out.2

set_option maxHeartbeats 1000000 in
theorem seal_any (F : N3 → N3) (w : World) (key nonce aad b : List Int) (hk : key.length = 32) (hn : nonce.length = 12) (gk ok gn on : Nat) (A1 A2 : Option Addr) (c1 c2 : Nat)
    (hF : Mul (kr0 ((blockF key nonce 0).take 32)) (kr1 ((blockF key nonce 0).take 32)) F) (i1 : Byt w gk ok key) (i2 : Byt w gn on nonce)
    (h1 : Inb w A1 aad) (h2 : Inb w A2 b) (m1 : aad.length % 16 = 0) (m2 : b.length % 16 = 0) (l1 : aad.length ≤ 4000) (l2 : b.length ≤ 4000) :
    Calls Try.prog 4 #[.slice (some ⟨gk, ok, none⟩) 32 32, .slice (some ⟨gn, on, none⟩) 12 12, .slice A1 aad.length c1, .slice A2 b.length c2] w fun e w' => ∃ A cap, e = .returned (.tuple #[.slice A (b.length + 16) cap, .int .i64 0]) ∧
      Rest w' A cap (sealedF F key nonce aad b) ∧ Touch (fun _ => False) w w' ∧ ∀ a, A = some a → w.heap.size ≤ a.block := by
  obtain ⟨W, hW⟩ : ∃ W, W = ((w.alloc (Obj.cells #[.slice A1 aad.length c1] 26)).alloc (Obj.cells #[.slice A2 b.length c2] 26)) := ⟨_, rfl⟩
  have hT : Touch (fun _ => False) w W := by rw [hW]; exact ((Touch.refl _ w).alloc _).alloc _
  have hb2 : Blk W w.heap.size 26 #[.slice A1 aad.length c1] := by rw [hW]; exact (Blk.new w 26 _).alloc _
  have hb1 : Blk W (w.heap.size + 1) 26 #[.slice A2 b.length c2] := by
    have := Blk.new (w.alloc (Obj.cells #[.slice A1 aad.length c1] 26)) 26 #[.slice A2 b.length c2]
    rw [World.size_alloc] at this
    rw [hW]; exact this
  have hd := does_any W key nonce hk hn gk ok gn on (w.heap.size + 1) w.heap.size (fun e w' => ∃ A cap, e = .returned (.tuple #[.slice A (b.length + 16) cap, .int .i64 0]) ∧
      Rest w' A cap (sealedF F key nonce aad b) ∧ Touch (fun _ => False) w w' ∧ ∀ a, A = some a → w.heap.size ≤ a.block) (i1.touch hT (fun h => h)) (i2.touch hT (fun h => h))
    (fun w' ht => (seal1_any F w' key nonce aad b hk hn A1 A2 c1 c2 (w.heap.size + 1) w.heap.size hF (hb1.touch ht (fun h => h)) (hb2.touch ht (fun h => h)) ((h1.touch hT (fun _ _ _ _ h => h)).touch ht (fun _ _ _ _ h => h)) ((h2.touch hT (fun _ _ _ _ h => h)).touch ht (fun _ _ _ _ h => h)) m1 m2 l1 l2).mono (by
      rintro e w'' ⟨A, cap, he, hr, ht2, hA⟩
      exact ⟨A, _, cap, he, ht2, A, cap, he, hr, (hT.trans ht (fun _ _ h => h)).trans ht2 (fun _ _ h => h), fun a ha => by have := hA a ha; have := hT.size; have := ht.size; omega⟩))
  have HD := Lib.hid hd
  clear hd hT hb1 hb2 i1 i2 h1 h2 m1 m2 l1 l2 hF hk hn
  go_enter Try.func4, Try.ntmps4
  go_upto_region 1 with fail
  refine Eq.mp (congrArg (fun x => Code.wp _ _ _ _ x) hW) ?_
  clear hW
  go_wp2_with fail
  refine HD.out.mono ?_
  rintro e w2 ⟨A, cap, rfl, h⟩
  have HR := Lib.hid h
  clear h
  go_wp2
  go_ret2
  exact ⟨A, cap, rfl, HR.out⟩
end Go.Proofs.Ytelmjlfhmbicjaa
