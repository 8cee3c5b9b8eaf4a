/- Equal sums are equal. -/
import Derived.Test.YtelmjlfhmbicjaaDoorR
import Derived.ChangeKeysEq
namespace Go.Proofs.YtelmjlfhmbicjaaDoor
open Go.RowKit
set_option linter.unusedVariables false

theorem items_self (w : World) (d : Nat) (es : List Int) : ∀ (is : List Nat), (∀ i ∈ is, i < es.length) → (Op.eqItems (d + 1) 5 1 (U8A es) (U8A es) is).run Tryd.prog w = .ok true w
  | [], _ => by simp [Op.eqItems]
  | i :: is, h => by
    have hp := run_part_plain (P := Tryd.prog) (w := w) (e := 5) (by kernel_rfl) (U8A_get (h i (by simp)))
    have he := run_equalIn_int (P := Tryd.prog) w d 5 .u8 .u8 (es.getD i 0) (es.getD i 0) (by kernel_rfl)
    have ih := items_self w d es is (fun j hj => h j (List.mem_cons_of_mem _ hj))
    simp only [Op.eqItems, Nat.mul_one, Sem.run_bind, hp, he, Result.andThen_ok, beq_self_eq_true]
    simpa using ih

theorem eql_self (w : World) (es : List Int) (h : es.length = 32) : (Op.equalIn 10000 27 (.agg (U8A es)) (.agg (U8A es))).run Tryd.prog w = .ok true w := by
  cases hq : Tryd.prog.info? 5 with
  | none =>
    have : (Tryd.prog.info? 5).map (·.size) = some 1 := by kernel_rfl
    simp [hq] at this
  | some i =>
    have hs : i.size = 1 := by
      have : (Tryd.prog.info? 5).map (·.size) = some 1 := by kernel_rfl
      simpa [hq] using this
    have := run_equalIn_array (P := Tryd.prog) w 9999 (t := 27) (e := 5) (n := 32) (i := i) (U8A es) (U8A es) (by kernel_rfl) hq
    rw [show (10000 : Nat) = 9999 + 1 from rfl, this, show Tryd.prog.cellsOf 5 = 1 from by kernel_rfl]
    exact items_self w 9998 es _ (fun j hj => by simp at hj; omega)
end Go.Proofs.YtelmjlfhmbicjaaDoor
