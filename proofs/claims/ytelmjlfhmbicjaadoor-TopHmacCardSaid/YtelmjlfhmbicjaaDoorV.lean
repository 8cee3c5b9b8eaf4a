/- TopHmac: the tied card. -/
import Derived.Test.YtelmjlfhmbicjaaDoorU
namespace Go.Proofs.YtelmjlfhmbicjaaDoor
open Go

theorem topHmacCard_holds : Rows.TopHmacCardSaid :=
  Claim7.holds_tied_plain_at .later [] [.data] true (true, "9ea3de21819082ab5032d6efd0fbd82299bfb01abfcf4943b1f8ddb34f96323a") false
    topHmac.over (fun _ h => by cases h) (by kernel_rfl) (fun _ h => by cases h) topHmac_row_tie rfl ⟨rfl, rfl⟩ (by kernel_rfl) rfl
    (fun f fn hf hfn => by
      obtain rfl : f = 3 := Option.some.inj ((show Tryd.prog.funcNamed "palfrey/palfreytop.TopHmac" = some 3 by kernel_rfl).symm.trans hf) |>.symm
      obtain rfl : fn = Tryd.f3 := (Option.some.inj (Tryd.func3.symm.trans hfn)).symm
      exact ⟨by kernel_rfl, fun j t ht => by
        rw [Tryd.params3] at ht
        have hm : t ∈ [22, 23] := by simpa using Array.mem_of_getElem? ht
        have hall : ([22, 23].all fun u => !Tryd.prog.wantsStandIn u) = true := by kernel_rfl
        exact (show Tryd.prog.wantsStandIn t = false by simpa using List.all_eq_true.1 hall t hm)⟩)
    (by kernel_rfl)
#print axioms topHmacCard_holds
end Go.Proofs.YtelmjlfhmbicjaaDoor
