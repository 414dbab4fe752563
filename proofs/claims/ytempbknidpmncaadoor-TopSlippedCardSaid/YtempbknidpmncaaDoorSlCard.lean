/-
  TopSlipped: the tied card: the law's row, its three listed tables tied to the program's text.
-/
import Derived.Test.YtempbknidpmncaaDoorSlProofs
import Derived.Test.YtempbknidpmncaaDoorCards
import Derived.Test.YtempbknidpmncaaDoorTie
import Derived.SevenTiedAt
namespace Go.Proofs.YtempbknidpmncaaDoor
open Go

theorem topSlipped_card_holds : Rows.TopSlippedCardSaid :=
  Claim7.holds_tied_plain_at .later [] [.data, .data, .data] true (true, "98c6774a33c262e29fe0d07db8015cb2cab0cd049be7660ce44ff7a595fb2b71") true
    topSlipped_holds (fun _ h => by cases h) (by kernel_rfl) (fun _ h => by cases h) topSlipped_row_tie rfl ⟨rfl, rfl⟩ (by kernel_rfl) rfl
    (fun f fn hf hfn => by
      obtain rfl : f = 4 := Option.some.inj ((show Tryd.prog.funcNamed "ullage/ullagetop.TopSlipped" = some 4 by kernel_rfl).symm.trans hf) |>.symm
      obtain rfl : fn = Tryd.f4 := (Option.some.inj (Tryd.func4.symm.trans hfn)).symm
      exact ⟨by kernel_rfl, fun j t ht => by
        rw [Tryd.params4] at ht
        have hm : t ∈ [22, 22, 5, 5, 5, 37] := by simpa using Array.mem_of_getElem? ht
        have hall : ([22, 22, 5, 5, 5, 37].all fun u => !Tryd.prog.wantsStandIn u) = true := by kernel_rfl
        exact (show Tryd.prog.wantsStandIn t = false by simpa using List.all_eq_true.1 hall t hm)⟩)
    (by kernel_rfl)
end Go.Proofs.YtempbknidpmncaaDoor
