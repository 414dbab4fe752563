/-
  TopBus: the tied card: the law's row, its three listed tables tied to the program's text.
-/
import Derived.Test.YtempbknidpmncaaDoorBusProofs
import Derived.Test.YtempbknidpmncaaDoorCards
import Derived.Test.YtempbknidpmncaaDoorTie
import Derived.SevenTiedAt
namespace Go.Proofs.YtempbknidpmncaaDoor
open Go

theorem topBus_card_holds : Rows.TopBusCardSaid :=
  Claim7.holds_tied_plain_at .later [] [.data, .data, .data] true (true, "98c6774a33c262e29fe0d07db8015cb2cab0cd049be7660ce44ff7a595fb2b71") true
    topBus_holds (fun _ h => by cases h) (by kernel_rfl) (fun _ h => by cases h) topBus_row_tie rfl ⟨rfl, rfl⟩ (by kernel_rfl) rfl
    (fun f fn hf hfn => by
      obtain rfl : f = 3 := Option.some.inj ((show Tryd.prog.funcNamed "ullage/ullagetop.TopBus" = some 3 by kernel_rfl).symm.trans hf) |>.symm
      obtain rfl : fn = Tryd.f3 := (Option.some.inj (Tryd.func3.symm.trans hfn)).symm
      exact ⟨by kernel_rfl, fun j t ht => by
        rw [Tryd.params3] at ht
        have hm : t ∈ [22, 22] := by simpa using Array.mem_of_getElem? ht
        have hall : ([22, 22].all fun u => !Tryd.prog.wantsStandIn u) = true := by kernel_rfl
        exact (show Tryd.prog.wantsStandIn t = false by simpa using List.all_eq_true.1 hall t hm)⟩)
    (by kernel_rfl)
end Go.Proofs.YtempbknidpmncaaDoor
