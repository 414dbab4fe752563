/-
  DERIVED. GIVEN WITH THE SEED: THE CARDS: each row of YtempbknidpmncaaDoorRows.lean that lists a variable, with what it lists TIED to the program's text (the seventh form; the later family's looks); each row that meets fmt, with fmt's text TOLD by the authors' own Lean function (tested against real Go, not proved from fmt's source: count such statements apart). THE CARD IS WHAT COUNTS. Prove the row's statement (the work); the ties are given (YtempbknidpmncaaDoorTie.lean); close each card by the builder's one call (the guide's Derived/Test/ToyasCard.lean, 'card_holds'). Laid BY PROGRAM, IN A SANDBOX (cutbox-door.mjs). By AI agents, Wed Nov 11 2026. No macro, syntax, notation, axiom, sorry.
-/
import Derived.Test.YtempbknidpmncaaDoorRows
import GoSem.ClaimSeven
namespace Go.Proofs.YtempbknidpmncaaDoor
namespace Rows

/-- THE TIED CARD OF 'ullagetop.TopBus'. -/
def topBusCard : Claim7 := { stood := { row := topBusRow, standIns := [], harness := (true, "98c6774a33c262e29fe0d07db8015cb2cab0cd049be7660ce44ff7a595fb2b71"), looks := true }, kinds := [], alts := [], laidByText := true, laidKinds := [.data, .data, .data], laidTests := true, laidLooks := .later }
def TopBusCardSaid : Prop := Claim7.holds Tryd.pinned (.plain (OpenSpec.ofChange topBusSpec)) topBusCard

/-- THE TIED CARD OF 'ullagetop.TopSlipped'. -/
def topSlippedCard : Claim7 := { stood := { row := topSlippedRow, standIns := [], harness := (true, "98c6774a33c262e29fe0d07db8015cb2cab0cd049be7660ce44ff7a595fb2b71"), looks := true }, kinds := [], alts := [], laidByText := true, laidKinds := [.data, .data, .data], laidTests := true, laidLooks := .later }
def TopSlippedCardSaid : Prop := Claim7.holds Tryd.pinned (.plain (OpenSpec.ofChange topSlippedSpec)) topSlippedCard

/-- THE TIED CARD OF 'ullagetop.TopRuled'. -/
def topRuledCard : Claim7 := { stood := { row := topRuledRow, standIns := [], harness := (true, "98c6774a33c262e29fe0d07db8015cb2cab0cd049be7660ce44ff7a595fb2b71"), looks := true }, kinds := [], alts := [], laidByText := true, laidKinds := [.data, .data, .data, .sentinel, .sentinel, .data, .widerDeep, .funcs, .widerDeep], laidTests := true, laidLooks := .later }
def TopRuledCardSaid : Prop := Claim7.holds Tryd.pinned (.plain (OpenSpec.ofChange topRuledSpec)) topRuledCard

/-- THE SECOND FORM's CARD OF 'ullagetop.TopBus'. -/
def topBusUptoCard : Claim7 := { stood := { row := topBusUptoRow, standIns := [], harness := (true, "98c6774a33c262e29fe0d07db8015cb2cab0cd049be7660ce44ff7a595fb2b71"), looks := true }, kinds := [], alts := [], laidByText := true, laidKinds := [.data, .data, .data], laidTests := true, laidLooks := .later }
def TopBusUptoCardSaid : Prop := Claim7.holds Tryd.pinned (.plain (OpenSpec.upto topBusSpec)) topBusUptoCard

/-- THE SECOND FORM's CARD OF 'ullagetop.TopSlipped'. -/
def topSlippedUptoCard : Claim7 := { stood := { row := topSlippedUptoRow, standIns := [], harness := (true, "98c6774a33c262e29fe0d07db8015cb2cab0cd049be7660ce44ff7a595fb2b71"), looks := true }, kinds := [], alts := [], laidByText := true, laidKinds := [.data, .data, .data], laidTests := true, laidLooks := .later }
def TopSlippedUptoCardSaid : Prop := Claim7.holds Tryd.pinned (.plain (OpenSpec.upto topSlippedSpec)) topSlippedUptoCard

/-- THE SECOND FORM's CARD OF 'ullagetop.TopRuled'. -/
def topRuledUptoCard : Claim7 := { stood := { row := topRuledUptoRow, standIns := [], harness := (true, "98c6774a33c262e29fe0d07db8015cb2cab0cd049be7660ce44ff7a595fb2b71"), looks := true }, kinds := [], alts := [], laidByText := true, laidKinds := [.data, .data, .data, .sentinel, .sentinel, .data, .widerDeep, .funcs, .widerDeep], laidTests := true, laidLooks := .later }
def TopRuledUptoCardSaid : Prop := Claim7.holds Tryd.pinned (.plain (OpenSpec.upto topRuledSpec)) topRuledUptoCard
end Rows
end Go.Proofs.YtempbknidpmncaaDoor
