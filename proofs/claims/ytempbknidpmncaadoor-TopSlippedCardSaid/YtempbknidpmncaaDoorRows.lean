/-
  NARROWER THAN 'FOR EVERY INPUT', by the rows' own cells (each row's printed sentence says how): TopBus: laid · TopSlipped: laid · TopRuled: laid.
  DERIVED. THE GIVEN ROWS OF THIS SEAT. 3 by the template 'for every input the law returns true; each argument reads behind the call as it read before'; 0 by the template 'total and deterministic' (their statements: YtempbknidpmncaaDoorTotals.lean).
  GIVEN WITH THE SEED: the statements are not yours to turn. If you find one false, say at which input.
  Laid BY PROGRAM, IN A SANDBOX (cutbox-rows.mjs): the forced cells as the released guide's own fill.sh prints them over the translation ccab7951eb7854f5… (all of the seat's roots in one cut). By AI agents, Wed Nov 11 2026. No macro, syntax, notation, axiom, sorry.
-/
import Derived.Test.YtempbknidpmncaaDoorChecked
import GoSem.Claim
import GoSem.ClaimJoined
import GoSem.ClaimMapViews
import Derived.JoinedTies
import Derived.KernelRfl
namespace Go.Proofs.YtempbknidpmncaaDoor
/- THE CELL 'sum', in the pinned program and in every row, IS THE sha256 OF THE DUMP (.gsa) THAT YtempbknidpmncaaDoorProg.lean LOADS. Nothing in Lean hashes anything: it is a label: what it is worth is what the hold of that sum in a sandbox is worth. -/
noncomputable def Tryd.pinned : Pinned := { name := "ytempbknidpmncaadoor", sum := "ccab7951eb7854f5697094cdbbbc4907ee39eb05d110f81654ac9f0d5946e33d", checked := Tryd.checked }
namespace Rows
def none {H : Type} : Left H := { results := [], args := [] }

/- WHAT THE LISTED PACKAGE-LEVEL VARIABLES READ AS WHEN THE CALL BEGINS. Each datum BY PROGRAM (the guide's laid-datum.mjs) off the statement by which the dump's own 'gosem.cut.vars' lays the variable. In a bare row this is a premise. The card (YtempbknidpmncaaDoorCards.lean) ties it to the program's text. -/
def laid_math_bits_deBruijn32tab {H : Type} : DataW H := .agg [.lit (.int .u8 0), .lit (.int .u8 1), .lit (.int .u8 28), .lit (.int .u8 2), .lit (.int .u8 29), .lit (.int .u8 14), .lit (.int .u8 24), .lit (.int .u8 3), .lit (.int .u8 30), .lit (.int .u8 22), .lit (.int .u8 20), .lit (.int .u8 15), .lit (.int .u8 25), .lit (.int .u8 17), .lit (.int .u8 4), .lit (.int .u8 8), .lit (.int .u8 31), .lit (.int .u8 27), .lit (.int .u8 13), .lit (.int .u8 23), .lit (.int .u8 21), .lit (.int .u8 19), .lit (.int .u8 16), .lit (.int .u8 7), .lit (.int .u8 26), .lit (.int .u8 12), .lit (.int .u8 18), .lit (.int .u8 6), .lit (.int .u8 11), .lit (.int .u8 5), .lit (.int .u8 10), .lit (.int .u8 9)]
def laid_math_bits_deBruijn64tab {H : Type} : DataW H := .agg [.lit (.int .u8 0), .lit (.int .u8 1), .lit (.int .u8 56), .lit (.int .u8 2), .lit (.int .u8 57), .lit (.int .u8 49), .lit (.int .u8 28), .lit (.int .u8 3), .lit (.int .u8 61), .lit (.int .u8 58), .lit (.int .u8 42), .lit (.int .u8 50), .lit (.int .u8 38), .lit (.int .u8 29), .lit (.int .u8 17), .lit (.int .u8 4), .lit (.int .u8 62), .lit (.int .u8 47), .lit (.int .u8 59), .lit (.int .u8 36), .lit (.int .u8 45), .lit (.int .u8 43), .lit (.int .u8 51), .lit (.int .u8 22), .lit (.int .u8 53), .lit (.int .u8 39), .lit (.int .u8 33), .lit (.int .u8 30), .lit (.int .u8 24), .lit (.int .u8 18), .lit (.int .u8 12), .lit (.int .u8 5), .lit (.int .u8 63), .lit (.int .u8 55), .lit (.int .u8 48), .lit (.int .u8 27), .lit (.int .u8 60), .lit (.int .u8 41), .lit (.int .u8 37), .lit (.int .u8 16), .lit (.int .u8 46), .lit (.int .u8 35), .lit (.int .u8 44), .lit (.int .u8 21), .lit (.int .u8 52), .lit (.int .u8 32), .lit (.int .u8 23), .lit (.int .u8 11), .lit (.int .u8 54), .lit (.int .u8 26), .lit (.int .u8 40), .lit (.int .u8 15), .lit (.int .u8 34), .lit (.int .u8 20), .lit (.int .u8 31), .lit (.int .u8 10), .lit (.int .u8 25), .lit (.int .u8 14), .lit (.int .u8 19), .lit (.int .u8 9), .lit (.int .u8 13), .lit (.int .u8 8), .lit (.int .u8 7), .lit (.int .u8 6)]
def laid_internal_strconv_uint64pow10 {H : Type} : DataW H := .agg [.lit (.int .u64 1), .lit (.int .u64 10), .lit (.int .u64 100), .lit (.int .u64 1000), .lit (.int .u64 10000), .lit (.int .u64 100000), .lit (.int .u64 1000000), .lit (.int .u64 10000000), .lit (.int .u64 100000000), .lit (.int .u64 1000000000), .lit (.int .u64 10000000000), .lit (.int .u64 100000000000), .lit (.int .u64 1000000000000), .lit (.int .u64 10000000000000), .lit (.int .u64 100000000000000), .lit (.int .u64 1000000000000000), .lit (.int .u64 10000000000000000), .lit (.int .u64 100000000000000000), .lit (.int .u64 1000000000000000000), .lit (.int .u64 10000000000000000000)]
def laid_strconv_ErrRange {H : Type} : DataW H := .iface "*errors.errorString" (.ptr (.agg [.lit (.string [118, 97, 108, 117, 101, 32, 111, 117, 116, 32, 111, 102, 32, 114, 97, 110, 103, 101])]))
def laid_strconv_ErrSyntax {H : Type} : DataW H := .iface "*errors.errorString" (.ptr (.agg [.lit (.string [105, 110, 118, 97, 108, 105, 100, 32, 115, 121, 110, 116, 97, 120])]))
def laid_ullage_countdown_nothing {H : Type} : DataW H := .agg [.lit (.int .i64 (-1099511627776)), .lit (.int .i64 1099511627776)]
def laid_ullage_countdown_words {H : Type} : DataW H := .agg [.lit (.string []), .lit (.string [109, 111, 115, 116]), .lit (.string [108, 101, 97, 115, 116])]
def laid_ullage_countdown_comparisons {H : Type} : DataW H := .iface "func table" (.agg [.agg [.lit (.string [60]), .iface "func" (.lit (.string [117, 108, 108, 97, 103, 101, 47, 99, 111, 117, 110, 116, 100, 111, 119, 110, 46, 99, 111, 109, 112, 97, 114, 105, 115, 111, 110, 115, 36, 49]))], .agg [.lit (.string [60, 61]), .iface "func" (.lit (.string [117, 108, 108, 97, 103, 101, 47, 99, 111, 117, 110, 116, 100, 111, 119, 110, 46, 99, 111, 109, 112, 97, 114, 105, 115, 111, 110, 115, 36, 50]))], .agg [.lit (.string [62]), .iface "func" (.lit (.string [117, 108, 108, 97, 103, 101, 47, 99, 111, 117, 110, 116, 100, 111, 119, 110, 46, 99, 111, 109, 112, 97, 114, 105, 115, 111, 110, 115, 36, 51]))], .agg [.lit (.string [62, 61]), .iface "func" (.lit (.string [117, 108, 108, 97, 103, 101, 47, 99, 111, 117, 110, 116, 100, 111, 119, 110, 46, 99, 111, 109, 112, 97, 114, 105, 115, 111, 110, 115, 36, 52]))], .agg [.lit (.string [61, 61]), .iface "func" (.lit (.string [117, 108, 108, 97, 103, 101, 47, 99, 111, 117, 110, 116, 100, 111, 119, 110, 46, 99, 111, 109, 112, 97, 114, 105, 115, 111, 110, 115, 36, 53]))], .agg [.lit (.string [33, 61]), .iface "func" (.lit (.string [117, 108, 108, 97, 103, 101, 47, 99, 111, 117, 110, 116, 100, 111, 119, 110, 46, 99, 111, 109, 112, 97, 114, 105, 115, 111, 110, 115, 36, 54]))]])
def laid_ullage_countdown_signs {H : Type} : DataW H := .agg [.lit (.string [60, 61]), .lit (.string [62, 61]), .lit (.string [61, 61]), .lit (.string [33, 61]), .lit (.string [60]), .lit (.string [62]), .lit (.string [124]), .lit (.string [38]), .lit (.string [33]), .lit (.string [40]), .lit (.string [41]), .lit (.string [44]), .lit (.string [45])]

/-- 'ullagetop.TopBus': WHATEVER THE INPUT: true; the input reads as it did. -/
def topBusSpec : ChangeSpec := { name := "topBus", fn := fun _ => fun
  | [d1, d2] => { results := [.lit (.bool true)], args := [d1, d2] }
  | _ => none }
def topBusRow : OpenClaim := { program := "ytempbknidpmncaadoor", sum := "ccab7951eb7854f5697094cdbbbc4907ee39eb05d110f81654ac9f0d5946e33d", func := "ullage/ullagetop.TopBus", spec := "topBus", unfollowed := true, recurses := true, named := ["internal/strconv.uint64pow10", "math/bits.deBruijn32tab", "math/bits.deBruijn64tab"], apart := false, laid := [("math/bits.deBruijn32tab", laid_math_bits_deBruijn32tab), ("math/bits.deBruijn64tab", laid_math_bits_deBruijn64tab), ("internal/strconv.uint64pow10", laid_internal_strconv_uint64pow10)] }
def TopBusSaid : Prop := topBusRow.holds Tryd.pinned (OpenSpec.ofChange topBusSpec)

/-- ITS FALSE NEIGHBOUR: 'it returns false'. Refute it at one input. -/
def topBusWrong : ChangeSpec := { name := "topBus", fn := fun _ => fun
  | [d1, d2] => { results := [.lit (.bool false)], args := [d1, d2] }
  | _ => none }
def TopBusWrongFalsely : Prop := topBusRow.holds Tryd.pinned (OpenSpec.ofChange topBusWrong)

/-- 'ullagetop.TopSlipped': WHATEVER THE INPUT: true; the input reads as it did. -/
def topSlippedSpec : ChangeSpec := { name := "topSlipped", fn := fun _ => fun
  | [d1, d2, d3, d4, d5, d6] => { results := [.lit (.bool true)], args := [d1, d2, d3, d4, d5, d6] }
  | _ => none }
def topSlippedRow : OpenClaim := { program := "ytempbknidpmncaadoor", sum := "ccab7951eb7854f5697094cdbbbc4907ee39eb05d110f81654ac9f0d5946e33d", func := "ullage/ullagetop.TopSlipped", spec := "topSlipped", unfollowed := true, recurses := true, named := ["internal/strconv.uint64pow10", "math/bits.deBruijn32tab", "math/bits.deBruijn64tab"], apart := false, laid := [("math/bits.deBruijn32tab", laid_math_bits_deBruijn32tab), ("math/bits.deBruijn64tab", laid_math_bits_deBruijn64tab), ("internal/strconv.uint64pow10", laid_internal_strconv_uint64pow10)] }
def TopSlippedSaid : Prop := topSlippedRow.holds Tryd.pinned (OpenSpec.ofChange topSlippedSpec)

/-- ITS FALSE NEIGHBOUR: 'it returns false'. Refute it at one input. -/
def topSlippedWrong : ChangeSpec := { name := "topSlipped", fn := fun _ => fun
  | [d1, d2, d3, d4, d5, d6] => { results := [.lit (.bool false)], args := [d1, d2, d3, d4, d5, d6] }
  | _ => none }
def TopSlippedWrongFalsely : Prop := topSlippedRow.holds Tryd.pinned (OpenSpec.ofChange topSlippedWrong)

/-- 'ullagetop.TopRuled': WHATEVER THE INPUT: true; the input reads as it did. -/
def topRuledSpec : ChangeSpec := { name := "topRuled", fn := fun _ => fun
  | [d1, d2, d3] => { results := [.lit (.bool true)], args := [d1, d2, d3] }
  | _ => none }
def topRuledRow : OpenClaim := { program := "ytempbknidpmncaadoor", sum := "ccab7951eb7854f5697094cdbbbc4907ee39eb05d110f81654ac9f0d5946e33d", func := "ullage/ullagetop.TopRuled", spec := "topRuled", inPlace := ["slices.overlaps[ullage/api.Seen]"], unfollowed := true, recurses := true, named := ["internal/strconv.uint64pow10", "math/bits.deBruijn32tab", "math/bits.deBruijn64tab", "ullage/countdown.signs", "ullage/countdown.words", "ullage/countdown.comparisons", "strconv.ErrSyntax", "strconv.ErrRange", "ullage/countdown.nothing"], apart := false, laid := [("math/bits.deBruijn32tab", laid_math_bits_deBruijn32tab), ("math/bits.deBruijn64tab", laid_math_bits_deBruijn64tab), ("internal/strconv.uint64pow10", laid_internal_strconv_uint64pow10), ("strconv.ErrRange", laid_strconv_ErrRange), ("strconv.ErrSyntax", laid_strconv_ErrSyntax), ("ullage/countdown.nothing", laid_ullage_countdown_nothing), ("ullage/countdown.words", laid_ullage_countdown_words), ("ullage/countdown.comparisons", laid_ullage_countdown_comparisons), ("ullage/countdown.signs", laid_ullage_countdown_signs)] }
def TopRuledSaid : Prop := topRuledRow.holds Tryd.pinned (OpenSpec.ofChange topRuledSpec)

/-- ITS FALSE NEIGHBOUR: 'it returns false'. Refute it at one input. -/
def topRuledWrong : ChangeSpec := { name := "topRuled", fn := fun _ => fun
  | [d1, d2, d3] => { results := [.lit (.bool false)], args := [d1, d2, d3] }
  | _ => none }
def TopRuledWrongFalsely : Prop := topRuledRow.holds Tryd.pinned (OpenSpec.ofChange topRuledWrong)

/- THE SECOND FORM. 'bulk': how many values and letters a reading holds, each counted each time it is reached (what is shared counts as often as it is met; a slice's spare places count too). A statement '..UptoSaid' is the law's where the arguments, and the package variables that the reading takes, are together of bulk at most 1048576: NARROWER than '..Said'. Prove '..Said' where nothing that the law and all that it calls make is longer than what came in: it says more and counts as full. Else prove '..UptoSaid'. A law counts once. -/
mutual
def uptoBulk {H : Type} : DataW H → Nat
  | .lit (.string bytes) => bytes.length + 1
  | .lit _ => 1
  | .nil => 1
  | .ptr d => uptoBulk d + 1
  | .slice elems spare => uptoBulkAll elems + uptoBulkAll spare + 1
  | .agg parts => uptoBulkAll parts + 1
  | .iface _ d => uptoBulk d + 1
  | .map entries => uptoBulkEntries entries + 1
  | .held _ => 1
def uptoBulkAll {H : Type} : List (DataW H) → Nat
  | [] => 0
  | d :: r => uptoBulk d + uptoBulkAll r
def uptoBulkEntries {H : Type} : List (Lit × DataW H) → Nat
  | [] => 0
  | x :: r => uptoBulkEntry x + uptoBulkEntries r
def uptoBulkEntry {H : Type} : Lit × DataW H → Nat
  | (.string bytes, d) => bytes.length + uptoBulk d + 1
  | (_, d) => uptoBulk d + 1
 end
def uptoSmall : (H : Type) → List (DataW H) → Bool := fun _ ds => decide (uptoBulkAll ds ≤ 1048576)
def OpenSpec.upto (s : _root_.Go.ChangeSpec) : _root_.Go.OpenSpec := { _root_.Go.OpenSpec.ofChange s with cond := some uptoSmall }

/-- 'ullagetop.TopBus', WHERE WHAT IT READS IS OF BULK AT MOST 1048576: true; the input reads as it did. -/
def topBusUptoRow : OpenClaim := { program := "ytempbknidpmncaadoor", sum := "ccab7951eb7854f5697094cdbbbc4907ee39eb05d110f81654ac9f0d5946e33d", func := "ullage/ullagetop.TopBus", spec := "topBus", unfollowed := true, recurses := true, named := ["internal/strconv.uint64pow10", "math/bits.deBruijn32tab", "math/bits.deBruijn64tab"], apart := false, laid := [("math/bits.deBruijn32tab", laid_math_bits_deBruijn32tab), ("math/bits.deBruijn64tab", laid_math_bits_deBruijn64tab), ("internal/strconv.uint64pow10", laid_internal_strconv_uint64pow10)], narrowed := true }
def TopBusUptoSaid : Prop := topBusUptoRow.holds Tryd.pinned (OpenSpec.upto topBusSpec)

/-- 'ullagetop.TopSlipped', WHERE WHAT IT READS IS OF BULK AT MOST 1048576: true; the input reads as it did. -/
def topSlippedUptoRow : OpenClaim := { program := "ytempbknidpmncaadoor", sum := "ccab7951eb7854f5697094cdbbbc4907ee39eb05d110f81654ac9f0d5946e33d", func := "ullage/ullagetop.TopSlipped", spec := "topSlipped", unfollowed := true, recurses := true, named := ["internal/strconv.uint64pow10", "math/bits.deBruijn32tab", "math/bits.deBruijn64tab"], apart := false, laid := [("math/bits.deBruijn32tab", laid_math_bits_deBruijn32tab), ("math/bits.deBruijn64tab", laid_math_bits_deBruijn64tab), ("internal/strconv.uint64pow10", laid_internal_strconv_uint64pow10)], narrowed := true }
def TopSlippedUptoSaid : Prop := topSlippedUptoRow.holds Tryd.pinned (OpenSpec.upto topSlippedSpec)

/-- 'ullagetop.TopRuled', WHERE WHAT IT READS IS OF BULK AT MOST 1048576: true; the input reads as it did. -/
def topRuledUptoRow : OpenClaim := { program := "ytempbknidpmncaadoor", sum := "ccab7951eb7854f5697094cdbbbc4907ee39eb05d110f81654ac9f0d5946e33d", func := "ullage/ullagetop.TopRuled", spec := "topRuled", inPlace := ["slices.overlaps[ullage/api.Seen]"], unfollowed := true, recurses := true, named := ["internal/strconv.uint64pow10", "math/bits.deBruijn32tab", "math/bits.deBruijn64tab", "ullage/countdown.signs", "ullage/countdown.words", "ullage/countdown.comparisons", "strconv.ErrSyntax", "strconv.ErrRange", "ullage/countdown.nothing"], apart := false, laid := [("math/bits.deBruijn32tab", laid_math_bits_deBruijn32tab), ("math/bits.deBruijn64tab", laid_math_bits_deBruijn64tab), ("internal/strconv.uint64pow10", laid_internal_strconv_uint64pow10), ("strconv.ErrRange", laid_strconv_ErrRange), ("strconv.ErrSyntax", laid_strconv_ErrSyntax), ("ullage/countdown.nothing", laid_ullage_countdown_nothing), ("ullage/countdown.words", laid_ullage_countdown_words), ("ullage/countdown.comparisons", laid_ullage_countdown_comparisons), ("ullage/countdown.signs", laid_ullage_countdown_signs)], narrowed := true }
def TopRuledUptoSaid : Prop := topRuledUptoRow.holds Tryd.pinned (OpenSpec.upto topRuledSpec)

end Rows
end Go.Proofs.YtempbknidpmncaaDoor
