/-
  No cell of these rows narrows 'for every input' (looked for: loops, veiled, ifaces, maps, wideKeys, modest, calm, conditions, laid).
  DERIVED. THE GIVEN ROWS OF THIS SEAT. 9 by the template 'for every input the law returns true; each argument reads behind the call as it read before'; 0 by the template 'total and deterministic' (their statements: YtooppkpaahmnhaaTotals.lean).
  GIVEN WITH THE SEED: the statements are not yours to turn. If you find one false, say at which input.
  Laid BY PROGRAM, IN A SANDBOX (cutbox-rows.mjs): the forced cells as the released guide's own fill.sh prints them over the translation afebe726f17651d3… (all of the seat's roots in one cut). By AI agents, Wed Nov 11 2026. No macro, syntax, notation, axiom, sorry.
-/
import Derived.Test.YtooppkpaahmnhaaChecked
import GoSem.Claim
import GoSem.ClaimJoined
import GoSem.ClaimMapViews
import Derived.JoinedTies
import Derived.KernelRfl
namespace Go.Proofs.Ytooppkpaahmnhaa
/- THE CELL 'sum', in the pinned program and in every row, IS THE sha256 OF THE DUMP (.gsa) THAT YtooppkpaahmnhaaProg.lean LOADS. Nothing in Lean hashes anything: it is a label: what it is worth is what the hold of that sum in a sandbox is worth. -/
noncomputable def Try.pinned : Pinned := { name := "ytooppkpaahmnhaa", sum := "afebe726f17651d386b9edf35179b9bd6bb6bd5fd9879634006ea3da8e80be29", checked := Try.checked }
namespace Rows
def none {H : Type} : Left H := { results := [], args := [] }

/-- 'seepagelaw07.FenwickFinds': WHATEVER THE INPUT: true; the input reads as it did. -/
def fenwickFindsSpec : ChangeSpec := { name := "fenwickFinds", fn := fun _ => fun
  | [d1, d2] => { results := [.lit (.bool true)], args := [d1, d2] }
  | _ => none }
def fenwickFindsRow : OpenClaim := { program := "ytooppkpaahmnhaa", sum := "afebe726f17651d386b9edf35179b9bd6bb6bd5fd9879634006ea3da8e80be29", func := "seepage/seepagelaw07.FenwickFinds", spec := "fenwickFinds", unfollowed := true, recurses := true, apart := false }
def FenwickFindsSaid : Prop := fenwickFindsRow.holds Try.pinned (OpenSpec.ofChange fenwickFindsSpec)

/-- ITS FALSE NEIGHBOUR: 'it returns false'. Refute it at one input. -/
def fenwickFindsWrong : ChangeSpec := { name := "fenwickFinds", fn := fun _ => fun
  | [d1, d2] => { results := [.lit (.bool false)], args := [d1, d2] }
  | _ => none }
def FenwickFindsWrongFalsely : Prop := fenwickFindsRow.holds Try.pinned (OpenSpec.ofChange fenwickFindsWrong)

/-- 'seepagelaw07.FenwickCounts': WHATEVER THE INPUT: true; the input reads as it did. -/
def fenwickCountsSpec : ChangeSpec := { name := "fenwickCounts", fn := fun _ => fun
  | [d] => { results := [.lit (.bool true)], args := [d] }
  | _ => none }
def fenwickCountsRow : OpenClaim := { program := "ytooppkpaahmnhaa", sum := "afebe726f17651d386b9edf35179b9bd6bb6bd5fd9879634006ea3da8e80be29", func := "seepage/seepagelaw07.FenwickCounts", spec := "fenwickCounts", unfollowed := true, recurses := true, apart := false }
def FenwickCountsSaid : Prop := fenwickCountsRow.holds Try.pinned (OpenSpec.ofChange fenwickCountsSpec)

/-- ITS FALSE NEIGHBOUR: 'it returns false'. Refute it at one input. -/
def fenwickCountsWrong : ChangeSpec := { name := "fenwickCounts", fn := fun _ => fun
  | [d] => { results := [.lit (.bool false)], args := [d] }
  | _ => none }
def FenwickCountsWrongFalsely : Prop := fenwickCountsRow.holds Try.pinned (OpenSpec.ofChange fenwickCountsWrong)

/-- 'seepagelaw07.FenwickNews': WHATEVER THE INPUT: true; the input reads as it did. -/
def fenwickNewsSpec : ChangeSpec := { name := "fenwickNews", fn := fun _ => fun
  | [d1, d2] => { results := [.lit (.bool true)], args := [d1, d2] }
  | _ => none }
def fenwickNewsRow : OpenClaim := { program := "ytooppkpaahmnhaa", sum := "afebe726f17651d386b9edf35179b9bd6bb6bd5fd9879634006ea3da8e80be29", func := "seepage/seepagelaw07.FenwickNews", spec := "fenwickNews", unfollowed := true, recurses := true, apart := false }
def FenwickNewsSaid : Prop := fenwickNewsRow.holds Try.pinned (OpenSpec.ofChange fenwickNewsSpec)

/-- ITS FALSE NEIGHBOUR: 'it returns false'. Refute it at one input. -/
def fenwickNewsWrong : ChangeSpec := { name := "fenwickNews", fn := fun _ => fun
  | [d1, d2] => { results := [.lit (.bool false)], args := [d1, d2] }
  | _ => none }
def FenwickNewsWrongFalsely : Prop := fenwickNewsRow.holds Try.pinned (OpenSpec.ofChange fenwickNewsWrong)

/-- 'seepagelaw07.FenwickSums': WHATEVER THE INPUT: true; the input reads as it did. -/
def fenwickSumsSpec : ChangeSpec := { name := "fenwickSums", fn := fun _ => fun
  | [d1, d2, d3, d4] => { results := [.lit (.bool true)], args := [d1, d2, d3, d4] }
  | _ => none }
def fenwickSumsRow : OpenClaim := { program := "ytooppkpaahmnhaa", sum := "afebe726f17651d386b9edf35179b9bd6bb6bd5fd9879634006ea3da8e80be29", func := "seepage/seepagelaw07.FenwickSums", spec := "fenwickSums", unfollowed := true, recurses := true, apart := false }
def FenwickSumsSaid : Prop := fenwickSumsRow.holds Try.pinned (OpenSpec.ofChange fenwickSumsSpec)

/-- ITS FALSE NEIGHBOUR: 'it returns false'. Refute it at one input. -/
def fenwickSumsWrong : ChangeSpec := { name := "fenwickSums", fn := fun _ => fun
  | [d1, d2, d3, d4] => { results := [.lit (.bool false)], args := [d1, d2, d3, d4] }
  | _ => none }
def FenwickSumsWrongFalsely : Prop := fenwickSumsRow.holds Try.pinned (OpenSpec.ofChange fenwickSumsWrong)

/-- 'seepagelaw07.FenwickOrder': WHATEVER THE INPUT: true; the input reads as it did. -/
def fenwickOrderSpec : ChangeSpec := { name := "fenwickOrder", fn := fun _ => fun
  | [d1, d2] => { results := [.lit (.bool true)], args := [d1, d2] }
  | _ => none }
def fenwickOrderRow : OpenClaim := { program := "ytooppkpaahmnhaa", sum := "afebe726f17651d386b9edf35179b9bd6bb6bd5fd9879634006ea3da8e80be29", func := "seepage/seepagelaw07.FenwickOrder", spec := "fenwickOrder", unfollowed := true, recurses := true, apart := false }
def FenwickOrderSaid : Prop := fenwickOrderRow.holds Try.pinned (OpenSpec.ofChange fenwickOrderSpec)

/-- ITS FALSE NEIGHBOUR: 'it returns false'. Refute it at one input. -/
def fenwickOrderWrong : ChangeSpec := { name := "fenwickOrder", fn := fun _ => fun
  | [d1, d2] => { results := [.lit (.bool false)], args := [d1, d2] }
  | _ => none }
def FenwickOrderWrongFalsely : Prop := fenwickOrderRow.holds Try.pinned (OpenSpec.ofChange fenwickOrderWrong)

/-- 'seepagelaw07.FenwickOver': WHATEVER THE INPUT: true; the input reads as it did. -/
def fenwickOverSpec : ChangeSpec := { name := "fenwickOver", fn := fun _ => fun
  | [d1, d2, d3, d4] => { results := [.lit (.bool true)], args := [d1, d2, d3, d4] }
  | _ => none }
def fenwickOverRow : OpenClaim := { program := "ytooppkpaahmnhaa", sum := "afebe726f17651d386b9edf35179b9bd6bb6bd5fd9879634006ea3da8e80be29", func := "seepage/seepagelaw07.FenwickOver", spec := "fenwickOver", unfollowed := true, recurses := true, apart := false }
def FenwickOverSaid : Prop := fenwickOverRow.holds Try.pinned (OpenSpec.ofChange fenwickOverSpec)

/-- ITS FALSE NEIGHBOUR: 'it returns false'. Refute it at one input. -/
def fenwickOverWrong : ChangeSpec := { name := "fenwickOver", fn := fun _ => fun
  | [d1, d2, d3, d4] => { results := [.lit (.bool false)], args := [d1, d2, d3, d4] }
  | _ => none }
def FenwickOverWrongFalsely : Prop := fenwickOverRow.holds Try.pinned (OpenSpec.ofChange fenwickOverWrong)

/-- 'seepagelaw07.FenwickPlays': WHATEVER THE INPUT: true; the input reads as it did. -/
def fenwickPlaysSpec : ChangeSpec := { name := "fenwickPlays", fn := fun _ => fun
  | [d1, d2] => { results := [.lit (.bool true)], args := [d1, d2] }
  | _ => none }
def fenwickPlaysRow : OpenClaim := { program := "ytooppkpaahmnhaa", sum := "afebe726f17651d386b9edf35179b9bd6bb6bd5fd9879634006ea3da8e80be29", func := "seepage/seepagelaw07.FenwickPlays", spec := "fenwickPlays", unfollowed := true, recurses := true, apart := false }
def FenwickPlaysSaid : Prop := fenwickPlaysRow.holds Try.pinned (OpenSpec.ofChange fenwickPlaysSpec)

/-- ITS FALSE NEIGHBOUR: 'it returns false'. Refute it at one input. -/
def fenwickPlaysWrong : ChangeSpec := { name := "fenwickPlays", fn := fun _ => fun
  | [d1, d2] => { results := [.lit (.bool false)], args := [d1, d2] }
  | _ => none }
def FenwickPlaysWrongFalsely : Prop := fenwickPlaysRow.holds Try.pinned (OpenSpec.ofChange fenwickPlaysWrong)

/-- 'seepagelaw07.FenwickNil': WHATEVER THE INPUT: true; the input reads as it did. -/
def fenwickNilSpec : ChangeSpec := { name := "fenwickNil", fn := fun _ => fun
  | [d] => { results := [.lit (.bool true)], args := [d] }
  | _ => none }
def fenwickNilRow : OpenClaim := { program := "ytooppkpaahmnhaa", sum := "afebe726f17651d386b9edf35179b9bd6bb6bd5fd9879634006ea3da8e80be29", func := "seepage/seepagelaw07.FenwickNil", spec := "fenwickNil", unfollowed := true, recurses := true, apart := false }
def FenwickNilSaid : Prop := fenwickNilRow.holds Try.pinned (OpenSpec.ofChange fenwickNilSpec)

/-- ITS FALSE NEIGHBOUR: 'it returns false'. Refute it at one input. -/
def fenwickNilWrong : ChangeSpec := { name := "fenwickNil", fn := fun _ => fun
  | [d] => { results := [.lit (.bool false)], args := [d] }
  | _ => none }
def FenwickNilWrongFalsely : Prop := fenwickNilRow.holds Try.pinned (OpenSpec.ofChange fenwickNilWrong)

/-- 'seepagelaw07.FenwickCopies': WHATEVER THE INPUT: true; the input reads as it did. -/
def fenwickCopiesSpec : ChangeSpec := { name := "fenwickCopies", fn := fun _ => fun
  | [d1, d2, d3] => { results := [.lit (.bool true)], args := [d1, d2, d3] }
  | _ => none }
def fenwickCopiesRow : OpenClaim := { program := "ytooppkpaahmnhaa", sum := "afebe726f17651d386b9edf35179b9bd6bb6bd5fd9879634006ea3da8e80be29", func := "seepage/seepagelaw07.FenwickCopies", spec := "fenwickCopies", unfollowed := true, recurses := true, apart := false }
def FenwickCopiesSaid : Prop := fenwickCopiesRow.holds Try.pinned (OpenSpec.ofChange fenwickCopiesSpec)

/-- ITS FALSE NEIGHBOUR: 'it returns false'. Refute it at one input. -/
def fenwickCopiesWrong : ChangeSpec := { name := "fenwickCopies", fn := fun _ => fun
  | [d1, d2, d3] => { results := [.lit (.bool false)], args := [d1, d2, d3] }
  | _ => none }
def FenwickCopiesWrongFalsely : Prop := fenwickCopiesRow.holds Try.pinned (OpenSpec.ofChange fenwickCopiesWrong)

/- THE SECOND FORM. 'bulk': how many values and letters a reading holds, each counted each time it is reached (what is shared counts as often as it is met; a slice's spare places count too). A statement '..UptoSaid' is the law's where the arguments, and the package variables that the reading takes, are together of bulk at most 1048576: NARROWER than '..Said'. Prove '..Said' where nothing that the law and all that it calls make is longer than what came in: it says more and counts as full. Else prove '..UptoSaid'. A law counts once. -/
mutual
def uptoBulk {H : Type} : DataW H → Nat
  | .lit (.string bytes) => bytes.length + 1
  | .lit _ => 1
  | .nil => 1
  | .ptr d => uptoBulk d + 1
  | .slice elems spare => uptoBulkAll elems + uptoBulkAll spare + 1
  | .agg parts => uptoBulkAll parts + 1
  | .iface _ d => uptoBulk d + 1
  | .map entries => uptoBulkEntries entries + 1
  | .held _ => 1
def uptoBulkAll {H : Type} : List (DataW H) → Nat
  | [] => 0
  | d :: r => uptoBulk d + uptoBulkAll r
def uptoBulkEntries {H : Type} : List (Lit × DataW H) → Nat
  | [] => 0
  | x :: r => uptoBulkEntry x + uptoBulkEntries r
def uptoBulkEntry {H : Type} : Lit × DataW H → Nat
  | (.string bytes, d) => bytes.length + uptoBulk d + 1
  | (_, d) => uptoBulk d + 1
 end
def uptoSmall : (H : Type) → List (DataW H) → Bool := fun _ ds => decide (uptoBulkAll ds ≤ 1048576)
def OpenSpec.upto (s : _root_.Go.ChangeSpec) : _root_.Go.OpenSpec := { _root_.Go.OpenSpec.ofChange s with cond := some uptoSmall }

/-- 'seepagelaw07.FenwickFinds', WHERE WHAT IT READS IS OF BULK AT MOST 1048576: true; the input reads as it did. -/
def fenwickFindsUptoRow : OpenClaim := { program := "ytooppkpaahmnhaa", sum := "afebe726f17651d386b9edf35179b9bd6bb6bd5fd9879634006ea3da8e80be29", func := "seepage/seepagelaw07.FenwickFinds", spec := "fenwickFinds", unfollowed := true, recurses := true, apart := false, narrowed := true }
def FenwickFindsUptoSaid : Prop := fenwickFindsUptoRow.holds Try.pinned (OpenSpec.upto fenwickFindsSpec)

/-- 'seepagelaw07.FenwickCounts', WHERE WHAT IT READS IS OF BULK AT MOST 1048576: true; the input reads as it did. -/
def fenwickCountsUptoRow : OpenClaim := { program := "ytooppkpaahmnhaa", sum := "afebe726f17651d386b9edf35179b9bd6bb6bd5fd9879634006ea3da8e80be29", func := "seepage/seepagelaw07.FenwickCounts", spec := "fenwickCounts", unfollowed := true, recurses := true, apart := false, narrowed := true }
def FenwickCountsUptoSaid : Prop := fenwickCountsUptoRow.holds Try.pinned (OpenSpec.upto fenwickCountsSpec)

/-- 'seepagelaw07.FenwickNews', WHERE WHAT IT READS IS OF BULK AT MOST 1048576: true; the input reads as it did. -/
def fenwickNewsUptoRow : OpenClaim := { program := "ytooppkpaahmnhaa", sum := "afebe726f17651d386b9edf35179b9bd6bb6bd5fd9879634006ea3da8e80be29", func := "seepage/seepagelaw07.FenwickNews", spec := "fenwickNews", unfollowed := true, recurses := true, apart := false, narrowed := true }
def FenwickNewsUptoSaid : Prop := fenwickNewsUptoRow.holds Try.pinned (OpenSpec.upto fenwickNewsSpec)

/-- 'seepagelaw07.FenwickSums', WHERE WHAT IT READS IS OF BULK AT MOST 1048576: true; the input reads as it did. -/
def fenwickSumsUptoRow : OpenClaim := { program := "ytooppkpaahmnhaa", sum := "afebe726f17651d386b9edf35179b9bd6bb6bd5fd9879634006ea3da8e80be29", func := "seepage/seepagelaw07.FenwickSums", spec := "fenwickSums", unfollowed := true, recurses := true, apart := false, narrowed := true }
def FenwickSumsUptoSaid : Prop := fenwickSumsUptoRow.holds Try.pinned (OpenSpec.upto fenwickSumsSpec)

/-- 'seepagelaw07.FenwickOrder', WHERE WHAT IT READS IS OF BULK AT MOST 1048576: true; the input reads as it did. -/
def fenwickOrderUptoRow : OpenClaim := { program := "ytooppkpaahmnhaa", sum := "afebe726f17651d386b9edf35179b9bd6bb6bd5fd9879634006ea3da8e80be29", func := "seepage/seepagelaw07.FenwickOrder", spec := "fenwickOrder", unfollowed := true, recurses := true, apart := false, narrowed := true }
def FenwickOrderUptoSaid : Prop := fenwickOrderUptoRow.holds Try.pinned (OpenSpec.upto fenwickOrderSpec)

/-- 'seepagelaw07.FenwickOver', WHERE WHAT IT READS IS OF BULK AT MOST 1048576: true; the input reads as it did. -/
def fenwickOverUptoRow : OpenClaim := { program := "ytooppkpaahmnhaa", sum := "afebe726f17651d386b9edf35179b9bd6bb6bd5fd9879634006ea3da8e80be29", func := "seepage/seepagelaw07.FenwickOver", spec := "fenwickOver", unfollowed := true, recurses := true, apart := false, narrowed := true }
def FenwickOverUptoSaid : Prop := fenwickOverUptoRow.holds Try.pinned (OpenSpec.upto fenwickOverSpec)

/-- 'seepagelaw07.FenwickPlays', WHERE WHAT IT READS IS OF BULK AT MOST 1048576: true; the input reads as it did. -/
def fenwickPlaysUptoRow : OpenClaim := { program := "ytooppkpaahmnhaa", sum := "afebe726f17651d386b9edf35179b9bd6bb6bd5fd9879634006ea3da8e80be29", func := "seepage/seepagelaw07.FenwickPlays", spec := "fenwickPlays", unfollowed := true, recurses := true, apart := false, narrowed := true }
def FenwickPlaysUptoSaid : Prop := fenwickPlaysUptoRow.holds Try.pinned (OpenSpec.upto fenwickPlaysSpec)

/-- 'seepagelaw07.FenwickNil', WHERE WHAT IT READS IS OF BULK AT MOST 1048576: true; the input reads as it did. -/
def fenwickNilUptoRow : OpenClaim := { program := "ytooppkpaahmnhaa", sum := "afebe726f17651d386b9edf35179b9bd6bb6bd5fd9879634006ea3da8e80be29", func := "seepage/seepagelaw07.FenwickNil", spec := "fenwickNil", unfollowed := true, recurses := true, apart := false, narrowed := true }
def FenwickNilUptoSaid : Prop := fenwickNilUptoRow.holds Try.pinned (OpenSpec.upto fenwickNilSpec)

/-- 'seepagelaw07.FenwickCopies', WHERE WHAT IT READS IS OF BULK AT MOST 1048576: true; the input reads as it did. -/
def fenwickCopiesUptoRow : OpenClaim := { program := "ytooppkpaahmnhaa", sum := "afebe726f17651d386b9edf35179b9bd6bb6bd5fd9879634006ea3da8e80be29", func := "seepage/seepagelaw07.FenwickCopies", spec := "fenwickCopies", unfollowed := true, recurses := true, apart := false, narrowed := true }
def FenwickCopiesUptoSaid : Prop := fenwickCopiesUptoRow.holds Try.pinned (OpenSpec.upto fenwickCopiesSpec)

end Rows
end Go.Proofs.Ytooppkpaahmnhaa
