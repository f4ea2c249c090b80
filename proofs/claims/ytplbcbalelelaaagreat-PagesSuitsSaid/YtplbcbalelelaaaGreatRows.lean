/-
  No cell of these rows narrows 'for every input' (looked for: loops, veiled, ifaces, maps, wideKeys, modest, calm, conditions, laid).
  DERIVED. THE GIVEN ROWS OF THIS SEAT. 4 by the template 'for every input the law returns true; each argument reads behind the call as it read before'; 0 by the template 'total and deterministic' (their statements: YtplbcbalelelaaaGreatTotals.lean).
  GIVEN WITH THE SEED: the statements are not yours to turn. If you find one false, say at which input.
  Laid BY PROGRAM, IN A SANDBOX (cutbox-rows.mjs): the forced cells as the released guide's own fill.sh prints them over the translation dfb766b223f51b58… (all of the seat's roots in one cut). By AI agents, Wed Nov 11 2026. No macro, syntax, notation, axiom, sorry.
-/
import Derived.Test.YtplbcbalelelaaaGreatChecked
import GoSem.Claim
import GoSem.ClaimJoined
import GoSem.ClaimMapViews
import Derived.JoinedTies
import Derived.KernelRfl
namespace Go.Proofs.YtplbcbalelelaaaGreat
/- THE CELL 'sum', in the pinned program and in every row, IS THE sha256 OF THE DUMP (.gsa) THAT YtplbcbalelelaaaGreatProg.lean LOADS. Nothing in Lean hashes anything: it is a label: what it is worth is what the hold of that sum in a sandbox is worth. -/
noncomputable def Tryz.pinned : Pinned := { name := "ytplbcbalelelaaagreat", sum := "dfb766b223f51b58360cd9f369396c3fef969387950f64b4c2be445d00f97c20", checked := Tryz.checked }
namespace Rows
def none {H : Type} : Left H := { results := [], args := [] }

/-- 'marquetrylaw23.PagesSuits': WHATEVER THE INPUT: true; the input reads as it did. -/
def pagesSuitsSpec : ChangeSpec := { name := "pagesSuits", fn := fun _ => fun
  | [d1, d2] => { results := [.lit (.bool true)], args := [d1, d2] }
  | _ => none }
def pagesSuitsRow : OpenClaim := { program := "ytplbcbalelelaaagreat", sum := "dfb766b223f51b58360cd9f369396c3fef969387950f64b4c2be445d00f97c20", func := "marquetry/marquetrylaw23.PagesSuits", spec := "pagesSuits", inPlace := ["math/bits.Sub64", "math/bits.Add64"], unfollowed := true, recurses := true, plainKeys := false, apart := false }
def PagesSuitsSaid : Prop := pagesSuitsRow.holds Tryz.pinned (OpenSpec.ofChange pagesSuitsSpec)

/-- ITS FALSE NEIGHBOUR: 'it returns false'. Refute it at one input. -/
def pagesSuitsWrong : ChangeSpec := { name := "pagesSuits", fn := fun _ => fun
  | [d1, d2] => { results := [.lit (.bool false)], args := [d1, d2] }
  | _ => none }
def PagesSuitsWrongFalsely : Prop := pagesSuitsRow.holds Tryz.pinned (OpenSpec.ofChange pagesSuitsWrong)

/-- 'marquetrylaw23.PagesEncode': WHATEVER THE INPUT: true; the input reads as it did. -/
def pagesEncodeSpec : ChangeSpec := { name := "pagesEncode", fn := fun _ => fun
  | [d1, d2] => { results := [.lit (.bool true)], args := [d1, d2] }
  | _ => none }
def pagesEncodeRow : OpenClaim := { program := "ytplbcbalelelaaagreat", sum := "dfb766b223f51b58360cd9f369396c3fef969387950f64b4c2be445d00f97c20", func := "marquetry/marquetrylaw23.PagesEncode", spec := "pagesEncode", inPlace := ["math/bits.Sub64", "math/bits.Add64"], unfollowed := true, recurses := true, plainKeys := false, apart := false }
def PagesEncodeSaid : Prop := pagesEncodeRow.holds Tryz.pinned (OpenSpec.ofChange pagesEncodeSpec)

/-- ITS FALSE NEIGHBOUR: 'it returns false'. Refute it at one input. -/
def pagesEncodeWrong : ChangeSpec := { name := "pagesEncode", fn := fun _ => fun
  | [d1, d2] => { results := [.lit (.bool false)], args := [d1, d2] }
  | _ => none }
def PagesEncodeWrongFalsely : Prop := pagesEncodeRow.holds Tryz.pinned (OpenSpec.ofChange pagesEncodeWrong)

/-- 'marquetrylaw23.PagesDecode': WHATEVER THE INPUT: true; the input reads as it did. -/
def pagesDecodeSpec : ChangeSpec := { name := "pagesDecode", fn := fun _ => fun
  | [d1, d2, d3] => { results := [.lit (.bool true)], args := [d1, d2, d3] }
  | _ => none }
def pagesDecodeRow : OpenClaim := { program := "ytplbcbalelelaaagreat", sum := "dfb766b223f51b58360cd9f369396c3fef969387950f64b4c2be445d00f97c20", func := "marquetry/marquetrylaw23.PagesDecode", spec := "pagesDecode", inPlace := ["math/bits.Sub64", "math/bits.Add64"], unfollowed := true, recurses := true, plainKeys := false, apart := false }
def PagesDecodeSaid : Prop := pagesDecodeRow.holds Tryz.pinned (OpenSpec.ofChange pagesDecodeSpec)

/-- ITS FALSE NEIGHBOUR: 'it returns false'. Refute it at one input. -/
def pagesDecodeWrong : ChangeSpec := { name := "pagesDecode", fn := fun _ => fun
  | [d1, d2, d3] => { results := [.lit (.bool false)], args := [d1, d2, d3] }
  | _ => none }
def PagesDecodeWrongFalsely : Prop := pagesDecodeRow.holds Tryz.pinned (OpenSpec.ofChange pagesDecodeWrong)

/-- 'marquetrylaw23.PagesOpen': WHATEVER THE INPUT: true; the input reads as it did. -/
def pagesOpenSpec : ChangeSpec := { name := "pagesOpen", fn := fun _ => fun
  | [d1, d2, d3] => { results := [.lit (.bool true)], args := [d1, d2, d3] }
  | _ => none }
def pagesOpenRow : OpenClaim := { program := "ytplbcbalelelaaagreat", sum := "dfb766b223f51b58360cd9f369396c3fef969387950f64b4c2be445d00f97c20", func := "marquetry/marquetrylaw23.PagesOpen", spec := "pagesOpen", unfollowed := true, recurses := true, plainKeys := false, apart := false }
def PagesOpenSaid : Prop := pagesOpenRow.holds Tryz.pinned (OpenSpec.ofChange pagesOpenSpec)

/-- ITS FALSE NEIGHBOUR: 'it returns false'. Refute it at one input. -/
def pagesOpenWrong : ChangeSpec := { name := "pagesOpen", fn := fun _ => fun
  | [d1, d2, d3] => { results := [.lit (.bool false)], args := [d1, d2, d3] }
  | _ => none }
def PagesOpenWrongFalsely : Prop := pagesOpenRow.holds Tryz.pinned (OpenSpec.ofChange pagesOpenWrong)

/- THE SECOND FORM. 'bulk': how many values and letters a reading holds, each counted each time it is reached (what is shared counts as often as it is met; a slice's spare places count too). A statement '..UptoSaid' is the law's where the arguments, and the package variables that the reading takes, are together of bulk at most 1048576: NARROWER than '..Said'. Prove '..Said' where nothing that the law and all that it calls make is longer than what came in: it says more and counts as full. Else prove '..UptoSaid'. A law counts once. -/
mutual
def uptoBulk {H : Type} : DataW H → Nat
  | .lit (.string bytes) => bytes.length + 1
  | .lit _ => 1
  | .nil => 1
  | .ptr d => uptoBulk d + 1
  | .slice elems spare => uptoBulkAll elems + uptoBulkAll spare + 1
  | .agg parts => uptoBulkAll parts + 1
  | .iface _ d => uptoBulk d + 1
  | .map entries => uptoBulkEntries entries + 1
  | .held _ => 1
def uptoBulkAll {H : Type} : List (DataW H) → Nat
  | [] => 0
  | d :: r => uptoBulk d + uptoBulkAll r
def uptoBulkEntries {H : Type} : List (Lit × DataW H) → Nat
  | [] => 0
  | x :: r => uptoBulkEntry x + uptoBulkEntries r
def uptoBulkEntry {H : Type} : Lit × DataW H → Nat
  | (.string bytes, d) => bytes.length + uptoBulk d + 1
  | (_, d) => uptoBulk d + 1
 end
def uptoSmall : (H : Type) → List (DataW H) → Bool := fun _ ds => decide (uptoBulkAll ds ≤ 1048576)
def OpenSpec.upto (s : _root_.Go.ChangeSpec) : _root_.Go.OpenSpec := { _root_.Go.OpenSpec.ofChange s with cond := some uptoSmall }

/-- 'marquetrylaw23.PagesSuits', WHERE WHAT IT READS IS OF BULK AT MOST 1048576: true; the input reads as it did. -/
def pagesSuitsUptoRow : OpenClaim := { program := "ytplbcbalelelaaagreat", sum := "dfb766b223f51b58360cd9f369396c3fef969387950f64b4c2be445d00f97c20", func := "marquetry/marquetrylaw23.PagesSuits", spec := "pagesSuits", inPlace := ["math/bits.Sub64", "math/bits.Add64"], unfollowed := true, recurses := true, plainKeys := false, apart := false, narrowed := true }
def PagesSuitsUptoSaid : Prop := pagesSuitsUptoRow.holds Tryz.pinned (OpenSpec.upto pagesSuitsSpec)

/-- 'marquetrylaw23.PagesEncode', WHERE WHAT IT READS IS OF BULK AT MOST 1048576: true; the input reads as it did. -/
def pagesEncodeUptoRow : OpenClaim := { program := "ytplbcbalelelaaagreat", sum := "dfb766b223f51b58360cd9f369396c3fef969387950f64b4c2be445d00f97c20", func := "marquetry/marquetrylaw23.PagesEncode", spec := "pagesEncode", inPlace := ["math/bits.Sub64", "math/bits.Add64"], unfollowed := true, recurses := true, plainKeys := false, apart := false, narrowed := true }
def PagesEncodeUptoSaid : Prop := pagesEncodeUptoRow.holds Tryz.pinned (OpenSpec.upto pagesEncodeSpec)

/-- 'marquetrylaw23.PagesDecode', WHERE WHAT IT READS IS OF BULK AT MOST 1048576: true; the input reads as it did. -/
def pagesDecodeUptoRow : OpenClaim := { program := "ytplbcbalelelaaagreat", sum := "dfb766b223f51b58360cd9f369396c3fef969387950f64b4c2be445d00f97c20", func := "marquetry/marquetrylaw23.PagesDecode", spec := "pagesDecode", inPlace := ["math/bits.Sub64", "math/bits.Add64"], unfollowed := true, recurses := true, plainKeys := false, apart := false, narrowed := true }
def PagesDecodeUptoSaid : Prop := pagesDecodeUptoRow.holds Tryz.pinned (OpenSpec.upto pagesDecodeSpec)

/-- 'marquetrylaw23.PagesOpen', WHERE WHAT IT READS IS OF BULK AT MOST 1048576: true; the input reads as it did. -/
def pagesOpenUptoRow : OpenClaim := { program := "ytplbcbalelelaaagreat", sum := "dfb766b223f51b58360cd9f369396c3fef969387950f64b4c2be445d00f97c20", func := "marquetry/marquetrylaw23.PagesOpen", spec := "pagesOpen", unfollowed := true, recurses := true, plainKeys := false, apart := false, narrowed := true }
def PagesOpenUptoSaid : Prop := pagesOpenUptoRow.holds Tryz.pinned (OpenSpec.upto pagesOpenSpec)

end Rows
end Go.Proofs.YtplbcbalelelaaaGreat
