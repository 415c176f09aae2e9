/-
  No cell of these rows narrows 'for every input' (looked for: loops, veiled, ifaces, maps, wideKeys, modest, calm, conditions, laid).
  DERIVED. THE GIVEN ROWS OF THIS SEAT. 3 by the template 'for every input the law returns true; each argument reads behind the call as it read before'; 0 by the template 'total and deterministic' (their statements: YtljkjdhkofbgmaaTotals.lean).
  GIVEN WITH THE SEED: the statements are not yours to turn. If you find one false, say at which input.
  Laid BY PROGRAM, IN A SANDBOX (cutbox-rows.mjs): the forced cells as the released guide's own fill.sh prints them over the translation 0edab7560f66f763… (all of the seat's roots in one cut). By AI agents, Wed Nov 11 2026. No macro, syntax, notation, axiom, sorry.
-/
import Derived.Test.YtljkjdhkofbgmaaChecked
import GoSem.Claim
import GoSem.ClaimJoined
import GoSem.ClaimMapViews
import Derived.JoinedTies
import Derived.KernelRfl
namespace Go.Proofs.Ytljkjdhkofbgmaa
/- THE CELL 'sum', in the pinned program and in every row, IS THE sha256 OF THE DUMP (.gsa) THAT YtljkjdhkofbgmaaProg.lean LOADS. Nothing in Lean hashes anything: it is a label: what it is worth is what the hold of that sum in a sandbox is worth. -/
noncomputable def Try.pinned : Pinned := { name := "ytljkjdhkofbgmaa", sum := "0edab7560f66f763dd3f420a85b54952f30f2dbebee16c922aca6dd05d70b744", checked := Try.checked }
namespace Rows
def none {H : Type} : Left H := { results := [], args := [] }

/-- 'reliquarylaw07.XtsBack': WHATEVER THE INPUT: true; the input reads as it did. -/
def xtsBackSpec : ChangeSpec := { name := "xtsBack", fn := fun _ => fun
  | [d1, d2, d3] => { results := [.lit (.bool true)], args := [d1, d2, d3] }
  | _ => none }
def xtsBackRow : OpenClaim := { program := "ytljkjdhkofbgmaa", sum := "0edab7560f66f763dd3f420a85b54952f30f2dbebee16c922aca6dd05d70b744", func := "reliquary/reliquarylaw07.XtsBack", spec := "xtsBack", unfollowed := true, recurses := true, apart := false }
def XtsBackSaid : Prop := xtsBackRow.holds Try.pinned (OpenSpec.ofChange xtsBackSpec)

/-- ITS FALSE NEIGHBOUR: 'it returns false'. Refute it at one input. -/
def xtsBackWrong : ChangeSpec := { name := "xtsBack", fn := fun _ => fun
  | [d1, d2, d3] => { results := [.lit (.bool false)], args := [d1, d2, d3] }
  | _ => none }
def XtsBackWrongFalsely : Prop := xtsBackRow.holds Try.pinned (OpenSpec.ofChange xtsBackWrong)

/-- 'reliquarylaw07.XtsAlone': WHATEVER THE INPUT: true; the input reads as it did. -/
def xtsAloneSpec : ChangeSpec := { name := "xtsAlone", fn := fun _ => fun
  | [d1, d2, d3] => { results := [.lit (.bool true)], args := [d1, d2, d3] }
  | _ => none }
def xtsAloneRow : OpenClaim := { program := "ytljkjdhkofbgmaa", sum := "0edab7560f66f763dd3f420a85b54952f30f2dbebee16c922aca6dd05d70b744", func := "reliquary/reliquarylaw07.XtsAlone", spec := "xtsAlone", unfollowed := true, recurses := true, apart := false }
def XtsAloneSaid : Prop := xtsAloneRow.holds Try.pinned (OpenSpec.ofChange xtsAloneSpec)

/-- ITS FALSE NEIGHBOUR: 'it returns false'. Refute it at one input. -/
def xtsAloneWrong : ChangeSpec := { name := "xtsAlone", fn := fun _ => fun
  | [d1, d2, d3] => { results := [.lit (.bool false)], args := [d1, d2, d3] }
  | _ => none }
def XtsAloneWrongFalsely : Prop := xtsAloneRow.holds Try.pinned (OpenSpec.ofChange xtsAloneWrong)

/-- 'reliquarylaw07.XtsBlock': WHATEVER THE INPUT: true; the input reads as it did. -/
def xtsBlockSpec : ChangeSpec := { name := "xtsBlock", fn := fun _ => fun
  | [d1, d2, d3] => { results := [.lit (.bool true)], args := [d1, d2, d3] }
  | _ => none }
def xtsBlockRow : OpenClaim := { program := "ytljkjdhkofbgmaa", sum := "0edab7560f66f763dd3f420a85b54952f30f2dbebee16c922aca6dd05d70b744", func := "reliquary/reliquarylaw07.XtsBlock", spec := "xtsBlock", unfollowed := true, recurses := true, apart := false }
def XtsBlockSaid : Prop := xtsBlockRow.holds Try.pinned (OpenSpec.ofChange xtsBlockSpec)

/-- ITS FALSE NEIGHBOUR: 'it returns false'. Refute it at one input. -/
def xtsBlockWrong : ChangeSpec := { name := "xtsBlock", fn := fun _ => fun
  | [d1, d2, d3] => { results := [.lit (.bool false)], args := [d1, d2, d3] }
  | _ => none }
def XtsBlockWrongFalsely : Prop := xtsBlockRow.holds Try.pinned (OpenSpec.ofChange xtsBlockWrong)

/- THE SECOND FORM. 'bulk': how many values and letters a reading holds, each counted each time it is reached (what is shared counts as often as it is met; a slice's spare places count too). A statement '..UptoSaid' is the law's where the arguments, and the package variables that the reading takes, are together of bulk at most 1048576: NARROWER than '..Said'. Prove '..Said' where nothing that the law and all that it calls make is longer than what came in: it says more and counts as full. Else prove '..UptoSaid'. A law counts once. -/
mutual
def uptoBulk {H : Type} : DataW H → Nat
  | .lit (.string bytes) => bytes.length + 1
  | .lit _ => 1
  | .nil => 1
  | .ptr d => uptoBulk d + 1
  | .slice elems spare => uptoBulkAll elems + uptoBulkAll spare + 1
  | .agg parts => uptoBulkAll parts + 1
  | .iface _ d => uptoBulk d + 1
  | .map entries => uptoBulkEntries entries + 1
  | .held _ => 1
def uptoBulkAll {H : Type} : List (DataW H) → Nat
  | [] => 0
  | d :: r => uptoBulk d + uptoBulkAll r
def uptoBulkEntries {H : Type} : List (Lit × DataW H) → Nat
  | [] => 0
  | x :: r => uptoBulkEntry x + uptoBulkEntries r
def uptoBulkEntry {H : Type} : Lit × DataW H → Nat
  | (.string bytes, d) => bytes.length + uptoBulk d + 1
  | (_, d) => uptoBulk d + 1
 end
def uptoSmall : (H : Type) → List (DataW H) → Bool := fun _ ds => decide (uptoBulkAll ds ≤ 1048576)
def OpenSpec.upto (s : _root_.Go.ChangeSpec) : _root_.Go.OpenSpec := { _root_.Go.OpenSpec.ofChange s with cond := some uptoSmall }

/-- 'reliquarylaw07.XtsBack', WHERE WHAT IT READS IS OF BULK AT MOST 1048576: true; the input reads as it did. -/
def xtsBackUptoRow : OpenClaim := { program := "ytljkjdhkofbgmaa", sum := "0edab7560f66f763dd3f420a85b54952f30f2dbebee16c922aca6dd05d70b744", func := "reliquary/reliquarylaw07.XtsBack", spec := "xtsBack", unfollowed := true, recurses := true, apart := false, narrowed := true }
def XtsBackUptoSaid : Prop := xtsBackUptoRow.holds Try.pinned (OpenSpec.upto xtsBackSpec)

/-- 'reliquarylaw07.XtsAlone', WHERE WHAT IT READS IS OF BULK AT MOST 1048576: true; the input reads as it did. -/
def xtsAloneUptoRow : OpenClaim := { program := "ytljkjdhkofbgmaa", sum := "0edab7560f66f763dd3f420a85b54952f30f2dbebee16c922aca6dd05d70b744", func := "reliquary/reliquarylaw07.XtsAlone", spec := "xtsAlone", unfollowed := true, recurses := true, apart := false, narrowed := true }
def XtsAloneUptoSaid : Prop := xtsAloneUptoRow.holds Try.pinned (OpenSpec.upto xtsAloneSpec)

/-- 'reliquarylaw07.XtsBlock', WHERE WHAT IT READS IS OF BULK AT MOST 1048576: true; the input reads as it did. -/
def xtsBlockUptoRow : OpenClaim := { program := "ytljkjdhkofbgmaa", sum := "0edab7560f66f763dd3f420a85b54952f30f2dbebee16c922aca6dd05d70b744", func := "reliquary/reliquarylaw07.XtsBlock", spec := "xtsBlock", unfollowed := true, recurses := true, apart := false, narrowed := true }
def XtsBlockUptoSaid : Prop := xtsBlockUptoRow.holds Try.pinned (OpenSpec.upto xtsBlockSpec)

end Rows
end Go.Proofs.Ytljkjdhkofbgmaa
