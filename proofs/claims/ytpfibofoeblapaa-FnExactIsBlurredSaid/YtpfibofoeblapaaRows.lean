/-
  No cell of these rows narrows 'for every input' (looked for: loops, veiled, ifaces, maps, wideKeys, modest, calm, conditions, laid).
  DERIVED. THE GIVEN ROWS OF THIS SEAT. 6 by the template 'for every input the law returns true; each argument reads behind the call as it read before'; 0 by the template 'total and deterministic' (their statements: YtpfibofoeblapaaTotals.lean).
  GIVEN WITH THE SEED: the statements are not yours to turn. If you find one false, say at which input.
  Laid BY PROGRAM, IN A SANDBOX (cutbox-rows.mjs): the forced cells as the released guide's own fill.sh prints them over the translation 842e4878e20d23b5… (all of the seat's roots in one cut). By AI agents, Wed Nov 11 2026. No macro, syntax, notation, axiom, sorry.
-/
import Derived.Test.YtpfibofoeblapaaChecked
import GoSem.Claim
import GoSem.ClaimJoined
import GoSem.ClaimMapViews
import Derived.JoinedTies
import Derived.KernelRfl
namespace Go.Proofs.Ytpfibofoeblapaa
/- THE CELL 'sum', in the pinned program and in every row, IS THE sha256 OF THE DUMP (.gsa) THAT YtpfibofoeblapaaProg.lean LOADS. Nothing in Lean hashes anything: it is a label: what it is worth is what the hold of that sum in a sandbox is worth. -/
noncomputable def Try.pinned : Pinned := { name := "ytpfibofoeblapaa", sum := "842e4878e20d23b5bcb33d3616726cd72d2ae5ffe8539cc8cdb9deae3b2d9e9b", checked := Try.checked }
namespace Rows
def none {H : Type} : Left H := { results := [], args := [] }

/-- 'laws.FnFocused': WHATEVER THE INPUT: true; the input reads as it did. -/
def fnFocusedSpec : ChangeSpec := { name := "fnFocused", fn := fun _ => fun
  | [d] => { results := [.lit (.bool true)], args := [d] }
  | _ => none }
def fnFocusedRow : OpenClaim := { program := "ytpfibofoeblapaa", sum := "842e4878e20d23b5bcb33d3616726cd72d2ae5ffe8539cc8cdb9deae3b2d9e9b", func := "loop.example/g00590/laws.FnFocused", spec := "fnFocused", unfollowed := true, recurses := true, apart := false }
def FnFocusedSaid : Prop := fnFocusedRow.holds Try.pinned (OpenSpec.ofChange fnFocusedSpec)

/-- ITS FALSE NEIGHBOUR: 'it returns false'. Refute it at one input. -/
def fnFocusedWrong : ChangeSpec := { name := "fnFocused", fn := fun _ => fun
  | [d] => { results := [.lit (.bool false)], args := [d] }
  | _ => none }
def FnFocusedWrongFalsely : Prop := fnFocusedRow.holds Try.pinned (OpenSpec.ofChange fnFocusedWrong)

/-- 'laws.FnExactIsSharp': WHATEVER THE INPUT: true; the input reads as it did. -/
def fnExactIsSharpSpec : ChangeSpec := { name := "fnExactIsSharp", fn := fun _ => fun
  | [d1, d2] => { results := [.lit (.bool true)], args := [d1, d2] }
  | _ => none }
def fnExactIsSharpRow : OpenClaim := { program := "ytpfibofoeblapaa", sum := "842e4878e20d23b5bcb33d3616726cd72d2ae5ffe8539cc8cdb9deae3b2d9e9b", func := "loop.example/g00590/laws.FnExactIsSharp", spec := "fnExactIsSharp", unfollowed := true, recurses := true, apart := false }
def FnExactIsSharpSaid : Prop := fnExactIsSharpRow.holds Try.pinned (OpenSpec.ofChange fnExactIsSharpSpec)

/-- ITS FALSE NEIGHBOUR: 'it returns false'. Refute it at one input. -/
def fnExactIsSharpWrong : ChangeSpec := { name := "fnExactIsSharp", fn := fun _ => fun
  | [d1, d2] => { results := [.lit (.bool false)], args := [d1, d2] }
  | _ => none }
def FnExactIsSharpWrongFalsely : Prop := fnExactIsSharpRow.holds Try.pinned (OpenSpec.ofChange fnExactIsSharpWrong)

/-- 'laws.FnExactCoerce': WHATEVER THE INPUT: true; the input reads as it did. -/
def fnExactCoerceSpec : ChangeSpec := { name := "fnExactCoerce", fn := fun _ => fun
  | [d1, d2] => { results := [.lit (.bool true)], args := [d1, d2] }
  | _ => none }
def fnExactCoerceRow : OpenClaim := { program := "ytpfibofoeblapaa", sum := "842e4878e20d23b5bcb33d3616726cd72d2ae5ffe8539cc8cdb9deae3b2d9e9b", func := "loop.example/g00590/laws.FnExactCoerce", spec := "fnExactCoerce", unfollowed := true, recurses := true, apart := false }
def FnExactCoerceSaid : Prop := fnExactCoerceRow.holds Try.pinned (OpenSpec.ofChange fnExactCoerceSpec)

/-- ITS FALSE NEIGHBOUR: 'it returns false'. Refute it at one input. -/
def fnExactCoerceWrong : ChangeSpec := { name := "fnExactCoerce", fn := fun _ => fun
  | [d1, d2] => { results := [.lit (.bool false)], args := [d1, d2] }
  | _ => none }
def FnExactCoerceWrongFalsely : Prop := fnExactCoerceRow.holds Try.pinned (OpenSpec.ofChange fnExactCoerceWrong)

/-- 'laws.FnExactIsBlurred': WHATEVER THE INPUT: true; the input reads as it did. -/
def fnExactIsBlurredSpec : ChangeSpec := { name := "fnExactIsBlurred", fn := fun _ => fun
  | [d] => { results := [.lit (.bool true)], args := [d] }
  | _ => none }
def fnExactIsBlurredRow : OpenClaim := { program := "ytpfibofoeblapaa", sum := "842e4878e20d23b5bcb33d3616726cd72d2ae5ffe8539cc8cdb9deae3b2d9e9b", func := "loop.example/g00590/laws.FnExactIsBlurred", spec := "fnExactIsBlurred", inPlace := ["internal/bytealg.abigen_runtime_cmpstring"], unfollowed := true, recurses := true, apart := false }
def FnExactIsBlurredSaid : Prop := fnExactIsBlurredRow.holds Try.pinned (OpenSpec.ofChange fnExactIsBlurredSpec)

/-- ITS FALSE NEIGHBOUR: 'it returns false'. Refute it at one input. -/
def fnExactIsBlurredWrong : ChangeSpec := { name := "fnExactIsBlurred", fn := fun _ => fun
  | [d] => { results := [.lit (.bool false)], args := [d] }
  | _ => none }
def FnExactIsBlurredWrongFalsely : Prop := fnExactIsBlurredRow.holds Try.pinned (OpenSpec.ofChange fnExactIsBlurredWrong)

/-- 'laws.FnExactBlur': WHATEVER THE INPUT: true; the input reads as it did. -/
def fnExactBlurSpec : ChangeSpec := { name := "fnExactBlur", fn := fun _ => fun
  | [d] => { results := [.lit (.bool true)], args := [d] }
  | _ => none }
def fnExactBlurRow : OpenClaim := { program := "ytpfibofoeblapaa", sum := "842e4878e20d23b5bcb33d3616726cd72d2ae5ffe8539cc8cdb9deae3b2d9e9b", func := "loop.example/g00590/laws.FnExactBlur", spec := "fnExactBlur", inPlace := ["internal/bytealg.abigen_runtime_cmpstring"], unfollowed := true, recurses := true, apart := false }
def FnExactBlurSaid : Prop := fnExactBlurRow.holds Try.pinned (OpenSpec.ofChange fnExactBlurSpec)

/-- ITS FALSE NEIGHBOUR: 'it returns false'. Refute it at one input. -/
def fnExactBlurWrong : ChangeSpec := { name := "fnExactBlur", fn := fun _ => fun
  | [d] => { results := [.lit (.bool false)], args := [d] }
  | _ => none }
def FnExactBlurWrongFalsely : Prop := fnExactBlurRow.holds Try.pinned (OpenSpec.ofChange fnExactBlurWrong)

/-- 'laws.FnExactAbstractionOf': WHATEVER THE INPUT: true; the input reads as it did. -/
def fnExactAbstractionOfSpec : ChangeSpec := { name := "fnExactAbstractionOf", fn := fun _ => fun
  | [d] => { results := [.lit (.bool true)], args := [d] }
  | _ => none }
def fnExactAbstractionOfRow : OpenClaim := { program := "ytpfibofoeblapaa", sum := "842e4878e20d23b5bcb33d3616726cd72d2ae5ffe8539cc8cdb9deae3b2d9e9b", func := "loop.example/g00590/laws.FnExactAbstractionOf", spec := "fnExactAbstractionOf", inPlace := ["internal/bytealg.abigen_runtime_cmpstring"], unfollowed := true, recurses := true, apart := false }
def FnExactAbstractionOfSaid : Prop := fnExactAbstractionOfRow.holds Try.pinned (OpenSpec.ofChange fnExactAbstractionOfSpec)

/-- ITS FALSE NEIGHBOUR: 'it returns false'. Refute it at one input. -/
def fnExactAbstractionOfWrong : ChangeSpec := { name := "fnExactAbstractionOf", fn := fun _ => fun
  | [d] => { results := [.lit (.bool false)], args := [d] }
  | _ => none }
def FnExactAbstractionOfWrongFalsely : Prop := fnExactAbstractionOfRow.holds Try.pinned (OpenSpec.ofChange fnExactAbstractionOfWrong)

/- THE SECOND FORM. 'bulk': how many values and letters a reading holds, each counted each time it is reached (what is shared counts as often as it is met; a slice's spare places count too). A statement '..UptoSaid' is the law's where the arguments, and the package variables that the reading takes, are together of bulk at most 1048576: NARROWER than '..Said'. Prove '..Said' where nothing that the law and all that it calls make is longer than what came in: it says more and counts as full. Else prove '..UptoSaid'. A law counts once. -/
mutual
def uptoBulk {H : Type} : DataW H → Nat
  | .lit (.string bytes) => bytes.length + 1
  | .lit _ => 1
  | .nil => 1
  | .ptr d => uptoBulk d + 1
  | .slice elems spare => uptoBulkAll elems + uptoBulkAll spare + 1
  | .agg parts => uptoBulkAll parts + 1
  | .iface _ d => uptoBulk d + 1
  | .map entries => uptoBulkEntries entries + 1
  | .held _ => 1
def uptoBulkAll {H : Type} : List (DataW H) → Nat
  | [] => 0
  | d :: r => uptoBulk d + uptoBulkAll r
def uptoBulkEntries {H : Type} : List (Lit × DataW H) → Nat
  | [] => 0
  | x :: r => uptoBulkEntry x + uptoBulkEntries r
def uptoBulkEntry {H : Type} : Lit × DataW H → Nat
  | (.string bytes, d) => bytes.length + uptoBulk d + 1
  | (_, d) => uptoBulk d + 1
 end
def uptoSmall : (H : Type) → List (DataW H) → Bool := fun _ ds => decide (uptoBulkAll ds ≤ 1048576)
def OpenSpec.upto (s : _root_.Go.ChangeSpec) : _root_.Go.OpenSpec := { _root_.Go.OpenSpec.ofChange s with cond := some uptoSmall }

/-- 'laws.FnFocused', WHERE WHAT IT READS IS OF BULK AT MOST 1048576: true; the input reads as it did. -/
def fnFocusedUptoRow : OpenClaim := { program := "ytpfibofoeblapaa", sum := "842e4878e20d23b5bcb33d3616726cd72d2ae5ffe8539cc8cdb9deae3b2d9e9b", func := "loop.example/g00590/laws.FnFocused", spec := "fnFocused", unfollowed := true, recurses := true, apart := false, narrowed := true }
def FnFocusedUptoSaid : Prop := fnFocusedUptoRow.holds Try.pinned (OpenSpec.upto fnFocusedSpec)

/-- 'laws.FnExactIsSharp', WHERE WHAT IT READS IS OF BULK AT MOST 1048576: true; the input reads as it did. -/
def fnExactIsSharpUptoRow : OpenClaim := { program := "ytpfibofoeblapaa", sum := "842e4878e20d23b5bcb33d3616726cd72d2ae5ffe8539cc8cdb9deae3b2d9e9b", func := "loop.example/g00590/laws.FnExactIsSharp", spec := "fnExactIsSharp", unfollowed := true, recurses := true, apart := false, narrowed := true }
def FnExactIsSharpUptoSaid : Prop := fnExactIsSharpUptoRow.holds Try.pinned (OpenSpec.upto fnExactIsSharpSpec)

/-- 'laws.FnExactCoerce', WHERE WHAT IT READS IS OF BULK AT MOST 1048576: true; the input reads as it did. -/
def fnExactCoerceUptoRow : OpenClaim := { program := "ytpfibofoeblapaa", sum := "842e4878e20d23b5bcb33d3616726cd72d2ae5ffe8539cc8cdb9deae3b2d9e9b", func := "loop.example/g00590/laws.FnExactCoerce", spec := "fnExactCoerce", unfollowed := true, recurses := true, apart := false, narrowed := true }
def FnExactCoerceUptoSaid : Prop := fnExactCoerceUptoRow.holds Try.pinned (OpenSpec.upto fnExactCoerceSpec)

/-- 'laws.FnExactIsBlurred', WHERE WHAT IT READS IS OF BULK AT MOST 1048576: true; the input reads as it did. -/
def fnExactIsBlurredUptoRow : OpenClaim := { program := "ytpfibofoeblapaa", sum := "842e4878e20d23b5bcb33d3616726cd72d2ae5ffe8539cc8cdb9deae3b2d9e9b", func := "loop.example/g00590/laws.FnExactIsBlurred", spec := "fnExactIsBlurred", inPlace := ["internal/bytealg.abigen_runtime_cmpstring"], unfollowed := true, recurses := true, apart := false, narrowed := true }
def FnExactIsBlurredUptoSaid : Prop := fnExactIsBlurredUptoRow.holds Try.pinned (OpenSpec.upto fnExactIsBlurredSpec)

/-- 'laws.FnExactBlur', WHERE WHAT IT READS IS OF BULK AT MOST 1048576: true; the input reads as it did. -/
def fnExactBlurUptoRow : OpenClaim := { program := "ytpfibofoeblapaa", sum := "842e4878e20d23b5bcb33d3616726cd72d2ae5ffe8539cc8cdb9deae3b2d9e9b", func := "loop.example/g00590/laws.FnExactBlur", spec := "fnExactBlur", inPlace := ["internal/bytealg.abigen_runtime_cmpstring"], unfollowed := true, recurses := true, apart := false, narrowed := true }
def FnExactBlurUptoSaid : Prop := fnExactBlurUptoRow.holds Try.pinned (OpenSpec.upto fnExactBlurSpec)

/-- 'laws.FnExactAbstractionOf', WHERE WHAT IT READS IS OF BULK AT MOST 1048576: true; the input reads as it did. -/
def fnExactAbstractionOfUptoRow : OpenClaim := { program := "ytpfibofoeblapaa", sum := "842e4878e20d23b5bcb33d3616726cd72d2ae5ffe8539cc8cdb9deae3b2d9e9b", func := "loop.example/g00590/laws.FnExactAbstractionOf", spec := "fnExactAbstractionOf", inPlace := ["internal/bytealg.abigen_runtime_cmpstring"], unfollowed := true, recurses := true, apart := false, narrowed := true }
def FnExactAbstractionOfUptoSaid : Prop := fnExactAbstractionOfUptoRow.holds Try.pinned (OpenSpec.upto fnExactAbstractionOfSpec)

end Rows
end Go.Proofs.Ytpfibofoeblapaa
