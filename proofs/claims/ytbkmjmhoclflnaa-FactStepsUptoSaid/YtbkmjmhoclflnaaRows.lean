/-
  No cell of these rows narrows 'for every input' (looked for: loops, veiled, ifaces, maps, wideKeys, modest, calm, conditions, laid).
  DERIVED. THE GIVEN ROWS OF THIS SEAT. 5 by the template 'for every input the law returns true; each argument reads behind the call as it read before'; 0 by the template 'total and deterministic' (their statements: YtbkmjmhoclflnaaTotals.lean).
  GIVEN WITH THE SEED: the statements are not yours to turn. If you find one false, say at which input.
  Laid BY PROGRAM, IN A SANDBOX (cutbox-rows.mjs): the forced cells as the released guide's own fill.sh prints them over the translation 9118f6df216d1b15… (all of the seat's roots in one cut). By AI agents, Wed Nov 11 2026. No macro, syntax, notation, axiom, sorry.
-/
import Derived.Test.YtbkmjmhoclflnaaChecked
import GoSem.Claim
import GoSem.ClaimJoined
import GoSem.ClaimMapViews
import Derived.JoinedTies
import Derived.KernelRfl
namespace Go.Proofs.Ytbkmjmhoclflnaa
/- THE CELL 'sum', in the pinned program and in every row, IS THE sha256 OF THE DUMP (.gsa) THAT YtbkmjmhoclflnaaProg.lean LOADS. Nothing in Lean hashes anything: it is a label: what it is worth is what the hold of that sum in a sandbox is worth. -/
noncomputable def Try.pinned : Pinned := { name := "ytbkmjmhoclflnaa", sum := "9118f6df216d1b15ae1e0f00e411baa4e5755f5963fc8772ba52a46b0df494cf", checked := Try.checked }
namespace Rows
def none {H : Type} : Left H := { results := [], args := [] }

/-- 'flintlaw11.FactMerges': WHATEVER THE INPUT: true; the input reads as it did. -/
def factMergesSpec : ChangeSpec := { name := "factMerges", fn := fun _ => fun
  | [d1, d2, d3] => { results := [.lit (.bool true)], args := [d1, d2, d3] }
  | _ => none }
def factMergesRow : OpenClaim := { program := "ytbkmjmhoclflnaa", sum := "9118f6df216d1b15ae1e0f00e411baa4e5755f5963fc8772ba52a46b0df494cf", func := "flint/flintlaw11.FactMerges", spec := "factMerges", unfollowed := true, recurses := true, plainKeys := false, apart := false }
def FactMergesSaid : Prop := factMergesRow.holds Try.pinned (OpenSpec.ofChange factMergesSpec)

/-- ITS FALSE NEIGHBOUR: 'it returns false'. Refute it at one input. -/
def factMergesWrong : ChangeSpec := { name := "factMerges", fn := fun _ => fun
  | [d1, d2, d3] => { results := [.lit (.bool false)], args := [d1, d2, d3] }
  | _ => none }
def FactMergesWrongFalsely : Prop := factMergesRow.holds Try.pinned (OpenSpec.ofChange factMergesWrong)

/-- 'flintlaw11.FactSteps': WHATEVER THE INPUT: true; the input reads as it did. -/
def factStepsSpec : ChangeSpec := { name := "factSteps", fn := fun _ => fun
  | [d1, d2, d3] => { results := [.lit (.bool true)], args := [d1, d2, d3] }
  | _ => none }
def factStepsRow : OpenClaim := { program := "ytbkmjmhoclflnaa", sum := "9118f6df216d1b15ae1e0f00e411baa4e5755f5963fc8772ba52a46b0df494cf", func := "flint/flintlaw11.FactSteps", spec := "factSteps", unfollowed := true, recurses := true, plainKeys := false, apart := false }
def FactStepsSaid : Prop := factStepsRow.holds Try.pinned (OpenSpec.ofChange factStepsSpec)

/-- ITS FALSE NEIGHBOUR: 'it returns false'. Refute it at one input. -/
def factStepsWrong : ChangeSpec := { name := "factSteps", fn := fun _ => fun
  | [d1, d2, d3] => { results := [.lit (.bool false)], args := [d1, d2, d3] }
  | _ => none }
def FactStepsWrongFalsely : Prop := factStepsRow.holds Try.pinned (OpenSpec.ofChange factStepsWrong)

/-- 'flintlaw14.MediumDead': WHATEVER THE INPUT: true; the input reads as it did. -/
def mediumDeadSpec : ChangeSpec := { name := "mediumDead", fn := fun _ => fun
  | [d1, d2, d3] => { results := [.lit (.bool true)], args := [d1, d2, d3] }
  | _ => none }
def mediumDeadRow : OpenClaim := { program := "ytbkmjmhoclflnaa", sum := "9118f6df216d1b15ae1e0f00e411baa4e5755f5963fc8772ba52a46b0df494cf", func := "flint/flintlaw14.MediumDead", spec := "mediumDead", unfollowed := true, recurses := true, plainKeys := false, apart := false }
def MediumDeadSaid : Prop := mediumDeadRow.holds Try.pinned (OpenSpec.ofChange mediumDeadSpec)

/-- ITS FALSE NEIGHBOUR: 'it returns false'. Refute it at one input. -/
def mediumDeadWrong : ChangeSpec := { name := "mediumDead", fn := fun _ => fun
  | [d1, d2, d3] => { results := [.lit (.bool false)], args := [d1, d2, d3] }
  | _ => none }
def MediumDeadWrongFalsely : Prop := mediumDeadRow.holds Try.pinned (OpenSpec.ofChange mediumDeadWrong)

/-- 'flintlaw14.MediumPlays': WHATEVER THE INPUT: true; the input reads as it did. -/
def mediumPlaysSpec : ChangeSpec := { name := "mediumPlays", fn := fun _ => fun
  | [d1, d2, d3, d4] => { results := [.lit (.bool true)], args := [d1, d2, d3, d4] }
  | _ => none }
def mediumPlaysRow : OpenClaim := { program := "ytbkmjmhoclflnaa", sum := "9118f6df216d1b15ae1e0f00e411baa4e5755f5963fc8772ba52a46b0df494cf", func := "flint/flintlaw14.MediumPlays", spec := "mediumPlays", unfollowed := true, recurses := true, plainKeys := false, apart := false }
def MediumPlaysSaid : Prop := mediumPlaysRow.holds Try.pinned (OpenSpec.ofChange mediumPlaysSpec)

/-- ITS FALSE NEIGHBOUR: 'it returns false'. Refute it at one input. -/
def mediumPlaysWrong : ChangeSpec := { name := "mediumPlays", fn := fun _ => fun
  | [d1, d2, d3, d4] => { results := [.lit (.bool false)], args := [d1, d2, d3, d4] }
  | _ => none }
def MediumPlaysWrongFalsely : Prop := mediumPlaysRow.holds Try.pinned (OpenSpec.ofChange mediumPlaysWrong)

/-- 'flintlaw16.DedupTrue': WHATEVER THE INPUT: true; the input reads as it did. -/
def dedupTrueSpec : ChangeSpec := { name := "dedupTrue", fn := fun _ => fun
  | [d1, d2, d3, d4] => { results := [.lit (.bool true)], args := [d1, d2, d3, d4] }
  | _ => none }
def dedupTrueRow : OpenClaim := { program := "ytbkmjmhoclflnaa", sum := "9118f6df216d1b15ae1e0f00e411baa4e5755f5963fc8772ba52a46b0df494cf", func := "flint/flintlaw16.DedupTrue", spec := "dedupTrue", unfollowed := true, recurses := true, plainKeys := false, apart := false }
def DedupTrueSaid : Prop := dedupTrueRow.holds Try.pinned (OpenSpec.ofChange dedupTrueSpec)

/-- ITS FALSE NEIGHBOUR: 'it returns false'. Refute it at one input. -/
def dedupTrueWrong : ChangeSpec := { name := "dedupTrue", fn := fun _ => fun
  | [d1, d2, d3, d4] => { results := [.lit (.bool false)], args := [d1, d2, d3, d4] }
  | _ => none }
def DedupTrueWrongFalsely : Prop := dedupTrueRow.holds Try.pinned (OpenSpec.ofChange dedupTrueWrong)

/- THE SECOND FORM. 'bulk': how many values and letters a reading holds, each counted each time it is reached (what is shared counts as often as it is met; a slice's spare places count too). A statement '..UptoSaid' is the law's where the arguments, and the package variables that the reading takes, are together of bulk at most 1048576: NARROWER than '..Said'. Prove '..Said' where nothing that the law and all that it calls make is longer than what came in: it says more and counts as full. Else prove '..UptoSaid'. A law counts once. -/
mutual
def uptoBulk {H : Type} : DataW H → Nat
  | .lit (.string bytes) => bytes.length + 1
  | .lit _ => 1
  | .nil => 1
  | .ptr d => uptoBulk d + 1
  | .slice elems spare => uptoBulkAll elems + uptoBulkAll spare + 1
  | .agg parts => uptoBulkAll parts + 1
  | .iface _ d => uptoBulk d + 1
  | .map entries => uptoBulkEntries entries + 1
  | .held _ => 1
def uptoBulkAll {H : Type} : List (DataW H) → Nat
  | [] => 0
  | d :: r => uptoBulk d + uptoBulkAll r
def uptoBulkEntries {H : Type} : List (Lit × DataW H) → Nat
  | [] => 0
  | x :: r => uptoBulkEntry x + uptoBulkEntries r
def uptoBulkEntry {H : Type} : Lit × DataW H → Nat
  | (.string bytes, d) => bytes.length + uptoBulk d + 1
  | (_, d) => uptoBulk d + 1
 end
def uptoSmall : (H : Type) → List (DataW H) → Bool := fun _ ds => decide (uptoBulkAll ds ≤ 1048576)
def OpenSpec.upto (s : _root_.Go.ChangeSpec) : _root_.Go.OpenSpec := { _root_.Go.OpenSpec.ofChange s with cond := some uptoSmall }

/-- 'flintlaw11.FactMerges', WHERE WHAT IT READS IS OF BULK AT MOST 1048576: true; the input reads as it did. -/
def factMergesUptoRow : OpenClaim := { program := "ytbkmjmhoclflnaa", sum := "9118f6df216d1b15ae1e0f00e411baa4e5755f5963fc8772ba52a46b0df494cf", func := "flint/flintlaw11.FactMerges", spec := "factMerges", unfollowed := true, recurses := true, plainKeys := false, apart := false, narrowed := true }
def FactMergesUptoSaid : Prop := factMergesUptoRow.holds Try.pinned (OpenSpec.upto factMergesSpec)

/-- 'flintlaw11.FactSteps', WHERE WHAT IT READS IS OF BULK AT MOST 1048576: true; the input reads as it did. -/
def factStepsUptoRow : OpenClaim := { program := "ytbkmjmhoclflnaa", sum := "9118f6df216d1b15ae1e0f00e411baa4e5755f5963fc8772ba52a46b0df494cf", func := "flint/flintlaw11.FactSteps", spec := "factSteps", unfollowed := true, recurses := true, plainKeys := false, apart := false, narrowed := true }
def FactStepsUptoSaid : Prop := factStepsUptoRow.holds Try.pinned (OpenSpec.upto factStepsSpec)

/-- 'flintlaw14.MediumDead', WHERE WHAT IT READS IS OF BULK AT MOST 1048576: true; the input reads as it did. -/
def mediumDeadUptoRow : OpenClaim := { program := "ytbkmjmhoclflnaa", sum := "9118f6df216d1b15ae1e0f00e411baa4e5755f5963fc8772ba52a46b0df494cf", func := "flint/flintlaw14.MediumDead", spec := "mediumDead", unfollowed := true, recurses := true, plainKeys := false, apart := false, narrowed := true }
def MediumDeadUptoSaid : Prop := mediumDeadUptoRow.holds Try.pinned (OpenSpec.upto mediumDeadSpec)

/-- 'flintlaw14.MediumPlays', WHERE WHAT IT READS IS OF BULK AT MOST 1048576: true; the input reads as it did. -/
def mediumPlaysUptoRow : OpenClaim := { program := "ytbkmjmhoclflnaa", sum := "9118f6df216d1b15ae1e0f00e411baa4e5755f5963fc8772ba52a46b0df494cf", func := "flint/flintlaw14.MediumPlays", spec := "mediumPlays", unfollowed := true, recurses := true, plainKeys := false, apart := false, narrowed := true }
def MediumPlaysUptoSaid : Prop := mediumPlaysUptoRow.holds Try.pinned (OpenSpec.upto mediumPlaysSpec)

/-- 'flintlaw16.DedupTrue', WHERE WHAT IT READS IS OF BULK AT MOST 1048576: true; the input reads as it did. -/
def dedupTrueUptoRow : OpenClaim := { program := "ytbkmjmhoclflnaa", sum := "9118f6df216d1b15ae1e0f00e411baa4e5755f5963fc8772ba52a46b0df494cf", func := "flint/flintlaw16.DedupTrue", spec := "dedupTrue", unfollowed := true, recurses := true, plainKeys := false, apart := false, narrowed := true }
def DedupTrueUptoSaid : Prop := dedupTrueUptoRow.holds Try.pinned (OpenSpec.upto dedupTrueSpec)

end Rows
end Go.Proofs.Ytbkmjmhoclflnaa
