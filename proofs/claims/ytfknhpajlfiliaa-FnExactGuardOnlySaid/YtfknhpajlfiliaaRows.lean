/-
  No cell of these rows narrows 'for every input' (looked for: loops, veiled, ifaces, maps, wideKeys, modest, calm, conditions, laid).
  DERIVED. THE GIVEN ROWS OF THIS SEAT. 5 by the template 'for every input the law returns true; each argument reads behind the call as it read before'; 0 by the template 'total and deterministic' (their statements: YtfknhpajlfiliaaTotals.lean).
  GIVEN WITH THE SEED: the statements are not yours to turn. If you find one false, say at which input.
  Laid BY PROGRAM, IN A SANDBOX (cutbox-rows.mjs): the forced cells as the released guide's own fill.sh prints them over the translation 8221342455f5b2ae… (all of the seat's roots in one cut). By AI agents, Wed Nov 11 2026. No macro, syntax, notation, axiom, sorry.
-/
import Derived.Test.YtfknhpajlfiliaaChecked
import GoSem.Claim
import GoSem.ClaimJoined
import GoSem.ClaimMapViews
import Derived.JoinedTies
import Derived.KernelRfl
namespace Go.Proofs.Ytfknhpajlfiliaa
/- THE CELL 'sum', in the pinned program and in every row, IS THE sha256 OF THE DUMP (.gsa) THAT YtfknhpajlfiliaaProg.lean LOADS. Nothing in Lean hashes anything: it is a label: what it is worth is what the hold of that sum in a sandbox is worth. -/
noncomputable def Try.pinned : Pinned := { name := "ytfknhpajlfiliaa", sum := "8221342455f5b2ae777d527226bd0b7a5880d5e5349bb86344b4fe0b26f084bf", checked := Try.checked }
namespace Rows
def none {H : Type} : Left H := { results := [], args := [] }

/-- 'laws.FnExactGuardFollow': WHATEVER THE INPUT: true; the input reads as it did. -/
def fnExactGuardFollowSpec : ChangeSpec := { name := "fnExactGuardFollow", fn := fun _ => fun
  | [d] => { results := [.lit (.bool true)], args := [d] }
  | _ => none }
def fnExactGuardFollowRow : OpenClaim := { program := "ytfknhpajlfiliaa", sum := "8221342455f5b2ae777d527226bd0b7a5880d5e5349bb86344b4fe0b26f084bf", func := "loop.example/confluence/laws.FnExactGuardFollow", spec := "fnExactGuardFollow", unfollowed := true, recurses := true, plainKeys := false, apart := false }
def FnExactGuardFollowSaid : Prop := fnExactGuardFollowRow.holds Try.pinned (OpenSpec.ofChange fnExactGuardFollowSpec)

/-- ITS FALSE NEIGHBOUR: 'it returns false'. Refute it at one input. -/
def fnExactGuardFollowWrong : ChangeSpec := { name := "fnExactGuardFollow", fn := fun _ => fun
  | [d] => { results := [.lit (.bool false)], args := [d] }
  | _ => none }
def FnExactGuardFollowWrongFalsely : Prop := fnExactGuardFollowRow.holds Try.pinned (OpenSpec.ofChange fnExactGuardFollowWrong)

/-- 'laws.FnExactGuardWritten': WHATEVER THE INPUT: true; the input reads as it did. -/
def fnExactGuardWrittenSpec : ChangeSpec := { name := "fnExactGuardWritten", fn := fun _ => fun
  | [d] => { results := [.lit (.bool true)], args := [d] }
  | _ => none }
def fnExactGuardWrittenRow : OpenClaim := { program := "ytfknhpajlfiliaa", sum := "8221342455f5b2ae777d527226bd0b7a5880d5e5349bb86344b4fe0b26f084bf", func := "loop.example/confluence/laws.FnExactGuardWritten", spec := "fnExactGuardWritten", unfollowed := true, recurses := true, plainKeys := false, apart := false }
def FnExactGuardWrittenSaid : Prop := fnExactGuardWrittenRow.holds Try.pinned (OpenSpec.ofChange fnExactGuardWrittenSpec)

/-- ITS FALSE NEIGHBOUR: 'it returns false'. Refute it at one input. -/
def fnExactGuardWrittenWrong : ChangeSpec := { name := "fnExactGuardWritten", fn := fun _ => fun
  | [d] => { results := [.lit (.bool false)], args := [d] }
  | _ => none }
def FnExactGuardWrittenWrongFalsely : Prop := fnExactGuardWrittenRow.holds Try.pinned (OpenSpec.ofChange fnExactGuardWrittenWrong)

/-- 'laws.FnExactGuardOnly': WHATEVER THE INPUT: true; the input reads as it did. -/
def fnExactGuardOnlySpec : ChangeSpec := { name := "fnExactGuardOnly", fn := fun _ => fun
  | [d1, d2] => { results := [.lit (.bool true)], args := [d1, d2] }
  | _ => none }
def fnExactGuardOnlyRow : OpenClaim := { program := "ytfknhpajlfiliaa", sum := "8221342455f5b2ae777d527226bd0b7a5880d5e5349bb86344b4fe0b26f084bf", func := "loop.example/confluence/laws.FnExactGuardOnly", spec := "fnExactGuardOnly", unfollowed := true, recurses := true, plainKeys := false, apart := false }
def FnExactGuardOnlySaid : Prop := fnExactGuardOnlyRow.holds Try.pinned (OpenSpec.ofChange fnExactGuardOnlySpec)

/-- ITS FALSE NEIGHBOUR: 'it returns false'. Refute it at one input. -/
def fnExactGuardOnlyWrong : ChangeSpec := { name := "fnExactGuardOnly", fn := fun _ => fun
  | [d1, d2] => { results := [.lit (.bool false)], args := [d1, d2] }
  | _ => none }
def FnExactGuardOnlyWrongFalsely : Prop := fnExactGuardOnlyRow.holds Try.pinned (OpenSpec.ofChange fnExactGuardOnlyWrong)

/-- 'laws.FnExactGuardOwn': WHATEVER THE INPUT: true; the input reads as it did. -/
def fnExactGuardOwnSpec : ChangeSpec := { name := "fnExactGuardOwn", fn := fun _ => fun
  | [d] => { results := [.lit (.bool true)], args := [d] }
  | _ => none }
def fnExactGuardOwnRow : OpenClaim := { program := "ytfknhpajlfiliaa", sum := "8221342455f5b2ae777d527226bd0b7a5880d5e5349bb86344b4fe0b26f084bf", func := "loop.example/confluence/laws.FnExactGuardOwn", spec := "fnExactGuardOwn", unfollowed := true, recurses := true, plainKeys := false, apart := false }
def FnExactGuardOwnSaid : Prop := fnExactGuardOwnRow.holds Try.pinned (OpenSpec.ofChange fnExactGuardOwnSpec)

/-- ITS FALSE NEIGHBOUR: 'it returns false'. Refute it at one input. -/
def fnExactGuardOwnWrong : ChangeSpec := { name := "fnExactGuardOwn", fn := fun _ => fun
  | [d] => { results := [.lit (.bool false)], args := [d] }
  | _ => none }
def FnExactGuardOwnWrongFalsely : Prop := fnExactGuardOwnRow.holds Try.pinned (OpenSpec.ofChange fnExactGuardOwnWrong)

/-- 'laws.FnExactGuardReads': WHATEVER THE INPUT: true; the input reads as it did. -/
def fnExactGuardReadsSpec : ChangeSpec := { name := "fnExactGuardReads", fn := fun _ => fun
  | [d] => { results := [.lit (.bool true)], args := [d] }
  | _ => none }
def fnExactGuardReadsRow : OpenClaim := { program := "ytfknhpajlfiliaa", sum := "8221342455f5b2ae777d527226bd0b7a5880d5e5349bb86344b4fe0b26f084bf", func := "loop.example/confluence/laws.FnExactGuardReads", spec := "fnExactGuardReads", unfollowed := true, recurses := true, plainKeys := false, apart := false }
def FnExactGuardReadsSaid : Prop := fnExactGuardReadsRow.holds Try.pinned (OpenSpec.ofChange fnExactGuardReadsSpec)

/-- ITS FALSE NEIGHBOUR: 'it returns false'. Refute it at one input. -/
def fnExactGuardReadsWrong : ChangeSpec := { name := "fnExactGuardReads", fn := fun _ => fun
  | [d] => { results := [.lit (.bool false)], args := [d] }
  | _ => none }
def FnExactGuardReadsWrongFalsely : Prop := fnExactGuardReadsRow.holds Try.pinned (OpenSpec.ofChange fnExactGuardReadsWrong)

/- THE SECOND FORM. 'bulk': how many values and letters a reading holds, each counted each time it is reached (what is shared counts as often as it is met; a slice's spare places count too). A statement '..UptoSaid' is the law's where the arguments, and the package variables that the reading takes, are together of bulk at most 1048576: NARROWER than '..Said'. Prove '..Said' where nothing that the law and all that it calls make is longer than what came in: it says more and counts as full. Else prove '..UptoSaid'. A law counts once. -/
mutual
def uptoBulk {H : Type} : DataW H → Nat
  | .lit (.string bytes) => bytes.length + 1
  | .lit _ => 1
  | .nil => 1
  | .ptr d => uptoBulk d + 1
  | .slice elems spare => uptoBulkAll elems + uptoBulkAll spare + 1
  | .agg parts => uptoBulkAll parts + 1
  | .iface _ d => uptoBulk d + 1
  | .map entries => uptoBulkEntries entries + 1
  | .held _ => 1
def uptoBulkAll {H : Type} : List (DataW H) → Nat
  | [] => 0
  | d :: r => uptoBulk d + uptoBulkAll r
def uptoBulkEntries {H : Type} : List (Lit × DataW H) → Nat
  | [] => 0
  | x :: r => uptoBulkEntry x + uptoBulkEntries r
def uptoBulkEntry {H : Type} : Lit × DataW H → Nat
  | (.string bytes, d) => bytes.length + uptoBulk d + 1
  | (_, d) => uptoBulk d + 1
 end
def uptoSmall : (H : Type) → List (DataW H) → Bool := fun _ ds => decide (uptoBulkAll ds ≤ 1048576)
def OpenSpec.upto (s : _root_.Go.ChangeSpec) : _root_.Go.OpenSpec := { _root_.Go.OpenSpec.ofChange s with cond := some uptoSmall }

/-- 'laws.FnExactGuardFollow', WHERE WHAT IT READS IS OF BULK AT MOST 1048576: true; the input reads as it did. -/
def fnExactGuardFollowUptoRow : OpenClaim := { program := "ytfknhpajlfiliaa", sum := "8221342455f5b2ae777d527226bd0b7a5880d5e5349bb86344b4fe0b26f084bf", func := "loop.example/confluence/laws.FnExactGuardFollow", spec := "fnExactGuardFollow", unfollowed := true, recurses := true, plainKeys := false, apart := false, narrowed := true }
def FnExactGuardFollowUptoSaid : Prop := fnExactGuardFollowUptoRow.holds Try.pinned (OpenSpec.upto fnExactGuardFollowSpec)

/-- 'laws.FnExactGuardWritten', WHERE WHAT IT READS IS OF BULK AT MOST 1048576: true; the input reads as it did. -/
def fnExactGuardWrittenUptoRow : OpenClaim := { program := "ytfknhpajlfiliaa", sum := "8221342455f5b2ae777d527226bd0b7a5880d5e5349bb86344b4fe0b26f084bf", func := "loop.example/confluence/laws.FnExactGuardWritten", spec := "fnExactGuardWritten", unfollowed := true, recurses := true, plainKeys := false, apart := false, narrowed := true }
def FnExactGuardWrittenUptoSaid : Prop := fnExactGuardWrittenUptoRow.holds Try.pinned (OpenSpec.upto fnExactGuardWrittenSpec)

/-- 'laws.FnExactGuardOnly', WHERE WHAT IT READS IS OF BULK AT MOST 1048576: true; the input reads as it did. -/
def fnExactGuardOnlyUptoRow : OpenClaim := { program := "ytfknhpajlfiliaa", sum := "8221342455f5b2ae777d527226bd0b7a5880d5e5349bb86344b4fe0b26f084bf", func := "loop.example/confluence/laws.FnExactGuardOnly", spec := "fnExactGuardOnly", unfollowed := true, recurses := true, plainKeys := false, apart := false, narrowed := true }
def FnExactGuardOnlyUptoSaid : Prop := fnExactGuardOnlyUptoRow.holds Try.pinned (OpenSpec.upto fnExactGuardOnlySpec)

/-- 'laws.FnExactGuardOwn', WHERE WHAT IT READS IS OF BULK AT MOST 1048576: true; the input reads as it did. -/
def fnExactGuardOwnUptoRow : OpenClaim := { program := "ytfknhpajlfiliaa", sum := "8221342455f5b2ae777d527226bd0b7a5880d5e5349bb86344b4fe0b26f084bf", func := "loop.example/confluence/laws.FnExactGuardOwn", spec := "fnExactGuardOwn", unfollowed := true, recurses := true, plainKeys := false, apart := false, narrowed := true }
def FnExactGuardOwnUptoSaid : Prop := fnExactGuardOwnUptoRow.holds Try.pinned (OpenSpec.upto fnExactGuardOwnSpec)

/-- 'laws.FnExactGuardReads', WHERE WHAT IT READS IS OF BULK AT MOST 1048576: true; the input reads as it did. -/
def fnExactGuardReadsUptoRow : OpenClaim := { program := "ytfknhpajlfiliaa", sum := "8221342455f5b2ae777d527226bd0b7a5880d5e5349bb86344b4fe0b26f084bf", func := "loop.example/confluence/laws.FnExactGuardReads", spec := "fnExactGuardReads", unfollowed := true, recurses := true, plainKeys := false, apart := false, narrowed := true }
def FnExactGuardReadsUptoSaid : Prop := fnExactGuardReadsUptoRow.holds Try.pinned (OpenSpec.upto fnExactGuardReadsSpec)

end Rows
end Go.Proofs.Ytfknhpajlfiliaa
