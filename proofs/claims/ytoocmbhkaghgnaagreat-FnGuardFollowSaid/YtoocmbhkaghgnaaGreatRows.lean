/-
  No cell of these rows narrows 'for every input' (looked for: loops, veiled, ifaces, maps, wideKeys, modest, calm, conditions, laid).
  DERIVED. THE GIVEN ROWS OF THIS SEAT. 4 by the template 'for every input the law returns true; each argument reads behind the call as it read before'; 0 by the template 'total and deterministic' (their statements: YtoocmbhkaghgnaaGreatTotals.lean).
  GIVEN WITH THE SEED: the statements are not yours to turn. If you find one false, say at which input.
  Laid BY PROGRAM, IN A SANDBOX (cutbox-rows.mjs): the forced cells as the released guide's own fill.sh prints them over the translation feeffda0d873d162… (all of the seat's roots in one cut). By AI agents, Wed Nov 11 2026. No macro, syntax, notation, axiom, sorry.
-/
import Derived.Test.YtoocmbhkaghgnaaGreatChecked
import GoSem.Claim
import GoSem.ClaimJoined
import GoSem.ClaimMapViews
import Derived.JoinedTies
import Derived.KernelRfl
namespace Go.Proofs.YtoocmbhkaghgnaaGreat
/- THE CELL 'sum', in the pinned program and in every row, IS THE sha256 OF THE DUMP (.gsa) THAT YtoocmbhkaghgnaaGreatProg.lean LOADS. Nothing in Lean hashes anything: it is a label: what it is worth is what the hold of that sum in a sandbox is worth. -/
noncomputable def Tryz.pinned : Pinned := { name := "ytoocmbhkaghgnaagreat", sum := "feeffda0d873d16288ef56572955c981855c5c20d687e3ff66d5607d75bf6ef9", checked := Tryz.checked }
namespace Rows
def none {H : Type} : Left H := { results := [], args := [] }

/-- 'laws.FnGuardFollow': WHATEVER THE INPUT: true; the input reads as it did. -/
def fnGuardFollowSpec : ChangeSpec := { name := "fnGuardFollow", fn := fun _ => fun
  | [d] => { results := [.lit (.bool true)], args := [d] }
  | _ => none }
def fnGuardFollowRow : OpenClaim := { program := "ytoocmbhkaghgnaagreat", sum := "feeffda0d873d16288ef56572955c981855c5c20d687e3ff66d5607d75bf6ef9", func := "loop.example/confluence/laws.FnGuardFollow", spec := "fnGuardFollow", unfollowed := true, recurses := true, plainKeys := false, apart := false }
def FnGuardFollowSaid : Prop := fnGuardFollowRow.holds Tryz.pinned (OpenSpec.ofChange fnGuardFollowSpec)

/-- ITS FALSE NEIGHBOUR: 'it returns false'. Refute it at one input. -/
def fnGuardFollowWrong : ChangeSpec := { name := "fnGuardFollow", fn := fun _ => fun
  | [d] => { results := [.lit (.bool false)], args := [d] }
  | _ => none }
def FnGuardFollowWrongFalsely : Prop := fnGuardFollowRow.holds Tryz.pinned (OpenSpec.ofChange fnGuardFollowWrong)

/-- 'laws.FnGuardOwn': WHATEVER THE INPUT: true; the input reads as it did. -/
def fnGuardOwnSpec : ChangeSpec := { name := "fnGuardOwn", fn := fun _ => fun
  | [d1, d2] => { results := [.lit (.bool true)], args := [d1, d2] }
  | _ => none }
def fnGuardOwnRow : OpenClaim := { program := "ytoocmbhkaghgnaagreat", sum := "feeffda0d873d16288ef56572955c981855c5c20d687e3ff66d5607d75bf6ef9", func := "loop.example/confluence/laws.FnGuardOwn", spec := "fnGuardOwn", unfollowed := true, recurses := true, plainKeys := false, apart := false }
def FnGuardOwnSaid : Prop := fnGuardOwnRow.holds Tryz.pinned (OpenSpec.ofChange fnGuardOwnSpec)

/-- ITS FALSE NEIGHBOUR: 'it returns false'. Refute it at one input. -/
def fnGuardOwnWrong : ChangeSpec := { name := "fnGuardOwn", fn := fun _ => fun
  | [d1, d2] => { results := [.lit (.bool false)], args := [d1, d2] }
  | _ => none }
def FnGuardOwnWrongFalsely : Prop := fnGuardOwnRow.holds Tryz.pinned (OpenSpec.ofChange fnGuardOwnWrong)

/-- 'laws.FnGuardReads': WHATEVER THE INPUT: true; the input reads as it did. -/
def fnGuardReadsSpec : ChangeSpec := { name := "fnGuardReads", fn := fun _ => fun
  | [d] => { results := [.lit (.bool true)], args := [d] }
  | _ => none }
def fnGuardReadsRow : OpenClaim := { program := "ytoocmbhkaghgnaagreat", sum := "feeffda0d873d16288ef56572955c981855c5c20d687e3ff66d5607d75bf6ef9", func := "loop.example/confluence/laws.FnGuardReads", spec := "fnGuardReads", unfollowed := true, recurses := true, plainKeys := false, apart := false }
def FnGuardReadsSaid : Prop := fnGuardReadsRow.holds Tryz.pinned (OpenSpec.ofChange fnGuardReadsSpec)

/-- ITS FALSE NEIGHBOUR: 'it returns false'. Refute it at one input. -/
def fnGuardReadsWrong : ChangeSpec := { name := "fnGuardReads", fn := fun _ => fun
  | [d] => { results := [.lit (.bool false)], args := [d] }
  | _ => none }
def FnGuardReadsWrongFalsely : Prop := fnGuardReadsRow.holds Tryz.pinned (OpenSpec.ofChange fnGuardReadsWrong)

/-- 'laws.FnGuards': WHATEVER THE INPUT: true; the input reads as it did. -/
def fnGuardsSpec : ChangeSpec := { name := "fnGuards", fn := fun _ => fun
  | [d] => { results := [.lit (.bool true)], args := [d] }
  | _ => none }
def fnGuardsRow : OpenClaim := { program := "ytoocmbhkaghgnaagreat", sum := "feeffda0d873d16288ef56572955c981855c5c20d687e3ff66d5607d75bf6ef9", func := "loop.example/confluence/laws.FnGuards", spec := "fnGuards", unfollowed := true, recurses := true, plainKeys := false, apart := false }
def FnGuardsSaid : Prop := fnGuardsRow.holds Tryz.pinned (OpenSpec.ofChange fnGuardsSpec)

/-- ITS FALSE NEIGHBOUR: 'it returns false'. Refute it at one input. -/
def fnGuardsWrong : ChangeSpec := { name := "fnGuards", fn := fun _ => fun
  | [d] => { results := [.lit (.bool false)], args := [d] }
  | _ => none }
def FnGuardsWrongFalsely : Prop := fnGuardsRow.holds Tryz.pinned (OpenSpec.ofChange fnGuardsWrong)

/- THE SECOND FORM. 'bulk': how many values and letters a reading holds, each counted each time it is reached (what is shared counts as often as it is met; a slice's spare places count too). A statement '..UptoSaid' is the law's where the arguments, and the package variables that the reading takes, are together of bulk at most 1048576: NARROWER than '..Said'. Prove '..Said' where nothing that the law and all that it calls make is longer than what came in: it says more and counts as full. Else prove '..UptoSaid'. A law counts once. -/
mutual
def uptoBulk {H : Type} : DataW H → Nat
  | .lit (.string bytes) => bytes.length + 1
  | .lit _ => 1
  | .nil => 1
  | .ptr d => uptoBulk d + 1
  | .slice elems spare => uptoBulkAll elems + uptoBulkAll spare + 1
  | .agg parts => uptoBulkAll parts + 1
  | .iface _ d => uptoBulk d + 1
  | .map entries => uptoBulkEntries entries + 1
  | .held _ => 1
def uptoBulkAll {H : Type} : List (DataW H) → Nat
  | [] => 0
  | d :: r => uptoBulk d + uptoBulkAll r
def uptoBulkEntries {H : Type} : List (Lit × DataW H) → Nat
  | [] => 0
  | x :: r => uptoBulkEntry x + uptoBulkEntries r
def uptoBulkEntry {H : Type} : Lit × DataW H → Nat
  | (.string bytes, d) => bytes.length + uptoBulk d + 1
  | (_, d) => uptoBulk d + 1
 end
def uptoSmall : (H : Type) → List (DataW H) → Bool := fun _ ds => decide (uptoBulkAll ds ≤ 1048576)
def OpenSpec.upto (s : _root_.Go.ChangeSpec) : _root_.Go.OpenSpec := { _root_.Go.OpenSpec.ofChange s with cond := some uptoSmall }

/-- 'laws.FnGuardFollow', WHERE WHAT IT READS IS OF BULK AT MOST 1048576: true; the input reads as it did. -/
def fnGuardFollowUptoRow : OpenClaim := { program := "ytoocmbhkaghgnaagreat", sum := "feeffda0d873d16288ef56572955c981855c5c20d687e3ff66d5607d75bf6ef9", func := "loop.example/confluence/laws.FnGuardFollow", spec := "fnGuardFollow", unfollowed := true, recurses := true, plainKeys := false, apart := false, narrowed := true }
def FnGuardFollowUptoSaid : Prop := fnGuardFollowUptoRow.holds Tryz.pinned (OpenSpec.upto fnGuardFollowSpec)

/-- 'laws.FnGuardOwn', WHERE WHAT IT READS IS OF BULK AT MOST 1048576: true; the input reads as it did. -/
def fnGuardOwnUptoRow : OpenClaim := { program := "ytoocmbhkaghgnaagreat", sum := "feeffda0d873d16288ef56572955c981855c5c20d687e3ff66d5607d75bf6ef9", func := "loop.example/confluence/laws.FnGuardOwn", spec := "fnGuardOwn", unfollowed := true, recurses := true, plainKeys := false, apart := false, narrowed := true }
def FnGuardOwnUptoSaid : Prop := fnGuardOwnUptoRow.holds Tryz.pinned (OpenSpec.upto fnGuardOwnSpec)

/-- 'laws.FnGuardReads', WHERE WHAT IT READS IS OF BULK AT MOST 1048576: true; the input reads as it did. -/
def fnGuardReadsUptoRow : OpenClaim := { program := "ytoocmbhkaghgnaagreat", sum := "feeffda0d873d16288ef56572955c981855c5c20d687e3ff66d5607d75bf6ef9", func := "loop.example/confluence/laws.FnGuardReads", spec := "fnGuardReads", unfollowed := true, recurses := true, plainKeys := false, apart := false, narrowed := true }
def FnGuardReadsUptoSaid : Prop := fnGuardReadsUptoRow.holds Tryz.pinned (OpenSpec.upto fnGuardReadsSpec)

/-- 'laws.FnGuards', WHERE WHAT IT READS IS OF BULK AT MOST 1048576: true; the input reads as it did. -/
def fnGuardsUptoRow : OpenClaim := { program := "ytoocmbhkaghgnaagreat", sum := "feeffda0d873d16288ef56572955c981855c5c20d687e3ff66d5607d75bf6ef9", func := "loop.example/confluence/laws.FnGuards", spec := "fnGuards", unfollowed := true, recurses := true, plainKeys := false, apart := false, narrowed := true }
def FnGuardsUptoSaid : Prop := fnGuardsUptoRow.holds Tryz.pinned (OpenSpec.upto fnGuardsSpec)

end Rows
end Go.Proofs.YtoocmbhkaghgnaaGreat
