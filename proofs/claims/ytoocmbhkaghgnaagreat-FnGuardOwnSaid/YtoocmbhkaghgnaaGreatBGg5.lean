/- Part 5 of what is shown for the law Gg, whatever the input; no condition of its own. -/
import Derived.Test.YtoocmbhkaghgnaaGreatBGg4
import Derived.Below
import Derived.Tactics
import Derived.Orders
import Derived.Laws.Sem
import Derived.Laws.World
import Derived.Laws.Cells
import Derived.Laws.StructEq
import Derived.Laws.Cover3
import Derived.Laws.BitsLemmas
import Derived.Laws.BytesString
import Derived.IntWalk
import Derived.Laws.Append
import Derived.Test.YtoocmbhkaghgnaaGreatProg
import Derived.KernelRfl
import Derived.ProofKit
import Derived.Laws.Strings
import Derived.Test.YtoocmbhkaghgnaaGreatRows
import Derived.JoinedOf
import Derived.WalkKit
import Derived.OpenShut
import Derived.ShutString
import Derived.ChangeOld
set_option linter.unusedVariables false
set_option linter.unusedSimpArgs false
set_option linter.unnecessarySimpa false
set_option maxRecDepth 100000
namespace Go.Proofs.YtoocmbhkaghgnaaGreat
open Go
theorem fx_split {a b:Bool} (h1:a=true) (h2:b=true):(a&&b)=true:=by rw[h1,h2];rfl
theorem fx2:laidOutB Tryz.pinned.checked.prog=true:=by kernel_rfl
theorem fx3:mapsRowed Tryz.pinned.checked.prog=true:=by kernel_rfl
theorem fx23:(Rows.fnGuardReadsRow.plainKeys==Tryz.pinned.checked.prog.plainKeys)=true:=by kernel_rfl
theorem fx25:Tryz.pinned.checked.prog.stopsHeard=true:=by kernel_rfl
theorem fx26:Tryz.pinned.checked.prog.mayEnter=true:=by kernel_rfl
theorem fx27:(Rows.fnGuardReadsRow.lifted==Tryz.pinned.checked.prog.liftsFinal)=true:=by kernel_rfl
theorem fx28:(Tryz.pinned.checked.prog.make==some Rows.fnGuardReadsRow.make)=true:=by kernel_rfl
end Go.Proofs.YtoocmbhkaghgnaaGreat
