/- What the rows of this seat ask of the whole program, fact by fact. -/
import Derived.Test.YtfbhdjkeofleiaaDoorRows
import Derived.JoinedOf
import Derived.KernelRfl
namespace Go.Proofs.YtfbhdjkeofleiaaDoor
open Go
theorem fx_split {a b : Bool} (h1 : a = true) (h2 : b = true) : (a && b) = true := by rw [h1, h2]; rfl
theorem fx2 : laidOutB Tryd.pinned.checked.prog = true := by kernel_rfl
theorem fx3 : mapsRowed Tryd.pinned.checked.prog = true := by kernel_rfl
theorem fx23 : (Rows.fnExactJourNewRow.plainKeys == Tryd.pinned.checked.prog.plainKeys) = true := by kernel_rfl
theorem fx25 : Tryd.pinned.checked.prog.stopsHeard = true := by kernel_rfl
theorem fx26 : Tryd.pinned.checked.prog.mayEnter = true := by kernel_rfl
theorem fx27 : (Rows.fnExactJourNewRow.lifted == Tryd.pinned.checked.prog.liftsFinal) = true := by kernel_rfl
theorem fx28 : (Tryd.pinned.checked.prog.make == some Rows.fnExactJourNewRow.make) = true := by kernel_rfl
end Go.Proofs.YtfbhdjkeofleiaaDoor
