/- What T is told of this program, and that T is sound for it. -/
import Derived.Test.YtfbhdjkeofleiaaDoorTeeZb
import Derived.Test.YtfbhdjkeofleiaaDoorProg
import Derived.KernelRfl
namespace Go.Proofs.YtfbhdjkeofleiaaDoor
open Go T
set_option maxRecDepth 100000
noncomputable def I : T.Info := infoOf Tryd.prog [] [(4, { drop := true }),
  (6, { drop := true }),
  (7, { drop := true }),
  (8, { drop := true }),
  (9, { drop := true }),
  (11, { drop := true }),
  (13, { hb := [5] }),
  (14, { drop := true }),
  (15, { drop := true }),
  (16, { keep := [(0, [0, 1, 4], [])] }),
  (17, { keep := [(0, [0, 1, 3, 4, 10, 11, 12, 13, 14, 15, 16], []), (2, [0, 1, 3, 4, 10, 11, 12, 13, 17], [])], hb := [12] }),
  (18, { drop := true }),
  (19, { drop := true }),
  (20, { drop := true }),
  (21, { drop := true }),
  (22, { drop := true }),
  (23, { drop := true }),
  (24, { drop := true })]
/-- a call, as T answers it -/
noncomputable def evl : CallT := eval Tryd.prog I
/-- what a function leans on -/
noncomputable def X (f : Nat) : Ctx := I.ctx evl f
theorem sound : Sound Tryd.prog I := sound_of (by kernel_rfl) (by kernel_rfl) (by kernel_rfl)
theorem evl_sound : SC Tryd.prog evl := eval_sound sound
end Go.Proofs.YtfbhdjkeofleiaaDoor
