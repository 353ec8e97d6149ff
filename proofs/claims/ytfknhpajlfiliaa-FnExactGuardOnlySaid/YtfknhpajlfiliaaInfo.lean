/- What T is told of this program, and that T is sound for it. -/
import Derived.Test.YtfknhpajlfiliaaTeeZb
import Derived.Test.YtfknhpajlfiliaaProg
import Derived.KernelRfl
namespace Go.Proofs.Ytfknhpajlfiliaa
open Go T
set_option maxRecDepth 100000
noncomputable def I : T.Info := infoOf Try.prog [33, 35, 37, 39, 45, 57] [(8, { drop := true }),
  (9, { keep := [(0, [0, 2, 3], []), (2, [0, 2, 3, 4], [])], drop := true }),
  (10, { keep := [(0, [0, 3, 4], [])] }),
  (11, { keep := [(0, [2, 3, 9, 10, 11], [])], hb := [3], drop := true }),
  (12, { keep := [(0, [0, 1, 4, 5], [])], drop := true }),
  (13, { keep := [(0, [0, 2, 3], [])], drop := true }),
  (14, { keep := [(0, [2, 3, 11, 12, 13], [])], drop := true }),
  (16, { keep := [(0, [1, 5, 14, 15, 16], [])] }),
  (17, { keep := [(0, [0, 1, 5], [])] }),
  (18, { keep := [(0, [0, 1, 4, 5], [])], drop := true }),
  (19, { keep := [(0, [0, 2, 3], [])], drop := true }),
  (20, { drop := true }),
  (21, { keep := [(0, [0, 2, 3], [])], drop := true }),
  (22, { drop := true }),
  (23, { keep := [(0, [0, 2, 3], [])], drop := true }),
  (24, { drop := true }),
  (25, { drop := true }),
  (26, { drop := true }),
  (27, { keep := [(0, [0, 1, 2, 7, 8, 9], [7])], drop := true }),
  (28, { keep := [(0, [0, 1, 5, 6], [])] }),
  (29, { keep := [(0, [0, 1, 2, 3, 8, 9], [])], drop := true }),
  (30, { keep := [(0, [1, 4, 5, 13, 14, 15], [])], drop := true }),
  (31, { drop := true }),
  (32, { drop := true }),
  (33, { drop := true }),
  (34, { drop := true }),
  (35, { drop := true }),
  (36, { drop := true }),
  (37, { drop := true }),
  (38, { drop := true }),
  (39, { drop := true }),
  (40, { drop := true }),
  (41, { drop := true }),
  (42, { drop := true }),
  (43, { drop := true }),
  (44, { keep := [(0, [0, 1, 4, 7, 8], [])], drop := true }),
  (45, { drop := true }),
  (46, { drop := true }),
  (47, { keep := [(0, [2, 3, 6, 7, 8], [])], drop := true }),
  (48, { drop := true }),
  (49, { drop := true })]
/-- a call, as T answers it -/
noncomputable def evl : CallT := eval Try.prog I
/-- what a function leans on -/
noncomputable def X (f : Nat) : Ctx := I.ctx evl f
theorem sound : Sound Try.prog I := sound_of (by kernel_rfl) (by kernel_rfl) (by kernel_rfl)
theorem evl_sound : SC Try.prog evl := eval_sound sound
end Go.Proofs.Ytfknhpajlfiliaa
