/- Part 3 of what is shown for the law FnExactWorldNodes, whatever the input; no condition of its own. -/
import Derived.Test.YthdfojchihooeaaGreatBXWorldNodes2
namespace Go.Proofs.YthdfojchihooeaaGreat
open Go T
set_option linter.unusedVariables false
set_option maxRecDepth 100000
theorem E_impl_formed {lo : Nat} {a0 : Option (Nat × Nat)} {n0 : Nat} {c0 : Option Nat} {h : Heap} {v : V} {h' : Heap} (hk : (br (decide ((↑n0 : Int) ≤ (80 : Int))) (cal (evl (List.length h) 264 [.sl 5 a0 n0 c0, .fn 265 []] h) fun v_0 h_1 => eB v_0 (some (.bool false, h_1)) (some (.bool true, h_1))) (some (.bool false, h))) = some (v, h')) (hn : noId v = true := by rfl) :
    evl lo 166 [.sl 5 a0 n0 c0] h = some (v, h) :=
  eval_drop Tryz.func166 (by kernel_rfl) (Eq.trans (by kernel_rfl) hk) hn
theorem E_impl_beginsWith {lo : Nat} {a0 : Option (Nat × Nat)} {n0 : Nat} {c0 : Option Nat} {a1 : Option (Nat × Nat)} {n1 : Nat} {c1 : Option Nat} {h : Heap} {v : V} {h' : Heap} (hk : (br (decide ((↑n1 : Int) ≤ (↑n0 : Int))) (reslice a0 n0 c0 none (some (.int .i64 ((↑n1 : Int)))) none fun a_0 n_1 c_2 => cal (evl (List.length h) 266 [.sl 6 a_0 n_1 c_2, .sl 6 a1 n1 c1, .fn 233 []] h) fun v_3 h_4 => eB v_3 (some (.bool true, h_4)) (some (.bool false, h_4))) (some (.bool false, h))) = some (v, h')) (hn : noId v = true := by rfl) :
    evl lo 167 [.sl 6 a0 n0 c0, .sl 6 a1 n1 c1] h = some (v, h) :=
  eval_drop Tryz.func167 (by kernel_rfl) (Eq.trans (by kernel_rfl) hk) hn
theorem E_slices_ContainsFunc_impl_Sess_impl_Sess {lo : Nat} {a0 : Option (Nat × Nat)} {n0 : Nat} {c0 : Option Nat} {g1 : Nat} {l1 : List V} {h : Heap} {v : V} {h' : Heap} (hk : (cal (evl (List.length h) 267 [.sl 5 a0 n0 c0, .fn g1 l1] h) fun v_0 h_1 => eI .i64 v_0 fun n_2 => br (decide (n_2 ≥ (0 : Int))) (some (.bool true, h_1)) (some (.bool false, h_1))) = some (v, h')) (hn : noId v = true := by rfl) :
    evl lo 168 [.sl 5 a0 n0 c0, .fn g1 l1] h = some (v, h) :=
  eval_drop Tryz.func168 (by kernel_rfl) (Eq.trans (by kernel_rfl) hk) hn
theorem E_impl_WorldOk_1 {lo : Nat} {x0 : Int} {a0 : Option (Nat × Nat)} {n0 : Nat} {c0 : Option Nat} {x0_1 : Int} {x0_2 : Int} {x0_3 : Int} {h : Heap} {v : V} {h' : Heap} (hk : (cal (evl (List.length h) 170 [.agg [.int .i64 (x0), .sl 2 a0 n0 c0, .int .i64 (x0_1), .int .i64 (x0_2), .int .i64 (x0_3)]] h) fun v_0 h_1 => eB v_0 (some (.bool false, h_1)) (some (.bool true, h_1))) = some (v, h')) (hn : noId v = true := by rfl) :
    evl lo 169 [.agg [.int .i64 (x0), .sl 2 a0 n0 c0, .int .i64 (x0_1), .int .i64 (x0_2), .int .i64 (x0_3)]] h = some (v, h) :=
  eval_drop Tryz.func169 (by kernel_rfl) (Eq.trans (by kernel_rfl) hk) hn
theorem E_impl_Sess_valid {lo : Nat} {x0 : Int} {a0 : Option (Nat × Nat)} {n0 : Nat} {c0 : Option Nat} {x0_1 : Int} {x0_2 : Int} {x0_3 : Int} {h : Heap} {v : V} {h' : Heap} (hk : (cal (evl (List.length h) 140 [.int .i64 (x0)] h) fun v_0 h_1 => eB v_0 (cal (evl (List.length h) 125 [.agg [.sl 2 a0 n0 c0]] h_1) fun v_2 h_3 => eB v_2 (cal (evl (List.length h) 236 [.agg [.int .i64 (x0_1), .int .i64 (x0_2)]] h_3) fun v_4 h_5 => eB v_4 (br ((x0_1 == (0 : Int)) && ((x0_2 == (0 : Int)) && true)) (br (x0_3 == (0 : Int)) (some (.bool true, h_5)) (some (.bool false, h_5))) (br (x0_2 == x0) (cal (evl (List.length h) 86 [.int .i64 (x0_3)] h_5) fun v_6 h_7 => eB v_6 (some (.bool true, h_7)) (some (.bool false, h_7))) (some (.bool false, h_5)))) (some (.bool false, h_5))) (some (.bool false, h_3))) (some (.bool false, h_1))) = some (v, h')) (hn : noId v = true := by rfl) :
    evl lo 170 [.agg [.int .i64 (x0), .sl 2 a0 n0 c0, .int .i64 (x0_1), .int .i64 (x0_2), .int .i64 (x0_3)]] h = some (v, h) :=
  eval_drop Tryz.func170 (by kernel_rfl) (Eq.trans (by kernel_rfl) hk) hn
theorem E_slices_ContainsFunc_impl_Frame_impl_Frame {lo : Nat} {a0 : Option (Nat × Nat)} {n0 : Nat} {c0 : Option Nat} {g1 : Nat} {l1 : List V} {h : Heap} {v : V} {h' : Heap} (hk : (cal (evl (List.length h) 268 [.sl 9 a0 n0 c0, .fn g1 l1] h) fun v_0 h_1 => eI .i64 v_0 fun n_2 => br (decide (n_2 ≥ (0 : Int))) (some (.bool true, h_1)) (some (.bool false, h_1))) = some (v, h')) (hn : noId v = true := by rfl) :
    evl lo 171 [.sl 9 a0 n0 c0, .fn g1 l1] h = some (v, h) :=
  eval_drop Tryz.func171 (by kernel_rfl) (Eq.trans (by kernel_rfl) hk) hn
theorem E_impl_WorldOk_2 {lo : Nat} {x0 : Int} {x0_1 : Int} {x0_2 : Int} {x0_3 : Int} {x0_4 : Int} {x0_5 : Int} {a0 : Option (Nat × Nat)} {n0 : Nat} {c0 : Option Nat} {s0 : ByteArray} {b0 : Bool} {pb1 : Nat} {h : Heap} {v : V} {h' : Heap} (hk : (cal (evl (List.length h) 173 [.ptr (some (pb1, (0, 0))), .agg [.int .i64 (x0), .int .i64 (x0_1), .int .i64 (x0_2), .int .i64 (x0_3), .int .i64 (x0_4), .int .i64 (x0_5), .sl 2 a0 n0 c0, .str (s0), .bool (b0)]] h) fun v_0 h_1 => eB v_0 (some (.bool false, h_1)) (some (.bool true, h_1))) = some (v, h')) (hn : noId v = true := by rfl) :
    evl lo 172 [.agg [.int .i64 (x0), .int .i64 (x0_1), .int .i64 (x0_2), .int .i64 (x0_3), .int .i64 (x0_4), .int .i64 (x0_5), .sl 2 a0 n0 c0, .str (s0), .bool (b0)], .ptr (some (pb1, (0, 0)))] h = some (v, h) :=
  eval_drop Tryz.func172 (by kernel_rfl) (Eq.trans (by kernel_rfl) hk) hn
theorem E_impl_World_frameOk {lo : Nat} {pb0 : Nat} {pi0 : Nat} {pj0 : Nat} {x1 : Int} {x1_1 : Int} {x1_2 : Int} {x1_3 : Int} {x1_4 : Int} {x1_5 : Int} {a1 : Option (Nat × Nat)} {n1 : Nat} {c1 : Option Nat} {s1 : ByteArray} {b1 : Bool} {h : Heap} {v : V} {h' : Heap} (hk : (cal (evl (List.length h) 269 [.int .i64 (x1), .int .i64 (x1_1)] h) fun v_0 h_1 => eB v_0 (eO (ld h_1 pb0 pi0 (pj0 + 0) 1) fun o_2 => eC o_2 fun v_3 l_4 => eN l_4 (eS 6 (v_3) fun a_5 n_6 c_7 => inB (x1) n_6 (eO a_5 fun o_8 => eO (ld h_1 (o_8.1) ((o_8.2) + (x1.toNat)) 3 1) fun o_9 => eC o_9 fun v_10 l_11 => eN l_11 (eS 6 (v_10) fun a_12 n_13 c_14 => cal (evl (List.length h) 85 [.int .i64 (x1_2), .int .i64 0, .int .i64 (IntKind.wrap .i64 (((↑n_13 : Int)) - 1))] h_1) fun v_15 h_16 => eB v_15 (eO (ld h_16 pb0 pi0 (pj0 + 0) 1) fun o_17 => eC o_17 fun v_18 l_19 => eN l_19 (eS 6 (v_18) fun a_20 n_21 c_22 => inB (x1) n_21 (eO a_20 fun o_23 => eO (ld h_16 (o_23.1) ((o_23.2) + (x1.toNat)) 3 1) fun o_24 => eC o_24 fun v_25 l_26 => eN l_26 (eS 6 (v_25) fun a_27 n_28 c_29 => inB (x1_2) n_28 (eO a_27 fun o_30 => eO (ld h_16 (o_30.1) ((o_30.2) + (x1_2.toNat)) 0 6) fun o_31 => eC o_31 fun v_32 l_33 => eI .i64 v_32 fun n_34 => eC l_33 fun v_35 l_36 => eI .i64 v_35 fun n_37 => eC l_36 fun v_38 l_39 => eI .i64 v_38 fun n_40 => eC l_39 fun v_41 l_42 => eS 2 (v_41) fun a_43 n_44 c_45 => eC l_42 fun v_46 l_47 => eT v_46 fun s_48 => eC l_47 fun v_49 l_50 => eBv v_49 fun b_51 => eN l_50 (cal (evl (List.length h) 233 [.agg [.int .i64 (n_34), .int .i64 (n_37), .int .i64 (n_40), .sl 2 a_43 n_44 c_45, .str (s_48), .bool (b_51)], .agg [.int .i64 (x1_3), .int .i64 (x1_4), .int .i64 (x1_5), .sl 2 a1 n1 c1, .str (s1), .bool (b1)]] h_16) fun v_52 h_53 => eB v_52 (some (.bool true, h_53)) (some (.bool false, h_53)))))))) (some (.bool false, h_16)))))) (some (.bool false, h_1))) = some (v, h')) (hn : noId v = true := by rfl) :
    evl lo 173 [.ptr (some (pb0, (pi0, pj0))), .agg [.int .i64 (x1), .int .i64 (x1_1), .int .i64 (x1_2), .int .i64 (x1_3), .int .i64 (x1_4), .int .i64 (x1_5), .sl 2 a1 n1 c1, .str (s1), .bool (b1)]] h = some (v, h) :=
  eval_drop Tryz.func173 (by kernel_rfl) (Eq.trans (by kernel_rfl) hk) hn
theorem E_laws_szPlace {lo : Nat} {x0 : Int} {x0_1 : Int} {a0 : Option (Nat × Nat)} {n0 : Nat} {c0 : Option Nat} {a0_1 : Option (Nat × Nat)} {n0_1 : Nat} {c0_1 : Option Nat} {a0_2 : Option (Nat × Nat)} {n0_2 : Nat} {c0_2 : Option Nat} {b0 : Bool} {x1 : Int} {h : Heap} {v : V} {h' : Heap} (hk : (cal (evl (List.length h) 270 [.agg [.sl 2 a0 n0 c0], .int .i64 (x1)] h) fun v_0 h_1 => eI .i64 v_0 fun n_2 => br (decide (n_2 < (0 : Int))) (some (.int .i64 (-1), h_1)) (cal (evl (List.length h) 271 [.sl 6 a0_1 n0_1 c0_1, .int .i64 (n_2)] h_1) fun v_3 h_4 => eI .i64 v_3 fun n_5 => br (decide (n_5 < (0 : Int))) (some (.int .i64 (-1), h_4)) (cal (evl (List.length h) 272 [.sl 1 a0_2 n0_2 c0_2, .int .i64 (n_5)] h_4) fun v_6 h_7 => eI .i64 v_6 fun n_8 => br (decide (n_8 < (0 : Int))) (some (.int .i64 (-1), h_7)) (some (.int .i64 (n_8), h_7))))) = some (v, h')) (hn : noId v = true := by rfl) :
    evl lo 174 [.agg [.int .i64 (x0), .int .i64 (x0_1), .sl 2 a0 n0 c0, .sl 6 a0_1 n0_1 c0_1, .sl 1 a0_2 n0_2 c0_2, .bool (b0)], .int .i64 (x1)] h = some (v, h) :=
  eval_drop Tryz.func174 (by kernel_rfl) (Eq.trans (by kernel_rfl) hk) hn
theorem E_laws_szSess {lo : Nat} {x0 : Int} {a0 : Option (Nat × Nat)} {n0 : Nat} {c0 : Option Nat} {x0_1 : Int} {x0_2 : Int} {x0_3 : Int} {x1 : Int} {h : Heap} {v : V} {h' : Heap} (hk : (cal (evl (List.length h) 273 [.agg [.sl 2 a0 n0 c0], .int .i64 (x1)] h) fun v_0 h_1 => eI .i64 v_0 fun n_2 => br (decide (n_2 < (0 : Int))) (some (.int .i64 (-1), h_1)) (some (.int .i64 (n_2), h_1))) = some (v, h')) (hn : noId v = true := by rfl) :
    evl lo 175 [.agg [.int .i64 (x0), .sl 2 a0 n0 c0, .int .i64 (x0_1), .int .i64 (x0_2), .int .i64 (x0_3)], .int .i64 (x1)] h = some (v, h) :=
  eval_drop Tryz.func175 (by kernel_rfl) (Eq.trans (by kernel_rfl) hk) hn
theorem E_laws_szFrame {lo : Nat} {x0 : Int} {x0_1 : Int} {x0_2 : Int} {x0_3 : Int} {x0_4 : Int} {x0_5 : Int} {a0 : Option (Nat × Nat)} {n0 : Nat} {c0 : Option Nat} {s0 : ByteArray} {b0 : Bool} {x1 : Int} {h : Heap} {v : V} {h' : Heap} (hk : (cal (evl (List.length h) 274 [.agg [.int .i64 (x0_3), .int .i64 (x0_4), .int .i64 (x0_5), .sl 2 a0 n0 c0, .str (s0), .bool (b0)], .int .i64 (x1)] h) fun v_0 h_1 => eI .i64 v_0 fun n_2 => br (decide (n_2 < (0 : Int))) (some (.int .i64 (-1), h_1)) (some (.int .i64 (n_2), h_1))) = some (v, h')) (hn : noId v = true := by rfl) :
    evl lo 176 [.agg [.int .i64 (x0), .int .i64 (x0_1), .int .i64 (x0_2), .int .i64 (x0_3), .int .i64 (x0_4), .int .i64 (x0_5), .sl 2 a0 n0 c0, .str (s0), .bool (b0)], .int .i64 (x1)] h = some (v, h) :=
  eval_drop Tryz.func176 (by kernel_rfl) (Eq.trans (by kernel_rfl) hk) hn
theorem E_spec_l5SessOk {lo : Nat} {x0 : Int} {a0 : Option (Nat × Nat)} {n0 : Nat} {c0 : Option Nat} {x0_1 : Int} {x0_2 : Int} {x0_3 : Int} {h : Heap} {v : V} {h' : Heap} (hk : (cal (evl (List.length h) 78 [.int .i64 (x0), .int .i64 0, .int .i64 2] h) fun v_0 h_1 => eB v_0 (cal (evl (List.length h) 161 [.agg [.sl 2 a0 n0 c0]] h_1) fun v_2 h_3 => eB v_2 (cal (evl (List.length h) 250 [.agg [.int .i64 (x0_1), .int .i64 (x0_2)]] h_3) fun v_4 h_5 => eB v_4 (cal (evl (List.length h) 78 [.int .i64 (x0_3), .int .i64 0, .int .i64 3] h_5) fun v_6 h_7 => eB v_6 (br (decide (x0_1 > (0 : Int))) (br (x0_1 == (0 : Int)) (some (.bool true, h_7)) (br (x0_2 == x0) (some (.bool true, h_7)) (some (.bool false, h_7)))) (br (x0_3 == (0 : Int)) (br (x0_1 == (0 : Int)) (some (.bool true, h_7)) (br (x0_2 == x0) (some (.bool true, h_7)) (some (.bool false, h_7)))) (some (.bool false, h_7)))) (some (.bool false, h_7))) (some (.bool false, h_5))) (some (.bool false, h_3))) (some (.bool false, h_1))) = some (v, h')) (hn : noId v = true := by rfl) :
    evl lo 177 [.agg [.int .i64 (x0), .sl 2 a0 n0 c0, .int .i64 (x0_1), .int .i64 (x0_2), .int .i64 (x0_3)]] h = some (v, h) :=
  eval_drop Tryz.func177 (by kernel_rfl) (Eq.trans (by kernel_rfl) hk) hn
theorem E_spec_l5FrameOk {lo : Nat} {a0 : Option (Nat × Nat)} {n0 : Nat} {c0 : Option Nat} {a0_1 : Option (Nat × Nat)} {n0_1 : Nat} {c0_1 : Option Nat} {a0_2 : Option (Nat × Nat)} {n0_2 : Nat} {c0_2 : Option Nat} {a0_3 : Option (Nat × Nat)} {n0_3 : Nat} {c0_3 : Option Nat} {x1 : Int} {x1_1 : Int} {x1_2 : Int} {x1_3 : Int} {x1_4 : Int} {x1_5 : Int} {a1 : Option (Nat × Nat)} {n1 : Nat} {c1 : Option Nat} {s1 : ByteArray} {b1 : Bool} {h : Heap} {v : V} {h' : Heap} (hk : (cal (evl (List.length h) 78 [.int .i64 (x1), .int .i64 0, .int .i64 2] h) fun v_0 h_1 => eB v_0 (cal (evl (List.length h) 78 [.int .i64 (x1_1), .int .i64 0, .int .i64 2] h_1) fun v_2 h_3 => eB v_2 (br (x1 == x1_1) (some (.bool false, h_3)) (inB (x1) n0 (eO a0 fun o_4 => eO (ld h_3 (o_4.1) ((o_4.2) + (x1.toNat)) 3 1) fun o_5 => eC o_5 fun v_6 l_7 => eN l_7 (eS 6 (v_6) fun a_8 n_9 c_10 => cal (evl (List.length h) 78 [.int .i64 (x1_2), .int .i64 0, .int .i64 (IntKind.wrap .i64 (((↑n_9 : Int)) - 1))] h_3) fun v_11 h_12 => eB v_11 (cal (evl (List.length h) 137 [.agg [.int .i64 (x1_3), .int .i64 (x1_4), .int .i64 (x1_5), .sl 2 a1 n1 c1, .str (s1), .bool (b1)]] h_12) fun v_13 h_14 => eB v_13 (inB (x1) n0 (eO a0 fun o_15 => eO (ld h_14 (o_15.1) ((o_15.2) + (x1.toNat)) 3 1) fun o_16 => eC o_16 fun v_17 l_18 => eN l_18 (eS 6 (v_17) fun a_19 n_20 c_21 => inB (x1_2) n_20 (eO a_19 fun o_22 => eO (ld h_14 (o_22.1) ((o_22.2) + (x1_2.toNat)) 0 6) fun o_23 => eC o_23 fun v_24 l_25 => eI .i64 v_24 fun n_26 => eC l_25 fun v_27 l_28 => eI .i64 v_27 fun n_29 => eC l_28 fun v_30 l_31 => eI .i64 v_30 fun n_32 => eC l_31 fun v_33 l_34 => eS 2 (v_33) fun a_35 n_36 c_37 => eC l_34 fun v_38 l_39 => eT v_38 fun s_40 => eC l_39 fun v_41 l_42 => eBv v_41 fun b_43 => eN l_42 (cal (evl (List.length h) 275 [.agg [.int .i64 (x1_3), .int .i64 (x1_4), .int .i64 (x1_5), .sl 2 a1 n1 c1, .str (s1), .bool (b1)], .agg [.int .i64 (n_26), .int .i64 (n_29), .int .i64 (n_32), .sl 2 a_35 n_36 c_37, .str (s_40), .bool (b_43)]] h_14) fun v_44 h_45 => eB v_44 (some (.bool true, h_45)) (some (.bool false, h_45))))))) (some (.bool false, h_14))) (some (.bool false, h_12)))))) (some (.bool false, h_3))) (some (.bool false, h_1))) = some (v, h')) (hn : noId v = true := by rfl) :
    evl lo 178 [.agg [.sl 6 a0 n0 c0, .sl 5 a0_1 n0_1 c0_1, .sl 9 a0_2 n0_2 c0_2, .sl 5 a0_3 n0_3 c0_3], .agg [.int .i64 (x1), .int .i64 (x1_1), .int .i64 (x1_2), .int .i64 (x1_3), .int .i64 (x1_4), .int .i64 (x1_5), .sl 2 a1 n1 c1, .str (s1), .bool (b1)]] h = some (v, h) :=
  eval_drop Tryz.func178 (by kernel_rfl) (Eq.trans (by kernel_rfl) hk) hn
theorem E_spec_l5OpOk {lo : Nat} {x0 : Int} {x0_1 : Int} {x0_2 : Int} {x0_3 : Int} {x0_4 : Int} {h : Heap} {v : V} {h' : Heap} (hk : (cal (evl (List.length h) 78 [.int .i64 (x0), .int .i64 0, .int .i64 3] h) fun v_0 h_1 => eB v_0 (cal (evl (List.length h) 78 [.int .i64 (x0_1), .int .i64 1, .int .i64 3] h_1) fun v_2 h_3 => eB v_2 (cal (evl (List.length h) 78 [.int .i64 (x0_2), .int .i64 0, .int .i64 3] h_3) fun v_4 h_5 => eB v_4 (cal (evl (List.length h) 250 [.agg [.int .i64 (x0_3), .int .i64 (x0_4)]] h_5) fun v_6 h_7 => eB v_6 (br (x0_1 == (2 : Int)) (some (.bool true, h_7)) (br (decide (x0_3 > (0 : Int))) (some (.bool true, h_7)) (some (.bool false, h_7)))) (some (.bool false, h_7))) (some (.bool false, h_5))) (some (.bool false, h_3))) (some (.bool false, h_1))) = some (v, h')) (hn : noId v = true := by rfl) :
    evl lo 179 [.agg [.int .i64 (x0), .int .i64 (x0_1), .int .i64 (x0_2), .int .i64 (x0_3), .int .i64 (x0_4)]] h = some (v, h) :=
  eval_drop Tryz.func179 (by kernel_rfl) (Eq.trans (by kernel_rfl) hk) hn
noncomputable def L_spec_l5Heard_0 (lo : Nat) (b2 : Bool) (x3 : Int) (a1b : Option (Nat × Nat)) (n1b : Nat) (c1b : Option Nat) (a1b_1 : Option (Nat × Nat)) (n1b_1 : Nat) (c1b_1 : Option Nat) (a1b_2 : Option (Nat × Nat)) (n1b_2 : Nat) (c1b_2 : Option Nat) (a1b_3 : Option (Nat × Nat)) (n1b_3 : Nat) (c1b_3 : Option Nat) (h : Heap) : Option (V × Heap) :=
  Lp (X 180) lo (cb (cb (cr (cl (cr (code Tryz.f180)))))) 0 (kBlock 0 (kS (X 180) lo (cr (cr (code Tryz.f180))) 0 (kTop (X 180) Tryz.f180.results.toList))) ⟨[(1, .lp 1 0), (2, .bool (b2)), (3, .int .i64 (x3))], [(1, [.sl 6 a1b n1b c1b, .sl 5 a1b_1 n1b_1 c1b_1, .sl 9 a1b_2 n1b_2 c1b_2, .sl 5 a1b_3 n1b_3 c1b_3])], h⟩
noncomputable def L_spec_l5Heard_2 (lo : Nat) (b2 : Bool) (x3 : Int) (x4 : Int) (a1b : Option (Nat × Nat)) (n1b : Nat) (c1b : Option Nat) (a1b_1 : Option (Nat × Nat)) (n1b_1 : Nat) (c1b_1 : Option Nat) (a1b_2 : Option (Nat × Nat)) (n1b_2 : Nat) (c1b_2 : Option Nat) (a1b_3 : Option (Nat × Nat)) (n1b_3 : Nat) (c1b_3 : Option Nat) (h : Heap) : Option (V × Heap) :=
  Lp (X 180) lo (cb (cb (cr (cb (cl (cr (cb (cb (cr (cl (cr (code Tryz.f180)))))))))))) 2 (kBlock 2 (kBlock 1 (kS (X 180) lo (cr (cr (cb (cb (cr (cl (cr (code Tryz.f180)))))))) 0 (kLp (X 180) lo (cb (cb (cr (cl (cr (code Tryz.f180)))))) 0 (kBlock 0 (kS (X 180) lo (cr (cr (code Tryz.f180))) 0 (kTop (X 180) Tryz.f180.results.toList))))))) ⟨[(1, .lp 1 0), (2, .bool (b2)), (3, .int .i64 (x3)), (4, .int .i64 (x4))], [(1, [.sl 6 a1b n1b c1b, .sl 5 a1b_1 n1b_1 c1b_1, .sl 9 a1b_2 n1b_2 c1b_2, .sl 5 a1b_3 n1b_3 c1b_3])], h⟩
noncomputable def L_spec_l5Heard_4 (lo : Nat) (b2 : Bool) (x3 : Int) (x4 : Int) (a5 : Option (Nat × Nat)) (n5 : Nat) (c5 : Option Nat) (x6 : Int) (a1b : Option (Nat × Nat)) (n1b : Nat) (c1b : Option Nat) (a1b_1 : Option (Nat × Nat)) (n1b_1 : Nat) (c1b_1 : Option Nat) (a1b_2 : Option (Nat × Nat)) (n1b_2 : Nat) (c1b_2 : Option Nat) (a1b_3 : Option (Nat × Nat)) (n1b_3 : Nat) (c1b_3 : Option Nat) (h : Heap) : Option (V × Heap) :=
  Lp (X 180) lo (cb (cb (cr (cr (cr (cb (cl (cr (cb (cb (cr (cb (cl (cr (cb (cb (cr (cl (cr (code Tryz.f180)))))))))))))))))))) 4 (kBlock 4 (kBlock 3 (kS (X 180) lo (cr (cr (cb (cb (cr (cb (cl (cr (cb (cb (cr (cl (cr (code Tryz.f180)))))))))))))) 2 (kLp (X 180) lo (cb (cb (cr (cb (cl (cr (cb (cb (cr (cl (cr (code Tryz.f180)))))))))))) 2 (kBlock 2 (kBlock 1 (kS (X 180) lo (cr (cr (cb (cb (cr (cl (cr (code Tryz.f180)))))))) 0 (kLp (X 180) lo (cb (cb (cr (cl (cr (code Tryz.f180)))))) 0 (kBlock 0 (kS (X 180) lo (cr (cr (code Tryz.f180))) 0 (kTop (X 180) Tryz.f180.results.toList))))))))))) ⟨[(1, .lp 1 0), (2, .bool (b2)), (3, .int .i64 (x3)), (4, .int .i64 (x4)), (5, .sl 6 a5 n5 c5), (6, .int .i64 (x6))], [(1, [.sl 6 a1b n1b c1b, .sl 5 a1b_1 n1b_1 c1b_1, .sl 9 a1b_2 n1b_2 c1b_2, .sl 5 a1b_3 n1b_3 c1b_3])], h⟩
theorem E_spec_l5Heard {lo : Nat} {a0 : Option (Nat × Nat)} {n0 : Nat} {c0 : Option Nat} {a0_1 : Option (Nat × Nat)} {n0_1 : Nat} {c0_1 : Option Nat} {a0_2 : Option (Nat × Nat)} {n0_2 : Nat} {c0_2 : Option Nat} {a0_3 : Option (Nat × Nat)} {n0_3 : Nat} {c0_3 : Option Nat} {h : Heap} {v : V} {h' : Heap} (hk : (L_spec_l5Heard_0 (List.length h) false 0 a0 n0 c0 a0_1 n0_1 c0_1 a0_2 n0_2 c0_2 a0_3 n0_3 c0_3 h) = some (v, h')) (hn : noId v = true := by rfl) :
    evl lo 180 [.agg [.sl 6 a0 n0 c0, .sl 5 a0_1 n0_1 c0_1, .sl 9 a0_2 n0_2 c0_2, .sl 5 a0_3 n0_3 c0_3]] h = some (v, h) :=
  eval_drop Tryz.func180 (by kernel_rfl) (Eq.trans (by kernel_rfl) hk) hn
theorem L_spec_l5Heard_0.e {lo : Nat} {b2 : Bool} {x3 : Int} {a1b : Option (Nat × Nat)} {n1b : Nat} {c1b : Option Nat} {a1b_1 : Option (Nat × Nat)} {n1b_1 : Nat} {c1b_1 : Option Nat} {a1b_2 : Option (Nat × Nat)} {n1b_2 : Nat} {c1b_2 : Option Nat} {a1b_3 : Option (Nat × Nat)} {n1b_3 : Nat} {c1b_3 : Option Nat} {h : Heap} :
    L_spec_l5Heard_0 lo b2 x3 a1b n1b c1b a1b_1 n1b_1 c1b_1 a1b_2 n1b_2 c1b_2 a1b_3 n1b_3 c1b_3 h = br (decide (x3 < (3 : Int))) (L_spec_l5Heard_2 lo (b2) (x3) 0 a1b n1b c1b a1b_1 n1b_1 c1b_1 a1b_2 n1b_2 c1b_2 a1b_3 n1b_3 c1b_3 h) (some (.bool true, h)) :=
  Lp_eq.trans (by kernel_rfl)
theorem L_spec_l5Heard_2.e {lo : Nat} {b2 : Bool} {x3 : Int} {x4 : Int} {a1b : Option (Nat × Nat)} {n1b : Nat} {c1b : Option Nat} {a1b_1 : Option (Nat × Nat)} {n1b_1 : Nat} {c1b_1 : Option Nat} {a1b_2 : Option (Nat × Nat)} {n1b_2 : Nat} {c1b_2 : Option Nat} {a1b_3 : Option (Nat × Nat)} {n1b_3 : Nat} {c1b_3 : Option Nat} {h : Heap} :
    L_spec_l5Heard_2 lo b2 x3 x4 a1b n1b c1b a1b_1 n1b_1 c1b_1 a1b_2 n1b_2 c1b_2 a1b_3 n1b_3 c1b_3 h = br (decide (x4 < (3 : Int))) (inB (x3) n1b (eO a1b fun o_0 => eO (ld h (o_0.1) ((o_0.2) + (x3.toNat)) 4 1) fun o_1 => eC o_1 fun v_2 l_3 => eN l_3 (eS 1 (v_2) fun a_4 n_5 c_6 => inB (x4) n_5 (eO a_4 fun o_7 => eO (ld h (o_7.1) ((o_7.2) + (x4.toNat)) 0 1) fun o_8 => eC o_8 fun v_9 l_10 => eN l_10 (eS 6 (v_9) fun a_11 n_12 c_13 => inB (x4) n1b (eO a1b fun o_14 => eO (ld h (o_14.1) ((o_14.2) + (x4.toNat)) 3 1) fun o_15 => eC o_15 fun v_16 l_17 => eN l_17 (eS 6 (v_16) fun a_18 n_19 c_20 => br (decide ((↑n_12 : Int) > (↑n_19 : Int))) (some (.bool false, h)) (L_spec_l5Heard_4 lo (b2) (x3) (x4) a_11 n_12 c_13 0 a1b n1b c1b a1b_1 n1b_1 c1b_1 a1b_2 n1b_2 c1b_2 a1b_3 n1b_3 c1b_3 h)))))))) (L_spec_l5Heard_0 lo (b2) (IntKind.wrap .i64 ((x3) + 1)) a1b n1b c1b a1b_1 n1b_1 c1b_1 a1b_2 n1b_2 c1b_2 a1b_3 n1b_3 c1b_3 h) :=
  Lp_eq.trans (by kernel_rfl)
theorem L_spec_l5Heard_4.e {lo : Nat} {b2 : Bool} {x3 : Int} {x4 : Int} {a5 : Option (Nat × Nat)} {n5 : Nat} {c5 : Option Nat} {x6 : Int} {a1b : Option (Nat × Nat)} {n1b : Nat} {c1b : Option Nat} {a1b_1 : Option (Nat × Nat)} {n1b_1 : Nat} {c1b_1 : Option Nat} {a1b_2 : Option (Nat × Nat)} {n1b_2 : Nat} {c1b_2 : Option Nat} {a1b_3 : Option (Nat × Nat)} {n1b_3 : Nat} {c1b_3 : Option Nat} {h : Heap} :
    L_spec_l5Heard_4 lo b2 x3 x4 a5 n5 c5 x6 a1b n1b c1b a1b_1 n1b_1 c1b_1 a1b_2 n1b_2 c1b_2 a1b_3 n1b_3 c1b_3 h = br (decide (x6 < (↑n5 : Int))) (inB (x6) n5 (eO a5 fun o_21 => eO (ld h (o_21.1) ((o_21.2) + (x6.toNat)) 0 6) fun o_22 => eC o_22 fun v_23 l_24 => eI .i64 v_23 fun n_25 => eC l_24 fun v_26 l_27 => eI .i64 v_26 fun n_28 => eC l_27 fun v_29 l_30 => eI .i64 v_29 fun n_31 => eC l_30 fun v_32 l_33 => eS 2 (v_32) fun a_34 n_35 c_36 => eC l_33 fun v_37 l_38 => eT v_37 fun s_39 => eC l_38 fun v_40 l_41 => eBv v_40 fun b_42 => eN l_41 (inB (x4) n1b (eO a1b fun o_43 => eO (ld h (o_43.1) ((o_43.2) + (x4.toNat)) 3 1) fun o_44 => eC o_44 fun v_45 l_46 => eN l_46 (eS 6 (v_45) fun a_47 n_48 c_49 => inB (x6) n_48 (eO a_47 fun o_50 => eO (ld h (o_50.1) ((o_50.2) + (x6.toNat)) 0 6) fun o_51 => eC o_51 fun v_52 l_53 => eI .i64 v_52 fun n_54 => eC l_53 fun v_55 l_56 => eI .i64 v_55 fun n_57 => eC l_56 fun v_58 l_59 => eI .i64 v_58 fun n_60 => eC l_59 fun v_61 l_62 => eS 2 (v_61) fun a_63 n_64 c_65 => eC l_62 fun v_66 l_67 => eT v_66 fun s_68 => eC l_67 fun v_69 l_70 => eBv v_69 fun b_71 => eN l_70 (cal (evl lo 275 [.agg [.int .i64 (n_25), .int .i64 (n_28), .int .i64 (n_31), .sl 2 a_34 n_35 c_36, .str (s_39), .bool (b_42)], .agg [.int .i64 (n_54), .int .i64 (n_57), .int .i64 (n_60), .sl 2 a_63 n_64 c_65, .str (s_68), .bool (b_71)]] h) fun v_72 h_73 => eB v_72 (L_spec_l5Heard_4 lo (b2) (x3) (x4) a5 n5 c5 (IntKind.wrap .i64 ((x6) + 1)) a1b n1b c1b a1b_1 n1b_1 c1b_1 a1b_2 n1b_2 c1b_2 a1b_3 n1b_3 c1b_3 h_73) (some (.bool false, h_73))))))))) (L_spec_l5Heard_2 lo (b2) (x3) (IntKind.wrap .i64 ((x4) + 1)) a1b n1b c1b a1b_1 n1b_1 c1b_1 a1b_2 n1b_2 c1b_2 a1b_3 n1b_3 c1b_3 h) :=
  Lp_eq.trans (by kernel_rfl)
theorem E_spec_l2Copy {lo : Nat} {x0 : Int} {x0_1 : Int} {x0_2 : Int} {a0 : Option (Nat × Nat)} {n0 : Nat} {c0 : Option Nat} {s0 : ByteArray} {b0 : Bool} {h : Heap} {r : V × Heap} (hk : (rowsOf 2 (h ++ [.rows 2 60 false []]) (.sl 2 a0 n0 c0) fun x_0 => app lo 60 2 16 (.sl 2 (some ((List.length h), 0)) 0 (some 0)) x_0 (h ++ [.rows 2 60 false []]) fun v_1 h_2 => eS 2 (v_1) fun a_3 n_4 c_5 => some (.agg [.int .i64 (x0), .int .i64 (x0_1), .int .i64 (x0_2), .sl 2 a_3 n_4 c_5, .str (s0), .bool (b0)], h_2)) = some r) :
    evl lo 181 [.agg [.int .i64 (x0), .int .i64 (x0_1), .int .i64 (x0_2), .sl 2 a0 n0 c0, .str (s0), .bool (b0)]] h = some r :=
  eval_keep Tryz.func181 (by kernel_rfl) (Eq.trans (by kernel_rfl) hk)
theorem E_laws_toPlace {lo : Nat} {x0 : Int} {x0_1 : Int} {a0 : Option (Nat × Nat)} {n0 : Nat} {c0 : Option Nat} {a0_1 : Option (Nat × Nat)} {n0_1 : Nat} {c0_1 : Option Nat} {a0_2 : Option (Nat × Nat)} {n0_2 : Nat} {c0_2 : Option Nat} {b0 : Bool} {h : Heap} {r : V × Heap} (hk : (cal (evl lo 276 [.agg [.sl 2 a0 n0 c0]] h) fun v_0 h_1 => eA v_0 fun c_2 => eC c_2 fun v_3 l_4 => eS 2 (v_3) fun a_5 n_6 c_7 => eN l_4 (cal (evl lo 277 [.sl 6 a0_1 n0_1 c0_1] h_1) fun v_8 h_9 => eS 6 (v_8) fun a_10 n_11 c_12 => cal (evl lo 278 [.sl 1 a0_2 n0_2 c0_2] h_9) fun v_13 h_14 => eS 1 (v_13) fun a_15 n_16 c_17 => some (.agg [.int .i64 (x0), .int .i64 (x0_1), .sl 2 a_5 n_6 c_7, .sl 6 a_10 n_11 c_12, .sl 1 a_15 n_16 c_17, .bool (b0)], h_14))) = some r) :
    evl lo 182 [.agg [.int .i64 (x0), .int .i64 (x0_1), .sl 2 a0 n0 c0, .sl 6 a0_1 n0_1 c0_1, .sl 1 a0_2 n0_2 c0_2, .bool (b0)]] h = some r :=
  eval_keep Tryz.func182 (by kernel_rfl) (Eq.trans (by kernel_rfl) hk)
theorem E_laws_toSess {lo : Nat} {x0 : Int} {a0 : Option (Nat × Nat)} {n0 : Nat} {c0 : Option Nat} {x0_1 : Int} {x0_2 : Int} {x0_3 : Int} {h : Heap} {r : V × Heap} (hk : (cal (evl lo 279 [.agg [.sl 2 a0 n0 c0]] h) fun v_0 h_1 => eA v_0 fun c_2 => eC c_2 fun v_3 l_4 => eS 2 (v_3) fun a_5 n_6 c_7 => eN l_4 (cal (evl lo 280 [.agg [.int .i64 (x0_1), .int .i64 (x0_2)]] h_1) fun v_8 h_9 => eA v_8 fun c_10 => eC c_10 fun v_11 l_12 => eI .i64 v_11 fun n_13 => eC l_12 fun v_14 l_15 => eI .i64 v_14 fun n_16 => eN l_15 (some (.agg [.int .i64 (x0), .sl 2 a_5 n_6 c_7, .int .i64 (n_13), .int .i64 (n_16), .int .i64 (x0_3)], h_9)))) = some r) :
    evl lo 183 [.agg [.int .i64 (x0), .sl 2 a0 n0 c0, .int .i64 (x0_1), .int .i64 (x0_2), .int .i64 (x0_3)]] h = some r :=
  eval_keep Tryz.func183 (by kernel_rfl) (Eq.trans (by kernel_rfl) hk)
theorem E_laws_toFrame {lo : Nat} {x0 : Int} {x0_1 : Int} {x0_2 : Int} {x0_3 : Int} {x0_4 : Int} {x0_5 : Int} {a0 : Option (Nat × Nat)} {n0 : Nat} {c0 : Option Nat} {s0 : ByteArray} {b0 : Bool} {h : Heap} {r : V × Heap} (hk : (cal (evl lo 281 [.agg [.int .i64 (x0_3), .int .i64 (x0_4), .int .i64 (x0_5), .sl 2 a0 n0 c0, .str (s0), .bool (b0)]] h) fun v_0 h_1 => eA v_0 fun c_2 => eC c_2 fun v_3 l_4 => eI .i64 v_3 fun n_5 => eC l_4 fun v_6 l_7 => eI .i64 v_6 fun n_8 => eC l_7 fun v_9 l_10 => eI .i64 v_9 fun n_11 => eC l_10 fun v_12 l_13 => eS 2 (v_12) fun a_14 n_15 c_16 => eC l_13 fun v_17 l_18 => eT v_17 fun s_19 => eC l_18 fun v_20 l_21 => eBv v_20 fun b_22 => eN l_21 (some (.agg [.int .i64 (x0), .int .i64 (x0_1), .int .i64 (x0_2), .int .i64 (n_5), .int .i64 (n_8), .int .i64 (n_11), .sl 2 a_14 n_15 c_16, .str (s_19), .bool (b_22)], h_1))) = some r) :
    evl lo 184 [.agg [.int .i64 (x0), .int .i64 (x0_1), .int .i64 (x0_2), .int .i64 (x0_3), .int .i64 (x0_4), .int .i64 (x0_5), .sl 2 a0 n0 c0, .str (s0), .bool (b0)]] h = some r :=
  eval_keep Tryz.func184 (by kernel_rfl) (Eq.trans (by kernel_rfl) hk)
theorem E_laws_toDone {lo : Nat} {x0 : Int} {x0_1 : Int} {x0_2 : Int} {x0_3 : Int} {x0_4 : Int} {h : Heap} {v : V} {h' : Heap} (hk : (cal (evl (List.length h) 280 [.agg [.int .i64 (x0_3), .int .i64 (x0_4)]] h) fun v_0 h_1 => eA v_0 fun c_2 => eC c_2 fun v_3 l_4 => eI .i64 v_3 fun n_5 => eC l_4 fun v_6 l_7 => eI .i64 v_6 fun n_8 => eN l_7 (some (.agg [.int .i64 (x0), .int .i64 (x0_1), .int .i64 (x0_2), .int .i64 (n_5), .int .i64 (n_8)], h_1))) = some (v, h')) (hn : noId v = true := by rfl) :
    evl lo 185 [.agg [.int .i64 (x0), .int .i64 (x0_1), .int .i64 (x0_2), .int .i64 (x0_3), .int .i64 (x0_4)]] h = some (v, h) :=
  eval_drop Tryz.func185 (by kernel_rfl) (Eq.trans (by kernel_rfl) hk) hn
theorem E_impl_Ver_copied {lo : Nat} {x0 : Int} {x0_1 : Int} {x0_2 : Int} {a0 : Option (Nat × Nat)} {n0 : Nat} {c0 : Option Nat} {s0 : ByteArray} {b0 : Bool} {h : Heap} {r : V × Heap} (hk : (cal (evl lo 202 [.agg [.sl 2 a0 n0 c0]] h) fun v_0 h_1 => eA v_0 fun c_2 => eC c_2 fun v_3 l_4 => eS 2 (v_3) fun a_5 n_6 c_7 => eN l_4 (some (.agg [.int .i64 (x0), .int .i64 (x0_1), .int .i64 (x0_2), .sl 2 a_5 n_6 c_7, .str (s0), .bool (b0)], h_1))) = some r) :
    evl lo 186 [.agg [.int .i64 (x0), .int .i64 (x0_1), .int .i64 (x0_2), .sl 2 a0 n0 c0, .str (s0), .bool (b0)]] h = some r :=
  eval_keep Tryz.func186 (by kernel_rfl) (Eq.trans (by kernel_rfl) hk)
theorem E_laws_eqPlace {lo : Nat} {x0 : Int} {x0_1 : Int} {a0 : Option (Nat × Nat)} {n0 : Nat} {c0 : Option Nat} {a0_1 : Option (Nat × Nat)} {n0_1 : Nat} {c0_1 : Option Nat} {a0_2 : Option (Nat × Nat)} {n0_2 : Nat} {c0_2 : Option Nat} {b0 : Bool} {x1 : Int} {x1_1 : Int} {a1 : Option (Nat × Nat)} {n1 : Nat} {c1 : Option Nat} {a1_1 : Option (Nat × Nat)} {n1_1 : Nat} {c1_1 : Option Nat} {a1_2 : Option (Nat × Nat)} {n1_2 : Nat} {c1_2 : Option Nat} {b1 : Bool} {h : Heap} {v : V} {h' : Heap} (hk : (br (x0 == x1) (br (x0_1 == x1_1) (cal (evl (List.length h) 282 [.agg [.sl 2 a0 n0 c0], .agg [.sl 2 a1 n1 c1]] h) fun v_0 h_1 => eB v_0 (cal (evl (List.length h) 283 [.sl 6 a0_1 n0_1 c0_1, .sl 6 a1_1 n1_1 c1_1] h_1) fun v_2 h_3 => eB v_2 (cal (evl (List.length h) 284 [.sl 1 a0_2 n0_2 c0_2, .sl 1 a1_2 n1_2 c1_2] h_3) fun v_4 h_5 => eB v_4 (br (b0 == b1) (some (.bool true, h_5)) (some (.bool false, h_5))) (some (.bool false, h_5))) (some (.bool false, h_3))) (some (.bool false, h_1))) (some (.bool false, h))) (some (.bool false, h))) = some (v, h')) (hn : noId v = true := by rfl) :
    evl lo 187 [.agg [.int .i64 (x0), .int .i64 (x0_1), .sl 2 a0 n0 c0, .sl 6 a0_1 n0_1 c0_1, .sl 1 a0_2 n0_2 c0_2, .bool (b0)], .agg [.int .i64 (x1), .int .i64 (x1_1), .sl 2 a1 n1 c1, .sl 6 a1_1 n1_1 c1_1, .sl 1 a1_2 n1_2 c1_2, .bool (b1)]] h = some (v, h) :=
  eval_drop Tryz.func187 (by kernel_rfl) (Eq.trans (by kernel_rfl) hk) hn
theorem E_laws_eqSess {lo : Nat} {x0 : Int} {a0 : Option (Nat × Nat)} {n0 : Nat} {c0 : Option Nat} {x0_1 : Int} {x0_2 : Int} {x0_3 : Int} {x1 : Int} {a1 : Option (Nat × Nat)} {n1 : Nat} {c1 : Option Nat} {x1_1 : Int} {x1_2 : Int} {x1_3 : Int} {h : Heap} {v : V} {h' : Heap} (hk : (br (x0 == x1) (cal (evl (List.length h) 285 [.agg [.sl 2 a0 n0 c0], .agg [.sl 2 a1 n1 c1]] h) fun v_0 h_1 => eB v_0 (cal (evl (List.length h) 286 [.agg [.int .i64 (x0_1), .int .i64 (x0_2)], .agg [.int .i64 (x1_1), .int .i64 (x1_2)]] h_1) fun v_2 h_3 => eB v_2 (br (x0_3 == x1_3) (some (.bool true, h_3)) (some (.bool false, h_3))) (some (.bool false, h_3))) (some (.bool false, h_1))) (some (.bool false, h))) = some (v, h')) (hn : noId v = true := by rfl) :
    evl lo 188 [.agg [.int .i64 (x0), .sl 2 a0 n0 c0, .int .i64 (x0_1), .int .i64 (x0_2), .int .i64 (x0_3)], .agg [.int .i64 (x1), .sl 2 a1 n1 c1, .int .i64 (x1_1), .int .i64 (x1_2), .int .i64 (x1_3)]] h = some (v, h) :=
  eval_drop Tryz.func188 (by kernel_rfl) (Eq.trans (by kernel_rfl) hk) hn
theorem E_laws_eqFrame {lo : Nat} {x0 : Int} {x0_1 : Int} {x0_2 : Int} {x0_3 : Int} {x0_4 : Int} {x0_5 : Int} {a0 : Option (Nat × Nat)} {n0 : Nat} {c0 : Option Nat} {s0 : ByteArray} {b0 : Bool} {x1 : Int} {x1_1 : Int} {x1_2 : Int} {x1_3 : Int} {x1_4 : Int} {x1_5 : Int} {a1 : Option (Nat × Nat)} {n1 : Nat} {c1 : Option Nat} {s1 : ByteArray} {b1 : Bool} {h : Heap} {v : V} {h' : Heap} (hk : (br (x0 == x1) (br (x0_1 == x1_1) (br (x0_2 == x1_2) (cal (evl (List.length h) 287 [.agg [.int .i64 (x0_3), .int .i64 (x0_4), .int .i64 (x0_5), .sl 2 a0 n0 c0, .str (s0), .bool (b0)], .agg [.int .i64 (x1_3), .int .i64 (x1_4), .int .i64 (x1_5), .sl 2 a1 n1 c1, .str (s1), .bool (b1)]] h) fun v_0 h_1 => eB v_0 (some (.bool true, h_1)) (some (.bool false, h_1))) (some (.bool false, h))) (some (.bool false, h))) (some (.bool false, h))) = some (v, h')) (hn : noId v = true := by rfl) :
    evl lo 189 [.agg [.int .i64 (x0), .int .i64 (x0_1), .int .i64 (x0_2), .int .i64 (x0_3), .int .i64 (x0_4), .int .i64 (x0_5), .sl 2 a0 n0 c0, .str (s0), .bool (b0)], .agg [.int .i64 (x1), .int .i64 (x1_1), .int .i64 (x1_2), .int .i64 (x1_3), .int .i64 (x1_4), .int .i64 (x1_5), .sl 2 a1 n1 c1, .str (s1), .bool (b1)]] h = some (v, h) :=
  eval_drop Tryz.func189 (by kernel_rfl) (Eq.trans (by kernel_rfl) hk) hn
theorem E_laws_eqDone {lo : Nat} {x0 : Int} {x0_1 : Int} {x0_2 : Int} {x0_3 : Int} {x0_4 : Int} {x1 : Int} {x1_1 : Int} {x1_2 : Int} {x1_3 : Int} {x1_4 : Int} {h : Heap} {v : V} {h' : Heap} (hk : (br (x0 == x1) (br (x0_1 == x1_1) (br (x0_2 == x1_2) (cal (evl (List.length h) 286 [.agg [.int .i64 (x0_3), .int .i64 (x0_4)], .agg [.int .i64 (x1_3), .int .i64 (x1_4)]] h) fun v_0 h_1 => eB v_0 (some (.bool true, h_1)) (some (.bool false, h_1))) (some (.bool false, h))) (some (.bool false, h))) (some (.bool false, h))) = some (v, h')) (hn : noId v = true := by rfl) :
    evl lo 190 [.agg [.int .i64 (x0), .int .i64 (x0_1), .int .i64 (x0_2), .int .i64 (x0_3), .int .i64 (x0_4)], .agg [.int .i64 (x1), .int .i64 (x1_1), .int .i64 (x1_2), .int .i64 (x1_3), .int .i64 (x1_4)]] h = some (v, h) :=
  eval_drop Tryz.func190 (by kernel_rfl) (Eq.trans (by kernel_rfl) hk) hn
noncomputable def L_laws_markNodeS_0 (lo : Nat) (a0 : Option (Nat × Nat)) (n0 : Nat) (c0 : Option Nat) (x1 : Int) (x5 : Int) (h : Heap) : Option (V × Heap) :=
  Lp (X 191) lo (cb (cb (cr (cl (cr (code Tryz.f191)))))) 0 (kBlock 0 (kS (X 191) lo (cr (cr (code Tryz.f191))) 0 (kTop (X 191) Tryz.f191.results.toList))) ⟨[(0, .sl 2 a0 n0 c0), (1, .int .i64 (x1)), (5, .int .i64 (x5))], [], h⟩
theorem E_laws_markNodeS {lo : Nat} {a0 : Option (Nat × Nat)} {n0 : Nat} {c0 : Option Nat} {x1 : Int} {h : Heap} {r : V × Heap} (hk : (L_laws_markNodeS_0 lo a0 n0 c0 (x1) 0 h) = some r) :
    evl lo 191 [.sl 2 a0 n0 c0, .int .i64 (x1)] h = some r :=
  eval_keep Tryz.func191 (by kernel_rfl) (Eq.trans (by kernel_rfl) hk)
theorem L_laws_markNodeS_0.e {lo : Nat} {a0 : Option (Nat × Nat)} {n0 : Nat} {c0 : Option Nat} {x1 : Int} {x5 : Int} {h : Heap} :
    L_laws_markNodeS_0 lo a0 n0 c0 x1 x5 h = br (decide (x5 < (↑n0 : Int))) (inB (x5) n0 (eO a0 fun o_0 => eO (ld h (o_0.1) ((o_0.2) + (x5.toNat)) 0 1) fun o_1 => eC o_1 fun v_2 l_3 => eN l_3 (eS 6 (v_2) fun a_4 n_5 c_6 => cal (evl lo 192 [.sl 6 a_4 n_5 c_6, .int .i64 (x1)] h) fun v_7 h_8 => eI .i64 v_7 fun n_9 => inB (x5) n0 (eO a0 fun o_10 => eO (ld h_8 (o_10.1) ((o_10.2) + (x5.toNat)) 1 1) fun o_11 => eC o_11 fun v_12 l_13 => eN l_13 (eS 6 (v_12) fun a_14 n_15 c_16 => cal (evl lo 192 [.sl 6 a_14 n_15 c_16, .int .i64 (n_9)] h_8) fun v_17 h_18 => eI .i64 v_17 fun n_19 => L_laws_markNodeS_0 lo a0 n0 c0 (n_19) (IntKind.wrap .i64 ((x5) + 1)) h_18))))) (some (.int .i64 (x1), h)) :=
  Lp_eq.trans (by kernel_rfl)
noncomputable def L_laws_markVerS_0 (lo : Nat) (a0 : Option (Nat × Nat)) (n0 : Nat) (c0 : Option Nat) (x1 : Int) (x5 : Int) (h : Heap) : Option (V × Heap) :=
  Lp (X 192) lo (cb (cb (cr (cl (cr (code Tryz.f192)))))) 0 (kBlock 0 (kS (X 192) lo (cr (cr (code Tryz.f192))) 0 (kTop (X 192) Tryz.f192.results.toList))) ⟨[(0, .sl 6 a0 n0 c0), (1, .int .i64 (x1)), (5, .int .i64 (x5))], [], h⟩
theorem E_laws_markVerS {lo : Nat} {a0 : Option (Nat × Nat)} {n0 : Nat} {c0 : Option Nat} {x1 : Int} {h : Heap} {r : V × Heap} (hk : (L_laws_markVerS_0 lo a0 n0 c0 (x1) 0 h) = some r) :
    evl lo 192 [.sl 6 a0 n0 c0, .int .i64 (x1)] h = some r :=
  eval_keep Tryz.func192 (by kernel_rfl) (Eq.trans (by kernel_rfl) hk)
theorem L_laws_markVerS_0.e {lo : Nat} {a0 : Option (Nat × Nat)} {n0 : Nat} {c0 : Option Nat} {x1 : Int} {x5 : Int} {h : Heap} :
    L_laws_markVerS_0 lo a0 n0 c0 x1 x5 h = br (decide (x5 < (↑n0 : Int))) (inB (x5) n0 (eO a0 fun o_0 => eO (st lo h (o_0.1) ((o_0.2) + (x5.toNat)) 0 [.int .i64 (x1)]) fun o_1 => inB (x5) n0 (eO a0 fun o_2 => eO (st lo o_1 (o_2.1) ((o_2.2) + (x5.toNat)) 1 [.int .i64 (IntKind.wrap .i64 ((x1) + 1))]) fun o_3 => inB (x5) n0 (eO a0 fun o_4 => eO (st lo o_3 (o_4.1) ((o_4.2) + (x5.toNat)) 2 [.int .i64 (IntKind.wrap .i64 ((IntKind.wrap .i64 ((x1) + 1)) + 1))]) fun o_5 => inB (x5) n0 (eO a0 fun o_6 => eO (ld o_5 (o_6.1) ((o_6.2) + (x5.toNat)) 3 1) fun o_7 => eC o_7 fun v_8 l_9 => eN l_9 (eS 2 (v_8) fun a_10 n_11 c_12 => cal (evl lo 194 [.sl 2 a_10 n_11 c_12, .int .i64 (IntKind.wrap .i64 ((IntKind.wrap .i64 ((IntKind.wrap .i64 ((x1) + 1)) + 1)) + 1))] o_5) fun v_13 h_14 => eI .i64 v_13 fun n_15 => cal (evl lo 195 [.int .i64 (n_15)] h_14) fun v_16 h_17 => eT v_16 fun s_18 => inB (x5) n0 (eO a0 fun o_19 => eO (st lo h_17 (o_19.1) ((o_19.2) + (x5.toNat)) 4 [.str (s_18)]) fun o_20 => br ((IntKind.i64.wrap (n_15 + (1 : Int))).tmod (3 : Int) == (0 : Int)) (inB (x5) n0 (eO a0 fun o_21 => eO (st lo o_20 (o_21.1) ((o_21.2) + (x5.toNat)) 5 [.bool true]) fun o_22 => L_laws_markVerS_0 lo a0 n0 c0 (IntKind.wrap .i64 ((IntKind.wrap .i64 ((n_15) + 1)) + 1)) (IntKind.wrap .i64 ((x5) + 1)) o_22)) (inB (x5) n0 (eO a0 fun o_23 => eO (st lo o_20 (o_23.1) ((o_23.2) + (x5.toNat)) 5 [.bool false]) fun o_24 => L_laws_markVerS_0 lo a0 n0 c0 (IntKind.wrap .i64 ((IntKind.wrap .i64 ((n_15) + 1)) + 1)) (IntKind.wrap .i64 ((x5) + 1)) o_24))))))))) (some (.int .i64 (x1), h)) :=
  Lp_eq.trans (by kernel_rfl)
noncomputable def L_laws_markVerSS_0 (lo : Nat) (a0 : Option (Nat × Nat)) (n0 : Nat) (c0 : Option Nat) (x1 : Int) (x5 : Int) (h : Heap) : Option (V × Heap) :=
  Lp (X 193) lo (cb (cb (cr (cl (cr (code Tryz.f193)))))) 0 (kBlock 0 (kS (X 193) lo (cr (cr (code Tryz.f193))) 0 (kTop (X 193) Tryz.f193.results.toList))) ⟨[(0, .sl 1 a0 n0 c0), (1, .int .i64 (x1)), (5, .int .i64 (x5))], [], h⟩
theorem E_laws_markVerSS {lo : Nat} {a0 : Option (Nat × Nat)} {n0 : Nat} {c0 : Option Nat} {x1 : Int} {h : Heap} {r : V × Heap} (hk : (L_laws_markVerSS_0 lo a0 n0 c0 (x1) 0 h) = some r) :
    evl lo 193 [.sl 1 a0 n0 c0, .int .i64 (x1)] h = some r :=
  eval_keep Tryz.func193 (by kernel_rfl) (Eq.trans (by kernel_rfl) hk)
theorem L_laws_markVerSS_0.e {lo : Nat} {a0 : Option (Nat × Nat)} {n0 : Nat} {c0 : Option Nat} {x1 : Int} {x5 : Int} {h : Heap} :
    L_laws_markVerSS_0 lo a0 n0 c0 x1 x5 h = br (decide (x5 < (↑n0 : Int))) (inB (x5) n0 (eO a0 fun o_0 => eO (ld h (o_0.1) ((o_0.2) + (x5.toNat)) 0 1) fun o_1 => eC o_1 fun v_2 l_3 => eN l_3 (eS 6 (v_2) fun a_4 n_5 c_6 => cal (evl lo 192 [.sl 6 a_4 n_5 c_6, .int .i64 (x1)] h) fun v_7 h_8 => eI .i64 v_7 fun n_9 => L_laws_markVerSS_0 lo a0 n0 c0 (n_9) (IntKind.wrap .i64 ((x5) + 1)) h_8))) (some (.int .i64 (x1), h)) :=
  Lp_eq.trans (by kernel_rfl)
noncomputable def L_laws_markTagS_0 (lo : Nat) (a0 : Option (Nat × Nat)) (n0 : Nat) (c0 : Option Nat) (x1 : Int) (x5 : Int) (h : Heap) : Option (V × Heap) :=
  Lp (X 194) lo (cb (cb (cr (cl (cr (code Tryz.f194)))))) 0 (kBlock 0 (kS (X 194) lo (cr (cr (code Tryz.f194))) 0 (kTop (X 194) Tryz.f194.results.toList))) ⟨[(0, .sl 2 a0 n0 c0), (1, .int .i64 (x1)), (5, .int .i64 (x5))], [], h⟩
theorem E_laws_markTagS {lo : Nat} {a0 : Option (Nat × Nat)} {n0 : Nat} {c0 : Option Nat} {x1 : Int} {h : Heap} {r : V × Heap} (hk : (L_laws_markTagS_0 lo a0 n0 c0 (x1) 0 h) = some r) :
    evl lo 194 [.sl 2 a0 n0 c0, .int .i64 (x1)] h = some r :=
  eval_keep Tryz.func194 (by kernel_rfl) (Eq.trans (by kernel_rfl) hk)
theorem L_laws_markTagS_0.e {lo : Nat} {a0 : Option (Nat × Nat)} {n0 : Nat} {c0 : Option Nat} {x1 : Int} {x5 : Int} {h : Heap} :
    L_laws_markTagS_0 lo a0 n0 c0 x1 x5 h = br (decide (x5 < (↑n0 : Int))) (inB (x5) n0 (eO a0 fun o_0 => eO (st lo h (o_0.1) ((o_0.2) + (x5.toNat)) 0 [.int .i64 (x1)]) fun o_1 => inB (x5) n0 (eO a0 fun o_2 => eO (st lo o_1 (o_2.1) ((o_2.2) + (x5.toNat)) 1 [.int .i64 (IntKind.wrap .i64 ((x1) + 1))]) fun o_3 => L_laws_markTagS_0 lo a0 n0 c0 (IntKind.wrap .i64 ((IntKind.wrap .i64 ((x1) + 1)) + 1)) (IntKind.wrap .i64 ((x5) + 1)) o_3))) (some (.int .i64 (x1), h)) :=
  Lp_eq.trans (by kernel_rfl)
noncomputable def L_laws_markText_0 (lo : Nat) (x0 : Int) (s3 : ByteArray) (h : Heap) : Option (V × Heap) :=
  Lp (X 195) lo (cb (cb (cl (cr (cr (cr (code Tryz.f195))))))) 0 (kBlock 0 (kS (X 195) lo (cr (cr (cr (cr (code Tryz.f195))))) 0 (kTop (X 195) Tryz.f195.results.toList))) ⟨[(0, .int .i64 (x0)), (3, .str (s3))], [], h⟩
theorem E_laws_markText {lo : Nat} {x0 : Int} {h : Heap} {v : V} {h' : Heap} (hk : (br (decide (x0 ≤ (0 : Int))) (some (.str ⟨⟨[109, 48]⟩⟩, h)) (L_laws_markText_0 (List.length h) (x0) ⟨⟨[]⟩⟩ h)) = some (v, h')) (hn : noId v = true := by rfl) :
    evl lo 195 [.int .i64 (x0)] h = some (v, h) :=
  eval_drop Tryz.func195 (by kernel_rfl) (Eq.trans (by kernel_rfl) hk) hn
theorem L_laws_markText_0.e {lo : Nat} {x0 : Int} {s3 : ByteArray} {h : Heap} :
    L_laws_markText_0 lo x0 s3 h = br (decide (x0 > (0 : Int))) (rowsOf 1 (h ++ [.rows 1 5 false [[.int .u8 (IntKind.wrap .u8 (IntKind.wrap .i64 (48 + (x0.tmod (10 : Int)))))]]]) (.sl 1 (some ((List.length h), 0)) 1 (some 1)) fun x_0 => eO (byteRows x_0) fun o_1 => cat (bytesOf o_1) (s3) fun s_2 => L_laws_markText_0 lo (IntKind.wrap .i64 (x0.tdiv (10 : Int))) (s_2) (h ++ [.rows 1 5 false [[.int .u8 (IntKind.wrap .u8 (IntKind.wrap .i64 (48 + (x0.tmod (10 : Int)))))]]])) (cat ⟨⟨[109]⟩⟩ (s3) fun s_3 => some (.str (s_3), h)) :=
  Lp_eq.trans (by kernel_rfl)
noncomputable def L_impl_Place_copied_0 (lo : Nat) (a24 : Option (Nat × Nat)) (n24 : Nat) (c24 : Option Nat) (x25 : Int) (x26 : Int) (x2b : Int) (x2b_1 : Int) (q2b : Nat) (a2b : Option (Nat × Nat)) (n2b : Nat) (c2b : Option Nat) (q2b_1 : Nat) (a2b_1 : Option (Nat × Nat)) (n2b_1 : Nat) (c2b_1 : Option Nat) (q2b_2 : Nat) (a2b_2 : Option (Nat × Nat)) (n2b_2 : Nat) (c2b_2 : Option Nat) (b2b : Bool) (x3b : Int) (x3b_1 : Int) (a3b : Option (Nat × Nat)) (n3b : Nat) (c3b : Option Nat) (a3b_1 : Option (Nat × Nat)) (n3b_1 : Nat) (c3b_1 : Option Nat) (a3b_2 : Option (Nat × Nat)) (n3b_2 : Nat) (c3b_2 : Option Nat) (b3b : Bool) (h : Heap) : Option (V × Heap) :=
  Lp (X 201) lo (cb (cb (cr (cl (cr (cr (code Tryz.f201))))))) 0 (kBlock 0 (kS (X 201) lo (cr (cr (cr (code Tryz.f201)))) 0 (kTop (X 201) Tryz.f201.results.toList))) ⟨[(2, .lp 2 0), (3, .lp 3 0), (24, .sl 1 a24 n24 c24), (25, .int .i64 (x25)), (26, .int .i64 (x26))], [(2, [.int .i64 (x2b), .int .i64 (x2b_1), .sl q2b a2b n2b c2b, .sl q2b_1 a2b_1 n2b_1 c2b_1, .sl q2b_2 a2b_2 n2b_2 c2b_2, .bool (b2b)]), (3, [.int .i64 (x3b), .int .i64 (x3b_1), .sl 2 a3b n3b c3b, .sl 6 a3b_1 n3b_1 c3b_1, .sl 1 a3b_2 n3b_2 c3b_2, .bool (b3b)])], h⟩
theorem L_impl_Place_copied_0.e {lo : Nat} {a24 : Option (Nat × Nat)} {n24 : Nat} {c24 : Option Nat} {x25 : Int} {x26 : Int} {x2b : Int} {x2b_1 : Int} {q2b : Nat} {a2b : Option (Nat × Nat)} {n2b : Nat} {c2b : Option Nat} {q2b_1 : Nat} {a2b_1 : Option (Nat × Nat)} {n2b_1 : Nat} {c2b_1 : Option Nat} {q2b_2 : Nat} {a2b_2 : Option (Nat × Nat)} {n2b_2 : Nat} {c2b_2 : Option Nat} {b2b : Bool} {x3b : Int} {x3b_1 : Int} {a3b : Option (Nat × Nat)} {n3b : Nat} {c3b : Option Nat} {a3b_1 : Option (Nat × Nat)} {n3b_1 : Nat} {c3b_1 : Option Nat} {a3b_2 : Option (Nat × Nat)} {n3b_2 : Nat} {c3b_2 : Option Nat} {b3b : Bool} {h : Heap} :
    L_impl_Place_copied_0 lo a24 n24 c24 x25 x26 x2b x2b_1 q2b a2b n2b c2b q2b_1 a2b_1 n2b_1 c2b_1 q2b_2 a2b_2 n2b_2 c2b_2 b2b x3b x3b_1 a3b n3b c3b a3b_1 n3b_1 c3b_1 a3b_2 n3b_2 c3b_2 b3b h = br (decide (x26 < x25)) (inB (x26) n24 (eO a24 fun o_13 => eO (ld h (o_13.1) ((o_13.2) + (x26.toNat)) 0 1) fun o_14 => eC o_14 fun v_15 l_16 => eN l_16 (eS 6 (v_15) fun a_17 n_18 c_19 => cal (evl lo 293 [.sl 6 a_17 n_18 c_19] h) fun v_20 h_21 => eS 6 (v_20) fun a_22 n_23 c_24 => rowsOf 1 (h_21 ++ [.rows 1 72 false [[.sl 6 a_22 n_23 c_24]]]) (.sl 1 (some ((List.length h_21), 0)) 1 (some 1)) fun x_25 => app lo 72 1 24 (.sl 1 a3b_2 n3b_2 c3b_2) x_25 (h_21 ++ [.rows 1 72 false [[.sl 6 a_22 n_23 c_24]]]) fun v_26 h_27 => eS 1 (v_26) fun a_28 n_29 c_30 => L_impl_Place_copied_0 lo a24 n24 c24 (x25) (IntKind.wrap .i64 ((x26) + 1)) (x2b) (x2b_1) q2b a2b n2b c2b q2b_1 a2b_1 n2b_1 c2b_1 q2b_2 a2b_2 n2b_2 c2b_2 (b2b) (x3b) (x3b_1) a3b n3b c3b a3b_1 n3b_1 c3b_1 a_28 n_29 c_30 (b3b) h_27))) (some (.agg [.int .i64 (x3b), .int .i64 (x3b_1), .sl 2 a3b n3b c3b, .sl 6 a3b_1 n3b_1 c3b_1, .sl 1 a3b_2 n3b_2 c3b_2, .bool (b3b)], h)) :=
  Lp_eq.trans (by kernel_rfl)
theorem E_impl_Past_copied {lo : Nat} {a0 : Option (Nat × Nat)} {n0 : Nat} {c0 : Option Nat} {h : Heap} {r : V × Heap} (hk : (cal (evl lo 295 [.sl 2 a0 n0 c0] h) fun v_0 h_1 => eS 2 (v_0) fun a_2 n_3 c_4 => cal (evl lo 294 [.sl 2 a_2 n_3 c_4] h_1) fun v_5 h_6 => eS 2 (v_5) fun a_7 n_8 c_9 => some (.agg [.sl 2 a_7 n_8 c_9], h_6)) = some r) :
    evl lo 202 [.agg [.sl 2 a0 n0 c0]] h = some r :=
  eval_keep Tryz.func202 (by kernel_rfl) (Eq.trans (by kernel_rfl) hk)
noncomputable def L_laws_heldNodeS_0 (lo : Nat) (a0 : Option (Nat × Nat)) (n0 : Nat) (c0 : Option Nat) (x1 : Int) (x4 : Int) (x5 : Int) (h : Heap) : Option (V × Heap) :=
  Lp (X 206) lo (cb (cb (cr (cl (cr (code Tryz.f206)))))) 0 (kBlock 0 (kS (X 206) lo (cr (cr (code Tryz.f206))) 0 (kTop (X 206) Tryz.f206.results.toList))) ⟨[(0, .sl 2 a0 n0 c0), (1, .int .i64 (x1)), (4, .int .i64 (x4)), (5, .int .i64 (x5))], [], h⟩
theorem L_laws_heldNodeS_0.e {lo : Nat} {a0 : Option (Nat × Nat)} {n0 : Nat} {c0 : Option Nat} {x1 : Int} {x4 : Int} {x5 : Int} {h : Heap} :
    L_laws_heldNodeS_0 lo a0 n0 c0 x1 x4 x5 h = br (decide (x5 < (↑n0 : Int))) (inB (x5) n0 (eO a0 fun o_0 => eO (ld h (o_0.1) ((o_0.2) + (x5.toNat)) 0 1) fun o_1 => eC o_1 fun v_2 l_3 => eN l_3 (eS 6 (v_2) fun a_4 n_5 c_6 => cal (evl lo 207 [.sl 6 a_4 n_5 c_6, .int .i64 (x1)] h) fun v_7 h_8 => eI .i64 v_7 fun n_9 => br (decide (n_9 < (0 : Int))) (some (.int .i64 (-1), h_8)) (inB (x5) n0 (eO a0 fun o_10 => eO (ld h_8 (o_10.1) ((o_10.2) + (x5.toNat)) 1 1) fun o_11 => eC o_11 fun v_12 l_13 => eN l_13 (eS 6 (v_12) fun a_14 n_15 c_16 => cal (evl lo 207 [.sl 6 a_14 n_15 c_16, .int .i64 (n_9)] h_8) fun v_17 h_18 => eI .i64 v_17 fun n_19 => br (decide (n_19 < (0 : Int))) (some (.int .i64 (-1), h_18)) (L_laws_heldNodeS_0 lo a0 n0 c0 (n_19) (x4) (IntKind.wrap .i64 ((x5) + 1)) h_18))))))) (some (.int .i64 (x1), h)) :=
  Lp_eq.trans (by kernel_rfl)
noncomputable def L_laws_heldVerS_0 (lo : Nat) (a0 : Option (Nat × Nat)) (n0 : Nat) (c0 : Option Nat) (x1 : Int) (x4 : Int) (x5 : Int) (h : Heap) : Option (V × Heap) :=
  Lp (X 207) lo (cb (cb (cr (cl (cr (code Tryz.f207)))))) 0 (kBlock 0 (kS (X 207) lo (cr (cr (code Tryz.f207))) 0 (kTop (X 207) Tryz.f207.results.toList))) ⟨[(0, .sl 6 a0 n0 c0), (1, .int .i64 (x1)), (4, .int .i64 (x4)), (5, .int .i64 (x5))], [], h⟩
theorem L_laws_heldVerS_0.e {lo : Nat} {a0 : Option (Nat × Nat)} {n0 : Nat} {c0 : Option Nat} {x1 : Int} {x4 : Int} {x5 : Int} {h : Heap} :
    L_laws_heldVerS_0 lo a0 n0 c0 x1 x4 x5 h = br (decide (x5 < (↑n0 : Int))) (inB (x5) n0 (eO a0 fun o_0 => eO (ld h (o_0.1) ((o_0.2) + (x5.toNat)) 0 1) fun o_1 => eC o_1 fun v_2 l_3 => eN l_3 (eI .i64 v_2 fun n_4 => br (n_4 == x1) (inB (x5) n0 (eO a0 fun o_5 => eO (ld h (o_5.1) ((o_5.2) + (x5.toNat)) 1 1) fun o_6 => eC o_6 fun v_7 l_8 => eN l_8 (eI .i64 v_7 fun n_9 => br (n_9 == IntKind.i64.wrap (x1 + (1 : Int))) (inB (x5) n0 (eO a0 fun o_10 => eO (ld h (o_10.1) ((o_10.2) + (x5.toNat)) 2 1) fun o_11 => eC o_11 fun v_12 l_13 => eN l_13 (eI .i64 v_12 fun n_14 => br (n_14 == IntKind.i64.wrap (IntKind.i64.wrap (x1 + (1 : Int)) + (1 : Int))) (inB (x5) n0 (eO a0 fun o_15 => eO (ld h (o_15.1) ((o_15.2) + (x5.toNat)) 3 1) fun o_16 => eC o_16 fun v_17 l_18 => eN l_18 (eS 2 (v_17) fun a_19 n_20 c_21 => cal (evl lo 209 [.sl 2 a_19 n_20 c_21, .int .i64 (IntKind.wrap .i64 ((IntKind.wrap .i64 ((IntKind.wrap .i64 ((x1) + 1)) + 1)) + 1))] h) fun v_22 h_23 => eI .i64 v_22 fun n_24 => br (decide (n_24 < (0 : Int))) (some (.int .i64 (-1), h_23)) (inB (x5) n0 (eO a0 fun o_25 => eO (ld h_23 (o_25.1) ((o_25.2) + (x5.toNat)) 4 1) fun o_26 => eC o_26 fun v_27 l_28 => eN l_28 (eT v_27 fun s_29 => cal (evl (List.length h_23) 195 [.int .i64 (n_24)] h_23) fun v_30 h_31 => eT v_30 fun s_32 => br (s_29.toList == s_32.toList) (inB (x5) n0 (eO a0 fun o_33 => eO (ld h_31 (o_33.1) ((o_33.2) + (x5.toNat)) 5 1) fun o_34 => eC o_34 fun v_35 l_36 => eN l_36 (eB v_35 (br ((IntKind.i64.wrap (n_24 + (1 : Int))).tmod (3 : Int) == (0 : Int)) (L_laws_heldVerS_0 lo a0 n0 c0 (IntKind.wrap .i64 ((IntKind.wrap .i64 ((n_24) + 1)) + 1)) (x4) (IntKind.wrap .i64 ((x5) + 1)) h_31) (some (.int .i64 (-1), h_31))) (br ((IntKind.i64.wrap (n_24 + (1 : Int))).tmod (3 : Int) == (0 : Int)) (some (.int .i64 (-1), h_31)) (L_laws_heldVerS_0 lo a0 n0 c0 (IntKind.wrap .i64 ((IntKind.wrap .i64 ((n_24) + 1)) + 1)) (x4) (IntKind.wrap .i64 ((x5) + 1)) h_31))))) (some (.int .i64 (-1), h_31)))))))) (some (.int .i64 (-1), h))))) (some (.int .i64 (-1), h))))) (some (.int .i64 (-1), h))))) (some (.int .i64 (x1), h)) :=
  Lp_eq.trans (by kernel_rfl)
noncomputable def L_laws_heldVerSS_0 (lo : Nat) (a0 : Option (Nat × Nat)) (n0 : Nat) (c0 : Option Nat) (x1 : Int) (x4 : Int) (x5 : Int) (h : Heap) : Option (V × Heap) :=
  Lp (X 208) lo (cb (cb (cr (cl (cr (code Tryz.f208)))))) 0 (kBlock 0 (kS (X 208) lo (cr (cr (code Tryz.f208))) 0 (kTop (X 208) Tryz.f208.results.toList))) ⟨[(0, .sl 1 a0 n0 c0), (1, .int .i64 (x1)), (4, .int .i64 (x4)), (5, .int .i64 (x5))], [], h⟩
theorem L_laws_heldVerSS_0.e {lo : Nat} {a0 : Option (Nat × Nat)} {n0 : Nat} {c0 : Option Nat} {x1 : Int} {x4 : Int} {x5 : Int} {h : Heap} :
    L_laws_heldVerSS_0 lo a0 n0 c0 x1 x4 x5 h = br (decide (x5 < (↑n0 : Int))) (inB (x5) n0 (eO a0 fun o_0 => eO (ld h (o_0.1) ((o_0.2) + (x5.toNat)) 0 1) fun o_1 => eC o_1 fun v_2 l_3 => eN l_3 (eS 6 (v_2) fun a_4 n_5 c_6 => cal (evl lo 207 [.sl 6 a_4 n_5 c_6, .int .i64 (x1)] h) fun v_7 h_8 => eI .i64 v_7 fun n_9 => br (decide (n_9 < (0 : Int))) (some (.int .i64 (-1), h_8)) (L_laws_heldVerSS_0 lo a0 n0 c0 (n_9) (x4) (IntKind.wrap .i64 ((x5) + 1)) h_8)))) (some (.int .i64 (x1), h)) :=
  Lp_eq.trans (by kernel_rfl)
noncomputable def L_laws_heldTagS_0 (lo : Nat) (a0 : Option (Nat × Nat)) (n0 : Nat) (c0 : Option Nat) (x1 : Int) (x4 : Int) (x5 : Int) (h : Heap) : Option (V × Heap) :=
  Lp (X 209) lo (cb (cb (cr (cl (cr (code Tryz.f209)))))) 0 (kBlock 0 (kS (X 209) lo (cr (cr (code Tryz.f209))) 0 (kTop (X 209) Tryz.f209.results.toList))) ⟨[(0, .sl 2 a0 n0 c0), (1, .int .i64 (x1)), (4, .int .i64 (x4)), (5, .int .i64 (x5))], [], h⟩
theorem L_laws_heldTagS_0.e {lo : Nat} {a0 : Option (Nat × Nat)} {n0 : Nat} {c0 : Option Nat} {x1 : Int} {x4 : Int} {x5 : Int} {h : Heap} :
    L_laws_heldTagS_0 lo a0 n0 c0 x1 x4 x5 h = br (decide (x5 < (↑n0 : Int))) (inB (x5) n0 (eO a0 fun o_0 => eO (ld h (o_0.1) ((o_0.2) + (x5.toNat)) 0 1) fun o_1 => eC o_1 fun v_2 l_3 => eN l_3 (eI .i64 v_2 fun n_4 => br (n_4 == x1) (inB (x5) n0 (eO a0 fun o_5 => eO (ld h (o_5.1) ((o_5.2) + (x5.toNat)) 1 1) fun o_6 => eC o_6 fun v_7 l_8 => eN l_8 (eI .i64 v_7 fun n_9 => br (n_9 == IntKind.i64.wrap (x1 + (1 : Int))) (L_laws_heldTagS_0 lo a0 n0 c0 (IntKind.wrap .i64 ((IntKind.wrap .i64 ((x1) + 1)) + 1)) (x4) (IntKind.wrap .i64 ((x5) + 1)) h) (some (.int .i64 (-1), h))))) (some (.int .i64 (-1), h))))) (some (.int .i64 (x1), h)) :=
  Lp_eq.trans (by kernel_rfl)
noncomputable def L_spec_l1Join_0 (lo : Nat) (x6 : Int) (a2b : Option (Nat × Nat)) (n2b : Nat) (c2b : Option Nat) (a3b : Option (Nat × Nat)) (n3b : Nat) (c3b : Option Nat) (q4b : Nat) (a4b : Option (Nat × Nat)) (n4b : Nat) (c4b : Option Nat) (q5b : Nat) (a5b : Option (Nat × Nat)) (n5b : Nat) (c5b : Option Nat) (h : Heap) : Option (V × Heap) :=
  Lp (X 210) lo (cb (cb (cr (cl (cr (cr (code Tryz.f210))))))) 0 (kBlock 0 (kS (X 210) lo (cr (cr (cr (code Tryz.f210)))) 0 (kTop (X 210) Tryz.f210.results.toList))) ⟨[(2, .lp 2 0), (3, .lp 3 0), (4, .lp 4 0), (5, .lp 5 0), (6, .int .i64 (x6))], [(2, [.sl 2 a2b n2b c2b]), (3, [.sl 2 a3b n3b c3b]), (4, [.sl q4b a4b n4b c4b]), (5, [.sl q5b a5b n5b c5b])], h⟩
theorem L_spec_l1Join_0.e {lo : Nat} {x6 : Int} {a2b : Option (Nat × Nat)} {n2b : Nat} {c2b : Option Nat} {a3b : Option (Nat × Nat)} {n3b : Nat} {c3b : Option Nat} {q4b : Nat} {a4b : Option (Nat × Nat)} {n4b : Nat} {c4b : Option Nat} {q5b : Nat} {a5b : Option (Nat × Nat)} {n5b : Nat} {c5b : Option Nat} {h : Heap} :
    L_spec_l1Join_0 lo x6 a2b n2b c2b a3b n3b c3b q4b a4b n4b c4b q5b a5b n5b c5b h = br (decide (x6 < (4 : Int))) (inB (x6) n2b (eO a2b fun o_0 => eO (ld h (o_0.1) ((o_0.2) + (x6.toNat)) 0 2) fun o_1 => eC o_1 fun v_2 l_3 => eI .i64 v_2 fun n_4 => eC l_3 fun v_5 l_6 => eI .i64 v_5 fun n_7 => eN l_6 (inB (x6) n3b (eO a3b fun o_8 => eO (ld h (o_8.1) ((o_8.2) + (x6.toNat)) 0 2) fun o_9 => eC o_9 fun v_10 l_11 => eI .i64 v_10 fun n_12 => eC l_11 fun v_13 l_14 => eI .i64 v_13 fun n_15 => eN l_14 (cal (evl lo 302 [.agg [.int .i64 (n_4), .int .i64 (n_7)], .agg [.int .i64 (n_12), .int .i64 (n_15)]] h) fun v_16 h_17 => eA v_16 fun c_18 => eC c_18 fun v_19 l_20 => eI .i64 v_19 fun n_21 => eC l_20 fun v_22 l_23 => eI .i64 v_22 fun n_24 => eN l_23 (rowsOf 2 (h_17 ++ [.rows 2 60 false [[.int .i64 (n_21), .int .i64 (n_24)]]]) (.sl 2 (some ((List.length h_17), 0)) 1 (some 1)) fun x_25 => app lo 60 2 16 (.sl q5b a5b n5b c5b) x_25 (h_17 ++ [.rows 2 60 false [[.int .i64 (n_21), .int .i64 (n_24)]]]) fun v_26 h_27 => eS 2 (v_26) fun a_28 n_29 c_30 => L_spec_l1Join_0 lo (IntKind.wrap .i64 ((x6) + 1)) a2b n2b c2b a3b n3b c3b q4b a4b n4b c4b 2 a_28 n_29 c_30 h_27)))))) (some (.agg [.sl q5b a5b n5b c5b], h)) :=
  Lp_eq.trans (by kernel_rfl)
noncomputable def L_spec_l2Tags_0 (lo : Nat) (x4 : Int) (a1b : Option (Nat × Nat)) (n1b : Nat) (c1b : Option Nat) (q2b : Nat) (a2b : Option (Nat × Nat)) (n2b : Nat) (c2b : Option Nat) (q3b : Nat) (a3b : Option (Nat × Nat)) (n3b : Nat) (c3b : Option Nat) (h : Heap) : Option (V × Heap) :=
  Lp (X 211) lo (cb (cb (cr (cl (cr (cr (code Tryz.f211))))))) 0 (kBlock 0 (kS (X 211) lo (cr (cr (cr (code Tryz.f211)))) 0 (kTop (X 211) Tryz.f211.results.toList))) ⟨[(1, .lp 1 0), (2, .lp 2 0), (3, .lp 3 0), (4, .int .i64 (x4))], [(1, [.sl 6 a1b n1b c1b]), (2, [.sl q2b a2b n2b c2b]), (3, [.sl q3b a3b n3b c3b])], h⟩
theorem E_spec_l2Tags {lo : Nat} {a0 : Option (Nat × Nat)} {n0 : Nat} {c0 : Option Nat} {h : Heap} {r : V × Heap} (hk : (L_spec_l2Tags_0 lo 0 a0 n0 c0 0 none 0 (some 0) 0 none 0 (some 0) h) = some r) :
    evl lo 211 [.agg [.sl 6 a0 n0 c0]] h = some r :=
  eval_keep Tryz.func211 (by kernel_rfl) (Eq.trans (by kernel_rfl) hk)
theorem L_spec_l2Tags_0.e {lo : Nat} {x4 : Int} {a1b : Option (Nat × Nat)} {n1b : Nat} {c1b : Option Nat} {q2b : Nat} {a2b : Option (Nat × Nat)} {n2b : Nat} {c2b : Option Nat} {q3b : Nat} {a3b : Option (Nat × Nat)} {n3b : Nat} {c3b : Option Nat} {h : Heap} :
    L_spec_l2Tags_0 lo x4 a1b n1b c1b q2b a2b n2b c2b q3b a3b n3b c3b h = br (decide (x4 < (↑n1b : Int))) (inB (x4) n1b (eO a1b fun o_0 => eO (ld h (o_0.1) ((o_0.2) + (x4.toNat)) 1 2) fun o_1 => eC o_1 fun v_2 l_3 => eI .i64 v_2 fun n_4 => eC l_3 fun v_5 l_6 => eI .i64 v_5 fun n_7 => eN l_6 (rowsOf 2 (h ++ [.rows 2 60 false [[.int .i64 (n_4), .int .i64 (n_7)]]]) (.sl 2 (some ((List.length h), 0)) 1 (some 1)) fun x_8 => app lo 60 2 16 (.sl q3b a3b n3b c3b) x_8 (h ++ [.rows 2 60 false [[.int .i64 (n_4), .int .i64 (n_7)]]]) fun v_9 h_10 => eS 2 (v_9) fun a_11 n_12 c_13 => L_spec_l2Tags_0 lo (IntKind.wrap .i64 ((x4) + 1)) a1b n1b c1b q2b a2b n2b c2b 2 a_11 n_12 c_13 h_10))) (some (.agg [.sl q3b a3b n3b c3b], h)) :=
  Lp_eq.trans (by kernel_rfl)
noncomputable def L_spec_l1Within_0 (lo : Nat) (b4 : Bool) (x5 : Int) (a2b : Option (Nat × Nat)) (n2b : Nat) (c2b : Option Nat) (a3b : Option (Nat × Nat)) (n3b : Nat) (c3b : Option Nat) (h : Heap) : Option (V × Heap) :=
  Lp (X 212) lo (cb (cb (cr (cl (cr (code Tryz.f212)))))) 0 (kBlock 0 (kS (X 212) lo (cr (cr (code Tryz.f212))) 0 (kTop (X 212) Tryz.f212.results.toList))) ⟨[(2, .lp 2 0), (3, .lp 3 0), (4, .bool (b4)), (5, .int .i64 (x5))], [(2, [.sl 2 a2b n2b c2b]), (3, [.sl 2 a3b n3b c3b])], h⟩
theorem E_spec_l1Within {lo : Nat} {a0 : Option (Nat × Nat)} {n0 : Nat} {c0 : Option Nat} {a1 : Option (Nat × Nat)} {n1 : Nat} {c1 : Option Nat} {h : Heap} {v : V} {h' : Heap} (hk : (L_spec_l1Within_0 (List.length h) false 0 a0 n0 c0 a1 n1 c1 h) = some (v, h')) (hn : noId v = true := by rfl) :
    evl lo 212 [.agg [.sl 2 a0 n0 c0], .agg [.sl 2 a1 n1 c1]] h = some (v, h) :=
  eval_drop Tryz.func212 (by kernel_rfl) (Eq.trans (by kernel_rfl) hk) hn
theorem L_spec_l1Within_0.e {lo : Nat} {b4 : Bool} {x5 : Int} {a2b : Option (Nat × Nat)} {n2b : Nat} {c2b : Option Nat} {a3b : Option (Nat × Nat)} {n3b : Nat} {c3b : Option Nat} {h : Heap} :
    L_spec_l1Within_0 lo b4 x5 a2b n2b c2b a3b n3b c3b h = br (decide (x5 < (4 : Int))) (inB (x5) n3b (eO a3b fun o_0 => eO (ld h (o_0.1) ((o_0.2) + (x5.toNat)) 0 2) fun o_1 => eC o_1 fun v_2 l_3 => eI .i64 v_2 fun n_4 => eC l_3 fun v_5 l_6 => eI .i64 v_5 fun n_7 => eN l_6 (inB (x5) n2b (eO a2b fun o_8 => eO (ld h (o_8.1) ((o_8.2) + (x5.toNat)) 0 2) fun o_9 => eC o_9 fun v_10 l_11 => eI .i64 v_10 fun n_12 => eC l_11 fun v_13 l_14 => eI .i64 v_13 fun n_15 => eN l_14 (cal (evl lo 79 [.agg [.int .i64 (n_4), .int .i64 (n_7)], .agg [.int .i64 (n_12), .int .i64 (n_15)]] h) fun v_16 h_17 => eB v_16 (some (.bool false, h_17)) (L_spec_l1Within_0 lo (b4) (IntKind.wrap .i64 ((x5) + 1)) a2b n2b c2b a3b n3b c3b h_17)))))) (some (.bool true, h)) :=
  Lp_eq.trans (by kernel_rfl)
noncomputable def L_spec_l6Form_0 (lo : Nat) (a0 : Option (Nat × Nat)) (n0 : Nat) (c0 : Option Nat) (b2 : Bool) (x3 : Int) (h : Heap) : Option (V × Heap) :=
  Lp (X 213) lo (cb (cb (cr (cl (cr (code Tryz.f213)))))) 0 (kBlock 0 (kS (X 213) lo (cr (cr (code Tryz.f213))) 0 (kTop (X 213) Tryz.f213.results.toList))) ⟨[(0, .sl 5 a0 n0 c0), (2, .bool (b2)), (3, .int .i64 (x3))], [], h⟩
theorem L_spec_l6Form_0.e {lo : Nat} {a0 : Option (Nat × Nat)} {n0 : Nat} {c0 : Option Nat} {b2 : Bool} {x3 : Int} {h : Heap} :
    L_spec_l6Form_0 lo a0 n0 c0 b2 x3 h = br (decide (x3 < (↑n0 : Int))) (inB (x3) n0 (eO a0 fun o_0 => eO (ld h (o_0.1) ((o_0.2) + (x3.toNat)) 0 5) fun o_1 => eC o_1 fun v_2 l_3 => eI .i64 v_2 fun n_4 => eC l_3 fun v_5 l_6 => eI .i64 v_5 fun n_7 => eC l_6 fun v_8 l_9 => eI .i64 v_8 fun n_10 => eC l_9 fun v_11 l_12 => eI .i64 v_11 fun n_13 => eC l_12 fun v_14 l_15 => eI .i64 v_14 fun n_16 => eN l_15 (cal (evl lo 179 [.agg [.int .i64 (n_4), .int .i64 (n_7), .int .i64 (n_10), .int .i64 (n_13), .int .i64 (n_16)]] h) fun v_17 h_18 => eB v_17 (L_spec_l6Form_0 lo a0 n0 c0 (b2) (IntKind.wrap .i64 ((x3) + 1)) h_18) (some (.bool false, h_18))))) (br (decide ((↑n0 : Int) ≤ (80 : Int))) (some (.bool true, h)) (some (.bool false, h))) :=
  Lp_eq.trans (by kernel_rfl)
theorem E_impl_PastNone {lo : Nat} {h : Heap} {r : V × Heap} (hk : (some (.agg [.sl 2 (some ((List.length h), 0)) 4 (some 4)], (h ++ [.rows 2 60 false [[.int .i64 0, .int .i64 0], [.int .i64 0, .int .i64 0], [.int .i64 0, .int .i64 0], [.int .i64 0, .int .i64 0]]]))) = some r) :
    evl lo 215 [] h = some r :=
  eval_keep Tryz.func215 (by kernel_rfl) (Eq.trans (by kernel_rfl) hk)
noncomputable def L_impl_Past_join_0 (lo : Nat) (a11 : Option (Nat × Nat)) (n11 : Nat) (c11 : Option Nat) (x12 : Int) (x13 : Int) (q4b : Nat) (a4b : Option (Nat × Nat)) (n4b : Nat) (c4b : Option Nat) (a5b : Option (Nat × Nat)) (n5b : Nat) (c5b : Option Nat) (h : Heap) : Option (V × Heap) :=
  Lp (X 216) lo (cb (cb (cr (cl (cr (cr (code Tryz.f216))))))) 0 (kBlock 0 (kS (X 216) lo (cr (cr (cr (code Tryz.f216)))) 0 (kTop (X 216) Tryz.f216.results.toList))) ⟨[(4, .lp 4 0), (5, .lp 5 0), (11, .sl 2 a11 n11 c11), (12, .int .i64 (x12)), (13, .int .i64 (x13))], [(4, [.sl q4b a4b n4b c4b]), (5, [.sl 2 a5b n5b c5b])], h⟩
theorem L_impl_Past_join_0.e {lo : Nat} {a11 : Option (Nat × Nat)} {n11 : Nat} {c11 : Option Nat} {x12 : Int} {x13 : Int} {q4b : Nat} {a4b : Option (Nat × Nat)} {n4b : Nat} {c4b : Option Nat} {a5b : Option (Nat × Nat)} {n5b : Nat} {c5b : Option Nat} {h : Heap} :
    L_impl_Past_join_0 lo a11 n11 c11 x12 x13 q4b a4b n4b c4b a5b n5b c5b h = br (decide (x13 < x12)) (inB (x13) n11 (eO a11 fun o_8 => eO (ld h (o_8.1) ((o_8.2) + (x13.toNat)) 0 2) fun o_9 => eC o_9 fun v_10 l_11 => eI .i64 v_10 fun n_12 => eC l_11 fun v_13 l_14 => eI .i64 v_13 fun n_15 => eN l_14 (inB (x13) n5b (eO a5b fun o_16 => eO (ld h (o_16.1) ((o_16.2) + (x13.toNat)) 0 2) fun o_17 => eC o_17 fun v_18 l_19 => eI .i64 v_18 fun n_20 => eC l_19 fun v_21 l_22 => eI .i64 v_21 fun n_23 => eN l_22 (cal (evl lo 308 [.agg [.int .i64 (n_20), .int .i64 (n_23)], .agg [.int .i64 (n_12), .int .i64 (n_15)]] h) fun v_24 h_25 => eA v_24 fun c_26 => eC c_26 fun v_27 l_28 => eI .i64 v_27 fun n_29 => eC l_28 fun v_30 l_31 => eI .i64 v_30 fun n_32 => eN l_31 (inB (x13) n5b (eO a5b fun o_33 => eO (st lo h_25 (o_33.1) ((o_33.2) + (x13.toNat)) 0 [.int .i64 (n_29), .int .i64 (n_32)]) fun o_34 => L_impl_Past_join_0 lo a11 n11 c11 (x12) (IntKind.wrap .i64 ((x13) + 1)) q4b a4b n4b c4b a5b n5b c5b o_34))))))) (some (.agg [.sl 2 a5b n5b c5b], h)) :=
  Lp_eq.trans (by kernel_rfl)
noncomputable def L_spec_l20Chain_0 (lo : Nat) (pb0 : Nat) (pi0 : Nat) (pj0 : Nat) (x4 : Int) (q2b : Nat) (a2b : Option (Nat × Nat)) (n2b : Nat) (c2b : Option Nat) (a3b : Option (Nat × Nat)) (n3b : Nat) (c3b : Option Nat) (h : Heap) : Option (V × Heap) :=
  Lp (X 219) lo (cb (cb (cr (cl (cr (cr (code Tryz.f219))))))) 0 (kBlock 0 (kS (X 219) lo (cr (cr (cr (code Tryz.f219)))) 0 (kTop (X 219) Tryz.f219.results.toList))) ⟨[(0, .ptr (some (pb0, (pi0, pj0)))), (2, .lp 2 0), (3, .lp 3 0), (4, .int .i64 (x4))], [(2, [.sl q2b a2b n2b c2b]), (3, [.sl 2 a3b n3b c3b])], h⟩
theorem L_spec_l20Chain_0.e {lo : Nat} {pb0 : Nat} {pi0 : Nat} {pj0 : Nat} {x4 : Int} {q2b : Nat} {a2b : Option (Nat × Nat)} {n2b : Nat} {c2b : Option Nat} {a3b : Option (Nat × Nat)} {n3b : Nat} {c3b : Option Nat} {h : Heap} :
    L_spec_l20Chain_0 lo pb0 pi0 pj0 x4 q2b a2b n2b c2b a3b n3b c3b h = br (decide (x4 > (0 : Int))) (cal (evl lo 109 [.ptr (some (pb0, (pi0, pj0))), .int .i64 6] h) fun v_14 h_15 => eI .i64 v_14 fun n_16 => br (n_16 == (0 : Int)) (cal (evl lo 257 [.agg [.sl 2 a3b n3b c3b]] h_15) fun v_17 h_18 => eB v_17 (cal (evl lo 245 [.ptr (some (pb0, (pi0, pj0)))] h_18) fun v_19 h_20 => eA v_19 fun c_21 => eC c_21 fun v_22 l_23 => eI .i64 v_22 fun n_24 => eC l_23 fun v_25 l_26 => eI .i64 v_25 fun n_27 => eC l_26 fun v_28 l_29 => eI .i64 v_28 fun n_30 => eC l_29 fun v_31 l_32 => eS 2 (v_31) fun a_33 n_34 c_35 => eC l_32 fun v_36 l_37 => eT v_36 fun s_38 => eC l_37 fun v_39 l_40 => eBv v_39 fun b_41 => eN l_40 (cal (evl lo 258 [.agg [.sl 2 a3b n3b c3b], .int .i64 0, .agg [.int .i64 (n_24), .int .i64 (n_27), .int .i64 (n_30), .sl 2 a_33 n_34 c_35, .str (s_38), .bool (b_41)]] h_20) fun v_42 h_43 => eA v_42 fun c_44 => eC c_44 fun v_45 l_46 => eS 2 (v_45) fun a_47 n_48 c_49 => eN l_46 (L_spec_l20Chain_0 lo pb0 pi0 pj0 (IntKind.wrap .i64 ((x4) - 1)) q2b a2b n2b c2b a_47 n_48 c_49 h_43))) (L_spec_l20Chain_0 lo pb0 pi0 pj0 (IntKind.wrap .i64 ((x4) - 1)) q2b a2b n2b c2b a3b n3b c3b h_18)) (br (n_16 == (1 : Int)) (cal (evl lo 257 [.agg [.sl 2 a3b n3b c3b]] h_15) fun v_50 h_51 => eB v_50 (cal (evl lo 245 [.ptr (some (pb0, (pi0, pj0)))] h_51) fun v_52 h_53 => eA v_52 fun c_54 => eC c_54 fun v_55 l_56 => eI .i64 v_55 fun n_57 => eC l_56 fun v_58 l_59 => eI .i64 v_58 fun n_60 => eC l_59 fun v_61 l_62 => eI .i64 v_61 fun n_63 => eC l_62 fun v_64 l_65 => eS 2 (v_64) fun a_66 n_67 c_68 => eC l_65 fun v_69 l_70 => eT v_69 fun s_71 => eC l_70 fun v_72 l_73 => eBv v_72 fun b_74 => eN l_73 (cal (evl lo 258 [.agg [.sl 2 a3b n3b c3b], .int .i64 0, .agg [.int .i64 (n_57), .int .i64 (n_60), .int .i64 (n_63), .sl 2 a_66 n_67 c_68, .str (s_71), .bool (b_74)]] h_53) fun v_75 h_76 => eA v_75 fun c_77 => eC c_77 fun v_78 l_79 => eS 2 (v_78) fun a_80 n_81 c_82 => eN l_79 (L_spec_l20Chain_0 lo pb0 pi0 pj0 (IntKind.wrap .i64 ((x4) - 1)) q2b a2b n2b c2b a_80 n_81 c_82 h_76))) (L_spec_l20Chain_0 lo pb0 pi0 pj0 (IntKind.wrap .i64 ((x4) - 1)) q2b a2b n2b c2b a3b n3b c3b h_51)) (br (n_16 == (2 : Int)) (br (decide ((↑n3b : Int) > (1 : Int))) (cal (evl lo 109 [.ptr (some (pb0, (pi0, pj0))), .int .i64 ((↑n3b : Int))] h_15) fun v_83 h_84 => eI .i64 v_83 fun n_85 => cal (evl lo 117 [.agg [.sl 2 a3b n3b c3b], .int .i64 (n_85)] h_84) fun v_86 h_87 => eA v_86 fun c_88 => eC c_88 fun v_89 l_90 => eS 2 (v_89) fun a_91 n_92 c_93 => eN l_90 (L_spec_l20Chain_0 lo pb0 pi0 pj0 (IntKind.wrap .i64 ((x4) - 1)) q2b a2b n2b c2b a_91 n_92 c_93 h_87)) (L_spec_l20Chain_0 lo pb0 pi0 pj0 (IntKind.wrap .i64 ((x4) - 1)) q2b a2b n2b c2b a3b n3b c3b h_15)) (br (n_16 == (3 : Int)) (br (decide ((↑n3b : Int) < (4 : Int))) (cal (evl lo 130 [.agg [.sl 2 a3b n3b c3b]] h_15) fun v_94 h_95 => eA v_94 fun c_96 => eC c_96 fun v_97 l_98 => eS 2 (v_97) fun a_99 n_100 c_101 => eN l_98 (L_spec_l20Chain_0 lo pb0 pi0 pj0 (IntKind.wrap .i64 ((x4) - 1)) q2b a2b n2b c2b a_99 n_100 c_101 h_95)) (L_spec_l20Chain_0 lo pb0 pi0 pj0 (IntKind.wrap .i64 ((x4) - 1)) q2b a2b n2b c2b a3b n3b c3b h_15)) (cal (evl lo 109 [.ptr (some (pb0, (pi0, pj0))), .int .i64 4] h_15) fun v_102 h_103 => eI .i64 v_102 fun n_104 => cal (evl lo 151 [.agg [.sl 2 a3b n3b c3b], .int .i64 (n_104)] h_103) fun v_105 h_106 => eB v_105 (cal (evl lo 152 [.agg [.sl 2 a3b n3b c3b], .int .i64 (n_104)] h_106) fun v_107 h_108 => eA v_107 fun c_109 => eC c_109 fun v_110 l_111 => eS 2 (v_110) fun a_112 n_113 c_114 => eN l_111 (L_spec_l20Chain_0 lo pb0 pi0 pj0 (IntKind.wrap .i64 ((x4) - 1)) q2b a2b n2b c2b a_112 n_113 c_114 h_108)) (L_spec_l20Chain_0 lo pb0 pi0 pj0 (IntKind.wrap .i64 ((x4) - 1)) q2b a2b n2b c2b a3b n3b c3b h_106)))))) (cal (evl lo 116 [.agg [.sl 2 a3b n3b c3b]] h) fun v_115 h_116 => eA v_115 fun c_117 => eC c_117 fun v_118 l_119 => eS 2 (v_118) fun a_120 n_121 c_122 => eN l_119 (some (.agg [.sl 2 a_120 n_121 c_122], h_116))) :=
  Lp_eq.trans (by kernel_rfl)
noncomputable def L_spec_l2StoreOk_0 (lo : Nat) (b2 : Bool) (x3 : Int) (a1b : Option (Nat × Nat)) (n1b : Nat) (c1b : Option Nat) (h : Heap) : Option (V × Heap) :=
  Lp (X 221) lo (cb (cb (cr (cl (cr (code Tryz.f221)))))) 0 (kBlock 0 (kS (X 221) lo (cr (cr (code Tryz.f221))) 0 (kTop (X 221) Tryz.f221.results.toList))) ⟨[(1, .lp 1 0), (2, .bool (b2)), (3, .int .i64 (x3))], [(1, [.sl 6 a1b n1b c1b])], h⟩
theorem E_spec_l2StoreOk {lo : Nat} {a0 : Option (Nat × Nat)} {n0 : Nat} {c0 : Option Nat} {h : Heap} {v : V} {h' : Heap} (hk : (L_spec_l2StoreOk_0 (List.length h) false 0 a0 n0 c0 h) = some (v, h')) (hn : noId v = true := by rfl) :
    evl lo 221 [.agg [.sl 6 a0 n0 c0]] h = some (v, h) :=
  eval_drop Tryz.func221 (by kernel_rfl) (Eq.trans (by kernel_rfl) hk) hn
theorem L_spec_l2StoreOk_0.e {lo : Nat} {b2 : Bool} {x3 : Int} {a1b : Option (Nat × Nat)} {n1b : Nat} {c1b : Option Nat} {h : Heap} :
    L_spec_l2StoreOk_0 lo b2 x3 a1b n1b c1b h = br (decide (x3 < (↑n1b : Int))) (inB (x3) n1b (eO a1b fun o_0 => eO (ld h (o_0.1) ((o_0.2) + (x3.toNat)) 1 2) fun o_1 => eC o_1 fun v_2 l_3 => eI .i64 v_2 fun n_4 => eC l_3 fun v_5 l_6 => eI .i64 v_5 fun n_7 => eN l_6 (br ((n_4 == (0 : Int)) && ((n_7 == (0 : Int)) && true)) (inB (x3) n1b (eO a1b fun o_8 => eO (ld h (o_8.1) ((o_8.2) + (x3.toNat)) 1 2) fun o_9 => eC o_9 fun v_10 l_11 => eI .i64 v_10 fun n_12 => eC l_11 fun v_13 l_14 => eI .i64 v_13 fun n_15 => eN l_14 (br ((n_12 == (0 : Int)) && ((n_15 == (0 : Int)) && true)) (inB (x3) n1b (eO a1b fun o_16 => eO (ld h (o_16.1) ((o_16.2) + (x3.toNat)) 0 1) fun o_17 => eC o_17 fun v_18 l_19 => eN l_19 (eI .i64 v_18 fun n_20 => br (n_20 == (0 : Int)) (inB (x3) n1b (eO a1b fun o_21 => eO (ld h (o_21.1) ((o_21.2) + (x3.toNat)) 4 1) fun o_22 => eC o_22 fun v_23 l_24 => eN l_24 (eT v_23 fun s_25 => br (s_25.toList == (ByteArray.mk #[]).toList) (inB (x3) n1b (eO a1b fun o_26 => eO (ld h (o_26.1) ((o_26.2) + (x3.toNat)) 5 1) fun o_27 => eC o_27 fun v_28 l_29 => eN l_29 (eB v_28 (some (.bool false, h)) (inB (x3) n1b (eO a1b fun o_30 => eO (ld h (o_30.1) ((o_30.2) + (x3.toNat)) 3 1) fun o_31 => eC o_31 fun v_32 l_33 => eN l_33 (eS 2 (v_32) fun a_34 n_35 c_36 => br (decide ((↑n_35 : Int) > (0 : Int))) (some (.bool false, h)) (L_spec_l2StoreOk_0 lo (b2) (IntKind.wrap .i64 ((x3) + 1)) a1b n1b c1b h))))))) (some (.bool false, h))))) (some (.bool false, h))))) (L_spec_l2StoreOk_0 lo (b2) (IntKind.wrap .i64 ((x3) + 1)) a1b n1b c1b h)))) (inB (x3) n1b (eO a1b fun o_37 => eO (ld h (o_37.1) ((o_37.2) + (x3.toNat)) 0 6) fun o_38 => eC o_38 fun v_39 l_40 => eI .i64 v_39 fun n_41 => eC l_40 fun v_42 l_43 => eI .i64 v_42 fun n_44 => eC l_43 fun v_45 l_46 => eI .i64 v_45 fun n_47 => eC l_46 fun v_48 l_49 => eS 2 (v_48) fun a_50 n_51 c_52 => eC l_49 fun v_53 l_54 => eT v_53 fun s_55 => eC l_54 fun v_56 l_57 => eBv v_56 fun b_58 => eN l_57 (cal (evl lo 137 [.agg [.int .i64 (n_41), .int .i64 (n_44), .int .i64 (n_47), .sl 2 a_50 n_51 c_52, .str (s_55), .bool (b_58)]] h) fun v_59 h_60 => eB v_59 (inB (x3) n1b (eO a1b fun o_61 => eO (ld h_60 (o_61.1) ((o_61.2) + (x3.toNat)) 0 1) fun o_62 => eC o_62 fun v_63 l_64 => eN l_64 (eI .i64 v_63 fun n_65 => br (n_65 == x3) (inB (x3) n1b (eO a1b fun o_66 => eO (ld h_60 (o_66.1) ((o_66.2) + (x3.toNat)) 1 2) fun o_67 => eC o_67 fun v_68 l_69 => eI .i64 v_68 fun n_70 => eC l_69 fun v_71 l_72 => eI .i64 v_71 fun n_73 => eN l_72 (br ((n_70 == (0 : Int)) && ((n_73 == (0 : Int)) && true)) (inB (x3) n1b (eO a1b fun o_74 => eO (ld h_60 (o_74.1) ((o_74.2) + (x3.toNat)) 0 1) fun o_75 => eC o_75 fun v_76 l_77 => eN l_77 (eI .i64 v_76 fun n_78 => br (n_78 == (0 : Int)) (inB (x3) n1b (eO a1b fun o_79 => eO (ld h_60 (o_79.1) ((o_79.2) + (x3.toNat)) 4 1) fun o_80 => eC o_80 fun v_81 l_82 => eN l_82 (eT v_81 fun s_83 => br (s_83.toList == (ByteArray.mk #[]).toList) (inB (x3) n1b (eO a1b fun o_84 => eO (ld h_60 (o_84.1) ((o_84.2) + (x3.toNat)) 5 1) fun o_85 => eC o_85 fun v_86 l_87 => eN l_87 (eB v_86 (some (.bool false, h_60)) (inB (x3) n1b (eO a1b fun o_88 => eO (ld h_60 (o_88.1) ((o_88.2) + (x3.toNat)) 3 1) fun o_89 => eC o_89 fun v_90 l_91 => eN l_91 (eS 2 (v_90) fun a_92 n_93 c_94 => br (decide ((↑n_93 : Int) > (0 : Int))) (some (.bool false, h_60)) (L_spec_l2StoreOk_0 lo (b2) (IntKind.wrap .i64 ((x3) + 1)) a1b n1b c1b h_60))))))) (some (.bool false, h_60))))) (some (.bool false, h_60))))) (L_spec_l2StoreOk_0 lo (b2) (IntKind.wrap .i64 ((x3) + 1)) a1b n1b c1b h_60)))) (some (.bool false, h_60))))) (some (.bool false, h_60)))))))) (br ((↑n1b : Int) == (4 : Int)) (some (.bool true, h)) (some (.bool false, h))) :=
  Lp_eq.trans (by kernel_rfl)
noncomputable def L_spec_l3Next_0 (lo : Nat) (b4 : Bool) (x6 : Int) (a2b : Option (Nat × Nat)) (n2b : Nat) (c2b : Option Nat) (a2b_1 : Option (Nat × Nat)) (n2b_1 : Nat) (c2b_1 : Option Nat) (a5b : Option (Nat × Nat)) (n5b : Nat) (c5b : Option Nat) (h : Heap) : Option (V × Heap) :=
  Lp (X 222) lo (cb (cb (cr (cl (cr (cr (cr (code Tryz.f222)))))))) 0 (kBlock 0 (kS (X 222) lo (cr (cr (cr (cr (code Tryz.f222))))) 0 (kTop (X 222) Tryz.f222.results.toList))) ⟨[(2, .lp 2 0), (4, .bool (b4)), (5, .lp 5 0), (6, .int .i64 (x6))], [(2, [.sl 6 a2b n2b c2b, .sl 6 a2b_1 n2b_1 c2b_1]), (5, [.sl 6 a5b n5b c5b])], h⟩
theorem E_spec_l3Next {lo : Nat} {a0 : Option (Nat × Nat)} {n0 : Nat} {c0 : Option Nat} {a0_1 : Option (Nat × Nat)} {n0_1 : Nat} {c0_1 : Option Nat} {a1 : Option (Nat × Nat)} {n1 : Nat} {c1 : Option Nat} {a1_1 : Option (Nat × Nat)} {n1_1 : Nat} {c1_1 : Option Nat} {h : Heap} {v : V} {h' : Heap} (hk : (cal (evl (List.length h) 221 [.agg [.sl 6 a1 n1 c1]] h) fun v_0 h_1 => eB v_0 (cal (evl (List.length h) 231 [.agg [.sl 6 a1 n1 c1]] h_1) fun v_2 h_3 => eA v_2 fun c_4 => eC c_4 fun v_5 l_6 => eS 6 (v_5) fun a_7 n_8 c_9 => eN l_6 (L_spec_l3Next_0 (List.length h) false 0 a0 n0 c0 a0_1 n0_1 c0_1 a_7 n_8 c_9 h_3)) (some (.bool false, h_1))) = some (v, h')) (hn : noId v = true := by rfl) :
    evl lo 222 [.agg [.sl 6 a0 n0 c0, .sl 6 a0_1 n0_1 c0_1], .agg [.sl 6 a1 n1 c1, .sl 6 a1_1 n1_1 c1_1]] h = some (v, h) :=
  eval_drop Tryz.func222 (by kernel_rfl) (Eq.trans (by kernel_rfl) hk) hn
theorem L_spec_l3Next_0.e {lo : Nat} {b4 : Bool} {x6 : Int} {a2b : Option (Nat × Nat)} {n2b : Nat} {c2b : Option Nat} {a2b_1 : Option (Nat × Nat)} {n2b_1 : Nat} {c2b_1 : Option Nat} {a5b : Option (Nat × Nat)} {n5b : Nat} {c5b : Option Nat} {h : Heap} :
    L_spec_l3Next_0 lo b4 x6 a2b n2b c2b a2b_1 n2b_1 c2b_1 a5b n5b c5b h = br (decide (x6 < (↑n2b_1 : Int))) (inB (x6) n2b_1 (eO a2b_1 fun o_10 => eO (ld h (o_10.1) ((o_10.2) + (x6.toNat)) 0 1) fun o_11 => eC o_11 fun v_12 l_13 => eN l_13 (eI .i64 v_12 fun n_14 => inB (n_14) n5b (eO a5b fun o_15 => eO (ld h (o_15.1) ((o_15.2) + (n_14.toNat)) 1 2) fun o_16 => eC o_16 fun v_17 l_18 => eI .i64 v_17 fun n_19 => eC l_18 fun v_20 l_21 => eI .i64 v_20 fun n_22 => eN l_21 (inB (x6) n2b_1 (eO a2b_1 fun o_23 => eO (ld h (o_23.1) ((o_23.2) + (x6.toNat)) 1 2) fun o_24 => eC o_24 fun v_25 l_26 => eI .i64 v_25 fun n_27 => eC l_26 fun v_28 l_29 => eI .i64 v_28 fun n_30 => eN l_29 (cal (evl lo 79 [.agg [.int .i64 (n_19), .int .i64 (n_22)], .agg [.int .i64 (n_27), .int .i64 (n_30)]] h) fun v_31 h_32 => eB v_31 (inB (x6) n2b_1 (eO a2b_1 fun o_33 => eO (ld h_32 (o_33.1) ((o_33.2) + (x6.toNat)) 0 6) fun o_34 => eC o_34 fun v_35 l_36 => eI .i64 v_35 fun n_37 => eC l_36 fun v_38 l_39 => eI .i64 v_38 fun n_40 => eC l_39 fun v_41 l_42 => eI .i64 v_41 fun n_43 => eC l_42 fun v_44 l_45 => eS 2 (v_44) fun a_46 n_47 c_48 => eC l_45 fun v_49 l_50 => eT v_49 fun s_51 => eC l_50 fun v_52 l_53 => eBv v_52 fun b_54 => eN l_53 (cal (evl lo 312 [.agg [.sl 6 a5b n5b c5b], .agg [.int .i64 (n_37), .int .i64 (n_40), .int .i64 (n_43), .sl 2 a_46 n_47 c_48, .str (s_51), .bool (b_54)]] h_32) fun v_55 h_56 => eA v_55 fun c_57 => eC c_57 fun v_58 l_59 => eS 6 (v_58) fun a_60 n_61 c_62 => eN l_59 (L_spec_l3Next_0 lo (b4) (IntKind.wrap .i64 ((x6) + 1)) a2b n2b c2b a2b_1 n2b_1 c2b_1 a_60 n_61 c_62 h_56)))) (some (.bool false, h_32))))))))) (cal (evl lo 313 [.agg [.sl 6 a5b n5b c5b], .agg [.sl 6 a2b n2b c2b]] h) fun v_63 h_64 => eB v_63 (some (.bool true, h_64)) (some (.bool false, h_64))) :=
  Lp_eq.trans (by kernel_rfl)
noncomputable def L_cmp_Or_int_0 (lo : Nat) (x2 : Int) (x3 : Int) (a6 : Option (Nat × Nat)) (n6 : Nat) (c6 : Option Nat) (x7 : Int) (x8 : Int) (h : Heap) : Option (V × Heap) :=
  Lp (X 223) lo (cb (cb (cr (cl (cr (cr (code Tryz.f223))))))) 0 (kBlock 0 (kS (X 223) lo (cr (cr (cr (code Tryz.f223)))) 0 (kTop (X 223) Tryz.f223.results.toList))) ⟨[(2, .int .i64 (x2)), (3, .int .i64 (x3)), (6, .sl 1 a6 n6 c6), (7, .int .i64 (x7)), (8, .int .i64 (x8))], [], h⟩
theorem E_cmp_Or_int {lo : Nat} {a0 : Option (Nat × Nat)} {n0 : Nat} {c0 : Option Nat} {h : Heap} {v : V} {h' : Heap} (hk : (L_cmp_Or_int_0 (List.length h) 0 0 a0 n0 c0 ((↑n0 : Int)) 0 h) = some (v, h')) (hn : noId v = true := by rfl) :
    evl lo 223 [.sl 1 a0 n0 c0] h = some (v, h) :=
  eval_drop Tryz.func223 (by kernel_rfl) (Eq.trans (by kernel_rfl) hk) hn
theorem L_cmp_Or_int_0.e {lo : Nat} {x2 : Int} {x3 : Int} {a6 : Option (Nat × Nat)} {n6 : Nat} {c6 : Option Nat} {x7 : Int} {x8 : Int} {h : Heap} :
    L_cmp_Or_int_0 lo x2 x3 a6 n6 c6 x7 x8 h = br (decide (x8 < x7)) (inB (x8) n6 (eO a6 fun o_0 => eO (ld h (o_0.1) ((o_0.2) + (x8.toNat)) 0 1) fun o_1 => eC o_1 fun v_2 l_3 => eN l_3 (eI .i64 v_2 fun n_4 => br (n_4 == x3) (L_cmp_Or_int_0 lo (x2) (x3) a6 n6 c6 (x7) (IntKind.wrap .i64 ((x8) + 1)) h) (some (.int .i64 (n_4), h))))) (some (.int .i64 (x3), h)) :=
  Lp_eq.trans (by kernel_rfl)
theorem E_cmp_Compare_int {lo : Nat} {x0 : Int} {x1 : Int} {h : Heap} {v : V} {h' : Heap} (hk : (cal (evl (List.length h) 314 [.int .i64 (x0)] h) fun v_0 h_1 => eB v_0 (cal (evl (List.length h) 314 [.int .i64 (x1)] h_1) fun v_2 h_3 => eB v_2 (some (.int .i64 0, h_3)) (some (.int .i64 (-1), h_3))) (cal (evl (List.length h) 314 [.int .i64 (x1)] h_1) fun v_4 h_5 => eB v_4 (some (.int .i64 1, h_5)) (br (decide (x0 < x1)) (some (.int .i64 (-1), h_5)) (br (decide (x0 > x1)) (some (.int .i64 1, h_5)) (some (.int .i64 0, h_5)))))) = some (v, h')) (hn : noId v = true := by rfl) :
    evl lo 224 [.int .i64 (x0), .int .i64 (x1)] h = some (v, h) :=
  eval_drop Tryz.func224 (by kernel_rfl) (Eq.trans (by kernel_rfl) hk) hn
noncomputable def L_impl_Chain_copied_0 (lo : Nat) (a12 : Option (Nat × Nat)) (n12 : Nat) (c12 : Option Nat) (x13 : Int) (x14 : Int) (q2b : Nat) (a2b : Option (Nat × Nat)) (n2b : Nat) (c2b : Option Nat) (a3b : Option (Nat × Nat)) (n3b : Nat) (c3b : Option Nat) (h : Heap) : Option (V × Heap) :=
  Lp (X 225) lo (cb (cb (cr (cl (cr (cr (code Tryz.f225))))))) 0 (kBlock 0 (kS (X 225) lo (cr (cr (cr (code Tryz.f225)))) 0 (kTop (X 225) Tryz.f225.results.toList))) ⟨[(2, .lp 2 0), (3, .lp 3 0), (12, .sl 2 a12 n12 c12), (13, .int .i64 (x13)), (14, .int .i64 (x14))], [(2, [.sl q2b a2b n2b c2b]), (3, [.sl 2 a3b n3b c3b])], h⟩
theorem L_impl_Chain_copied_0.e {lo : Nat} {a12 : Option (Nat × Nat)} {n12 : Nat} {c12 : Option Nat} {x13 : Int} {x14 : Int} {q2b : Nat} {a2b : Option (Nat × Nat)} {n2b : Nat} {c2b : Option Nat} {a3b : Option (Nat × Nat)} {n3b : Nat} {c3b : Option Nat} {h : Heap} :
    L_impl_Chain_copied_0 lo a12 n12 c12 x13 x14 q2b a2b n2b c2b a3b n3b c3b h = br (decide (x14 < x13)) (inB (x14) n12 (eO a12 fun o_0 => eO (ld h (o_0.1) ((o_0.2) + (x14.toNat)) 0 2) fun o_1 => eC o_1 fun v_2 l_3 => eS 6 (v_2) fun a_4 n_5 c_6 => eC l_3 fun v_7 l_8 => eS 6 (v_7) fun a_9 n_10 c_11 => eN l_8 (cal (evl lo 238 [.agg [.sl 6 a_4 n_5 c_6]] h) fun v_12 h_13 => eA v_12 fun c_14 => eC c_14 fun v_15 l_16 => eS 6 (v_15) fun a_17 n_18 c_19 => eN l_16 (cal (evl lo 293 [.sl 6 a_9 n_10 c_11] h_13) fun v_20 h_21 => eS 6 (v_20) fun a_22 n_23 c_24 => rowsOf 2 (h_21 ++ [.rows 2 76 false [[.sl 6 a_17 n_18 c_19, .sl 6 a_22 n_23 c_24]]]) (.sl 2 (some ((List.length h_21), 0)) 1 (some 1)) fun x_25 => app lo 76 2 48 (.sl 2 a3b n3b c3b) x_25 (h_21 ++ [.rows 2 76 false [[.sl 6 a_17 n_18 c_19, .sl 6 a_22 n_23 c_24]]]) fun v_26 h_27 => eS 2 (v_26) fun a_28 n_29 c_30 => L_impl_Chain_copied_0 lo a12 n12 c12 (x13) (IntKind.wrap .i64 ((x14) + 1)) q2b a2b n2b c2b a_28 n_29 c_30 h_27)))) (some (.agg [.sl 2 a3b n3b c3b], h)) :=
  Lp_eq.trans (by kernel_rfl)
noncomputable def L_spec_l2CopyStore_0 (lo : Nat) (x4 : Int) (a1b : Option (Nat × Nat)) (n1b : Nat) (c1b : Option Nat) (q2b : Nat) (a2b : Option (Nat × Nat)) (n2b : Nat) (c2b : Option Nat) (q3b : Nat) (a3b : Option (Nat × Nat)) (n3b : Nat) (c3b : Option Nat) (h : Heap) : Option (V × Heap) :=
  Lp (X 231) lo (cb (cb (cr (cl (cr (cr (code Tryz.f231))))))) 0 (kBlock 0 (kS (X 231) lo (cr (cr (cr (code Tryz.f231)))) 0 (kTop (X 231) Tryz.f231.results.toList))) ⟨[(1, .lp 1 0), (2, .lp 2 0), (3, .lp 3 0), (4, .int .i64 (x4))], [(1, [.sl 6 a1b n1b c1b]), (2, [.sl q2b a2b n2b c2b]), (3, [.sl q3b a3b n3b c3b])], h⟩
theorem E_spec_l2CopyStore {lo : Nat} {a0 : Option (Nat × Nat)} {n0 : Nat} {c0 : Option Nat} {h : Heap} {r : V × Heap} (hk : (L_spec_l2CopyStore_0 lo 0 a0 n0 c0 0 none 0 (some 0) 0 none 0 (some 0) h) = some r) :
    evl lo 231 [.agg [.sl 6 a0 n0 c0]] h = some r :=
  eval_keep Tryz.func231 (by kernel_rfl) (Eq.trans (by kernel_rfl) hk)
theorem L_spec_l2CopyStore_0.e {lo : Nat} {x4 : Int} {a1b : Option (Nat × Nat)} {n1b : Nat} {c1b : Option Nat} {q2b : Nat} {a2b : Option (Nat × Nat)} {n2b : Nat} {c2b : Option Nat} {q3b : Nat} {a3b : Option (Nat × Nat)} {n3b : Nat} {c3b : Option Nat} {h : Heap} :
    L_spec_l2CopyStore_0 lo x4 a1b n1b c1b q2b a2b n2b c2b q3b a3b n3b c3b h = br (decide (x4 < (↑n1b : Int))) (inB (x4) n1b (eO a1b fun o_0 => eO (ld h (o_0.1) ((o_0.2) + (x4.toNat)) 0 6) fun o_1 => eC o_1 fun v_2 l_3 => eI .i64 v_2 fun n_4 => eC l_3 fun v_5 l_6 => eI .i64 v_5 fun n_7 => eC l_6 fun v_8 l_9 => eI .i64 v_8 fun n_10 => eC l_9 fun v_11 l_12 => eS 2 (v_11) fun a_13 n_14 c_15 => eC l_12 fun v_16 l_17 => eT v_16 fun s_18 => eC l_17 fun v_19 l_20 => eBv v_19 fun b_21 => eN l_20 (cal (evl lo 181 [.agg [.int .i64 (n_4), .int .i64 (n_7), .int .i64 (n_10), .sl 2 a_13 n_14 c_15, .str (s_18), .bool (b_21)]] h) fun v_22 h_23 => eA v_22 fun c_24 => eC c_24 fun v_25 l_26 => eI .i64 v_25 fun n_27 => eC l_26 fun v_28 l_29 => eI .i64 v_28 fun n_30 => eC l_29 fun v_31 l_32 => eI .i64 v_31 fun n_33 => eC l_32 fun v_34 l_35 => eS 2 (v_34) fun a_36 n_37 c_38 => eC l_35 fun v_39 l_40 => eT v_39 fun s_41 => eC l_40 fun v_42 l_43 => eBv v_42 fun b_44 => eN l_43 (rowsOf 6 (h_23 ++ [.rows 6 65 false [[.int .i64 (n_27), .int .i64 (n_30), .int .i64 (n_33), .sl 2 a_36 n_37 c_38, .str (s_41), .bool (b_44)]]]) (.sl 6 (some ((List.length h_23), 0)) 1 (some 1)) fun x_45 => app lo 65 6 72 (.sl q3b a3b n3b c3b) x_45 (h_23 ++ [.rows 6 65 false [[.int .i64 (n_27), .int .i64 (n_30), .int .i64 (n_33), .sl 2 a_36 n_37 c_38, .str (s_41), .bool (b_44)]]]) fun v_46 h_47 => eS 6 (v_46) fun a_48 n_49 c_50 => L_spec_l2CopyStore_0 lo (IntKind.wrap .i64 ((x4) + 1)) a1b n1b c1b q2b a2b n2b c2b 6 a_48 n_49 c_50 h_47)))) (some (.agg [.sl q3b a3b n3b c3b], h)) :=
  Lp_eq.trans (by kernel_rfl)
noncomputable def L_spec_l3Lack_0 (lo : Nat) (a5 : Option (Nat × Nat)) (n5 : Nat) (c5 : Option Nat) (x6 : Int) (a2b : Option (Nat × Nat)) (n2b : Nat) (c2b : Option Nat) (a3b : Option (Nat × Nat)) (n3b : Nat) (c3b : Option Nat) (h : Heap) : Option (V × Heap) :=
  Lp (X 232) lo (cb (cb (cr (cl (cr (cr (code Tryz.f232))))))) 0 (kBlock 0 (kS (X 232) lo (cr (cr (cr (code Tryz.f232)))) 0 (kTop (X 232) Tryz.f232.results.toList))) ⟨[(2, .lp 2 0), (3, .lp 3 0), (5, .sl 6 a5 n5 c5), (6, .int .i64 (x6))], [(2, [.sl 6 a2b n2b c2b]), (3, [.sl 6 a3b n3b c3b])], h⟩
noncomputable def L_spec_l3Lack_2 (lo : Nat) (a5 : Option (Nat × Nat)) (n5 : Nat) (c5 : Option Nat) (x6 : Int) (x7 : Int) (a2b : Option (Nat × Nat)) (n2b : Nat) (c2b : Option Nat) (a3b : Option (Nat × Nat)) (n3b : Nat) (c3b : Option Nat) (h : Heap) : Option (V × Heap) :=
  Lp (X 232) lo (cb (cb (cl (cr (cr (cb (cl (cr (cb (cb (cr (cl (cr (cr (code Tryz.f232))))))))))))))) 2 (kBlock 2 (kS (X 232) lo (cr (cr (cr (cb (cl (cr (cb (cb (cr (cl (cr (cr (code Tryz.f232))))))))))))) 1 (kBlock 1 (kS (X 232) lo (cr (cr (cb (cb (cr (cl (cr (cr (code Tryz.f232))))))))) 0 (kLp (X 232) lo (cb (cb (cr (cl (cr (cr (code Tryz.f232))))))) 0 (kBlock 0 (kS (X 232) lo (cr (cr (cr (code Tryz.f232)))) 0 (kTop (X 232) Tryz.f232.results.toList)))))))) ⟨[(2, .lp 2 0), (3, .lp 3 0), (5, .sl 6 a5 n5 c5), (6, .int .i64 (x6)), (7, .int .i64 (x7))], [(2, [.sl 6 a2b n2b c2b]), (3, [.sl 6 a3b n3b c3b])], h⟩
theorem L_spec_l3Lack_0.e {lo : Nat} {a5 : Option (Nat × Nat)} {n5 : Nat} {c5 : Option Nat} {x6 : Int} {a2b : Option (Nat × Nat)} {n2b : Nat} {c2b : Option Nat} {a3b : Option (Nat × Nat)} {n3b : Nat} {c3b : Option Nat} {h : Heap} :
    L_spec_l3Lack_0 lo a5 n5 c5 x6 a2b n2b c2b a3b n3b c3b h = br (decide (x6 < (4 : Int))) (inB (x6) n3b (eO a3b fun o_0 => eO (ld h (o_0.1) ((o_0.2) + (x6.toNat)) 1 2) fun o_1 => eC o_1 fun v_2 l_3 => eI .i64 v_2 fun n_4 => eC l_3 fun v_5 l_6 => eI .i64 v_5 fun n_7 => eN l_6 (inB (x6) n2b (eO a2b fun o_8 => eO (ld h (o_8.1) ((o_8.2) + (x6.toNat)) 1 2) fun o_9 => eC o_9 fun v_10 l_11 => eI .i64 v_10 fun n_12 => eC l_11 fun v_13 l_14 => eI .i64 v_13 fun n_15 => eN l_14 (cal (evl lo 79 [.agg [.int .i64 (n_4), .int .i64 (n_7)], .agg [.int .i64 (n_12), .int .i64 (n_15)]] h) fun v_16 h_17 => eB v_16 (L_spec_l3Lack_2 lo a5 n5 c5 (x6) 0 a2b n2b c2b a3b n3b c3b h_17) (L_spec_l3Lack_0 lo a5 n5 c5 (IntKind.wrap .i64 ((x6) + 1)) a2b n2b c2b a3b n3b c3b h_17)))))) (some (.sl 6 a5 n5 c5, h)) :=
  Lp_eq.trans (by kernel_rfl)
theorem L_spec_l3Lack_2.e {lo : Nat} {a5 : Option (Nat × Nat)} {n5 : Nat} {c5 : Option Nat} {x6 : Int} {x7 : Int} {a2b : Option (Nat × Nat)} {n2b : Nat} {c2b : Option Nat} {a3b : Option (Nat × Nat)} {n3b : Nat} {c3b : Option Nat} {h : Heap} :
    L_spec_l3Lack_2 lo a5 n5 c5 x6 x7 a2b n2b c2b a3b n3b c3b h = br (decide (x7 < (↑n5 : Int))) (inB (x7) n5 (eO a5 fun o_18 => eO (ld h (o_18.1) ((o_18.2) + (x7.toNat)) 1 2) fun o_19 => eC o_19 fun v_20 l_21 => eI .i64 v_20 fun n_22 => eC l_21 fun v_23 l_24 => eI .i64 v_23 fun n_25 => eN l_24 (inB (x6) n2b (eO a2b fun o_26 => eO (ld h (o_26.1) ((o_26.2) + (x6.toNat)) 1 2) fun o_27 => eC o_27 fun v_28 l_29 => eI .i64 v_28 fun n_30 => eC l_29 fun v_31 l_32 => eI .i64 v_31 fun n_33 => eN l_32 (cal (evl lo 79 [.agg [.int .i64 (n_22), .int .i64 (n_25)], .agg [.int .i64 (n_30), .int .i64 (n_33)]] h) fun v_34 h_35 => eB v_34 (L_spec_l3Lack_2 lo a5 n5 c5 (x6) (IntKind.wrap .i64 ((x7) + 1)) a2b n2b c2b a3b n3b c3b h_35) (reslice a5 n5 c5 none (some (.int .i64 (x7))) none fun a_36 n_37 c_38 => rowsOf 6 (h_35 ++ [.rows 6 65 false []]) (.sl 6 a_36 n_37 c_38) fun x_39 => app lo 65 6 72 (.sl 6 (some ((List.length h_35), 0)) 0 (some 0)) x_39 (h_35 ++ [.rows 6 65 false []]) fun v_40 h_41 => eS 6 (v_40) fun a_42 n_43 c_44 => inB (x6) n2b (eO a2b fun o_45 => eO (ld h_41 (o_45.1) ((o_45.2) + (x6.toNat)) 0 6) fun o_46 => eC o_46 fun v_47 l_48 => eI .i64 v_47 fun n_49 => eC l_48 fun v_50 l_51 => eI .i64 v_50 fun n_52 => eC l_51 fun v_53 l_54 => eI .i64 v_53 fun n_55 => eC l_54 fun v_56 l_57 => eS 2 (v_56) fun a_58 n_59 c_60 => eC l_57 fun v_61 l_62 => eT v_61 fun s_63 => eC l_62 fun v_64 l_65 => eBv v_64 fun b_66 => eN l_65 (cal (evl lo 181 [.agg [.int .i64 (n_49), .int .i64 (n_52), .int .i64 (n_55), .sl 2 a_58 n_59 c_60, .str (s_63), .bool (b_66)]] h_41) fun v_67 h_68 => eA v_67 fun c_69 => eC c_69 fun v_70 l_71 => eI .i64 v_70 fun n_72 => eC l_71 fun v_73 l_74 => eI .i64 v_73 fun n_75 => eC l_74 fun v_76 l_77 => eI .i64 v_76 fun n_78 => eC l_77 fun v_79 l_80 => eS 2 (v_79) fun a_81 n_82 c_83 => eC l_80 fun v_84 l_85 => eT v_84 fun s_86 => eC l_85 fun v_87 l_88 => eBv v_87 fun b_89 => eN l_88 (rowsOf 6 (h_68 ++ [.rows 6 65 false [[.int .i64 (n_72), .int .i64 (n_75), .int .i64 (n_78), .sl 2 a_81 n_82 c_83, .str (s_86), .bool (b_89)]]]) (.sl 6 (some ((List.length h_68), 0)) 1 (some 1)) fun x_90 => app lo 65 6 72 (.sl 6 a_42 n_43 c_44) x_90 (h_68 ++ [.rows 6 65 false [[.int .i64 (n_72), .int .i64 (n_75), .int .i64 (n_78), .sl 2 a_81 n_82 c_83, .str (s_86), .bool (b_89)]]]) fun v_91 h_92 => eS 6 (v_91) fun a_93 n_94 c_95 => reslice a5 n5 c5 (some (.int .i64 (x7))) none none fun a_96 n_97 c_98 => rowsOf 6 h_92 (.sl 6 a_96 n_97 c_98) fun x_99 => app lo 65 6 72 (.sl 6 a_93 n_94 c_95) x_99 h_92 fun v_100 h_101 => eS 6 (v_100) fun a_102 n_103 c_104 => L_spec_l3Lack_0 lo a_102 n_103 c_104 (IntKind.wrap .i64 ((x6) + 1)) a2b n2b c2b a3b n3b c3b h_101))))))))) (reslice a5 n5 c5 none (some (.int .i64 (x7))) none fun a_105 n_106 c_107 => rowsOf 6 (h ++ [.rows 6 65 false []]) (.sl 6 a_105 n_106 c_107) fun x_108 => app lo 65 6 72 (.sl 6 (some ((List.length h), 0)) 0 (some 0)) x_108 (h ++ [.rows 6 65 false []]) fun v_109 h_110 => eS 6 (v_109) fun a_111 n_112 c_113 => inB (x6) n2b (eO a2b fun o_114 => eO (ld h_110 (o_114.1) ((o_114.2) + (x6.toNat)) 0 6) fun o_115 => eC o_115 fun v_116 l_117 => eI .i64 v_116 fun n_118 => eC l_117 fun v_119 l_120 => eI .i64 v_119 fun n_121 => eC l_120 fun v_122 l_123 => eI .i64 v_122 fun n_124 => eC l_123 fun v_125 l_126 => eS 2 (v_125) fun a_127 n_128 c_129 => eC l_126 fun v_130 l_131 => eT v_130 fun s_132 => eC l_131 fun v_133 l_134 => eBv v_133 fun b_135 => eN l_134 (cal (evl lo 181 [.agg [.int .i64 (n_118), .int .i64 (n_121), .int .i64 (n_124), .sl 2 a_127 n_128 c_129, .str (s_132), .bool (b_135)]] h_110) fun v_136 h_137 => eA v_136 fun c_138 => eC c_138 fun v_139 l_140 => eI .i64 v_139 fun n_141 => eC l_140 fun v_142 l_143 => eI .i64 v_142 fun n_144 => eC l_143 fun v_145 l_146 => eI .i64 v_145 fun n_147 => eC l_146 fun v_148 l_149 => eS 2 (v_148) fun a_150 n_151 c_152 => eC l_149 fun v_153 l_154 => eT v_153 fun s_155 => eC l_154 fun v_156 l_157 => eBv v_156 fun b_158 => eN l_157 (rowsOf 6 (h_137 ++ [.rows 6 65 false [[.int .i64 (n_141), .int .i64 (n_144), .int .i64 (n_147), .sl 2 a_150 n_151 c_152, .str (s_155), .bool (b_158)]]]) (.sl 6 (some ((List.length h_137), 0)) 1 (some 1)) fun x_159 => app lo 65 6 72 (.sl 6 a_111 n_112 c_113) x_159 (h_137 ++ [.rows 6 65 false [[.int .i64 (n_141), .int .i64 (n_144), .int .i64 (n_147), .sl 2 a_150 n_151 c_152, .str (s_155), .bool (b_158)]]]) fun v_160 h_161 => eS 6 (v_160) fun a_162 n_163 c_164 => reslice a5 n5 c5 (some (.int .i64 (x7))) none none fun a_165 n_166 c_167 => rowsOf 6 h_161 (.sl 6 a_165 n_166 c_167) fun x_168 => app lo 65 6 72 (.sl 6 a_162 n_163 c_164) x_168 h_161 fun v_169 h_170 => eS 6 (v_169) fun a_171 n_172 c_173 => L_spec_l3Lack_0 lo a_171 n_172 c_173 (IntKind.wrap .i64 ((x6) + 1)) a2b n2b c2b a3b n3b c3b h_170)))) :=
  Lp_eq.trans (by kernel_rfl)
theorem E_impl_Ver_same {lo : Nat} {x0 : Int} {x0_1 : Int} {x0_2 : Int} {a0 : Option (Nat × Nat)} {n0 : Nat} {c0 : Option Nat} {s0 : ByteArray} {b0 : Bool} {x1 : Int} {x1_1 : Int} {x1_2 : Int} {a1 : Option (Nat × Nat)} {n1 : Nat} {c1 : Option Nat} {s1 : ByteArray} {b1 : Bool} {h : Heap} {v : V} {h' : Heap} (hk : (br (x0 == x1) (br ((x0_1 == x1_1) && ((x0_2 == x1_2) && true)) (cal (evl (List.length h) 317 [.sl 2 a0 n0 c0, .sl 2 a1 n1 c1] h) fun v_0 h_1 => eB v_0 (br (s0.toList == s1.toList) (br (b0 == b1) (some (.bool true, h_1)) (some (.bool false, h_1))) (some (.bool false, h_1))) (some (.bool false, h_1))) (some (.bool false, h))) (some (.bool false, h))) = some (v, h')) (hn : noId v = true := by rfl) :
    evl lo 233 [.agg [.int .i64 (x0), .int .i64 (x0_1), .int .i64 (x0_2), .sl 2 a0 n0 c0, .str (s0), .bool (b0)], .agg [.int .i64 (x1), .int .i64 (x1_1), .int .i64 (x1_2), .sl 2 a1 n1 c1, .str (s1), .bool (b1)]] h = some (v, h) :=
  eval_drop Tryz.func233 (by kernel_rfl) (Eq.trans (by kernel_rfl) hk) hn
noncomputable def L_slices_IndexFunc_impl_Ver_impl_Ver_0 (lo : Nat) (a0 : Option (Nat × Nat)) (n0 : Nat) (c0 : Option Nat) (g1 : Nat) (l1 : List V) (x4 : Int) (x7 : Int) (x8 : Int) (h : Heap) : Option (V × Heap) :=
  Lp (X 234) lo (cb (cb (cr (cl (cr (code Tryz.f234)))))) 0 (kBlock 0 (kS (X 234) lo (cr (cr (code Tryz.f234))) 0 (kTop (X 234) Tryz.f234.results.toList))) ⟨[(0, .sl 6 a0 n0 c0), (1, .fn g1 l1), (4, .int .i64 (x4)), (7, .int .i64 (x7)), (8, .int .i64 (x8))], [], h⟩
theorem E_slices_IndexFunc_impl_Ver_impl_Ver {lo : Nat} {a0 : Option (Nat × Nat)} {n0 : Nat} {c0 : Option Nat} {g1 : Nat} {l1 : List V} {h : Heap} {v : V} {h' : Heap} (hk : (L_slices_IndexFunc_impl_Ver_impl_Ver_0 (List.length h) a0 n0 c0 g1 l1 0 ((↑n0 : Int)) 0 h) = some (v, h')) (hn : noId v = true := by rfl) :
    evl lo 234 [.sl 6 a0 n0 c0, .fn g1 l1] h = some (v, h) :=
  eval_drop Tryz.func234 (by kernel_rfl) (Eq.trans (by kernel_rfl) hk) hn
theorem L_slices_IndexFunc_impl_Ver_impl_Ver_0.e {lo : Nat} {a0 : Option (Nat × Nat)} {n0 : Nat} {c0 : Option Nat} {g1 : Nat} {l1 : List V} {x4 : Int} {x7 : Int} {x8 : Int} {h : Heap} :
    L_slices_IndexFunc_impl_Ver_impl_Ver_0 lo a0 n0 c0 g1 l1 x4 x7 x8 h = br (decide (x8 < x7)) (inB (x8) n0 (eO a0 fun o_0 => eO (ld h (o_0.1) ((o_0.2) + (x8.toNat)) 0 6) fun o_1 => eC o_1 fun v_2 l_3 => eI .i64 v_2 fun n_4 => eC l_3 fun v_5 l_6 => eI .i64 v_5 fun n_7 => eC l_6 fun v_8 l_9 => eI .i64 v_8 fun n_10 => eC l_9 fun v_11 l_12 => eS 2 (v_11) fun a_13 n_14 c_15 => eC l_12 fun v_16 l_17 => eT v_16 fun s_18 => eC l_17 fun v_19 l_20 => eBv v_19 fun b_21 => eN l_20 (cal (evl lo g1 (fnArgs [.agg [.int .i64 (n_4), .int .i64 (n_7), .int .i64 (n_10), .sl 2 a_13 n_14 c_15, .str (s_18), .bool (b_21)]] l1) h) fun v_22 h_23 => eB v_22 (some (.int .i64 (x8), h_23)) (L_slices_IndexFunc_impl_Ver_impl_Ver_0 lo a0 n0 c0 g1 l1 (x4) (x7) (IntKind.wrap .i64 ((x8) + 1)) h_23)))) (some (.int .i64 (-1), h)) :=
  Lp_eq.trans (by kernel_rfl)
theorem E_impl_Ver_written {lo : Nat} {x0 : Int} {x0_1 : Int} {x0_2 : Int} {a0 : Option (Nat × Nat)} {n0 : Nat} {c0 : Option Nat} {s0 : ByteArray} {b0 : Bool} {h : Heap} {v : V} {h' : Heap} (hk : (cal (evl (List.length h) 86 [.int .i64 (x0)] h) fun v_0 h_1 => eB v_0 (cal (evl (List.length h) 318 [.str (s0)] h_1) fun v_2 h_3 => eB v_2 (br (!b0) (br (!b0) (br (!b0) (br (!b0) (cal (evl (List.length h) 125 [.agg [.sl 2 a0 n0 c0]] h_3) fun v_4 h_5 => eB v_4 (some (.bool true, h_5)) (some (.bool false, h_5))) (none)) (none)) (none)) (br (!b0) (br (!b0) (br (!b0) (cal (evl (List.length h) 125 [.agg [.sl 2 a0 n0 c0]] h_3) fun v_6 h_7 => eB v_6 (some (.bool true, h_7)) (some (.bool false, h_7))) (none)) (none)) (br (!b0) (br (!b0) (cal (evl (List.length h) 125 [.agg [.sl 2 a0 n0 c0]] h_3) fun v_8 h_9 => eB v_8 (some (.bool true, h_9)) (some (.bool false, h_9))) (none)) (br (s0.toList == (ByteArray.mk #[]).toList) (br (!b0) (cal (evl (List.length h) 125 [.agg [.sl 2 a0 n0 c0]] h_3) fun v_10 h_11 => eB v_10 (some (.bool true, h_11)) (some (.bool false, h_11))) (cal (evl (List.length h) 125 [.agg [.sl 2 a0 n0 c0]] h_3) fun v_12 h_13 => eB v_12 (some (.bool true, h_13)) (some (.bool false, h_13)))) (br (!b0) (cal (evl (List.length h) 125 [.agg [.sl 2 a0 n0 c0]] h_3) fun v_14 h_15 => eB v_14 (some (.bool true, h_15)) (some (.bool false, h_15))) (some (.bool false, h_3))))))) (some (.bool false, h_3))) (some (.bool false, h_1))) = some (v, h')) (hn : noId v = true := by rfl) :
    evl lo 235 [.agg [.int .i64 (x0), .int .i64 (x0_1), .int .i64 (x0_2), .sl 2 a0 n0 c0, .str (s0), .bool (b0)]] h = some (v, h) :=
  eval_drop Tryz.func235 (by kernel_rfl) (Eq.trans (by kernel_rfl) hk) hn
theorem E_impl_TagOk {lo : Nat} {x0 : Int} {x0_1 : Int} {h : Heap} {v : V} {h' : Heap} (hk : (br ((x0 == (0 : Int)) && ((x0_1 == (0 : Int)) && true)) (some (.bool true, h)) (cal (evl (List.length h) 85 [.int .i64 (x0), .int .i64 1, .int .i64 999] h) fun v_0 h_1 => eB v_0 (cal (evl (List.length h) 140 [.int .i64 (x0_1)] h_1) fun v_2 h_3 => eB v_2 (some (.bool true, h_3)) (some (.bool false, h_3))) (some (.bool false, h_1)))) = some (v, h')) (hn : noId v = true := by rfl) :
    evl lo 236 [.agg [.int .i64 (x0), .int .i64 (x0_1)]] h = some (v, h) :=
  eval_drop Tryz.func236 (by kernel_rfl) (Eq.trans (by kernel_rfl) hk) hn
noncomputable def L_impl_Past_latest_0 (lo : Nat) (x3 : Int) (a7 : Option (Nat × Nat)) (n7 : Nat) (c7 : Option Nat) (x8 : Int) (x9 : Int) (h : Heap) : Option (V × Heap) :=
  Lp (X 237) lo (cb (cb (cr (cl (cr (cr (code Tryz.f237))))))) 0 (kBlock 0 (kS (X 237) lo (cr (cr (cr (code Tryz.f237)))) 0 (kTop (X 237) Tryz.f237.results.toList))) ⟨[(3, .int .i64 (x3)), (7, .sl 2 a7 n7 c7), (8, .int .i64 (x8)), (9, .int .i64 (x9))], [], h⟩
theorem E_impl_Past_latest {lo : Nat} {a0 : Option (Nat × Nat)} {n0 : Nat} {c0 : Option Nat} {h : Heap} {v : V} {h' : Heap} (hk : (L_impl_Past_latest_0 (List.length h) 0 a0 n0 c0 ((↑n0 : Int)) 0 h) = some (v, h')) (hn : noId v = true := by rfl) :
    evl lo 237 [.agg [.sl 2 a0 n0 c0]] h = some (v, h) :=
  eval_drop Tryz.func237 (by kernel_rfl) (Eq.trans (by kernel_rfl) hk) hn
theorem L_impl_Past_latest_0.e {lo : Nat} {x3 : Int} {a7 : Option (Nat × Nat)} {n7 : Nat} {c7 : Option Nat} {x8 : Int} {x9 : Int} {h : Heap} :
    L_impl_Past_latest_0 lo x3 a7 n7 c7 x8 x9 h = br (decide (x9 < x8)) (inB (x9) n7 (eO a7 fun o_0 => eO (ld h (o_0.1) ((o_0.2) + (x9.toNat)) 0 2) fun o_1 => eC o_1 fun v_2 l_3 => eI .i64 v_2 fun n_4 => eC l_3 fun v_5 l_6 => eI .i64 v_5 fun n_7 => eN l_6 (L_impl_Past_latest_0 lo (if n_4 > x3 then n_4 else x3) a7 n7 c7 (x8) (IntKind.wrap .i64 ((x9) + 1)) h))) (some (.int .i64 (x3), h)) :=
  Lp_eq.trans (by kernel_rfl)
theorem E_impl_Store_copied {lo : Nat} {a0 : Option (Nat × Nat)} {n0 : Nat} {c0 : Option Nat} {h : Heap} {r : V × Heap} (hk : (cal (evl lo 293 [.sl 6 a0 n0 c0] h) fun v_0 h_1 => eS 6 (v_0) fun a_2 n_3 c_4 => some (.agg [.sl 6 a_2 n_3 c_4], h_1)) = some r) :
    evl lo 238 [.agg [.sl 6 a0 n0 c0]] h = some r :=
  eval_keep Tryz.func238 (by kernel_rfl) (Eq.trans (by kernel_rfl) hk)
theorem E_impl_Store_later {lo : Nat} {a0 : Option (Nat × Nat)} {n0 : Nat} {c0 : Option Nat} {x1 : Int} {x1_1 : Int} {x1_2 : Int} {a1 : Option (Nat × Nat)} {n1 : Nat} {c1 : Option Nat} {s1 : ByteArray} {b1 : Bool} {h : Heap} {v : V} {h' : Heap} (hk : (inB (x1) n0 (eO a0 fun o_0 => eO (ld h (o_0.1) ((o_0.2) + (x1.toNat)) 1 2) fun o_1 => eC o_1 fun v_2 l_3 => eI .i64 v_2 fun n_4 => eC l_3 fun v_5 l_6 => eI .i64 v_5 fun n_7 => eN l_6 (cal (evl (List.length h) 35 [.agg [.int .i64 (n_4), .int .i64 (n_7)], .agg [.int .i64 (x1_1), .int .i64 (x1_2)]] h) fun v_8 h_9 => eB v_8 (some (.bool true, h_9)) (some (.bool false, h_9))))) = some (v, h')) (hn : noId v = true := by rfl) :
    evl lo 239 [.agg [.sl 6 a0 n0 c0], .agg [.int .i64 (x1), .int .i64 (x1_1), .int .i64 (x1_2), .sl 2 a1 n1 c1, .str (s1), .bool (b1)]] h = some (v, h) :=
  eval_drop Tryz.func239 (by kernel_rfl) (Eq.trans (by kernel_rfl) hk) hn
theorem E_impl_Store_same {lo : Nat} {a0 : Option (Nat × Nat)} {n0 : Nat} {c0 : Option Nat} {a1 : Option (Nat × Nat)} {n1 : Nat} {c1 : Option Nat} {h : Heap} {v : V} {h' : Heap} (hk : (cal (evl (List.length h) 266 [.sl 6 a0 n0 c0, .sl 6 a1 n1 c1, .fn 233 []] h) fun v_0 h_1 => eB v_0 (some (.bool true, h_1)) (some (.bool false, h_1))) = some (v, h')) (hn : noId v = true := by rfl) :
    evl lo 240 [.agg [.sl 6 a0 n0 c0], .agg [.sl 6 a1 n1 c1]] h = some (v, h) :=
  eval_drop Tryz.func240 (by kernel_rfl) (Eq.trans (by kernel_rfl) hk) hn
theorem E_slices_ContainsFunc_impl_Tag_impl_Tag {lo : Nat} {a0 : Option (Nat × Nat)} {n0 : Nat} {c0 : Option Nat} {g1 : Nat} {l1 : List V} {h : Heap} {v : V} {h' : Heap} (hk : (cal (evl (List.length h) 319 [.sl 2 a0 n0 c0, .fn g1 l1] h) fun v_0 h_1 => eI .i64 v_0 fun n_2 => br (decide (n_2 ≥ (0 : Int))) (some (.bool true, h_1)) (some (.bool false, h_1))) = some (v, h')) (hn : noId v = true := by rfl) :
    evl lo 241 [.sl 2 a0 n0 c0, .fn g1 l1] h = some (v, h) :=
  eval_drop Tryz.func241 (by kernel_rfl) (Eq.trans (by kernel_rfl) hk) hn
theorem E_impl_PastOk_1 {lo : Nat} {x0 : Int} {x0_1 : Int} {h : Heap} {v : V} {h' : Heap} (hk : (cal (evl (List.length h) 236 [.agg [.int .i64 (x0), .int .i64 (x0_1)]] h) fun v_0 h_1 => eB v_0 (some (.bool false, h_1)) (some (.bool true, h_1))) = some (v, h')) (hn : noId v = true := by rfl) :
    evl lo 242 [.agg [.int .i64 (x0), .int .i64 (x0_1)]] h = some (v, h) :=
  eval_drop Tryz.func242 (by kernel_rfl) (Eq.trans (by kernel_rfl) hk) hn
noncomputable def L_spec_l5Play_0 (lo : Nat) (a2 : Option (Nat × Nat)) (n2 : Nat) (c2 : Option Nat) (x8 : Int) (q6b : Nat) (a6b : Option (Nat × Nat)) (n6b : Nat) (c6b : Option Nat) (q6b_1 : Nat) (a6b_1 : Option (Nat × Nat)) (n6b_1 : Nat) (c6b_1 : Option Nat) (q6b_2 : Nat) (a6b_2 : Option (Nat × Nat)) (n6b_2 : Nat) (c6b_2 : Option Nat) (q6b_3 : Nat) (a6b_3 : Option (Nat × Nat)) (n6b_3 : Nat) (c6b_3 : Option Nat) (a7b : Option (Nat × Nat)) (n7b : Nat) (c7b : Option Nat) (a7b_1 : Option (Nat × Nat)) (n7b_1 : Nat) (c7b_1 : Option Nat) (a7b_2 : Option (Nat × Nat)) (n7b_2 : Nat) (c7b_2 : Option Nat) (a7b_3 : Option (Nat × Nat)) (n7b_3 : Nat) (c7b_3 : Option Nat) (h : Heap) : Option (V × Heap) :=
  Lp (X 244) lo (cb (cb (cr (cl (cr (cr (code Tryz.f244))))))) 0 (kBlock 0 (kS (X 244) lo (cr (cr (cr (code Tryz.f244)))) 0 (kTop (X 244) Tryz.f244.results.toList))) ⟨[(2, .sl 6 a2 n2 c2), (6, .lp 6 0), (7, .lp 7 0), (8, .int .i64 (x8))], [(6, [.sl q6b a6b n6b c6b, .sl q6b_1 a6b_1 n6b_1 c6b_1, .sl q6b_2 a6b_2 n6b_2 c6b_2, .sl q6b_3 a6b_3 n6b_3 c6b_3]), (7, [.sl 6 a7b n7b c7b, .sl 5 a7b_1 n7b_1 c7b_1, .sl 9 a7b_2 n7b_2 c7b_2, .sl 5 a7b_3 n7b_3 c7b_3])], h⟩
theorem L_spec_l5Play_0.e {lo : Nat} {a2 : Option (Nat × Nat)} {n2 : Nat} {c2 : Option Nat} {x8 : Int} {q6b : Nat} {a6b : Option (Nat × Nat)} {n6b : Nat} {c6b : Option Nat} {q6b_1 : Nat} {a6b_1 : Option (Nat × Nat)} {n6b_1 : Nat} {c6b_1 : Option Nat} {q6b_2 : Nat} {a6b_2 : Option (Nat × Nat)} {n6b_2 : Nat} {c6b_2 : Option Nat} {q6b_3 : Nat} {a6b_3 : Option (Nat × Nat)} {n6b_3 : Nat} {c6b_3 : Option Nat} {a7b : Option (Nat × Nat)} {n7b : Nat} {c7b : Option Nat} {a7b_1 : Option (Nat × Nat)} {n7b_1 : Nat} {c7b_1 : Option Nat} {a7b_2 : Option (Nat × Nat)} {n7b_2 : Nat} {c7b_2 : Option Nat} {a7b_3 : Option (Nat × Nat)} {n7b_3 : Nat} {c7b_3 : Option Nat} {h : Heap} :
    L_spec_l5Play_0 lo a2 n2 c2 x8 q6b a6b n6b c6b q6b_1 a6b_1 n6b_1 c6b_1 q6b_2 a6b_2 n6b_2 c6b_2 q6b_3 a6b_3 n6b_3 c6b_3 a7b n7b c7b a7b_1 n7b_1 c7b_1 a7b_2 n7b_2 c7b_2 a7b_3 n7b_3 c7b_3 h = br (decide (x8 < (↑n2 : Int))) (br (decide (x8 < (60 : Int))) (inB (x8) n2 (eO a2 fun o_23 => eO (ld h (o_23.1) ((o_23.2) + (x8.toNat)) 0 6) fun o_24 => eC o_24 fun v_25 l_26 => eI .i64 v_25 fun n_27 => eC l_26 fun v_28 l_29 => eI .i64 v_28 fun n_30 => eC l_29 fun v_31 l_32 => eI .i64 v_31 fun n_33 => eC l_32 fun v_34 l_35 => eI .i64 v_34 fun n_36 => eC l_35 fun v_37 l_38 => eT v_37 fun s_39 => eC l_38 fun v_40 l_41 => eBv v_40 fun b_42 => eN l_41 (cal (evl (List.length h) 96 [.agg [.sl 6 a7b n7b c7b, .sl 5 a7b_1 n7b_1 c7b_1, .sl 9 a7b_2 n7b_2 c7b_2, .sl 5 a7b_3 n7b_3 c7b_3], .agg [.int .i64 (n_27), .int .i64 (n_30), .int .i64 (n_33), .int .i64 (n_36), .str (s_39), .bool (b_42)]] h) fun v_43 h_44 => eU v_43 fun c_45 => eC c_45 fun v_46 l_47 => eA v_46 fun c_48 => eC c_48 fun v_49 l_50 => eS 6 (v_49) fun a_51 n_52 c_53 => eC l_50 fun v_54 l_55 => eS 5 (v_54) fun a_56 n_57 c_58 => eC l_55 fun v_59 l_60 => eS 9 (v_59) fun a_61 n_62 c_63 => eC l_60 fun v_64 l_65 => eS 5 (v_64) fun a_66 n_67 c_68 => eN l_65 (eC l_47 fun v_69 l_70 => eB v_69 (eN l_70 (L_spec_l5Play_0 lo a2 n2 c2 (IntKind.wrap .i64 ((x8) + 1)) q6b a6b n6b c6b q6b_1 a6b_1 n6b_1 c6b_1 q6b_2 a6b_2 n6b_2 c6b_2 q6b_3 a6b_3 n6b_3 c6b_3 a_51 n_52 c_53 a_56 n_57 c_58 a_61 n_62 c_63 a_66 n_67 c_68 h_44)) (eN l_70 (L_spec_l5Play_0 lo a2 n2 c2 (IntKind.wrap .i64 ((x8) + 1)) q6b a6b n6b c6b q6b_1 a6b_1 n6b_1 c6b_1 q6b_2 a6b_2 n6b_2 c6b_2 q6b_3 a6b_3 n6b_3 c6b_3 a_51 n_52 c_53 a_56 n_57 c_58 a_61 n_62 c_63 a_66 n_67 c_68 h_44)))))) (some (.agg [.sl 6 a7b n7b c7b, .sl 5 a7b_1 n7b_1 c7b_1, .sl 9 a7b_2 n7b_2 c7b_2, .sl 5 a7b_3 n7b_3 c7b_3], h))) (some (.agg [.sl 6 a7b n7b c7b, .sl 5 a7b_1 n7b_1 c7b_1, .sl 9 a7b_2 n7b_2 c7b_2, .sl 5 a7b_3 n7b_3 c7b_3], h)) :=
  Lp_eq.trans (by kernel_rfl)
noncomputable def L_spec_l20Ver_0 (lo : Nat) (pb0 : Nat) (pi0 : Nat) (pj0 : Nat) (x4 : Int) (x5 : Int) (x2b : Int) (x2b_1 : Int) (x2b_2 : Int) (q2b : Nat) (a2b : Option (Nat × Nat)) (n2b : Nat) (c2b : Option Nat) (s2b : ByteArray) (b2b : Bool) (x3b : Int) (x3b_1 : Int) (x3b_2 : Int) (a3b : Option (Nat × Nat)) (n3b : Nat) (c3b : Option Nat) (s3b : ByteArray) (b3b : Bool) (h : Heap) : Option (V × Heap) :=
  Lp (X 245) lo (cb (cb (cr (cl (cr (cr (cr (code Tryz.f245)))))))) 0 (kBlock 0 (kS (X 245) lo (cr (cr (cr (cr (code Tryz.f245))))) 0 (kTop (X 245) Tryz.f245.results.toList))) ⟨[(0, .ptr (some (pb0, (pi0, pj0)))), (2, .lp 2 0), (3, .lp 3 0), (4, .int .i64 (x4)), (5, .int .i64 (x5))], [(2, [.int .i64 (x2b), .int .i64 (x2b_1), .int .i64 (x2b_2), .sl q2b a2b n2b c2b, .str (s2b), .bool (b2b)]), (3, [.int .i64 (x3b), .int .i64 (x3b_1), .int .i64 (x3b_2), .sl 2 a3b n3b c3b, .str (s3b), .bool (b3b)])], h⟩
theorem L_spec_l20Ver_0.e {lo : Nat} {pb0 : Nat} {pi0 : Nat} {pj0 : Nat} {x4 : Int} {x5 : Int} {x2b : Int} {x2b_1 : Int} {x2b_2 : Int} {q2b : Nat} {a2b : Option (Nat × Nat)} {n2b : Nat} {c2b : Option Nat} {s2b : ByteArray} {b2b : Bool} {x3b : Int} {x3b_1 : Int} {x3b_2 : Int} {a3b : Option (Nat × Nat)} {n3b : Nat} {c3b : Option Nat} {s3b : ByteArray} {b3b : Bool} {h : Heap} :
    L_spec_l20Ver_0 lo pb0 pi0 pj0 x4 x5 x2b x2b_1 x2b_2 q2b a2b n2b c2b s2b b2b x3b x3b_1 x3b_2 a3b n3b c3b s3b b3b h = br (decide (x5 < (4 : Int))) (cal (evl lo 260 [.ptr (some (pb0, (pi0, pj0)))] h) fun v_14 h_15 => eA v_14 fun c_16 => eC c_16 fun v_17 l_18 => eI .i64 v_17 fun n_19 => eC l_18 fun v_20 l_21 => eI .i64 v_20 fun n_22 => eN l_21 (inB (x5) n3b (eO a3b fun o_23 => eO (st lo h_15 (o_23.1) ((o_23.2) + (x5.toNat)) 0 [.int .i64 (n_19), .int .i64 (n_22)]) fun o_24 => inB (x5) n3b (eO a3b fun o_25 => eO (ld o_24 (o_25.1) ((o_25.2) + (x5.toNat)) 0 1) fun o_26 => eC o_26 fun v_27 l_28 => eN l_28 (eI .i64 v_27 fun n_29 => br (decide (n_29 > x4)) (inB (x5) n3b (eO a3b fun o_30 => eO (ld o_24 (o_30.1) ((o_30.2) + (x5.toNat)) 0 1) fun o_31 => eC o_31 fun v_32 l_33 => eN l_33 (eI .i64 v_32 fun n_34 => L_spec_l20Ver_0 lo pb0 pi0 pj0 (n_34) (IntKind.wrap .i64 ((x5) + 1)) (x2b) (x2b_1) (x2b_2) q2b a2b n2b c2b (s2b) (b2b) (x3b) (x3b_1) (x3b_2) a3b n3b c3b (s3b) (b3b) o_24))) (L_spec_l20Ver_0 lo pb0 pi0 pj0 (x4) (IntKind.wrap .i64 ((x5) + 1)) (x2b) (x2b_1) (x2b_2) q2b a2b n2b c2b (s2b) (b2b) (x3b) (x3b_1) (x3b_2) a3b n3b c3b (s3b) (b3b) o_24)))))) (cal (evl lo 109 [.ptr (some (pb0, (pi0, pj0))), .int .i64 3] h) fun v_35 h_36 => eI .i64 v_35 fun n_37 => cal (evl lo 109 [.ptr (some (pb0, (pi0, pj0))), .int .i64 3] h_36) fun v_38 h_39 => eI .i64 v_38 fun n_40 => cal (evl lo 109 [.ptr (some (pb0, (pi0, pj0))), .int .i64 6] h_39) fun v_41 h_42 => eI .i64 v_41 fun n_43 => br (n_43 == (0 : Int)) (some (.agg [.int .i64 (x3b), .int .i64 (IntKind.wrap .i64 ((IntKind.wrap .i64 ((x4) + 1)) + (n_37))), .int .i64 (n_40), .sl 2 a3b n3b c3b, .str ⟨⟨[]⟩⟩, .bool true], h_42)) (some (.agg [.int .i64 (x3b), .int .i64 (IntKind.wrap .i64 ((IntKind.wrap .i64 ((x4) + 1)) + (n_37))), .int .i64 (n_40), .sl 2 a3b n3b c3b, .str (s3b), .bool (b3b)], h_42))) :=
  Lp_eq.trans (by kernel_rfl)
theorem E_impl_hasTag {lo : Nat} {a0 : Option (Nat × Nat)} {n0 : Nat} {c0 : Option Nat} {x1 : Int} {x1_1 : Int} {h : Heap} {v : V} {h' : Heap} (hk : (cal (evl (List.length h) 120 [.sl 6 a0 n0 c0, .fn 322 [.ptr (some ((List.length h), (0, 0)))]] (h ++ [.rows 2 60 false [[.int .i64 (x1), .int .i64 (x1_1)]]])) fun v_0 h_1 => eB v_0 (some (.bool true, h_1)) (some (.bool false, h_1))) = some (v, h')) (hn : noId v = true := by rfl) :
    evl lo 247 [.sl 6 a0 n0 c0, .agg [.int .i64 (x1), .int .i64 (x1_1)]] h = some (v, h) :=
  eval_drop Tryz.func247 (by kernel_rfl) (Eq.trans (by kernel_rfl) hk) hn
noncomputable def L_spec_l4Causes_0 (lo : Nat) (b2 : Bool) (x4 : Int) (a1b : Option (Nat × Nat)) (n1b : Nat) (c1b : Option Nat) (a3b : Option (Nat × Nat)) (n3b : Nat) (c3b : Option Nat) (h : Heap) : Option (V × Heap) :=
  Lp (X 248) lo (cb (cb (cr (cl (cr (cr (code Tryz.f248))))))) 0 (kBlock 0 (kS (X 248) lo (cr (cr (cr (code Tryz.f248)))) 0 (kTop (X 248) Tryz.f248.results.toList))) ⟨[(1, .lp 1 0), (2, .bool (b2)), (3, .lp 3 0), (4, .int .i64 (x4))], [(1, [.sl 2 a1b n1b c1b]), (3, [.sl 2 a3b n3b c3b])], h⟩
noncomputable def L_spec_l4Causes_2 (lo : Nat) (b2 : Bool) (x4 : Int) (x5 : Int) (a1b : Option (Nat × Nat)) (n1b : Nat) (c1b : Option Nat) (a3b : Option (Nat × Nat)) (n3b : Nat) (c3b : Option Nat) (h : Heap) : Option (V × Heap) :=
  Lp (X 248) lo (cb (cb (cr (cl (cb (cl (cr (cb (cb (cr (cl (cr (cr (code Tryz.f248)))))))))))))) 2 (kBlock 2 (kS (X 248) lo (cr (cb (cl (cr (cb (cb (cr (cl (cr (cr (code Tryz.f248))))))))))) 1 (kBlock 1 (kS (X 248) lo (cr (cr (cb (cb (cr (cl (cr (cr (code Tryz.f248))))))))) 0 (kLp (X 248) lo (cb (cb (cr (cl (cr (cr (code Tryz.f248))))))) 0 (kBlock 0 (kS (X 248) lo (cr (cr (cr (code Tryz.f248)))) 0 (kTop (X 248) Tryz.f248.results.toList)))))))) ⟨[(1, .lp 1 0), (2, .bool (b2)), (3, .lp 3 0), (4, .int .i64 (x4)), (5, .int .i64 (x5))], [(1, [.sl 2 a1b n1b c1b]), (3, [.sl 2 a3b n3b c3b])], h⟩
noncomputable def L_spec_l4Causes_4 (lo : Nat) (b2 : Bool) (x4 : Int) (x7 : Int) (a1b : Option (Nat × Nat)) (n1b : Nat) (c1b : Option Nat) (a3b : Option (Nat × Nat)) (n3b : Nat) (c3b : Option Nat) (h : Heap) : Option (V × Heap) :=
  Lp (X 248) lo (cb (cb (cr (cr (cb (cl (cr (cb (cb (cr (cl (cr (cr (code Tryz.f248)))))))))))))) 4 (kBlock 4 (kBlock 1 (kS (X 248) lo (cr (cr (cb (cb (cr (cl (cr (cr (code Tryz.f248))))))))) 0 (kLp (X 248) lo (cb (cb (cr (cl (cr (cr (code Tryz.f248))))))) 0 (kBlock 0 (kS (X 248) lo (cr (cr (cr (code Tryz.f248)))) 0 (kTop (X 248) Tryz.f248.results.toList))))))) ⟨[(1, .lp 1 0), (2, .bool (b2)), (3, .lp 3 0), (4, .int .i64 (x4)), (7, .int .i64 (x7))], [(1, [.sl 2 a1b n1b c1b]), (3, [.sl 2 a3b n3b c3b])], h⟩
theorem E_spec_l4Causes {lo : Nat} {a0 : Option (Nat × Nat)} {n0 : Nat} {c0 : Option Nat} {h : Heap} {v : V} {h' : Heap} (hk : (cal (evl (List.length h) 156 [.agg [.sl 2 a0 n0 c0]] h) fun v_0 h_1 => eA v_0 fun c_2 => eC c_2 fun v_3 l_4 => eS 2 (v_3) fun a_5 n_6 c_7 => eN l_4 (L_spec_l4Causes_0 (List.length h) false 0 a0 n0 c0 a_5 n_6 c_7 h_1)) = some (v, h')) (hn : noId v = true := by rfl) :
    evl lo 248 [.agg [.sl 2 a0 n0 c0]] h = some (v, h) :=
  eval_drop Tryz.func248 (by kernel_rfl) (Eq.trans (by kernel_rfl) hk) hn
theorem L_spec_l4Causes_0.e {lo : Nat} {b2 : Bool} {x4 : Int} {a1b : Option (Nat × Nat)} {n1b : Nat} {c1b : Option Nat} {a3b : Option (Nat × Nat)} {n3b : Nat} {c3b : Option Nat} {h : Heap} :
    L_spec_l4Causes_0 lo b2 x4 a1b n1b c1b a3b n3b c3b h = br (decide (x4 < (↑n1b : Int))) (L_spec_l4Causes_2 lo (b2) (x4) 0 a1b n1b c1b a3b n3b c3b h) (some (.bool true, h)) :=
  Lp_eq.trans (by kernel_rfl)
theorem L_spec_l4Causes_2.e {lo : Nat} {b2 : Bool} {x4 : Int} {x5 : Int} {a1b : Option (Nat × Nat)} {n1b : Nat} {c1b : Option Nat} {a3b : Option (Nat × Nat)} {n3b : Nat} {c3b : Option Nat} {h : Heap} :
    L_spec_l4Causes_2 lo b2 x4 x5 a1b n1b c1b a3b n3b c3b h = br (decide (x5 < (4 : Int))) (inB (x4) n1b (eO a1b fun o_8 => eO (ld h (o_8.1) ((o_8.2) + (x4.toNat)) 0 1) fun o_9 => eC o_9 fun v_10 l_11 => eN l_11 (eS 6 (v_10) fun a_12 n_13 c_14 => inB (x5) n_13 (eO a_12 fun o_15 => eO (ld h (o_15.1) ((o_15.2) + (x5.toNat)) 0 6) fun o_16 => eC o_16 fun v_17 l_18 => eI .i64 v_17 fun n_19 => eC l_18 fun v_20 l_21 => eI .i64 v_20 fun n_22 => eC l_21 fun v_23 l_24 => eI .i64 v_23 fun n_25 => eC l_24 fun v_26 l_27 => eS 2 (v_26) fun a_28 n_29 c_30 => eC l_27 fun v_31 l_32 => eT v_31 fun s_33 => eC l_32 fun v_34 l_35 => eBv v_34 fun b_36 => eN l_35 (br (decide (n_22 > (0 : Int))) (cal (evl lo 212 [.agg [.sl 2 a_28 n_29 c_30], .agg [.sl 2 a3b n3b c3b]] h) fun v_37 h_38 => eB v_37 (L_spec_l4Causes_2 lo (b2) (x4) (IntKind.wrap .i64 ((x5) + 1)) a1b n1b c1b a3b n3b c3b h_38) (some (.bool false, h_38))) (L_spec_l4Causes_2 lo (b2) (x4) (IntKind.wrap .i64 ((x5) + 1)) a1b n1b c1b a3b n3b c3b h)))))) (L_spec_l4Causes_4 lo (b2) (x4) 0 a1b n1b c1b a3b n3b c3b h) :=
  Lp_eq.trans (by kernel_rfl)
theorem L_spec_l4Causes_4.e {lo : Nat} {b2 : Bool} {x4 : Int} {x7 : Int} {a1b : Option (Nat × Nat)} {n1b : Nat} {c1b : Option Nat} {a3b : Option (Nat × Nat)} {n3b : Nat} {c3b : Option Nat} {h : Heap} :
    L_spec_l4Causes_4 lo b2 x4 x7 a1b n1b c1b a3b n3b c3b h = inB (x4) n1b (eO a1b fun o_39 => eO (ld h (o_39.1) ((o_39.2) + (x4.toNat)) 1 1) fun o_40 => eC o_40 fun v_41 l_42 => eN l_42 (eS 6 (v_41) fun a_43 n_44 c_45 => br (decide (x7 < (↑n_44 : Int))) (inB (x4) n1b (eO a1b fun o_46 => eO (ld h (o_46.1) ((o_46.2) + (x4.toNat)) 1 1) fun o_47 => eC o_47 fun v_48 l_49 => eN l_49 (eS 6 (v_48) fun a_50 n_51 c_52 => inB (x7) n_51 (eO a_50 fun o_53 => eO (ld h (o_53.1) ((o_53.2) + (x7.toNat)) 3 1) fun o_54 => eC o_54 fun v_55 l_56 => eS 2 (v_55) fun a_57 n_58 c_59 => eN l_56 (cal (evl lo 212 [.agg [.sl 2 a_57 n_58 c_59], .agg [.sl 2 a3b n3b c3b]] h) fun v_60 h_61 => eB v_60 (L_spec_l4Causes_4 lo (b2) (x4) (IntKind.wrap .i64 ((x7) + 1)) a1b n1b c1b a3b n3b c3b h_61) (some (.bool false, h_61))))))) (L_spec_l4Causes_0 lo (b2) (IntKind.wrap .i64 ((x4) + 1)) a1b n1b c1b a3b n3b c3b h))) :=
  Lp_eq.trans (by kernel_rfl)
noncomputable def L_spec_l4Log_0 (lo : Nat) (a0 : Option (Nat × Nat)) (n0 : Nat) (c0 : Option Nat) (x1 : Int) (b4 : Bool) (x5 : Int) (h : Heap) : Option (V × Heap) :=
  Lp (X 249) lo (cb (cb (cr (cl (cr (code Tryz.f249)))))) 0 (kBlock 0 (kS (X 249) lo (cr (cr (code Tryz.f249))) 0 (kTop (X 249) Tryz.f249.results.toList))) ⟨[(0, .sl 6 a0 n0 c0), (1, .int .i64 (x1)), (4, .bool (b4)), (5, .int .i64 (x5))], [], h⟩
noncomputable def L_spec_l4Log_2 (lo : Nat) (a0 : Option (Nat × Nat)) (n0 : Nat) (c0 : Option Nat) (x1 : Int) (b4 : Bool) (x5 : Int) (x6 : Int) (h : Heap) : Option (V × Heap) :=
  Lp (X 249) lo (cb (cb (cr (cr (cb (cl (cr (cb (cb (cr (cl (cr (code Tryz.f249))))))))))))) 2 (kBlock 2 (kBlock 1 (kS (X 249) lo (cr (cr (cb (cb (cr (cl (cr (code Tryz.f249)))))))) 0 (kLp (X 249) lo (cb (cb (cr (cl (cr (code Tryz.f249)))))) 0 (kBlock 0 (kS (X 249) lo (cr (cr (code Tryz.f249))) 0 (kTop (X 249) Tryz.f249.results.toList))))))) ⟨[(0, .sl 6 a0 n0 c0), (1, .int .i64 (x1)), (4, .bool (b4)), (5, .int .i64 (x5)), (6, .int .i64 (x6))], [], h⟩
theorem E_spec_l4Log {lo : Nat} {a0 : Option (Nat × Nat)} {n0 : Nat} {c0 : Option Nat} {x1 : Int} {h : Heap} {v : V} {h' : Heap} (hk : (L_spec_l4Log_0 (List.length h) a0 n0 c0 (x1) false 0 h) = some (v, h')) (hn : noId v = true := by rfl) :
    evl lo 249 [.sl 6 a0 n0 c0, .int .i64 (x1)] h = some (v, h) :=
  eval_drop Tryz.func249 (by kernel_rfl) (Eq.trans (by kernel_rfl) hk) hn
theorem L_spec_l4Log_0.e {lo : Nat} {a0 : Option (Nat × Nat)} {n0 : Nat} {c0 : Option Nat} {x1 : Int} {b4 : Bool} {x5 : Int} {h : Heap} :
    L_spec_l4Log_0 lo a0 n0 c0 x1 b4 x5 h = br (decide (x5 < (↑n0 : Int))) (inB (x5) n0 (eO a0 fun o_0 => eO (ld h (o_0.1) ((o_0.2) + (x5.toNat)) 0 6) fun o_1 => eC o_1 fun v_2 l_3 => eI .i64 v_2 fun n_4 => eC l_3 fun v_5 l_6 => eI .i64 v_5 fun n_7 => eC l_6 fun v_8 l_9 => eI .i64 v_8 fun n_10 => eC l_9 fun v_11 l_12 => eS 2 (v_11) fun a_13 n_14 c_15 => eC l_12 fun v_16 l_17 => eT v_16 fun s_18 => eC l_17 fun v_19 l_20 => eBv v_19 fun b_21 => eN l_20 (cal (evl lo 137 [.agg [.int .i64 (n_4), .int .i64 (n_7), .int .i64 (n_10), .sl 2 a_13 n_14 c_15, .str (s_18), .bool (b_21)]] h) fun v_22 h_23 => eB v_22 (inB (x5) n0 (eO a0 fun o_24 => eO (ld h_23 (o_24.1) ((o_24.2) + (x5.toNat)) 2 1) fun o_25 => eC o_25 fun v_26 l_27 => eN l_27 (eI .i64 v_26 fun n_28 => br (n_28 == x1) (L_spec_l4Log_2 lo a0 n0 c0 (x1) (b4) (x5) 0 h_23) (some (.bool false, h_23))))) (some (.bool false, h_23))))) (br (decide ((↑n0 : Int) ≤ (60 : Int))) (some (.bool true, h)) (some (.bool false, h))) :=
  Lp_eq.trans (by kernel_rfl)
theorem L_spec_l4Log_2.e {lo : Nat} {a0 : Option (Nat × Nat)} {n0 : Nat} {c0 : Option Nat} {x1 : Int} {b4 : Bool} {x5 : Int} {x6 : Int} {h : Heap} :
    L_spec_l4Log_2 lo a0 n0 c0 x1 b4 x5 x6 h = br (decide (x6 < x5)) (inB (x6) n0 (eO a0 fun o_29 => eO (ld h (o_29.1) ((o_29.2) + (x6.toNat)) 1 2) fun o_30 => eC o_30 fun v_31 l_32 => eI .i64 v_31 fun n_33 => eC l_32 fun v_34 l_35 => eI .i64 v_34 fun n_36 => eN l_35 (inB (x5) n0 (eO a0 fun o_37 => eO (ld h (o_37.1) ((o_37.2) + (x5.toNat)) 1 2) fun o_38 => eC o_38 fun v_39 l_40 => eI .i64 v_39 fun n_41 => eC l_40 fun v_42 l_43 => eI .i64 v_42 fun n_44 => eN l_43 (br ((n_33 == n_41) && ((n_36 == n_44) && true)) (some (.bool false, h)) (L_spec_l4Log_2 lo a0 n0 c0 (x1) (b4) (x5) (IntKind.wrap .i64 ((x6) + 1)) h)))))) (L_spec_l4Log_0 lo a0 n0 c0 (x1) (b4) (IntKind.wrap .i64 ((x5) + 1)) h) :=
  Lp_eq.trans (by kernel_rfl)
theorem E_spec_l1TagOk {lo : Nat} {x0 : Int} {x0_1 : Int} {h : Heap} {v : V} {h' : Heap} (hk : (br ((x0 == (0 : Int)) && ((x0_1 == (0 : Int)) && true)) (some (.bool true, h)) (cal (evl (List.length h) 78 [.int .i64 (x0), .int .i64 1, .int .i64 999] h) fun v_0 h_1 => eB v_0 (cal (evl (List.length h) 78 [.int .i64 (x0_1), .int .i64 0, .int .i64 2] h_1) fun v_2 h_3 => eB v_2 (some (.bool true, h_3)) (some (.bool false, h_3))) (some (.bool false, h_1)))) = some (v, h')) (hn : noId v = true := by rfl) :
    evl lo 250 [.agg [.int .i64 (x0), .int .i64 (x0_1)]] h = some (v, h) :=
  eval_drop Tryz.func250 (by kernel_rfl) (Eq.trans (by kernel_rfl) hk) hn
noncomputable def L_spec_l4Vers_0 (lo : Nat) (a0 : Option (Nat × Nat)) (n0 : Nat) (c0 : Option Nat) (a3 : Option (Nat × Nat)) (n3 : Nat) (c3 : Option Nat) (x4 : Int) (h : Heap) : Option (V × Heap) :=
  Lp (X 251) lo (cb (cb (cr (cl (cr (cr (code Tryz.f251))))))) 0 (kBlock 0 (kS (X 251) lo (cr (cr (cr (code Tryz.f251)))) 0 (kTop (X 251) Tryz.f251.results.toList))) ⟨[(0, .sl 6 a0 n0 c0), (3, .sl 6 a3 n3 c3), (4, .int .i64 (x4))], [], h⟩
theorem L_spec_l4Vers_0.e {lo : Nat} {a0 : Option (Nat × Nat)} {n0 : Nat} {c0 : Option Nat} {a3 : Option (Nat × Nat)} {n3 : Nat} {c3 : Option Nat} {x4 : Int} {h : Heap} :
    L_spec_l4Vers_0 lo a0 n0 c0 a3 n3 c3 x4 h = br (decide (x4 < (↑n0 : Int))) (inB (x4) n0 (eO a0 fun o_0 => eO (ld h (o_0.1) ((o_0.2) + (x4.toNat)) 0 6) fun o_1 => eC o_1 fun v_2 l_3 => eI .i64 v_2 fun n_4 => eC l_3 fun v_5 l_6 => eI .i64 v_5 fun n_7 => eC l_6 fun v_8 l_9 => eI .i64 v_8 fun n_10 => eC l_9 fun v_11 l_12 => eS 2 (v_11) fun a_13 n_14 c_15 => eC l_12 fun v_16 l_17 => eT v_16 fun s_18 => eC l_17 fun v_19 l_20 => eBv v_19 fun b_21 => eN l_20 (cal (evl lo 181 [.agg [.int .i64 (n_4), .int .i64 (n_7), .int .i64 (n_10), .sl 2 a_13 n_14 c_15, .str (s_18), .bool (b_21)]] h) fun v_22 h_23 => eA v_22 fun c_24 => eC c_24 fun v_25 l_26 => eI .i64 v_25 fun n_27 => eC l_26 fun v_28 l_29 => eI .i64 v_28 fun n_30 => eC l_29 fun v_31 l_32 => eI .i64 v_31 fun n_33 => eC l_32 fun v_34 l_35 => eS 2 (v_34) fun a_36 n_37 c_38 => eC l_35 fun v_39 l_40 => eT v_39 fun s_41 => eC l_40 fun v_42 l_43 => eBv v_42 fun b_44 => eN l_43 (rowsOf 6 (h_23 ++ [.rows 6 65 false [[.int .i64 (n_27), .int .i64 (n_30), .int .i64 (n_33), .sl 2 a_36 n_37 c_38, .str (s_41), .bool (b_44)]]]) (.sl 6 (some ((List.length h_23), 0)) 1 (some 1)) fun x_45 => app lo 65 6 72 (.sl 6 a3 n3 c3) x_45 (h_23 ++ [.rows 6 65 false [[.int .i64 (n_27), .int .i64 (n_30), .int .i64 (n_33), .sl 2 a_36 n_37 c_38, .str (s_41), .bool (b_44)]]]) fun v_46 h_47 => eS 6 (v_46) fun a_48 n_49 c_50 => L_spec_l4Vers_0 lo a0 n0 c0 a_48 n_49 c_50 (IntKind.wrap .i64 ((x4) + 1)) h_47)))) (some (.sl 6 a3 n3 c3, h)) :=
  Lp_eq.trans (by kernel_rfl)
noncomputable def L_spec_l4Logged_0 (lo : Nat) (a0 : Option (Nat × Nat)) (n0 : Nat) (c0 : Option Nat) (b4 : Bool) (x5 : Int) (x3b : Int) (x3b_1 : Int) (h : Heap) : Option (V × Heap) :=
  Lp (X 252) lo (cb (cb (cr (cl (cr (code Tryz.f252)))))) 0 (kBlock 0 (kS (X 252) lo (cr (cr (code Tryz.f252))) 0 (kTop (X 252) Tryz.f252.results.toList))) ⟨[(0, .sl 6 a0 n0 c0), (3, .lp 3 0), (4, .bool (b4)), (5, .int .i64 (x5))], [(3, [.int .i64 (x3b), .int .i64 (x3b_1)])], h⟩
theorem L_spec_l4Logged_0.e {lo : Nat} {a0 : Option (Nat × Nat)} {n0 : Nat} {c0 : Option Nat} {b4 : Bool} {x5 : Int} {x3b : Int} {x3b_1 : Int} {h : Heap} :
    L_spec_l4Logged_0 lo a0 n0 c0 b4 x5 x3b x3b_1 h = br (decide (x5 < (↑n0 : Int))) (inB (x5) n0 (eO a0 fun o_0 => eO (ld h (o_0.1) ((o_0.2) + (x5.toNat)) 1 2) fun o_1 => eC o_1 fun v_2 l_3 => eI .i64 v_2 fun n_4 => eC l_3 fun v_5 l_6 => eI .i64 v_5 fun n_7 => eN l_6 (br ((n_4 == x3b) && ((n_7 == x3b_1) && true)) (some (.bool true, h)) (L_spec_l4Logged_0 lo a0 n0 c0 (b4) (IntKind.wrap .i64 ((x5) + 1)) (x3b) (x3b_1) h)))) (some (.bool false, h)) :=
  Lp_eq.trans (by kernel_rfl)
noncomputable def L_impl_Place_record_0 (lo : Nat) (pb0 : Nat) (pi0 : Nat) (pj0 : Nat) (a8 : Option (Nat × Nat)) (n8 : Nat) (c8 : Option Nat) (x9 : Int) (x10 : Int) (h : Heap) : Option (V × Heap) :=
  Lp (X 255) lo (cb (cb (cr (cl (code Tryz.f255))))) 0 (kBlock 0 (kS (X 255) lo (cr (code Tryz.f255)) 0 (kTop (X 255) Tryz.f255.results.toList))) ⟨[(0, .ptr (some (pb0, (pi0, pj0)))), (8, .sl 6 a8 n8 c8), (9, .int .i64 (x9)), (10, .int .i64 (x10))], [], h⟩
theorem L_impl_Place_record_0.e {lo : Nat} {pb0 : Nat} {pi0 : Nat} {pj0 : Nat} {a8 : Option (Nat × Nat)} {n8 : Nat} {c8 : Option Nat} {x9 : Int} {x10 : Int} {h : Heap} :
    L_impl_Place_record_0 lo pb0 pi0 pj0 a8 n8 c8 x9 x10 h = br (decide (x10 < x9)) (inB (x10) n8 (eO a8 fun o_8 => eO (ld h (o_8.1) ((o_8.2) + (x10.toNat)) 0 6) fun o_9 => eC o_9 fun v_10 l_11 => eI .i64 v_10 fun n_12 => eC l_11 fun v_13 l_14 => eI .i64 v_13 fun n_15 => eC l_14 fun v_16 l_17 => eI .i64 v_16 fun n_18 => eC l_17 fun v_19 l_20 => eS 2 (v_19) fun a_21 n_22 c_23 => eC l_20 fun v_24 l_25 => eT v_24 fun s_26 => eC l_25 fun v_27 l_28 => eBv v_27 fun b_29 => eN l_28 (br ((n_15 == (0 : Int)) && ((n_18 == (0 : Int)) && true)) (L_impl_Place_record_0 lo pb0 pi0 pj0 a8 n8 c8 (x9) (IntKind.wrap .i64 ((x10) + 1)) h) (eO (ld h pb0 pi0 (pj0 + 0) 1) fun o_30 => eC o_30 fun v_31 l_32 => eN l_32 (eI .i64 v_31 fun n_33 => br (n_18 == n_33) (eO (ld h pb0 pi0 (pj0 + 3) 1) fun o_34 => eC o_34 fun v_35 l_36 => eN l_36 (eS 6 (v_35) fun a_37 n_38 c_39 => cal (evl lo 247 [.sl 6 a_37 n_38 c_39, .agg [.int .i64 (n_15), .int .i64 (n_18)]] h) fun v_40 h_41 => eB v_40 (L_impl_Place_record_0 lo pb0 pi0 pj0 a8 n8 c8 (x9) (IntKind.wrap .i64 ((x10) + 1)) h_41) (eO (ld h_41 pb0 pi0 (pj0 + 3) 1) fun o_42 => eC o_42 fun v_43 l_44 => eN l_44 (eS 6 (v_43) fun a_45 n_46 c_47 => cal (evl (List.length h_41) 186 [.agg [.int .i64 (n_12), .int .i64 (n_15), .int .i64 (n_18), .sl 2 a_21 n_22 c_23, .str (s_26), .bool (b_29)]] h_41) fun v_48 h_49 => eA v_48 fun c_50 => eC c_50 fun v_51 l_52 => eI .i64 v_51 fun n_53 => eC l_52 fun v_54 l_55 => eI .i64 v_54 fun n_56 => eC l_55 fun v_57 l_58 => eI .i64 v_57 fun n_59 => eC l_58 fun v_60 l_61 => eS 2 (v_60) fun a_62 n_63 c_64 => eC l_61 fun v_65 l_66 => eT v_65 fun s_67 => eC l_66 fun v_68 l_69 => eBv v_68 fun b_70 => eN l_69 (rowsOf 6 (h_49 ++ [.rows 6 65 false [[.int .i64 (n_53), .int .i64 (n_56), .int .i64 (n_59), .sl 2 a_62 n_63 c_64, .str (s_67), .bool (b_70)]]]) (.sl 6 (some ((List.length h_49), 0)) 1 (some 1)) fun x_71 => app lo 65 6 72 (.sl 6 a_45 n_46 c_47) x_71 (h_49 ++ [.rows 6 65 false [[.int .i64 (n_53), .int .i64 (n_56), .int .i64 (n_59), .sl 2 a_62 n_63 c_64, .str (s_67), .bool (b_70)]]]) fun v_72 h_73 => eS 6 (v_72) fun a_74 n_75 c_76 => eO (st lo h_73 pb0 pi0 (pj0 + 3) [.sl 6 a_74 n_75 c_76]) fun o_77 => L_impl_Place_record_0 lo pb0 pi0 pj0 a8 n8 c8 (x9) (IntKind.wrap .i64 ((x10) + 1)) o_77))))) (L_impl_Place_record_0 lo pb0 pi0 pj0 a8 n8 c8 (x9) (IntKind.wrap .i64 ((x10) + 1)) h)))))) (eO (ld h pb0 pi0 (pj0 + 3) 1) fun o_78 => eC o_78 fun v_79 l_80 => eN l_80 (eS 6 (v_79) fun a_81 n_82 c_83 => cal (evl lo 230 [.sl 6 a_81 n_82 c_83] h) fun v_84 h_85 => eS 6 (v_84) fun a_86 n_87 c_88 => eO (st lo h_85 pb0 pi0 (pj0 + 3) [.sl 6 a_86 n_87 c_88]) fun o_89 => eO (ld o_89 pb0 pi0 ((pj0 + 2) + 0) 1) fun o_90 => eC o_90 fun v_91 l_92 => eN l_92 (eS 2 (v_91) fun a_93 n_94 c_95 => cal (evl lo 324 [.sl 2 a_93 n_94 c_95, .fn 325 []] o_89) fun v_96 h_97 => eB v_96 (some (.tup [], h_97)) (eO (st lo h_97 pb0 pi0 (pj0 + 5) [.bool false]) fun o_98 => some (.tup [], o_98))))) :=
  Lp_eq.trans (by kernel_rfl)
noncomputable def L_spec_l4Lacks_0 (lo : Nat) (x1 : Int) (x4 : Int) (x6 : Int) (x2b : Int) (x2b_1 : Int) (a2b : Option (Nat × Nat)) (n2b : Nat) (c2b : Option Nat) (a2b_1 : Option (Nat × Nat)) (n2b_1 : Nat) (c2b_1 : Option Nat) (a2b_2 : Option (Nat × Nat)) (n2b_2 : Nat) (c2b_2 : Option Nat) (b2b : Bool) (a5b : Option (Nat × Nat)) (n5b : Nat) (c5b : Option Nat) (h : Heap) : Option (V × Heap) :=
  Lp (X 256) lo (cb (cb (cr (cl (cr (cr (code Tryz.f256))))))) 0 (kBlock 0 (kS (X 256) lo (cr (cr (cr (code Tryz.f256)))) 0 (kTop (X 256) Tryz.f256.results.toList))) ⟨[(1, .int .i64 (x1)), (2, .lp 2 0), (4, .int .i64 (x4)), (5, .lp 5 0), (6, .int .i64 (x6))], [(2, [.int .i64 (x2b), .int .i64 (x2b_1), .sl 2 a2b n2b c2b, .sl 6 a2b_1 n2b_1 c2b_1, .sl 1 a2b_2 n2b_2 c2b_2, .bool (b2b)]), (5, [.sl 6 a5b n5b c5b])], h⟩
theorem L_spec_l4Lacks_0.e {lo : Nat} {x1 : Int} {x4 : Int} {x6 : Int} {x2b : Int} {x2b_1 : Int} {a2b : Option (Nat × Nat)} {n2b : Nat} {c2b : Option Nat} {a2b_1 : Option (Nat × Nat)} {n2b_1 : Nat} {c2b_1 : Option Nat} {a2b_2 : Option (Nat × Nat)} {n2b_2 : Nat} {c2b_2 : Option Nat} {b2b : Bool} {a5b : Option (Nat × Nat)} {n5b : Nat} {c5b : Option Nat} {h : Heap} :
    L_spec_l4Lacks_0 lo x1 x4 x6 x2b x2b_1 a2b n2b c2b a2b_1 n2b_1 c2b_1 a2b_2 n2b_2 c2b_2 b2b a5b n5b c5b h = inB (x1) n2b_2 (eO a2b_2 fun o_7 => eO (ld h (o_7.1) ((o_7.2) + (x1.toNat)) 0 1) fun o_8 => eC o_8 fun v_9 l_10 => eN l_10 (eS 6 (v_9) fun a_11 n_12 c_13 => br (decide (x6 < (↑n_12 : Int))) (inB (x1) n2b_2 (eO a2b_2 fun o_14 => eO (ld h (o_14.1) ((o_14.2) + (x1.toNat)) 0 1) fun o_15 => eC o_15 fun v_16 l_17 => eN l_17 (eS 6 (v_16) fun a_18 n_19 c_20 => inB (x6) n_19 (eO a_18 fun o_21 => eO (ld h (o_21.1) ((o_21.2) + (x6.toNat)) 0 6) fun o_22 => eC o_22 fun v_23 l_24 => eI .i64 v_23 fun n_25 => eC l_24 fun v_26 l_27 => eI .i64 v_26 fun n_28 => eC l_27 fun v_29 l_30 => eI .i64 v_29 fun n_31 => eC l_30 fun v_32 l_33 => eS 2 (v_32) fun a_34 n_35 c_36 => eC l_33 fun v_37 l_38 => eT v_37 fun s_39 => eC l_38 fun v_40 l_41 => eBv v_40 fun b_42 => eN l_41 (inB (n_25) n5b (eO a5b fun o_43 => eO (ld h (o_43.1) ((o_43.2) + (n_25.toNat)) 1 2) fun o_44 => eC o_44 fun v_45 l_46 => eI .i64 v_45 fun n_47 => eC l_46 fun v_48 l_49 => eI .i64 v_48 fun n_50 => eN l_49 (cal (evl lo 79 [.agg [.int .i64 (n_47), .int .i64 (n_50)], .agg [.int .i64 (n_28), .int .i64 (n_31)]] h) fun v_51 h_52 => eB v_51 (some (.int .i64 (x6), h_52)) (L_spec_l4Lacks_0 lo (x1) (x4) (IntKind.wrap .i64 ((x6) + 1)) (x2b) (x2b_1) a2b n2b c2b a2b_1 n2b_1 c2b_1 a2b_2 n2b_2 c2b_2 (b2b) a5b n5b c5b h_52)))))))) (some (.int .i64 (-1), h)))) :=
  Lp_eq.trans (by kernel_rfl)
noncomputable def L_spec_l4Next_0 (lo : Nat) (x5 : Int) (x6 : Int) (a3b : Option (Nat × Nat)) (n3b : Nat) (c3b : Option Nat) (h : Heap) : Option (V × Heap) :=
  Lp (X 262) lo (cb (cb (cr (cl (cr (cr (code Tryz.f262))))))) 0 (kBlock 0 (kS (X 262) lo (cr (cr (cr (code Tryz.f262)))) 0 (kTop (X 262) Tryz.f262.results.toList))) ⟨[(3, .lp 3 0), (5, .int .i64 (x5)), (6, .int .i64 (x6))], [(3, [.sl 2 a3b n3b c3b])], h⟩
theorem L_spec_l4Next_0.e {lo : Nat} {x5 : Int} {x6 : Int} {a3b : Option (Nat × Nat)} {n3b : Nat} {c3b : Option Nat} {h : Heap} :
    L_spec_l4Next_0 lo x5 x6 a3b n3b c3b h = br (decide (x6 < (4 : Int))) (inB (x6) n3b (eO a3b fun o_0 => eO (ld h (o_0.1) ((o_0.2) + (x6.toNat)) 0 1) fun o_1 => eC o_1 fun v_2 l_3 => eN l_3 (eI .i64 v_2 fun n_4 => br (decide (n_4 > x5)) (inB (x6) n3b (eO a3b fun o_5 => eO (ld h (o_5.1) ((o_5.2) + (x6.toNat)) 0 1) fun o_6 => eC o_6 fun v_7 l_8 => eN l_8 (eI .i64 v_7 fun n_9 => L_spec_l4Next_0 lo (n_9) (IntKind.wrap .i64 ((x6) + 1)) a3b n3b c3b h))) (L_spec_l4Next_0 lo (x5) (IntKind.wrap .i64 ((x6) + 1)) a3b n3b c3b h)))) (some (.int .i64 (IntKind.wrap .i64 ((x5) + 1)), h)) :=
  Lp_eq.trans (by kernel_rfl)
theorem E_slices_ContainsFunc_impl_Done_impl_Done {lo : Nat} {a0 : Option (Nat × Nat)} {n0 : Nat} {c0 : Option Nat} {g1 : Nat} {l1 : List V} {h : Heap} {v : V} {h' : Heap} (hk : (cal (evl (List.length h) 327 [.sl 5 a0 n0 c0, .fn g1 l1] h) fun v_0 h_1 => eI .i64 v_0 fun n_2 => br (decide (n_2 ≥ (0 : Int))) (some (.bool true, h_1)) (some (.bool false, h_1))) = some (v, h')) (hn : noId v = true := by rfl) :
    evl lo 264 [.sl 5 a0 n0 c0, .fn g1 l1] h = some (v, h) :=
  eval_drop Tryz.func264 (by kernel_rfl) (Eq.trans (by kernel_rfl) hk) hn
theorem E_impl_formed_1 {lo : Nat} {x0 : Int} {x0_1 : Int} {x0_2 : Int} {x0_3 : Int} {x0_4 : Int} {h : Heap} {v : V} {h' : Heap} (hk : (cal (evl (List.length h) 85 [.int .i64 (x0), .int .i64 0, .int .i64 3] h) fun v_0 h_1 => eB v_0 (cal (evl (List.length h) 85 [.int .i64 (x0_1), .int .i64 1, .int .i64 3] h_1) fun v_2 h_3 => eB v_2 (cal (evl (List.length h) 86 [.int .i64 (x0_2)] h_3) fun v_4 h_5 => eB v_4 (cal (evl (List.length h) 236 [.agg [.int .i64 (x0_3), .int .i64 (x0_4)]] h_5) fun v_6 h_7 => eB v_6 (br ((x0_3 == (0 : Int)) && ((x0_4 == (0 : Int)) && true)) (br (x0_1 == (2 : Int)) (some (.bool false, h_7)) (some (.bool true, h_7))) (some (.bool false, h_7))) (some (.bool true, h_7))) (some (.bool true, h_5))) (some (.bool true, h_3))) (some (.bool true, h_1))) = some (v, h')) (hn : noId v = true := by rfl) :
    evl lo 265 [.agg [.int .i64 (x0), .int .i64 (x0_1), .int .i64 (x0_2), .int .i64 (x0_3), .int .i64 (x0_4)]] h = some (v, h) :=
  eval_drop Tryz.func265 (by kernel_rfl) (Eq.trans (by kernel_rfl) hk) hn
noncomputable def L_slices_EqualFunc_impl_Ver_impl_Ver_impl_Ver_impl_Ver_0 (lo : Nat) (a1 : Option (Nat × Nat)) (n1 : Nat) (c1 : Option Nat) (g2 : Nat) (l2 : List V) (b6 : Bool) (a15 : Option (Nat × Nat)) (n15 : Nat) (c15 : Option Nat) (x16 : Int) (x17 : Int) (h : Heap) : Option (V × Heap) :=
  Lp (X 266) lo (cb (cb (cr (cl (cr (cr (code Tryz.f266))))))) 0 (kBlock 0 (kS (X 266) lo (cr (cr (cr (code Tryz.f266)))) 0 (kTop (X 266) Tryz.f266.results.toList))) ⟨[(1, .sl 6 a1 n1 c1), (2, .fn g2 l2), (6, .bool (b6)), (15, .sl 6 a15 n15 c15), (16, .int .i64 (x16)), (17, .int .i64 (x17))], [], h⟩
theorem E_slices_EqualFunc_impl_Ver_impl_Ver_impl_Ver_impl_Ver {lo : Nat} {a0 : Option (Nat × Nat)} {n0 : Nat} {c0 : Option Nat} {a1 : Option (Nat × Nat)} {n1 : Nat} {c1 : Option Nat} {g2 : Nat} {l2 : List V} {h : Heap} {v : V} {h' : Heap} (hk : (br ((↑n0 : Int) == (↑n1 : Int)) (L_slices_EqualFunc_impl_Ver_impl_Ver_impl_Ver_impl_Ver_0 (List.length h) a1 n1 c1 g2 l2 false a0 n0 c0 ((↑n0 : Int)) 0 h) (some (.bool false, h))) = some (v, h')) (hn : noId v = true := by rfl) :
    evl lo 266 [.sl 6 a0 n0 c0, .sl 6 a1 n1 c1, .fn g2 l2] h = some (v, h) :=
  eval_drop Tryz.func266 (by kernel_rfl) (Eq.trans (by kernel_rfl) hk) hn
theorem L_slices_EqualFunc_impl_Ver_impl_Ver_impl_Ver_impl_Ver_0.e {lo : Nat} {a1 : Option (Nat × Nat)} {n1 : Nat} {c1 : Option Nat} {g2 : Nat} {l2 : List V} {b6 : Bool} {a15 : Option (Nat × Nat)} {n15 : Nat} {c15 : Option Nat} {x16 : Int} {x17 : Int} {h : Heap} :
    L_slices_EqualFunc_impl_Ver_impl_Ver_impl_Ver_impl_Ver_0 lo a1 n1 c1 g2 l2 b6 a15 n15 c15 x16 x17 h = br (decide (x17 < x16)) (inB (x17) n15 (eO a15 fun o_0 => eO (ld h (o_0.1) ((o_0.2) + (x17.toNat)) 0 6) fun o_1 => eC o_1 fun v_2 l_3 => eI .i64 v_2 fun n_4 => eC l_3 fun v_5 l_6 => eI .i64 v_5 fun n_7 => eC l_6 fun v_8 l_9 => eI .i64 v_8 fun n_10 => eC l_9 fun v_11 l_12 => eS 2 (v_11) fun a_13 n_14 c_15 => eC l_12 fun v_16 l_17 => eT v_16 fun s_18 => eC l_17 fun v_19 l_20 => eBv v_19 fun b_21 => eN l_20 (inB (x17) n1 (eO a1 fun o_22 => eO (ld h (o_22.1) ((o_22.2) + (x17.toNat)) 0 6) fun o_23 => eC o_23 fun v_24 l_25 => eI .i64 v_24 fun n_26 => eC l_25 fun v_27 l_28 => eI .i64 v_27 fun n_29 => eC l_28 fun v_30 l_31 => eI .i64 v_30 fun n_32 => eC l_31 fun v_33 l_34 => eS 2 (v_33) fun a_35 n_36 c_37 => eC l_34 fun v_38 l_39 => eT v_38 fun s_40 => eC l_39 fun v_41 l_42 => eBv v_41 fun b_43 => eN l_42 (cal (evl lo g2 (fnArgs [.agg [.int .i64 (n_4), .int .i64 (n_7), .int .i64 (n_10), .sl 2 a_13 n_14 c_15, .str (s_18), .bool (b_21)], .agg [.int .i64 (n_26), .int .i64 (n_29), .int .i64 (n_32), .sl 2 a_35 n_36 c_37, .str (s_40), .bool (b_43)]] l2) h) fun v_44 h_45 => eB v_44 (L_slices_EqualFunc_impl_Ver_impl_Ver_impl_Ver_impl_Ver_0 lo a1 n1 c1 g2 l2 (b6) a15 n15 c15 (x16) (IntKind.wrap .i64 ((x17) + 1)) h_45) (some (.bool false, h_45))))))) (some (.bool true, h)) :=
  Lp_eq.trans (by kernel_rfl)
noncomputable def L_slices_IndexFunc_impl_Sess_impl_Sess_0 (lo : Nat) (a0 : Option (Nat × Nat)) (n0 : Nat) (c0 : Option Nat) (g1 : Nat) (l1 : List V) (x4 : Int) (x7 : Int) (x8 : Int) (h : Heap) : Option (V × Heap) :=
  Lp (X 267) lo (cb (cb (cr (cl (cr (code Tryz.f267)))))) 0 (kBlock 0 (kS (X 267) lo (cr (cr (code Tryz.f267))) 0 (kTop (X 267) Tryz.f267.results.toList))) ⟨[(0, .sl 5 a0 n0 c0), (1, .fn g1 l1), (4, .int .i64 (x4)), (7, .int .i64 (x7)), (8, .int .i64 (x8))], [], h⟩
theorem E_slices_IndexFunc_impl_Sess_impl_Sess {lo : Nat} {a0 : Option (Nat × Nat)} {n0 : Nat} {c0 : Option Nat} {g1 : Nat} {l1 : List V} {h : Heap} {v : V} {h' : Heap} (hk : (L_slices_IndexFunc_impl_Sess_impl_Sess_0 (List.length h) a0 n0 c0 g1 l1 0 ((↑n0 : Int)) 0 h) = some (v, h')) (hn : noId v = true := by rfl) :
    evl lo 267 [.sl 5 a0 n0 c0, .fn g1 l1] h = some (v, h) :=
  eval_drop Tryz.func267 (by kernel_rfl) (Eq.trans (by kernel_rfl) hk) hn
theorem L_slices_IndexFunc_impl_Sess_impl_Sess_0.e {lo : Nat} {a0 : Option (Nat × Nat)} {n0 : Nat} {c0 : Option Nat} {g1 : Nat} {l1 : List V} {x4 : Int} {x7 : Int} {x8 : Int} {h : Heap} :
    L_slices_IndexFunc_impl_Sess_impl_Sess_0 lo a0 n0 c0 g1 l1 x4 x7 x8 h = br (decide (x8 < x7)) (inB (x8) n0 (eO a0 fun o_0 => eO (ld h (o_0.1) ((o_0.2) + (x8.toNat)) 0 5) fun o_1 => eC o_1 fun v_2 l_3 => eI .i64 v_2 fun n_4 => eC l_3 fun v_5 l_6 => eS 2 (v_5) fun a_7 n_8 c_9 => eC l_6 fun v_10 l_11 => eI .i64 v_10 fun n_12 => eC l_11 fun v_13 l_14 => eI .i64 v_13 fun n_15 => eC l_14 fun v_16 l_17 => eI .i64 v_16 fun n_18 => eN l_17 (cal (evl lo g1 (fnArgs [.agg [.int .i64 (n_4), .sl 2 a_7 n_8 c_9, .int .i64 (n_12), .int .i64 (n_15), .int .i64 (n_18)]] l1) h) fun v_19 h_20 => eB v_19 (some (.int .i64 (x8), h_20)) (L_slices_IndexFunc_impl_Sess_impl_Sess_0 lo a0 n0 c0 g1 l1 (x4) (x7) (IntKind.wrap .i64 ((x8) + 1)) h_20)))) (some (.int .i64 (-1), h)) :=
  Lp_eq.trans (by kernel_rfl)
noncomputable def L_slices_IndexFunc_impl_Frame_impl_Frame_0 (lo : Nat) (a0 : Option (Nat × Nat)) (n0 : Nat) (c0 : Option Nat) (g1 : Nat) (l1 : List V) (x4 : Int) (x7 : Int) (x8 : Int) (h : Heap) : Option (V × Heap) :=
  Lp (X 268) lo (cb (cb (cr (cl (cr (code Tryz.f268)))))) 0 (kBlock 0 (kS (X 268) lo (cr (cr (code Tryz.f268))) 0 (kTop (X 268) Tryz.f268.results.toList))) ⟨[(0, .sl 9 a0 n0 c0), (1, .fn g1 l1), (4, .int .i64 (x4)), (7, .int .i64 (x7)), (8, .int .i64 (x8))], [], h⟩
theorem E_slices_IndexFunc_impl_Frame_impl_Frame {lo : Nat} {a0 : Option (Nat × Nat)} {n0 : Nat} {c0 : Option Nat} {g1 : Nat} {l1 : List V} {h : Heap} {v : V} {h' : Heap} (hk : (L_slices_IndexFunc_impl_Frame_impl_Frame_0 (List.length h) a0 n0 c0 g1 l1 0 ((↑n0 : Int)) 0 h) = some (v, h')) (hn : noId v = true := by rfl) :
    evl lo 268 [.sl 9 a0 n0 c0, .fn g1 l1] h = some (v, h) :=
  eval_drop Tryz.func268 (by kernel_rfl) (Eq.trans (by kernel_rfl) hk) hn
theorem L_slices_IndexFunc_impl_Frame_impl_Frame_0.e {lo : Nat} {a0 : Option (Nat × Nat)} {n0 : Nat} {c0 : Option Nat} {g1 : Nat} {l1 : List V} {x4 : Int} {x7 : Int} {x8 : Int} {h : Heap} :
    L_slices_IndexFunc_impl_Frame_impl_Frame_0 lo a0 n0 c0 g1 l1 x4 x7 x8 h = br (decide (x8 < x7)) (inB (x8) n0 (eO a0 fun o_0 => eO (ld h (o_0.1) ((o_0.2) + (x8.toNat)) 0 9) fun o_1 => eC o_1 fun v_2 l_3 => eI .i64 v_2 fun n_4 => eC l_3 fun v_5 l_6 => eI .i64 v_5 fun n_7 => eC l_6 fun v_8 l_9 => eI .i64 v_8 fun n_10 => eC l_9 fun v_11 l_12 => eI .i64 v_11 fun n_13 => eC l_12 fun v_14 l_15 => eI .i64 v_14 fun n_16 => eC l_15 fun v_17 l_18 => eI .i64 v_17 fun n_19 => eC l_18 fun v_20 l_21 => eS 2 (v_20) fun a_22 n_23 c_24 => eC l_21 fun v_25 l_26 => eT v_25 fun s_27 => eC l_26 fun v_28 l_29 => eBv v_28 fun b_30 => eN l_29 (cal (evl lo g1 (fnArgs [.agg [.int .i64 (n_4), .int .i64 (n_7), .int .i64 (n_10), .int .i64 (n_13), .int .i64 (n_16), .int .i64 (n_19), .sl 2 a_22 n_23 c_24, .str (s_27), .bool (b_30)]] l1) h) fun v_31 h_32 => eB v_31 (some (.int .i64 (x8), h_32)) (L_slices_IndexFunc_impl_Frame_impl_Frame_0 lo a0 n0 c0 g1 l1 (x4) (x7) (IntKind.wrap .i64 ((x8) + 1)) h_32)))) (some (.int .i64 (-1), h)) :=
  Lp_eq.trans (by kernel_rfl)
theorem E_impl_apart {lo : Nat} {x0 : Int} {x1 : Int} {h : Heap} {v : V} {h' : Heap} (hk : (cal (evl (List.length h) 140 [.int .i64 (x0)] h) fun v_0 h_1 => eB v_0 (cal (evl (List.length h) 140 [.int .i64 (x1)] h_1) fun v_2 h_3 => eB v_2 (br (x0 == x1) (some (.bool false, h_3)) (some (.bool true, h_3))) (some (.bool false, h_3))) (some (.bool false, h_1))) = some (v, h')) (hn : noId v = true := by rfl) :
    evl lo 269 [.int .i64 (x0), .int .i64 (x1)] h = some (v, h) :=
  eval_drop Tryz.func269 (by kernel_rfl) (Eq.trans (by kernel_rfl) hk) hn
theorem E_laws_szChain {lo : Nat} {a0 : Option (Nat × Nat)} {n0 : Nat} {c0 : Option Nat} {x1 : Int} {h : Heap} {v : V} {h' : Heap} (hk : (cal (evl (List.length h) 328 [.sl 2 a0 n0 c0, .int .i64 (x1)] h) fun v_0 h_1 => eI .i64 v_0 fun n_2 => br (decide (n_2 < (0 : Int))) (some (.int .i64 (-1), h_1)) (some (.int .i64 (n_2), h_1))) = some (v, h')) (hn : noId v = true := by rfl) :
    evl lo 270 [.agg [.sl 2 a0 n0 c0], .int .i64 (x1)] h = some (v, h) :=
  eval_drop Tryz.func270 (by kernel_rfl) (Eq.trans (by kernel_rfl) hk) hn
noncomputable def L_laws_szVerS_0 (lo : Nat) (a0 : Option (Nat × Nat)) (n0 : Nat) (c0 : Option Nat) (x1 : Int) (x4 : Int) (x5 : Int) (h : Heap) : Option (V × Heap) :=
  Lp (X 271) lo (cb (cb (cr (cl (cr (cr (cr (code Tryz.f271)))))))) 0 (kBlock 0 (kS (X 271) lo (cr (cr (cr (cr (code Tryz.f271))))) 0 (kTop (X 271) Tryz.f271.results.toList))) ⟨[(0, .sl 6 a0 n0 c0), (1, .int .i64 (x1)), (4, .int .i64 (x4)), (5, .int .i64 (x5))], [], h⟩
theorem E_laws_szVerS {lo : Nat} {a0 : Option (Nat × Nat)} {n0 : Nat} {c0 : Option Nat} {x1 : Int} {h : Heap} {v : V} {h' : Heap} (hk : (br (decide (IntKind.i64.wrap (x1 - (↑n0 : Int)) < (0 : Int))) (some (.int .i64 (-1), h)) (L_laws_szVerS_0 (List.length h) a0 n0 c0 (IntKind.wrap .i64 ((x1) - ((↑n0 : Int)))) 0 0 h)) = some (v, h')) (hn : noId v = true := by rfl) :
    evl lo 271 [.sl 6 a0 n0 c0, .int .i64 (x1)] h = some (v, h) :=
  eval_drop Tryz.func271 (by kernel_rfl) (Eq.trans (by kernel_rfl) hk) hn
theorem L_laws_szVerS_0.e {lo : Nat} {a0 : Option (Nat × Nat)} {n0 : Nat} {c0 : Option Nat} {x1 : Int} {x4 : Int} {x5 : Int} {h : Heap} :
    L_laws_szVerS_0 lo a0 n0 c0 x1 x4 x5 h = br (decide (x5 < (↑n0 : Int))) (inB (x5) n0 (eO a0 fun o_0 => eO (ld h (o_0.1) ((o_0.2) + (x5.toNat)) 0 6) fun o_1 => eC o_1 fun v_2 l_3 => eI .i64 v_2 fun n_4 => eC l_3 fun v_5 l_6 => eI .i64 v_5 fun n_7 => eC l_6 fun v_8 l_9 => eI .i64 v_8 fun n_10 => eC l_9 fun v_11 l_12 => eS 2 (v_11) fun a_13 n_14 c_15 => eC l_12 fun v_16 l_17 => eT v_16 fun s_18 => eC l_17 fun v_19 l_20 => eBv v_19 fun b_21 => eN l_20 (cal (evl lo 274 [.agg [.int .i64 (n_4), .int .i64 (n_7), .int .i64 (n_10), .sl 2 a_13 n_14 c_15, .str (s_18), .bool (b_21)], .int .i64 (x1)] h) fun v_22 h_23 => eI .i64 v_22 fun n_24 => br (decide (n_24 < (0 : Int))) (some (.int .i64 (-1), h_23)) (L_laws_szVerS_0 lo a0 n0 c0 (n_24) (x4) (IntKind.wrap .i64 ((x5) + 1)) h_23)))) (some (.int .i64 (x1), h)) :=
  Lp_eq.trans (by kernel_rfl)
noncomputable def L_laws_szVerSS_0 (lo : Nat) (a0 : Option (Nat × Nat)) (n0 : Nat) (c0 : Option Nat) (x1 : Int) (x4 : Int) (x5 : Int) (h : Heap) : Option (V × Heap) :=
  Lp (X 272) lo (cb (cb (cr (cl (cr (cr (cr (code Tryz.f272)))))))) 0 (kBlock 0 (kS (X 272) lo (cr (cr (cr (cr (code Tryz.f272))))) 0 (kTop (X 272) Tryz.f272.results.toList))) ⟨[(0, .sl 1 a0 n0 c0), (1, .int .i64 (x1)), (4, .int .i64 (x4)), (5, .int .i64 (x5))], [], h⟩
theorem E_laws_szVerSS {lo : Nat} {a0 : Option (Nat × Nat)} {n0 : Nat} {c0 : Option Nat} {x1 : Int} {h : Heap} {v : V} {h' : Heap} (hk : (br (decide (IntKind.i64.wrap (x1 - (↑n0 : Int)) < (0 : Int))) (some (.int .i64 (-1), h)) (L_laws_szVerSS_0 (List.length h) a0 n0 c0 (IntKind.wrap .i64 ((x1) - ((↑n0 : Int)))) 0 0 h)) = some (v, h')) (hn : noId v = true := by rfl) :
    evl lo 272 [.sl 1 a0 n0 c0, .int .i64 (x1)] h = some (v, h) :=
  eval_drop Tryz.func272 (by kernel_rfl) (Eq.trans (by kernel_rfl) hk) hn
theorem L_laws_szVerSS_0.e {lo : Nat} {a0 : Option (Nat × Nat)} {n0 : Nat} {c0 : Option Nat} {x1 : Int} {x4 : Int} {x5 : Int} {h : Heap} :
    L_laws_szVerSS_0 lo a0 n0 c0 x1 x4 x5 h = br (decide (x5 < (↑n0 : Int))) (inB (x5) n0 (eO a0 fun o_0 => eO (ld h (o_0.1) ((o_0.2) + (x5.toNat)) 0 1) fun o_1 => eC o_1 fun v_2 l_3 => eN l_3 (eS 6 (v_2) fun a_4 n_5 c_6 => cal (evl lo 271 [.sl 6 a_4 n_5 c_6, .int .i64 (x1)] h) fun v_7 h_8 => eI .i64 v_7 fun n_9 => br (decide (n_9 < (0 : Int))) (some (.int .i64 (-1), h_8)) (L_laws_szVerSS_0 lo a0 n0 c0 (n_9) (x4) (IntKind.wrap .i64 ((x5) + 1)) h_8)))) (some (.int .i64 (x1), h)) :=
  Lp_eq.trans (by kernel_rfl)
theorem E_laws_szPast {lo : Nat} {a0 : Option (Nat × Nat)} {n0 : Nat} {c0 : Option Nat} {x1 : Int} {h : Heap} {v : V} {h' : Heap} (hk : (cal (evl (List.length h) 329 [.sl 2 a0 n0 c0, .int .i64 (x1)] h) fun v_0 h_1 => eI .i64 v_0 fun n_2 => br (decide (n_2 < (0 : Int))) (some (.int .i64 (-1), h_1)) (some (.int .i64 (n_2), h_1))) = some (v, h')) (hn : noId v = true := by rfl) :
    evl lo 273 [.agg [.sl 2 a0 n0 c0], .int .i64 (x1)] h = some (v, h) :=
  eval_drop Tryz.func273 (by kernel_rfl) (Eq.trans (by kernel_rfl) hk) hn
theorem E_laws_szVer {lo : Nat} {x0 : Int} {x0_1 : Int} {x0_2 : Int} {a0 : Option (Nat × Nat)} {n0 : Nat} {c0 : Option Nat} {s0 : ByteArray} {b0 : Bool} {x1 : Int} {h : Heap} {v : V} {h' : Heap} (hk : (cal (evl (List.length h) 273 [.agg [.sl 2 a0 n0 c0], .int .i64 (x1)] h) fun v_0 h_1 => eI .i64 v_0 fun n_2 => br (decide (n_2 < (0 : Int))) (some (.int .i64 (-1), h_1)) (br (decide (IntKind.i64.wrap (n_2 - (↑s0.size : Int)) < (0 : Int))) (some (.int .i64 (-1), h_1)) (some (.int .i64 (IntKind.wrap .i64 ((n_2) - ((↑s0.size : Int)))), h_1)))) = some (v, h')) (hn : noId v = true := by rfl) :
    evl lo 274 [.agg [.int .i64 (x0), .int .i64 (x0_1), .int .i64 (x0_2), .sl 2 a0 n0 c0, .str (s0), .bool (b0)], .int .i64 (x1)] h = some (v, h) :=
  eval_drop Tryz.func274 (by kernel_rfl) (Eq.trans (by kernel_rfl) hk) hn
theorem E_spec_l2Same {lo : Nat} {x0 : Int} {x0_1 : Int} {x0_2 : Int} {a0 : Option (Nat × Nat)} {n0 : Nat} {c0 : Option Nat} {s0 : ByteArray} {b0 : Bool} {x1 : Int} {x1_1 : Int} {x1_2 : Int} {a1 : Option (Nat × Nat)} {n1 : Nat} {c1 : Option Nat} {s1 : ByteArray} {b1 : Bool} {h : Heap} {v : V} {h' : Heap} (hk : (cal (evl (List.length h) 330 [.agg [.int .i64 (x0), .int .i64 (x0_1), .int .i64 (x0_2), .sl 2 a0 n0 c0, .str (s0), .bool (b0)]] h) fun v_0 h_1 => eT v_0 fun s_2 => cal (evl (List.length h) 330 [.agg [.int .i64 (x1), .int .i64 (x1_1), .int .i64 (x1_2), .sl 2 a1 n1 c1, .str (s1), .bool (b1)]] h_1) fun v_3 h_4 => eT v_3 fun s_5 => br (s_2.toList == s_5.toList) (some (.bool true, h_4)) (some (.bool false, h_4))) = some (v, h')) (hn : noId v = true := by rfl) :
    evl lo 275 [.agg [.int .i64 (x0), .int .i64 (x0_1), .int .i64 (x0_2), .sl 2 a0 n0 c0, .str (s0), .bool (b0)], .agg [.int .i64 (x1), .int .i64 (x1_1), .int .i64 (x1_2), .sl 2 a1 n1 c1, .str (s1), .bool (b1)]] h = some (v, h) :=
  eval_drop Tryz.func275 (by kernel_rfl) (Eq.trans (by kernel_rfl) hk) hn
theorem E_laws_toChain {lo : Nat} {a0 : Option (Nat × Nat)} {n0 : Nat} {c0 : Option Nat} {h : Heap} {r : V × Heap} (hk : (cal (evl lo 331 [.sl 2 a0 n0 c0] h) fun v_0 h_1 => eS 2 (v_0) fun a_2 n_3 c_4 => some (.agg [.sl 2 a_2 n_3 c_4], h_1)) = some r) :
    evl lo 276 [.agg [.sl 2 a0 n0 c0]] h = some r :=
  eval_keep Tryz.func276 (by kernel_rfl) (Eq.trans (by kernel_rfl) hk)
noncomputable def L_laws_toVerS_0 (lo : Nat) (a0 : Option (Nat × Nat)) (n0 : Nat) (c0 : Option Nat) (a3 : Option (Nat × Nat)) (n3 : Nat) (c3 : Option Nat) (x4 : Int) (h : Heap) : Option (V × Heap) :=
  Lp (X 277) lo (cb (cb (cr (cl (cr (cr (code Tryz.f277))))))) 0 (kBlock 0 (kS (X 277) lo (cr (cr (cr (code Tryz.f277)))) 0 (kTop (X 277) Tryz.f277.results.toList))) ⟨[(0, .sl 6 a0 n0 c0), (3, .sl 6 a3 n3 c3), (4, .int .i64 (x4))], [], h⟩
theorem E_laws_toVerS {lo : Nat} {a0 : Option (Nat × Nat)} {n0 : Nat} {c0 : Option Nat} {h : Heap} {r : V × Heap} (hk : (need (decide ((0 : Int) ≤ (↑n0 : Int) ∧ (↑n0 : Int) ≤ (↑n0 : Int) ∧ (↑n0 : Int) ≤ (140737488355328 : Int) ∧ (↑n0 : Int) * (↑(72 : Nat) : Int) ≤ (281474976710656 : Int))) (L_laws_toVerS_0 lo a0 n0 c0 (some ((List.length h), 0)) n0 (some n0) 0 (h ++ [.rows 6 65 false (List.replicate n0 [.int .i64 0, .int .i64 0, .int .i64 0, .sl 0 none 0 (some 0), .str ⟨⟨[]⟩⟩, .bool false])]))) = some r) :
    evl lo 277 [.sl 6 a0 n0 c0] h = some r :=
  eval_keep Tryz.func277 (by kernel_rfl) (Eq.trans (by kernel_rfl) hk)
theorem L_laws_toVerS_0.e {lo : Nat} {a0 : Option (Nat × Nat)} {n0 : Nat} {c0 : Option Nat} {a3 : Option (Nat × Nat)} {n3 : Nat} {c3 : Option Nat} {x4 : Int} {h : Heap} :
    L_laws_toVerS_0 lo a0 n0 c0 a3 n3 c3 x4 h = br (decide (x4 < (↑n0 : Int))) (inB (x4) n0 (eO a0 fun o_0 => eO (ld h (o_0.1) ((o_0.2) + (x4.toNat)) 0 6) fun o_1 => eC o_1 fun v_2 l_3 => eI .i64 v_2 fun n_4 => eC l_3 fun v_5 l_6 => eI .i64 v_5 fun n_7 => eC l_6 fun v_8 l_9 => eI .i64 v_8 fun n_10 => eC l_9 fun v_11 l_12 => eS 2 (v_11) fun a_13 n_14 c_15 => eC l_12 fun v_16 l_17 => eT v_16 fun s_18 => eC l_17 fun v_19 l_20 => eBv v_19 fun b_21 => eN l_20 (cal (evl lo 281 [.agg [.int .i64 (n_4), .int .i64 (n_7), .int .i64 (n_10), .sl 2 a_13 n_14 c_15, .str (s_18), .bool (b_21)]] h) fun v_22 h_23 => eA v_22 fun c_24 => eC c_24 fun v_25 l_26 => eI .i64 v_25 fun n_27 => eC l_26 fun v_28 l_29 => eI .i64 v_28 fun n_30 => eC l_29 fun v_31 l_32 => eI .i64 v_31 fun n_33 => eC l_32 fun v_34 l_35 => eS 2 (v_34) fun a_36 n_37 c_38 => eC l_35 fun v_39 l_40 => eT v_39 fun s_41 => eC l_40 fun v_42 l_43 => eBv v_42 fun b_44 => eN l_43 (inB (x4) n3 (eO a3 fun o_45 => eO (st lo h_23 (o_45.1) ((o_45.2) + (x4.toNat)) 0 [.int .i64 (n_27), .int .i64 (n_30), .int .i64 (n_33), .sl 2 a_36 n_37 c_38, .str (s_41), .bool (b_44)]) fun o_46 => L_laws_toVerS_0 lo a0 n0 c0 a3 n3 c3 (IntKind.wrap .i64 ((x4) + 1)) o_46))))) (some (.sl 6 a3 n3 c3, h)) :=
  Lp_eq.trans (by kernel_rfl)
noncomputable def L_laws_toVerSS_0 (lo : Nat) (a0 : Option (Nat × Nat)) (n0 : Nat) (c0 : Option Nat) (a3 : Option (Nat × Nat)) (n3 : Nat) (c3 : Option Nat) (x4 : Int) (h : Heap) : Option (V × Heap) :=
  Lp (X 278) lo (cb (cb (cr (cl (cr (cr (code Tryz.f278))))))) 0 (kBlock 0 (kS (X 278) lo (cr (cr (cr (code Tryz.f278)))) 0 (kTop (X 278) Tryz.f278.results.toList))) ⟨[(0, .sl 1 a0 n0 c0), (3, .sl 1 a3 n3 c3), (4, .int .i64 (x4))], [], h⟩
theorem E_laws_toVerSS {lo : Nat} {a0 : Option (Nat × Nat)} {n0 : Nat} {c0 : Option Nat} {h : Heap} {r : V × Heap} (hk : (need (decide ((0 : Int) ≤ (↑n0 : Int) ∧ (↑n0 : Int) ≤ (↑n0 : Int) ∧ (↑n0 : Int) ≤ (140737488355328 : Int) ∧ (↑n0 : Int) * (↑(24 : Nat) : Int) ≤ (281474976710656 : Int))) (L_laws_toVerSS_0 lo a0 n0 c0 (some ((List.length h), 0)) n0 (some n0) 0 (h ++ [.rows 1 72 false (List.replicate n0 [.sl 0 none 0 (some 0)])]))) = some r) :
    evl lo 278 [.sl 1 a0 n0 c0] h = some r :=
  eval_keep Tryz.func278 (by kernel_rfl) (Eq.trans (by kernel_rfl) hk)
theorem L_laws_toVerSS_0.e {lo : Nat} {a0 : Option (Nat × Nat)} {n0 : Nat} {c0 : Option Nat} {a3 : Option (Nat × Nat)} {n3 : Nat} {c3 : Option Nat} {x4 : Int} {h : Heap} :
    L_laws_toVerSS_0 lo a0 n0 c0 a3 n3 c3 x4 h = br (decide (x4 < (↑n0 : Int))) (inB (x4) n0 (eO a0 fun o_0 => eO (ld h (o_0.1) ((o_0.2) + (x4.toNat)) 0 1) fun o_1 => eC o_1 fun v_2 l_3 => eN l_3 (eS 6 (v_2) fun a_4 n_5 c_6 => cal (evl lo 277 [.sl 6 a_4 n_5 c_6] h) fun v_7 h_8 => eS 6 (v_7) fun a_9 n_10 c_11 => inB (x4) n3 (eO a3 fun o_12 => eO (st lo h_8 (o_12.1) ((o_12.2) + (x4.toNat)) 0 [.sl 6 a_9 n_10 c_11]) fun o_13 => L_laws_toVerSS_0 lo a0 n0 c0 a3 n3 c3 (IntKind.wrap .i64 ((x4) + 1)) o_13)))) (some (.sl 1 a3 n3 c3, h)) :=
  Lp_eq.trans (by kernel_rfl)
theorem E_laws_toPast {lo : Nat} {a0 : Option (Nat × Nat)} {n0 : Nat} {c0 : Option Nat} {h : Heap} {r : V × Heap} (hk : (cal (evl lo 332 [.sl 2 a0 n0 c0] h) fun v_0 h_1 => eS 2 (v_0) fun a_2 n_3 c_4 => some (.agg [.sl 2 a_2 n_3 c_4], h_1)) = some r) :
    evl lo 279 [.agg [.sl 2 a0 n0 c0]] h = some r :=
  eval_keep Tryz.func279 (by kernel_rfl) (Eq.trans (by kernel_rfl) hk)
theorem E_laws_toTag {lo : Nat} {x0 : Int} {x0_1 : Int} {h : Heap} {v : V} {h' : Heap} (hk : (some (.agg [.int .i64 (x0), .int .i64 (x0_1)], h)) = some (v, h')) (hn : noId v = true := by rfl) :
    evl lo 280 [.agg [.int .i64 (x0), .int .i64 (x0_1)]] h = some (v, h) :=
  eval_drop Tryz.func280 (by kernel_rfl) (Eq.trans (by kernel_rfl) hk) hn
theorem E_laws_toVer {lo : Nat} {x0 : Int} {x0_1 : Int} {x0_2 : Int} {a0 : Option (Nat × Nat)} {n0 : Nat} {c0 : Option Nat} {s0 : ByteArray} {b0 : Bool} {h : Heap} {r : V × Heap} (hk : (cal (evl lo 280 [.agg [.int .i64 (x0_1), .int .i64 (x0_2)]] h) fun v_0 h_1 => eA v_0 fun c_2 => eC c_2 fun v_3 l_4 => eI .i64 v_3 fun n_5 => eC l_4 fun v_6 l_7 => eI .i64 v_6 fun n_8 => eN l_7 (cal (evl lo 279 [.agg [.sl 2 a0 n0 c0]] h_1) fun v_9 h_10 => eA v_9 fun c_11 => eC c_11 fun v_12 l_13 => eS 2 (v_12) fun a_14 n_15 c_16 => eN l_13 (some (.agg [.int .i64 (x0), .int .i64 (n_5), .int .i64 (n_8), .sl 2 a_14 n_15 c_16, .str (s0), .bool (b0)], h_10)))) = some r) :
    evl lo 281 [.agg [.int .i64 (x0), .int .i64 (x0_1), .int .i64 (x0_2), .sl 2 a0 n0 c0, .str (s0), .bool (b0)]] h = some r :=
  eval_keep Tryz.func281 (by kernel_rfl) (Eq.trans (by kernel_rfl) hk)
theorem E_laws_eqChain {lo : Nat} {a0 : Option (Nat × Nat)} {n0 : Nat} {c0 : Option Nat} {a1 : Option (Nat × Nat)} {n1 : Nat} {c1 : Option Nat} {h : Heap} {v : V} {h' : Heap} (hk : (cal (evl (List.length h) 333 [.sl 2 a0 n0 c0, .sl 2 a1 n1 c1] h) fun v_0 h_1 => eB v_0 (some (.bool true, h_1)) (some (.bool false, h_1))) = some (v, h')) (hn : noId v = true := by rfl) :
    evl lo 282 [.agg [.sl 2 a0 n0 c0], .agg [.sl 2 a1 n1 c1]] h = some (v, h) :=
  eval_drop Tryz.func282 (by kernel_rfl) (Eq.trans (by kernel_rfl) hk) hn
noncomputable def L_laws_eqVerS_0 (lo : Nat) (a0 : Option (Nat × Nat)) (n0 : Nat) (c0 : Option Nat) (a1 : Option (Nat × Nat)) (n1 : Nat) (c1 : Option Nat) (b4 : Bool) (x5 : Int) (h : Heap) : Option (V × Heap) :=
  Lp (X 283) lo (cb (cb (cr (cl (cr (cr (code Tryz.f283))))))) 0 (kBlock 0 (kS (X 283) lo (cr (cr (cr (code Tryz.f283)))) 0 (kTop (X 283) Tryz.f283.results.toList))) ⟨[(0, .sl 6 a0 n0 c0), (1, .sl 6 a1 n1 c1), (4, .bool (b4)), (5, .int .i64 (x5))], [], h⟩
theorem E_laws_eqVerS {lo : Nat} {a0 : Option (Nat × Nat)} {n0 : Nat} {c0 : Option Nat} {a1 : Option (Nat × Nat)} {n1 : Nat} {c1 : Option Nat} {h : Heap} {v : V} {h' : Heap} (hk : (br ((↑n0 : Int) == (↑n1 : Int)) (L_laws_eqVerS_0 (List.length h) a0 n0 c0 a1 n1 c1 false 0 h) (some (.bool false, h))) = some (v, h')) (hn : noId v = true := by rfl) :
    evl lo 283 [.sl 6 a0 n0 c0, .sl 6 a1 n1 c1] h = some (v, h) :=
  eval_drop Tryz.func283 (by kernel_rfl) (Eq.trans (by kernel_rfl) hk) hn
theorem L_laws_eqVerS_0.e {lo : Nat} {a0 : Option (Nat × Nat)} {n0 : Nat} {c0 : Option Nat} {a1 : Option (Nat × Nat)} {n1 : Nat} {c1 : Option Nat} {b4 : Bool} {x5 : Int} {h : Heap} :
    L_laws_eqVerS_0 lo a0 n0 c0 a1 n1 c1 b4 x5 h = br (decide (x5 < (↑n0 : Int))) (inB (x5) n0 (eO a0 fun o_0 => eO (ld h (o_0.1) ((o_0.2) + (x5.toNat)) 0 6) fun o_1 => eC o_1 fun v_2 l_3 => eI .i64 v_2 fun n_4 => eC l_3 fun v_5 l_6 => eI .i64 v_5 fun n_7 => eC l_6 fun v_8 l_9 => eI .i64 v_8 fun n_10 => eC l_9 fun v_11 l_12 => eS 2 (v_11) fun a_13 n_14 c_15 => eC l_12 fun v_16 l_17 => eT v_16 fun s_18 => eC l_17 fun v_19 l_20 => eBv v_19 fun b_21 => eN l_20 (inB (x5) n1 (eO a1 fun o_22 => eO (ld h (o_22.1) ((o_22.2) + (x5.toNat)) 0 6) fun o_23 => eC o_23 fun v_24 l_25 => eI .i64 v_24 fun n_26 => eC l_25 fun v_27 l_28 => eI .i64 v_27 fun n_29 => eC l_28 fun v_30 l_31 => eI .i64 v_30 fun n_32 => eC l_31 fun v_33 l_34 => eS 2 (v_33) fun a_35 n_36 c_37 => eC l_34 fun v_38 l_39 => eT v_38 fun s_40 => eC l_39 fun v_41 l_42 => eBv v_41 fun b_43 => eN l_42 (cal (evl lo 287 [.agg [.int .i64 (n_4), .int .i64 (n_7), .int .i64 (n_10), .sl 2 a_13 n_14 c_15, .str (s_18), .bool (b_21)], .agg [.int .i64 (n_26), .int .i64 (n_29), .int .i64 (n_32), .sl 2 a_35 n_36 c_37, .str (s_40), .bool (b_43)]] h) fun v_44 h_45 => eB v_44 (L_laws_eqVerS_0 lo a0 n0 c0 a1 n1 c1 (b4) (IntKind.wrap .i64 ((x5) + 1)) h_45) (some (.bool false, h_45))))))) (some (.bool true, h)) :=
  Lp_eq.trans (by kernel_rfl)
noncomputable def L_laws_eqVerSS_0 (lo : Nat) (a0 : Option (Nat × Nat)) (n0 : Nat) (c0 : Option Nat) (a1 : Option (Nat × Nat)) (n1 : Nat) (c1 : Option Nat) (b4 : Bool) (x5 : Int) (h : Heap) : Option (V × Heap) :=
  Lp (X 284) lo (cb (cb (cr (cl (cr (cr (code Tryz.f284))))))) 0 (kBlock 0 (kS (X 284) lo (cr (cr (cr (code Tryz.f284)))) 0 (kTop (X 284) Tryz.f284.results.toList))) ⟨[(0, .sl 1 a0 n0 c0), (1, .sl 1 a1 n1 c1), (4, .bool (b4)), (5, .int .i64 (x5))], [], h⟩
theorem E_laws_eqVerSS {lo : Nat} {a0 : Option (Nat × Nat)} {n0 : Nat} {c0 : Option Nat} {a1 : Option (Nat × Nat)} {n1 : Nat} {c1 : Option Nat} {h : Heap} {v : V} {h' : Heap} (hk : (br ((↑n0 : Int) == (↑n1 : Int)) (L_laws_eqVerSS_0 (List.length h) a0 n0 c0 a1 n1 c1 false 0 h) (some (.bool false, h))) = some (v, h')) (hn : noId v = true := by rfl) :
    evl lo 284 [.sl 1 a0 n0 c0, .sl 1 a1 n1 c1] h = some (v, h) :=
  eval_drop Tryz.func284 (by kernel_rfl) (Eq.trans (by kernel_rfl) hk) hn
theorem L_laws_eqVerSS_0.e {lo : Nat} {a0 : Option (Nat × Nat)} {n0 : Nat} {c0 : Option Nat} {a1 : Option (Nat × Nat)} {n1 : Nat} {c1 : Option Nat} {b4 : Bool} {x5 : Int} {h : Heap} :
    L_laws_eqVerSS_0 lo a0 n0 c0 a1 n1 c1 b4 x5 h = br (decide (x5 < (↑n0 : Int))) (inB (x5) n0 (eO a0 fun o_0 => eO (ld h (o_0.1) ((o_0.2) + (x5.toNat)) 0 1) fun o_1 => eC o_1 fun v_2 l_3 => eN l_3 (eS 6 (v_2) fun a_4 n_5 c_6 => inB (x5) n1 (eO a1 fun o_7 => eO (ld h (o_7.1) ((o_7.2) + (x5.toNat)) 0 1) fun o_8 => eC o_8 fun v_9 l_10 => eN l_10 (eS 6 (v_9) fun a_11 n_12 c_13 => cal (evl lo 283 [.sl 6 a_4 n_5 c_6, .sl 6 a_11 n_12 c_13] h) fun v_14 h_15 => eB v_14 (L_laws_eqVerSS_0 lo a0 n0 c0 a1 n1 c1 (b4) (IntKind.wrap .i64 ((x5) + 1)) h_15) (some (.bool false, h_15))))))) (some (.bool true, h)) :=
  Lp_eq.trans (by kernel_rfl)
theorem E_laws_eqPast {lo : Nat} {a0 : Option (Nat × Nat)} {n0 : Nat} {c0 : Option Nat} {a1 : Option (Nat × Nat)} {n1 : Nat} {c1 : Option Nat} {h : Heap} {v : V} {h' : Heap} (hk : (cal (evl (List.length h) 334 [.sl 2 a0 n0 c0, .sl 2 a1 n1 c1] h) fun v_0 h_1 => eB v_0 (some (.bool true, h_1)) (some (.bool false, h_1))) = some (v, h')) (hn : noId v = true := by rfl) :
    evl lo 285 [.agg [.sl 2 a0 n0 c0], .agg [.sl 2 a1 n1 c1]] h = some (v, h) :=
  eval_drop Tryz.func285 (by kernel_rfl) (Eq.trans (by kernel_rfl) hk) hn
theorem E_laws_eqTag {lo : Nat} {x0 : Int} {x0_1 : Int} {x1 : Int} {x1_1 : Int} {h : Heap} {v : V} {h' : Heap} (hk : (br (x0 == x1) (br (x0_1 == x1_1) (some (.bool true, h)) (some (.bool false, h))) (some (.bool false, h))) = some (v, h')) (hn : noId v = true := by rfl) :
    evl lo 286 [.agg [.int .i64 (x0), .int .i64 (x0_1)], .agg [.int .i64 (x1), .int .i64 (x1_1)]] h = some (v, h) :=
  eval_drop Tryz.func286 (by kernel_rfl) (Eq.trans (by kernel_rfl) hk) hn
theorem E_laws_eqVer {lo : Nat} {x0 : Int} {x0_1 : Int} {x0_2 : Int} {a0 : Option (Nat × Nat)} {n0 : Nat} {c0 : Option Nat} {s0 : ByteArray} {b0 : Bool} {x1 : Int} {x1_1 : Int} {x1_2 : Int} {a1 : Option (Nat × Nat)} {n1 : Nat} {c1 : Option Nat} {s1 : ByteArray} {b1 : Bool} {h : Heap} {v : V} {h' : Heap} (hk : (br (x0 == x1) (cal (evl (List.length h) 286 [.agg [.int .i64 (x0_1), .int .i64 (x0_2)], .agg [.int .i64 (x1_1), .int .i64 (x1_2)]] h) fun v_0 h_1 => eB v_0 (cal (evl (List.length h) 285 [.agg [.sl 2 a0 n0 c0], .agg [.sl 2 a1 n1 c1]] h_1) fun v_2 h_3 => eB v_2 (br (s0.toList == s1.toList) (br (b0 == b1) (some (.bool true, h_3)) (some (.bool false, h_3))) (some (.bool false, h_3))) (some (.bool false, h_3))) (some (.bool false, h_1))) (some (.bool false, h))) = some (v, h')) (hn : noId v = true := by rfl) :
    evl lo 287 [.agg [.int .i64 (x0), .int .i64 (x0_1), .int .i64 (x0_2), .sl 2 a0 n0 c0, .str (s0), .bool (b0)], .agg [.int .i64 (x1), .int .i64 (x1_1), .int .i64 (x1_2), .sl 2 a1 n1 c1, .str (s1), .bool (b1)]] h = some (v, h) :=
  eval_drop Tryz.func287 (by kernel_rfl) (Eq.trans (by kernel_rfl) hk) hn
end Go.Proofs.YthdfojchihooeaaGreat
namespace Go.Proofs.YthdfojchihooeaaGreat
open Go T
set_option linter.unusedVariables false
set_option maxRecDepth 100000
noncomputable def L_spec_l5All_0 (lo : Nat) (x9 : Int) (a2b : Option (Nat × Nat)) (n2b : Nat) (c2b : Option Nat) (a2b_1 : Option (Nat × Nat)) (n2b_1 : Nat) (c2b_1 : Option Nat) (a2b_2 : Option (Nat × Nat)) (n2b_2 : Nat) (c2b_2 : Option Nat) (a2b_3 : Option (Nat × Nat)) (n2b_3 : Nat) (c2b_3 : Option Nat) (x3b : Int) (x3b_1 : Int) (x3b_2 : Int) (x3b_3 : Int) (s3b : ByteArray) (b3b : Bool) (q4b : Nat) (a4b : Option (Nat × Nat)) (n4b : Nat) (c4b : Option Nat) (q4b_1 : Nat) (a4b_1 : Option (Nat × Nat)) (n4b_1 : Nat) (c4b_1 : Option Nat) (q4b_2 : Nat) (a4b_2 : Option (Nat × Nat)) (n4b_2 : Nat) (c4b_2 : Option Nat) (q4b_3 : Nat) (a4b_3 : Option (Nat × Nat)) (n4b_3 : Nat) (c4b_3 : Option Nat) (a8b : Option (Nat × Nat)) (n8b : Nat) (c8b : Option Nat) (h : Heap) : Option (V × Heap) :=
  Lp (X 291) lo (cb (cb (cr (cl (cr (cr (cr (cr (cr (code Tryz.f291)))))))))) 0 (kBlock 0 (kS (X 291) lo (cr (cr (cr (cr (cr (cr (code Tryz.f291))))))) 0 (kTop (X 291) Tryz.f291.results.toList))) ⟨[(2, .lp 2 0), (3, .lp 3 0), (4, .lp 4 0), (8, .lp 8 0), (9, .int .i64 (x9))], [(2, [.sl 6 a2b n2b c2b, .sl 5 a2b_1 n2b_1 c2b_1, .sl 9 a2b_2 n2b_2 c2b_2, .sl 5 a2b_3 n2b_3 c2b_3]), (3, [.int .i64 (x3b), .int .i64 (x3b_1), .int .i64 (x3b_2), .int .i64 (x3b_3), .str (s3b), .bool (b3b)]), (4, [.sl q4b a4b n4b c4b, .sl q4b_1 a4b_1 n4b_1 c4b_1, .sl q4b_2 a4b_2 n4b_2 c4b_2, .sl q4b_3 a4b_3 n4b_3 c4b_3]), (8, [.sl 6 a8b n8b c8b])], h⟩
theorem L_spec_l5All_0.e {lo : Nat} {x9 : Int} {a2b : Option (Nat × Nat)} {n2b : Nat} {c2b : Option Nat} {a2b_1 : Option (Nat × Nat)} {n2b_1 : Nat} {c2b_1 : Option Nat} {a2b_2 : Option (Nat × Nat)} {n2b_2 : Nat} {c2b_2 : Option Nat} {a2b_3 : Option (Nat × Nat)} {n2b_3 : Nat} {c2b_3 : Option Nat} {x3b : Int} {x3b_1 : Int} {x3b_2 : Int} {x3b_3 : Int} {s3b : ByteArray} {b3b : Bool} {q4b : Nat} {a4b : Option (Nat × Nat)} {n4b : Nat} {c4b : Option Nat} {q4b_1 : Nat} {a4b_1 : Option (Nat × Nat)} {n4b_1 : Nat} {c4b_1 : Option Nat} {q4b_2 : Nat} {a4b_2 : Option (Nat × Nat)} {n4b_2 : Nat} {c4b_2 : Option Nat} {q4b_3 : Nat} {a4b_3 : Option (Nat × Nat)} {n4b_3 : Nat} {c4b_3 : Option Nat} {a8b : Option (Nat × Nat)} {n8b : Nat} {c8b : Option Nat} {h : Heap} :
    L_spec_l5All_0 lo x9 a2b n2b c2b a2b_1 n2b_1 c2b_1 a2b_2 n2b_2 c2b_2 a2b_3 n2b_3 c2b_3 x3b x3b_1 x3b_2 x3b_3 s3b b3b q4b a4b n4b c4b q4b_1 a4b_1 n4b_1 c4b_1 q4b_2 a4b_2 n4b_2 c4b_2 q4b_3 a4b_3 n4b_3 c4b_3 a8b n8b c8b h = br (decide (x9 < (4 : Int))) (inB (x3b_1) n2b_1 (eO a2b_1 fun o_43 => eO (ld h (o_43.1) ((o_43.2) + (x3b_1.toNat)) 1 1) fun o_44 => eC o_44 fun v_45 l_46 => eS 2 (v_45) fun a_47 n_48 c_49 => eN l_46 (inB (x9) n8b (eO a8b fun o_50 => eO (ld h (o_50.1) ((o_50.2) + (x9.toNat)) 1 2) fun o_51 => eC o_51 fun v_52 l_53 => eI .i64 v_52 fun n_54 => eC l_53 fun v_55 l_56 => eI .i64 v_55 fun n_57 => eN l_56 (cal (evl lo 307 [.agg [.sl 2 a_47 n_48 c_49], .int .i64 (x9), .agg [.int .i64 (n_54), .int .i64 (n_57)]] h) fun v_58 h_59 => eA v_58 fun c_60 => eC c_60 fun v_61 l_62 => eS 2 (v_61) fun a_63 n_64 c_65 => eN l_62 (inB (x3b_1) n2b_1 (eO a2b_1 fun o_66 => eO (st lo h_59 (o_66.1) ((o_66.2) + (x3b_1.toNat)) 1 [.sl 2 a_63 n_64 c_65]) fun o_67 => inB (x9) n8b (eO a8b fun o_68 => eO (ld o_67 (o_68.1) ((o_68.2) + (x9.toNat)) 1 2) fun o_69 => eC o_69 fun v_70 l_71 => eI .i64 v_70 fun n_72 => eC l_71 fun v_73 l_74 => eI .i64 v_73 fun n_75 => eN l_74 (cal (evl lo 335 [.agg [.sl 6 a2b n2b c2b, .sl 5 a2b_1 n2b_1 c2b_1, .sl 9 a2b_2 n2b_2 c2b_2, .sl 5 a2b_3 n2b_3 c2b_3], .int .i64 (x3b_1), .int .i64 2, .int .i64 (x9), .agg [.int .i64 (n_72), .int .i64 (n_75)]] o_67) fun v_76 h_77 => eA v_76 fun c_78 => eC c_78 fun v_79 l_80 => eS 6 (v_79) fun a_81 n_82 c_83 => eC l_80 fun v_84 l_85 => eS 5 (v_84) fun a_86 n_87 c_88 => eC l_85 fun v_89 l_90 => eS 9 (v_89) fun a_91 n_92 c_93 => eC l_90 fun v_94 l_95 => eS 5 (v_94) fun a_96 n_97 c_98 => eN l_95 (L_spec_l5All_0 lo (IntKind.wrap .i64 ((x9) + 1)) a_81 n_82 c_83 a_86 n_87 c_88 a_91 n_92 c_93 a_96 n_97 c_98 (x3b) (x3b_1) (x3b_2) (x3b_3) (s3b) (b3b) q4b a4b n4b c4b q4b_1 a4b_1 n4b_1 c4b_1 q4b_2 a4b_2 n4b_2 c4b_2 q4b_3 a4b_3 n4b_3 c4b_3 a8b n8b c8b h_77)))))))))) (some (.tup [.agg [.sl 6 a2b n2b c2b, .sl 5 a2b_1 n2b_1 c2b_1, .sl 9 a2b_2 n2b_2 c2b_2, .sl 5 a2b_3 n2b_3 c2b_3], .bool true], h)) :=
  Lp_eq.trans (by kernel_rfl)
noncomputable def L_impl_versCopied_0 (lo : Nat) (a3 : Option (Nat × Nat)) (n3 : Nat) (c3 : Option Nat) (a9 : Option (Nat × Nat)) (n9 : Nat) (c9 : Option Nat) (x10 : Int) (x11 : Int) (h : Heap) : Option (V × Heap) :=
  Lp (X 293) lo (cb (cb (cr (cl (cr (cr (code Tryz.f293))))))) 0 (kBlock 0 (kS (X 293) lo (cr (cr (cr (code Tryz.f293)))) 0 (kTop (X 293) Tryz.f293.results.toList))) ⟨[(3, .sl 6 a3 n3 c3), (9, .sl 6 a9 n9 c9), (10, .int .i64 (x10)), (11, .int .i64 (x11))], [], h⟩
theorem E_impl_versCopied {lo : Nat} {a0 : Option (Nat × Nat)} {n0 : Nat} {c0 : Option Nat} {h : Heap} {r : V × Heap} (hk : (need (decide ((0 : Int) ≤ (0 : Int) ∧ (0 : Int) ≤ (↑n0 : Int) ∧ (↑n0 : Int) ≤ (140737488355328 : Int) ∧ (↑n0 : Int) * (↑(72 : Nat) : Int) ≤ (281474976710656 : Int))) (L_impl_versCopied_0 lo (some ((List.length h), 0)) 0 (some n0) a0 n0 c0 ((↑n0 : Int)) 0 (h ++ [.rows 6 65 false (List.replicate n0 [.int .i64 0, .int .i64 0, .int .i64 0, .sl 0 none 0 (some 0), .str ⟨⟨[]⟩⟩, .bool false])]))) = some r) :
    evl lo 293 [.sl 6 a0 n0 c0] h = some r :=
  eval_keep Tryz.func293 (by kernel_rfl) (Eq.trans (by kernel_rfl) hk)
theorem L_impl_versCopied_0.e {lo : Nat} {a3 : Option (Nat × Nat)} {n3 : Nat} {c3 : Option Nat} {a9 : Option (Nat × Nat)} {n9 : Nat} {c9 : Option Nat} {x10 : Int} {x11 : Int} {h : Heap} :
    L_impl_versCopied_0 lo a3 n3 c3 a9 n9 c9 x10 x11 h = br (decide (x11 < x10)) (inB (x11) n9 (eO a9 fun o_0 => eO (ld h (o_0.1) ((o_0.2) + (x11.toNat)) 0 6) fun o_1 => eC o_1 fun v_2 l_3 => eI .i64 v_2 fun n_4 => eC l_3 fun v_5 l_6 => eI .i64 v_5 fun n_7 => eC l_6 fun v_8 l_9 => eI .i64 v_8 fun n_10 => eC l_9 fun v_11 l_12 => eS 2 (v_11) fun a_13 n_14 c_15 => eC l_12 fun v_16 l_17 => eT v_16 fun s_18 => eC l_17 fun v_19 l_20 => eBv v_19 fun b_21 => eN l_20 (cal (evl lo 186 [.agg [.int .i64 (n_4), .int .i64 (n_7), .int .i64 (n_10), .sl 2 a_13 n_14 c_15, .str (s_18), .bool (b_21)]] h) fun v_22 h_23 => eA v_22 fun c_24 => eC c_24 fun v_25 l_26 => eI .i64 v_25 fun n_27 => eC l_26 fun v_28 l_29 => eI .i64 v_28 fun n_30 => eC l_29 fun v_31 l_32 => eI .i64 v_31 fun n_33 => eC l_32 fun v_34 l_35 => eS 2 (v_34) fun a_36 n_37 c_38 => eC l_35 fun v_39 l_40 => eT v_39 fun s_41 => eC l_40 fun v_42 l_43 => eBv v_42 fun b_44 => eN l_43 (rowsOf 6 (h_23 ++ [.rows 6 65 false [[.int .i64 (n_27), .int .i64 (n_30), .int .i64 (n_33), .sl 2 a_36 n_37 c_38, .str (s_41), .bool (b_44)]]]) (.sl 6 (some ((List.length h_23), 0)) 1 (some 1)) fun x_45 => app lo 65 6 72 (.sl 6 a3 n3 c3) x_45 (h_23 ++ [.rows 6 65 false [[.int .i64 (n_27), .int .i64 (n_30), .int .i64 (n_33), .sl 2 a_36 n_37 c_38, .str (s_41), .bool (b_44)]]]) fun v_46 h_47 => eS 6 (v_46) fun a_48 n_49 c_50 => L_impl_versCopied_0 lo a_48 n_49 c_50 a9 n9 c9 (x10) (IntKind.wrap .i64 ((x11) + 1)) h_47)))) (some (.sl 6 a3 n3 c3, h)) :=
  Lp_eq.trans (by kernel_rfl)
theorem E_slices_Clip_impl_Tag_impl_Tag {lo : Nat} {a0 : Option (Nat × Nat)} {n0 : Nat} {c0 : Option Nat} {h : Heap} {r : V × Heap} (hk : (reslice a0 n0 c0 none (some (.int .i64 ((↑n0 : Int)))) (some (.int .i64 ((↑n0 : Int)))) fun a_0 n_1 c_2 => some (.sl 2 a_0 n_1 c_2, h)) = some r) :
    evl lo 294 [.sl 2 a0 n0 c0] h = some r :=
  eval_keep Tryz.func294 (by kernel_rfl) (Eq.trans (by kernel_rfl) hk)
theorem E_slices_Clone_impl_Tag_impl_Tag {lo : Nat} {a0 : Option (Nat × Nat)} {n0 : Nat} {c0 : Option Nat} {h : Heap} {r : V × Heap} (hk : (br (a0.isNone) (some (.sl 0 none 0 (some 0), h)) (rowsOf 2 (h ++ [.rows 2 60 false []]) (.sl 2 a0 n0 c0) fun x_0 => app lo 60 2 16 (.sl 2 (some ((List.length h), 0)) 0 (some 0)) x_0 (h ++ [.rows 2 60 false []]) fun v_1 h_2 => eS 2 (v_1) fun a_3 n_4 c_5 => some (.sl 2 a_3 n_4 c_5, h_2))) = some r) :
    evl lo 295 [.sl 2 a0 n0 c0] h = some r :=
  eval_keep Tryz.func295 (by kernel_rfl) (Eq.trans (by kernel_rfl) hk)
noncomputable def L_impl_World_all_0 (lo : Nat) (pb0 : Nat) (pi0 : Nat) (pj0 : Nat) (a39 : Option (Nat × Nat)) (n39 : Nat) (c39 : Option Nat) (x40 : Int) (x41 : Int) (x5b : Int) (x5b_1 : Int) (x5b_2 : Int) (x5b_3 : Int) (s5b : ByteArray) (b5b : Bool) (h : Heap) : Option (V × Heap) :=
  Lp (X 299) lo (cb (cb (cr (cl (cr (cr (cr (cr (code Tryz.f299))))))))) 0 (kBlock 0 (kS (X 299) lo (cr (cr (cr (cr (cr (code Tryz.f299)))))) 0 (kTop (X 299) Tryz.f299.results.toList))) ⟨[(0, .ptr (some (pb0, (pi0, pj0)))), (5, .lp 5 0), (39, .sl 2 a39 n39 c39), (40, .int .i64 (x40)), (41, .int .i64 (x41))], [(5, [.int .i64 (x5b), .int .i64 (x5b_1), .int .i64 (x5b_2), .int .i64 (x5b_3), .str (s5b), .bool (b5b)])], h⟩
theorem L_impl_World_all_0.e {lo : Nat} {pb0 : Nat} {pi0 : Nat} {pj0 : Nat} {a39 : Option (Nat × Nat)} {n39 : Nat} {c39 : Option Nat} {x40 : Int} {x41 : Int} {x5b : Int} {x5b_1 : Int} {x5b_2 : Int} {x5b_3 : Int} {s5b : ByteArray} {b5b : Bool} {h : Heap} :
    L_impl_World_all_0 lo pb0 pi0 pj0 a39 n39 c39 x40 x41 x5b x5b_1 x5b_2 x5b_3 s5b b5b h = br (decide (x41 < x40)) (inB (x41) n39 (eO a39 fun o_38 => eO (ld h (o_38.1) ((o_38.2) + (x41.toNat)) 0 2) fun o_39 => eC o_39 fun v_40 l_41 => eI .i64 v_40 fun n_42 => eC l_41 fun v_43 l_44 => eI .i64 v_43 fun n_45 => eN l_44 (cal (evl lo 337 [.ptr (some (pb0, (pi0, pj0))), .int .i64 (x5b_1), .int .i64 2, .int .i64 (x41), .agg [.int .i64 (n_42), .int .i64 (n_45)]] h) fun v_46 h_47 => eU v_46 fun c_48 => eN c_48 (L_impl_World_all_0 lo pb0 pi0 pj0 a39 n39 c39 (x40) (IntKind.wrap .i64 ((x41) + 1)) (x5b) (x5b_1) (x5b_2) (x5b_3) (s5b) (b5b) h_47)))) (some (.bool true, h)) :=
  Lp_eq.trans (by kernel_rfl)
noncomputable def L_spec_l6Wrote_0 (lo : Nat) (a0 : Option (Nat × Nat)) (n0 : Nat) (c0 : Option Nat) (a1 : Option (Nat × Nat)) (n1 : Nat) (c1 : Option Nat) (b7 : Bool) (x8 : Int) (x5b : Int) (x5b_1 : Int) (q6b : Nat) (a6b : Option (Nat × Nat)) (n6b : Nat) (c6b : Option Nat) (h : Heap) : Option (V × Heap) :=
  Lp (X 303) lo (cb (cb (cr (cl (cr (code Tryz.f303)))))) 0 (kBlock 0 (kS (X 303) lo (cr (cr (code Tryz.f303))) 0 (kTop (X 303) Tryz.f303.results.toList))) ⟨[(0, .sl 5 a0 n0 c0), (1, .sl 1 a1 n1 c1), (5, .lp 5 0), (6, .lp 6 0), (7, .bool (b7)), (8, .int .i64 (x8))], [(5, [.int .i64 (x5b), .int .i64 (x5b_1)]), (6, [.sl q6b a6b n6b c6b])], h⟩
theorem L_spec_l6Wrote_0.e {lo : Nat} {a0 : Option (Nat × Nat)} {n0 : Nat} {c0 : Option Nat} {a1 : Option (Nat × Nat)} {n1 : Nat} {c1 : Option Nat} {b7 : Bool} {x8 : Int} {x5b : Int} {x5b_1 : Int} {q6b : Nat} {a6b : Option (Nat × Nat)} {n6b : Nat} {c6b : Option Nat} {h : Heap} :
    L_spec_l6Wrote_0 lo a0 n0 c0 a1 n1 c1 b7 x8 x5b x5b_1 q6b a6b n6b c6b h = br (decide (x8 < (↑n0 : Int))) (inB (x8) n0 (eO a0 fun o_0 => eO (ld h (o_0.1) ((o_0.2) + (x8.toNat)) 1 1) fun o_1 => eC o_1 fun v_2 l_3 => eN l_3 (eI .i64 v_2 fun n_4 => br (n_4 == (1 : Int)) (inB (x8) n0 (eO a0 fun o_5 => eO (ld h (o_5.1) ((o_5.2) + (x8.toNat)) 3 2) fun o_6 => eC o_6 fun v_7 l_8 => eI .i64 v_7 fun n_9 => eC l_8 fun v_10 l_11 => eI .i64 v_10 fun n_12 => eN l_11 (br ((n_9 == x5b) && ((n_12 == x5b_1) && true)) (inB (x8) n1 (eO a1 fun o_13 => eO (ld h (o_13.1) ((o_13.2) + (x8.toNat)) 0 1) fun o_14 => eC o_14 fun v_15 l_16 => eS 2 (v_15) fun a_17 n_18 c_19 => eN l_16 (some (.tup [.agg [.sl 2 a_17 n_18 c_19], .bool true], h)))) (L_spec_l6Wrote_0 lo a0 n0 c0 a1 n1 c1 (b7) (IntKind.wrap .i64 ((x8) + 1)) (x5b) (x5b_1) q6b a6b n6b c6b h)))) (L_spec_l6Wrote_0 lo a0 n0 c0 a1 n1 c1 (b7) (IntKind.wrap .i64 ((x8) + 1)) (x5b) (x5b_1) q6b a6b n6b c6b h)))) (some (.tup [.agg [.sl 0 none 0 (some 0)], .bool false], h)) :=
  Lp_eq.trans (by kernel_rfl)
noncomputable def L_spec_l6Later_0 (lo : Nat) (b4 : Bool) (x5 : Int) (a2b : Option (Nat × Nat)) (n2b : Nat) (c2b : Option Nat) (x3b : Int) (x3b_1 : Int) (h : Heap) : Option (V × Heap) :=
  Lp (X 304) lo (cb (cb (cr (cl (cr (code Tryz.f304)))))) 0 (kBlock 0 (kS (X 304) lo (cr (cr (code Tryz.f304))) 0 (kTop (X 304) Tryz.f304.results.toList))) ⟨[(2, .lp 2 0), (3, .lp 3 0), (4, .bool (b4)), (5, .int .i64 (x5))], [(2, [.sl 2 a2b n2b c2b]), (3, [.int .i64 (x3b), .int .i64 (x3b_1)])], h⟩
theorem L_spec_l6Later_0.e {lo : Nat} {b4 : Bool} {x5 : Int} {a2b : Option (Nat × Nat)} {n2b : Nat} {c2b : Option Nat} {x3b : Int} {x3b_1 : Int} {h : Heap} :
    L_spec_l6Later_0 lo b4 x5 a2b n2b c2b x3b x3b_1 h = br (decide (x5 < (4 : Int))) (inB (x5) n2b (eO a2b fun o_0 => eO (ld h (o_0.1) ((o_0.2) + (x5.toNat)) 0 1) fun o_1 => eC o_1 fun v_2 l_3 => eN l_3 (eI .i64 v_2 fun n_4 => br (decide (n_4 ≥ x3b)) (some (.bool false, h)) (L_spec_l6Later_0 lo (b4) (IntKind.wrap .i64 ((x5) + 1)) a2b n2b c2b (x3b) (x3b_1) h)))) (some (.bool true, h)) :=
  Lp_eq.trans (by kernel_rfl)
noncomputable def L_spec_l6Of_0 (lo : Nat) (a0 : Option (Nat × Nat)) (n0 : Nat) (c0 : Option Nat) (b4 : Bool) (x5 : Int) (x3b : Int) (x3b_1 : Int) (x3b_2 : Int) (x3b_3 : Int) (x3b_4 : Int) (h : Heap) : Option (V × Heap) :=
  Lp (X 305) lo (cb (cb (cr (cl (cr (code Tryz.f305)))))) 0 (kBlock 0 (kS (X 305) lo (cr (cr (code Tryz.f305))) 0 (kTop (X 305) Tryz.f305.results.toList))) ⟨[(0, .sl 5 a0 n0 c0), (3, .lp 3 0), (4, .bool (b4)), (5, .int .i64 (x5))], [(3, [.int .i64 (x3b), .int .i64 (x3b_1), .int .i64 (x3b_2), .int .i64 (x3b_3), .int .i64 (x3b_4)])], h⟩
theorem L_spec_l6Of_0.e {lo : Nat} {a0 : Option (Nat × Nat)} {n0 : Nat} {c0 : Option Nat} {b4 : Bool} {x5 : Int} {x3b : Int} {x3b_1 : Int} {x3b_2 : Int} {x3b_3 : Int} {x3b_4 : Int} {h : Heap} :
    L_spec_l6Of_0 lo a0 n0 c0 b4 x5 x3b x3b_1 x3b_2 x3b_3 x3b_4 h = br (decide (x5 < (↑n0 : Int))) (inB (x5) n0 (eO a0 fun o_0 => eO (ld h (o_0.1) ((o_0.2) + (x5.toNat)) 1 1) fun o_1 => eC o_1 fun v_2 l_3 => eN l_3 (eI .i64 v_2 fun n_4 => br (n_4 == (1 : Int)) (inB (x5) n0 (eO a0 fun o_5 => eO (ld h (o_5.1) ((o_5.2) + (x5.toNat)) 3 2) fun o_6 => eC o_6 fun v_7 l_8 => eI .i64 v_7 fun n_9 => eC l_8 fun v_10 l_11 => eI .i64 v_10 fun n_12 => eN l_11 (br ((n_9 == x3b_3) && ((n_12 == x3b_4) && true)) (inB (x5) n0 (eO a0 fun o_13 => eO (ld h (o_13.1) ((o_13.2) + (x5.toNat)) 2 1) fun o_14 => eC o_14 fun v_15 l_16 => eN l_16 (eI .i64 v_15 fun n_17 => br (n_17 == x3b_2) (some (.bool true, h)) (some (.bool false, h))))) (L_spec_l6Of_0 lo a0 n0 c0 (b4) (IntKind.wrap .i64 ((x5) + 1)) (x3b) (x3b_1) (x3b_2) (x3b_3) (x3b_4) h)))) (L_spec_l6Of_0 lo a0 n0 c0 (b4) (IntKind.wrap .i64 ((x5) + 1)) (x3b) (x3b_1) (x3b_2) (x3b_3) (x3b_4) h)))) (some (.bool false, h)) :=
  Lp_eq.trans (by kernel_rfl)
noncomputable def L_spec_l6Own_0 (lo : Nat) (a0 : Option (Nat × Nat)) (n0 : Nat) (c0 : Option Nat) (b4 : Bool) (x5 : Int) (x3b : Int) (x3b_1 : Int) (x3b_2 : Int) (x3b_3 : Int) (x3b_4 : Int) (h : Heap) : Option (V × Heap) :=
  Lp (X 306) lo (cb (cb (cr (cl (cr (code Tryz.f306)))))) 0 (kBlock 0 (kS (X 306) lo (cr (cr (code Tryz.f306))) 0 (kTop (X 306) Tryz.f306.results.toList))) ⟨[(0, .sl 5 a0 n0 c0), (3, .lp 3 0), (4, .bool (b4)), (5, .int .i64 (x5))], [(3, [.int .i64 (x3b), .int .i64 (x3b_1), .int .i64 (x3b_2), .int .i64 (x3b_3), .int .i64 (x3b_4)])], h⟩
theorem L_spec_l6Own_0.e {lo : Nat} {a0 : Option (Nat × Nat)} {n0 : Nat} {c0 : Option Nat} {b4 : Bool} {x5 : Int} {x3b : Int} {x3b_1 : Int} {x3b_2 : Int} {x3b_3 : Int} {x3b_4 : Int} {h : Heap} :
    L_spec_l6Own_0 lo a0 n0 c0 b4 x5 x3b x3b_1 x3b_2 x3b_3 x3b_4 h = br (decide (x5 < (↑n0 : Int))) (inB (x5) n0 (eO a0 fun o_0 => eO (ld h (o_0.1) ((o_0.2) + (x5.toNat)) 1 1) fun o_1 => eC o_1 fun v_2 l_3 => eN l_3 (eI .i64 v_2 fun n_4 => br (n_4 == (1 : Int)) (inB (x5) n0 (eO a0 fun o_5 => eO (ld h (o_5.1) ((o_5.2) + (x5.toNat)) 3 2) fun o_6 => eC o_6 fun v_7 l_8 => eI .i64 v_7 fun n_9 => eC l_8 fun v_10 l_11 => eI .i64 v_10 fun n_12 => eN l_11 (br ((n_9 == x3b_3) && ((n_12 == x3b_4) && true)) (inB (x5) n0 (eO a0 fun o_13 => eO (ld h (o_13.1) ((o_13.2) + (x5.toNat)) 0 1) fun o_14 => eC o_14 fun v_15 l_16 => eN l_16 (eI .i64 v_15 fun n_17 => br (n_17 == x3b) (some (.bool true, h)) (some (.bool false, h))))) (L_spec_l6Own_0 lo a0 n0 c0 (b4) (IntKind.wrap .i64 ((x5) + 1)) (x3b) (x3b_1) (x3b_2) (x3b_3) (x3b_4) h)))) (L_spec_l6Own_0 lo a0 n0 c0 (b4) (IntKind.wrap .i64 ((x5) + 1)) (x3b) (x3b_1) (x3b_2) (x3b_3) (x3b_4) h)))) (some (.bool false, h)) :=
  Lp_eq.trans (by kernel_rfl)
noncomputable def L_spec_ChainNew_0 (lo : Nat) (x0 : Int) (x4 : Int) (q2b : Nat) (a2b : Option (Nat × Nat)) (n2b : Nat) (c2b : Option Nat) (q3b : Nat) (a3b : Option (Nat × Nat)) (n3b : Nat) (c3b : Option Nat) (h : Heap) : Option (V × Heap) :=
  Lp (X 310) lo (cb (cb (cr (cl (cr (cr (cr (code Tryz.f310)))))))) 0 (kBlock 0 (kS (X 310) lo (cr (cr (cr (cr (code Tryz.f310))))) 0 (kTop (X 310) Tryz.f310.results.toList))) ⟨[(0, .int .i64 (x0)), (2, .lp 2 0), (3, .lp 3 0), (4, .int .i64 (x4))], [(2, [.sl q2b a2b n2b c2b]), (3, [.sl q3b a3b n3b c3b])], h⟩
theorem L_spec_ChainNew_0.e {lo : Nat} {x0 : Int} {x4 : Int} {q2b : Nat} {a2b : Option (Nat × Nat)} {n2b : Nat} {c2b : Option Nat} {q3b : Nat} {a3b : Option (Nat × Nat)} {n3b : Nat} {c3b : Option Nat} {h : Heap} :
    L_spec_ChainNew_0 lo x0 x4 q2b a2b n2b c2b q3b a3b n3b c3b h = br (decide (x4 < x0)) (cal (evl lo 340 [] h) fun v_2 h_3 => eA v_2 fun c_4 => eC c_4 fun v_5 l_6 => eS 6 (v_5) fun a_7 n_8 c_9 => eN l_6 (rowsOf 2 (h_3 ++ [.rows 2 76 false [[.sl 6 a_7 n_8 c_9, .sl 0 none 0 (some 0)]]]) (.sl 2 (some ((List.length h_3), 0)) 1 (some 1)) fun x_10 => app lo 76 2 48 (.sl q3b a3b n3b c3b) x_10 (h_3 ++ [.rows 2 76 false [[.sl 6 a_7 n_8 c_9, .sl 0 none 0 (some 0)]]]) fun v_11 h_12 => eS 2 (v_11) fun a_13 n_14 c_15 => L_spec_ChainNew_0 lo (x0) (IntKind.wrap .i64 ((x4) + 1)) q2b a2b n2b c2b 2 a_13 n_14 c_15 h_12)) (some (.agg [.sl q3b a3b n3b c3b], h)) :=
  Lp_eq.trans (by kernel_rfl)
noncomputable def L_spec_l20Store_0 (lo : Nat) (pb0 : Nat) (pi0 : Nat) (pj0 : Nat) (x4 : Int) (q2b : Nat) (a2b : Option (Nat × Nat)) (n2b : Nat) (c2b : Option Nat) (a3b : Option (Nat × Nat)) (n3b : Nat) (c3b : Option Nat) (h : Heap) : Option (V × Heap) :=
  Lp (X 311) lo (cb (cb (cr (cl (cr (cr (code Tryz.f311))))))) 0 (kBlock 0 (kS (X 311) lo (cr (cr (cr (code Tryz.f311)))) 0 (kTop (X 311) Tryz.f311.results.toList))) ⟨[(0, .ptr (some (pb0, (pi0, pj0)))), (2, .lp 2 0), (3, .lp 3 0), (4, .int .i64 (x4))], [(2, [.sl q2b a2b n2b c2b]), (3, [.sl 6 a3b n3b c3b])], h⟩
theorem L_spec_l20Store_0.e {lo : Nat} {pb0 : Nat} {pi0 : Nat} {pj0 : Nat} {x4 : Int} {q2b : Nat} {a2b : Option (Nat × Nat)} {n2b : Nat} {c2b : Option Nat} {a3b : Option (Nat × Nat)} {n3b : Nat} {c3b : Option Nat} {h : Heap} :
    L_spec_l20Store_0 lo pb0 pi0 pj0 x4 q2b a2b n2b c2b a3b n3b c3b h = br (decide (x4 > (0 : Int))) (cal (evl lo 245 [.ptr (some (pb0, (pi0, pj0)))] h) fun v_11 h_12 => eA v_11 fun c_13 => eC c_13 fun v_14 l_15 => eI .i64 v_14 fun n_16 => eC l_15 fun v_17 l_18 => eI .i64 v_17 fun n_19 => eC l_18 fun v_20 l_21 => eI .i64 v_20 fun n_22 => eC l_21 fun v_23 l_24 => eS 2 (v_23) fun a_25 n_26 c_27 => eC l_24 fun v_28 l_29 => eT v_28 fun s_30 => eC l_29 fun v_31 l_32 => eBv v_31 fun b_33 => eN l_32 (cal (evl lo 312 [.agg [.sl 6 a3b n3b c3b], .agg [.int .i64 (n_16), .int .i64 (n_19), .int .i64 (n_22), .sl 2 a_25 n_26 c_27, .str (s_30), .bool (b_33)]] h_12) fun v_34 h_35 => eA v_34 fun c_36 => eC c_36 fun v_37 l_38 => eS 6 (v_37) fun a_39 n_40 c_41 => eN l_38 (L_spec_l20Store_0 lo pb0 pi0 pj0 (IntKind.wrap .i64 ((x4) - 1)) q2b a2b n2b c2b a_39 n_40 c_41 h_35))) (some (.agg [.sl 6 a3b n3b c3b], h)) :=
  Lp_eq.trans (by kernel_rfl)
theorem E_spec_l2Add {lo : Nat} {a0 : Option (Nat × Nat)} {n0 : Nat} {c0 : Option Nat} {x1 : Int} {x1_1 : Int} {x1_2 : Int} {a1 : Option (Nat × Nat)} {n1 : Nat} {c1 : Option Nat} {s1 : ByteArray} {b1 : Bool} {h : Heap} {r : V × Heap} (hk : (inB (x1) n0 (eO a0 fun o_0 => eO (ld h (o_0.1) ((o_0.2) + (x1.toNat)) 1 2) fun o_1 => eC o_1 fun v_2 l_3 => eI .i64 v_2 fun n_4 => eC l_3 fun v_5 l_6 => eI .i64 v_5 fun n_7 => eN l_6 (cal (evl lo 79 [.agg [.int .i64 (n_4), .int .i64 (n_7)], .agg [.int .i64 (x1_1), .int .i64 (x1_2)]] h) fun v_8 h_9 => eB v_8 (cal (evl lo 181 [.agg [.int .i64 (x1), .int .i64 (x1_1), .int .i64 (x1_2), .sl 2 a1 n1 c1, .str (s1), .bool (b1)]] h_9) fun v_10 h_11 => eA v_10 fun c_12 => eC c_12 fun v_13 l_14 => eI .i64 v_13 fun n_15 => eC l_14 fun v_16 l_17 => eI .i64 v_16 fun n_18 => eC l_17 fun v_19 l_20 => eI .i64 v_19 fun n_21 => eC l_20 fun v_22 l_23 => eS 2 (v_22) fun a_24 n_25 c_26 => eC l_23 fun v_27 l_28 => eT v_27 fun s_29 => eC l_28 fun v_30 l_31 => eBv v_30 fun b_32 => eN l_31 (inB (x1) n0 (eO a0 fun o_33 => eO (st lo h_11 (o_33.1) ((o_33.2) + (x1.toNat)) 0 [.int .i64 (n_15), .int .i64 (n_18), .int .i64 (n_21), .sl 2 a_24 n_25 c_26, .str (s_29), .bool (b_32)]) fun o_34 => some (.agg [.sl 6 a0 n0 c0], o_34)))) (some (.agg [.sl 6 a0 n0 c0], h_9))))) = some r) :
    evl lo 312 [.agg [.sl 6 a0 n0 c0], .agg [.int .i64 (x1), .int .i64 (x1_1), .int .i64 (x1_2), .sl 2 a1 n1 c1, .str (s1), .bool (b1)]] h = some r :=
  eval_keep Tryz.func312 (by kernel_rfl) (Eq.trans (by kernel_rfl) hk)
noncomputable def L_spec_l3SameStore_0 (lo : Nat) (b4 : Bool) (x5 : Int) (a2b : Option (Nat × Nat)) (n2b : Nat) (c2b : Option Nat) (a3b : Option (Nat × Nat)) (n3b : Nat) (c3b : Option Nat) (h : Heap) : Option (V × Heap) :=
  Lp (X 313) lo (cb (cb (cr (cl (cr (code Tryz.f313)))))) 0 (kBlock 0 (kS (X 313) lo (cr (cr (code Tryz.f313))) 0 (kTop (X 313) Tryz.f313.results.toList))) ⟨[(2, .lp 2 0), (3, .lp 3 0), (4, .bool (b4)), (5, .int .i64 (x5))], [(2, [.sl 6 a2b n2b c2b]), (3, [.sl 6 a3b n3b c3b])], h⟩
theorem E_spec_l3SameStore {lo : Nat} {a0 : Option (Nat × Nat)} {n0 : Nat} {c0 : Option Nat} {a1 : Option (Nat × Nat)} {n1 : Nat} {c1 : Option Nat} {h : Heap} {v : V} {h' : Heap} (hk : (L_spec_l3SameStore_0 (List.length h) false 0 a0 n0 c0 a1 n1 c1 h) = some (v, h')) (hn : noId v = true := by rfl) :
    evl lo 313 [.agg [.sl 6 a0 n0 c0], .agg [.sl 6 a1 n1 c1]] h = some (v, h) :=
  eval_drop Tryz.func313 (by kernel_rfl) (Eq.trans (by kernel_rfl) hk) hn
theorem L_spec_l3SameStore_0.e {lo : Nat} {b4 : Bool} {x5 : Int} {a2b : Option (Nat × Nat)} {n2b : Nat} {c2b : Option Nat} {a3b : Option (Nat × Nat)} {n3b : Nat} {c3b : Option Nat} {h : Heap} :
    L_spec_l3SameStore_0 lo b4 x5 a2b n2b c2b a3b n3b c3b h = br (decide (x5 < (4 : Int))) (inB (x5) n2b (eO a2b fun o_0 => eO (ld h (o_0.1) ((o_0.2) + (x5.toNat)) 1 2) fun o_1 => eC o_1 fun v_2 l_3 => eI .i64 v_2 fun n_4 => eC l_3 fun v_5 l_6 => eI .i64 v_5 fun n_7 => eN l_6 (inB (x5) n3b (eO a3b fun o_8 => eO (ld h (o_8.1) ((o_8.2) + (x5.toNat)) 1 2) fun o_9 => eC o_9 fun v_10 l_11 => eI .i64 v_10 fun n_12 => eC l_11 fun v_13 l_14 => eI .i64 v_13 fun n_15 => eN l_14 (br ((n_4 == n_12) && ((n_7 == n_15) && true)) (inB (x5) n2b (eO a2b fun o_16 => eO (ld h (o_16.1) ((o_16.2) + (x5.toNat)) 1 1) fun o_17 => eC o_17 fun v_18 l_19 => eN l_19 (eI .i64 v_18 fun n_20 => br (decide (n_20 > (0 : Int))) (inB (x5) n2b (eO a2b fun o_21 => eO (ld h (o_21.1) ((o_21.2) + (x5.toNat)) 0 6) fun o_22 => eC o_22 fun v_23 l_24 => eI .i64 v_23 fun n_25 => eC l_24 fun v_26 l_27 => eI .i64 v_26 fun n_28 => eC l_27 fun v_29 l_30 => eI .i64 v_29 fun n_31 => eC l_30 fun v_32 l_33 => eS 2 (v_32) fun a_34 n_35 c_36 => eC l_33 fun v_37 l_38 => eT v_37 fun s_39 => eC l_38 fun v_40 l_41 => eBv v_40 fun b_42 => eN l_41 (inB (x5) n3b (eO a3b fun o_43 => eO (ld h (o_43.1) ((o_43.2) + (x5.toNat)) 0 6) fun o_44 => eC o_44 fun v_45 l_46 => eI .i64 v_45 fun n_47 => eC l_46 fun v_48 l_49 => eI .i64 v_48 fun n_50 => eC l_49 fun v_51 l_52 => eI .i64 v_51 fun n_53 => eC l_52 fun v_54 l_55 => eS 2 (v_54) fun a_56 n_57 c_58 => eC l_55 fun v_59 l_60 => eT v_59 fun s_61 => eC l_60 fun v_62 l_63 => eBv v_62 fun b_64 => eN l_63 (cal (evl lo 275 [.agg [.int .i64 (n_25), .int .i64 (n_28), .int .i64 (n_31), .sl 2 a_34 n_35 c_36, .str (s_39), .bool (b_42)], .agg [.int .i64 (n_47), .int .i64 (n_50), .int .i64 (n_53), .sl 2 a_56 n_57 c_58, .str (s_61), .bool (b_64)]] h) fun v_65 h_66 => eB v_65 (L_spec_l3SameStore_0 lo (b4) (IntKind.wrap .i64 ((x5) + 1)) a2b n2b c2b a3b n3b c3b h_66) (some (.bool false, h_66))))))) (L_spec_l3SameStore_0 lo (b4) (IntKind.wrap .i64 ((x5) + 1)) a2b n2b c2b a3b n3b c3b h)))) (some (.bool false, h))))))) (some (.bool true, h)) :=
  Lp_eq.trans (by kernel_rfl)
theorem E_cmp_isNaN_int {lo : Nat} {x0 : Int} {h : Heap} {v : V} {h' : Heap} (hk : (br (x0 == x0) (some (.bool false, h)) (some (.bool true, h))) = some (v, h')) (hn : noId v = true := by rfl) :
    evl lo 314 [.int .i64 (x0)] h = some (v, h) :=
  eval_drop Tryz.func314 (by kernel_rfl) (Eq.trans (by kernel_rfl) hk) hn
noncomputable def L_slices_Equal_impl_Tag_impl_Tag_0 (lo : Nat) (a0 : Option (Nat × Nat)) (n0 : Nat) (c0 : Option Nat) (a1 : Option (Nat × Nat)) (n1 : Nat) (c1 : Option Nat) (b4 : Bool) (x12 : Int) (x13 : Int) (h : Heap) : Option (V × Heap) :=
  Lp (X 317) lo (cb (cb (cr (cl (cr (cr (code Tryz.f317))))))) 0 (kBlock 0 (kS (X 317) lo (cr (cr (cr (code Tryz.f317)))) 0 (kTop (X 317) Tryz.f317.results.toList))) ⟨[(0, .sl 2 a0 n0 c0), (1, .sl 2 a1 n1 c1), (4, .bool (b4)), (12, .int .i64 (x12)), (13, .int .i64 (x13))], [], h⟩
theorem E_slices_Equal_impl_Tag_impl_Tag {lo : Nat} {a0 : Option (Nat × Nat)} {n0 : Nat} {c0 : Option Nat} {a1 : Option (Nat × Nat)} {n1 : Nat} {c1 : Option Nat} {h : Heap} {v : V} {h' : Heap} (hk : (br ((↑n0 : Int) == (↑n1 : Int)) (L_slices_Equal_impl_Tag_impl_Tag_0 (List.length h) a0 n0 c0 a1 n1 c1 false ((↑n0 : Int)) 0 h) (some (.bool false, h))) = some (v, h')) (hn : noId v = true := by rfl) :
    evl lo 317 [.sl 2 a0 n0 c0, .sl 2 a1 n1 c1] h = some (v, h) :=
  eval_drop Tryz.func317 (by kernel_rfl) (Eq.trans (by kernel_rfl) hk) hn
theorem L_slices_Equal_impl_Tag_impl_Tag_0.e {lo : Nat} {a0 : Option (Nat × Nat)} {n0 : Nat} {c0 : Option Nat} {a1 : Option (Nat × Nat)} {n1 : Nat} {c1 : Option Nat} {b4 : Bool} {x12 : Int} {x13 : Int} {h : Heap} :
    L_slices_Equal_impl_Tag_impl_Tag_0 lo a0 n0 c0 a1 n1 c1 b4 x12 x13 h = br (decide (x13 < x12)) (inB (x13) n0 (eO a0 fun o_0 => eO (ld h (o_0.1) ((o_0.2) + (x13.toNat)) 0 2) fun o_1 => eC o_1 fun v_2 l_3 => eI .i64 v_2 fun n_4 => eC l_3 fun v_5 l_6 => eI .i64 v_5 fun n_7 => eN l_6 (inB (x13) n1 (eO a1 fun o_8 => eO (ld h (o_8.1) ((o_8.2) + (x13.toNat)) 0 2) fun o_9 => eC o_9 fun v_10 l_11 => eI .i64 v_10 fun n_12 => eC l_11 fun v_13 l_14 => eI .i64 v_13 fun n_15 => eN l_14 (br ((n_4 == n_12) && ((n_7 == n_15) && true)) (L_slices_Equal_impl_Tag_impl_Tag_0 lo a0 n0 c0 a1 n1 c1 (b4) (x12) (IntKind.wrap .i64 ((x13) + 1)) h) (some (.bool false, h))))))) (some (.bool true, h)) :=
  Lp_eq.trans (by kernel_rfl)
noncomputable def L_impl_textOk_0 (lo : Nat) (s0 : ByteArray) (b2 : Bool) (x5 : Int) (x6 : Int) (h : Heap) : Option (V × Heap) :=
  Lp (X 318) lo (cb (cb (cr (cl (cr (code Tryz.f318)))))) 0 (kBlock 0 (kS (X 318) lo (cr (cr (code Tryz.f318))) 0 (kTop (X 318) Tryz.f318.results.toList))) ⟨[(0, .str (s0)), (2, .bool (b2)), (5, .int .i64 (x5)), (6, .int .i64 (x6))], [], h⟩
theorem E_impl_textOk {lo : Nat} {s0 : ByteArray} {h : Heap} {v : V} {h' : Heap} (hk : (L_impl_textOk_0 (List.length h) (s0) false ((↑s0.size : Int)) 0 h) = some (v, h')) (hn : noId v = true := by rfl) :
    evl lo 318 [.str (s0)] h = some (v, h) :=
  eval_drop Tryz.func318 (by kernel_rfl) (Eq.trans (by kernel_rfl) hk) hn
theorem L_impl_textOk_0.e {lo : Nat} {s0 : ByteArray} {b2 : Bool} {x5 : Int} {x6 : Int} {h : Heap} :
    L_impl_textOk_0 lo s0 b2 x5 x6 h = br (decide (x6 < x5)) (eO (strAt (s0) (x6)) fun o_0 => cal (evl lo 85 [.int .i64 (IntKind.wrap .i64 ((↑o_0.toNat : Int))), .int .i64 33, .int .i64 126] h) fun v_1 h_2 => eB v_1 (L_impl_textOk_0 lo (s0) (b2) (x5) (IntKind.wrap .i64 ((x6) + 1)) h_2) (some (.bool false, h_2))) (br (decide ((↑s0.size : Int) ≤ (8 : Int))) (some (.bool true, h)) (some (.bool false, h))) :=
  Lp_eq.trans (by kernel_rfl)
noncomputable def L_slices_IndexFunc_impl_Tag_impl_Tag_0 (lo : Nat) (a0 : Option (Nat × Nat)) (n0 : Nat) (c0 : Option Nat) (g1 : Nat) (l1 : List V) (x4 : Int) (x7 : Int) (x8 : Int) (h : Heap) : Option (V × Heap) :=
  Lp (X 319) lo (cb (cb (cr (cl (cr (code Tryz.f319)))))) 0 (kBlock 0 (kS (X 319) lo (cr (cr (code Tryz.f319))) 0 (kTop (X 319) Tryz.f319.results.toList))) ⟨[(0, .sl 2 a0 n0 c0), (1, .fn g1 l1), (4, .int .i64 (x4)), (7, .int .i64 (x7)), (8, .int .i64 (x8))], [], h⟩
theorem E_slices_IndexFunc_impl_Tag_impl_Tag {lo : Nat} {a0 : Option (Nat × Nat)} {n0 : Nat} {c0 : Option Nat} {g1 : Nat} {l1 : List V} {h : Heap} {v : V} {h' : Heap} (hk : (L_slices_IndexFunc_impl_Tag_impl_Tag_0 (List.length h) a0 n0 c0 g1 l1 0 ((↑n0 : Int)) 0 h) = some (v, h')) (hn : noId v = true := by rfl) :
    evl lo 319 [.sl 2 a0 n0 c0, .fn g1 l1] h = some (v, h) :=
  eval_drop Tryz.func319 (by kernel_rfl) (Eq.trans (by kernel_rfl) hk) hn
theorem L_slices_IndexFunc_impl_Tag_impl_Tag_0.e {lo : Nat} {a0 : Option (Nat × Nat)} {n0 : Nat} {c0 : Option Nat} {g1 : Nat} {l1 : List V} {x4 : Int} {x7 : Int} {x8 : Int} {h : Heap} :
    L_slices_IndexFunc_impl_Tag_impl_Tag_0 lo a0 n0 c0 g1 l1 x4 x7 x8 h = br (decide (x8 < x7)) (inB (x8) n0 (eO a0 fun o_0 => eO (ld h (o_0.1) ((o_0.2) + (x8.toNat)) 0 2) fun o_1 => eC o_1 fun v_2 l_3 => eI .i64 v_2 fun n_4 => eC l_3 fun v_5 l_6 => eI .i64 v_5 fun n_7 => eN l_6 (cal (evl lo g1 (fnArgs [.agg [.int .i64 (n_4), .int .i64 (n_7)]] l1) h) fun v_8 h_9 => eB v_8 (some (.int .i64 (x8), h_9)) (L_slices_IndexFunc_impl_Tag_impl_Tag_0 lo a0 n0 c0 g1 l1 (x4) (x7) (IntKind.wrap .i64 ((x8) + 1)) h_9)))) (some (.int .i64 (-1), h)) :=
  Lp_eq.trans (by kernel_rfl)
noncomputable def L_spec_l20Events_0 (lo : Nat) (pb0 : Nat) (pi0 : Nat) (pj0 : Nat) (x3 : Int) (a10 : Option (Nat × Nat)) (n10 : Nat) (c10 : Option Nat) (x11 : Int) (a9b : Option (Nat × Nat)) (n9b : Nat) (c9b : Option Nat) (a9b_1 : Option (Nat × Nat)) (n9b_1 : Nat) (c9b_1 : Option Nat) (a9b_2 : Option (Nat × Nat)) (n9b_2 : Nat) (c9b_2 : Option Nat) (a9b_3 : Option (Nat × Nat)) (n9b_3 : Nat) (c9b_3 : Option Nat) (h : Heap) : Option (V × Heap) :=
  Lp (X 320) lo (cb (cb (cr (cl (cr (cr (cr (code Tryz.f320)))))))) 0 (kBlock 0 (kS (X 320) lo (cr (cr (cr (cr (code Tryz.f320))))) 0 (kTop (X 320) Tryz.f320.results.toList))) ⟨[(0, .ptr (some (pb0, (pi0, pj0)))), (3, .int .i64 (x3)), (9, .lp 9 0), (10, .sl 6 a10 n10 c10), (11, .int .i64 (x11))], [(9, [.sl 6 a9b n9b c9b, .sl 5 a9b_1 n9b_1 c9b_1, .sl 9 a9b_2 n9b_2 c9b_2, .sl 5 a9b_3 n9b_3 c9b_3])], h⟩
theorem L_spec_l20Events_0.e {lo : Nat} {pb0 : Nat} {pi0 : Nat} {pj0 : Nat} {x3 : Int} {a10 : Option (Nat × Nat)} {n10 : Nat} {c10 : Option Nat} {x11 : Int} {a9b : Option (Nat × Nat)} {n9b : Nat} {c9b : Option Nat} {a9b_1 : Option (Nat × Nat)} {n9b_1 : Nat} {c9b_1 : Option Nat} {a9b_2 : Option (Nat × Nat)} {n9b_2 : Nat} {c9b_2 : Option Nat} {a9b_3 : Option (Nat × Nat)} {n9b_3 : Nat} {c9b_3 : Option Nat} {h : Heap} :
    L_spec_l20Events_0 lo pb0 pi0 pj0 x3 a10 n10 c10 x11 a9b n9b c9b a9b_1 n9b_1 c9b_1 a9b_2 n9b_2 c9b_2 a9b_3 n9b_3 c9b_3 h = br (decide (x11 < x3)) (cal (evl lo 165 [.ptr (some (pb0, (pi0, pj0))), .agg [.sl 6 a9b n9b c9b, .sl 5 a9b_1 n9b_1 c9b_1, .sl 9 a9b_2 n9b_2 c9b_2, .sl 5 a9b_3 n9b_3 c9b_3]] h) fun v_23 h_24 => eA v_23 fun c_25 => eC c_25 fun v_26 l_27 => eI .i64 v_26 fun n_28 => eC l_27 fun v_29 l_30 => eI .i64 v_29 fun n_31 => eC l_30 fun v_32 l_33 => eI .i64 v_32 fun n_34 => eC l_33 fun v_35 l_36 => eI .i64 v_35 fun n_37 => eC l_36 fun v_38 l_39 => eT v_38 fun s_40 => eC l_39 fun v_41 l_42 => eBv v_41 fun b_43 => eN l_42 (cal (evl lo 96 [.agg [.sl 6 a9b n9b c9b, .sl 5 a9b_1 n9b_1 c9b_1, .sl 9 a9b_2 n9b_2 c9b_2, .sl 5 a9b_3 n9b_3 c9b_3], .agg [.int .i64 (n_28), .int .i64 (n_31), .int .i64 (n_34), .int .i64 (n_37), .str (s_40), .bool (b_43)]] h_24) fun v_44 h_45 => eU v_44 fun c_46 => eC c_46 fun v_47 l_48 => eA v_47 fun c_49 => eC c_49 fun v_50 l_51 => eS 6 (v_50) fun a_52 n_53 c_54 => eC l_51 fun v_55 l_56 => eS 5 (v_55) fun a_57 n_58 c_59 => eC l_56 fun v_60 l_61 => eS 9 (v_60) fun a_62 n_63 c_64 => eC l_61 fun v_65 l_66 => eS 5 (v_65) fun a_67 n_68 c_69 => eN l_66 (eC l_48 fun v_70 l_71 => eB v_70 (eN l_71 (rowsOf 6 (h_45 ++ [.rows 6 48 false [[.int .i64 (n_28), .int .i64 (n_31), .int .i64 (n_34), .int .i64 (n_37), .str (s_40), .bool (b_43)]]]) (.sl 6 (some ((List.length h_45), 0)) 1 (some 1)) fun x_72 => app lo 48 6 56 (.sl 6 a10 n10 c10) x_72 (h_45 ++ [.rows 6 48 false [[.int .i64 (n_28), .int .i64 (n_31), .int .i64 (n_34), .int .i64 (n_37), .str (s_40), .bool (b_43)]]]) fun v_73 h_74 => eS 6 (v_73) fun a_75 n_76 c_77 => L_spec_l20Events_0 lo pb0 pi0 pj0 (x3) a_75 n_76 c_77 (IntKind.wrap .i64 ((x11) + 1)) a_52 n_53 c_54 a_57 n_58 c_59 a_62 n_63 c_64 a_67 n_68 c_69 h_74)) (eN l_71 (cal (evl lo 109 [.ptr (some (pb0, (pi0, pj0))), .int .i64 6] h_45) fun v_78 h_79 => eI .i64 v_78 fun n_80 => br (decide (n_80 > (0 : Int))) (L_spec_l20Events_0 lo pb0 pi0 pj0 (x3) a10 n10 c10 (IntKind.wrap .i64 ((x11) + 1)) a9b n9b c9b a9b_1 n9b_1 c9b_1 a9b_2 n9b_2 c9b_2 a9b_3 n9b_3 c9b_3 h_79) (rowsOf 6 (h_79 ++ [.rows 6 48 false [[.int .i64 (n_28), .int .i64 (n_31), .int .i64 (n_34), .int .i64 (n_37), .str (s_40), .bool (b_43)]]]) (.sl 6 (some ((List.length h_79), 0)) 1 (some 1)) fun x_81 => app lo 48 6 56 (.sl 6 a10 n10 c10) x_81 (h_79 ++ [.rows 6 48 false [[.int .i64 (n_28), .int .i64 (n_31), .int .i64 (n_34), .int .i64 (n_37), .str (s_40), .bool (b_43)]]]) fun v_82 h_83 => eS 6 (v_82) fun a_84 n_85 c_86 => L_spec_l20Events_0 lo pb0 pi0 pj0 (x3) a_84 n_85 c_86 (IntKind.wrap .i64 ((x11) + 1)) a_52 n_53 c_54 a_57 n_58 c_59 a_62 n_63 c_64 a_67 n_68 c_69 h_83)))))) (some (.sl 6 a10 n10 c10, h)) :=
  Lp_eq.trans (by kernel_rfl)
noncomputable def L_spec_l5New_0 (lo : Nat) (x0 : Int) (x1 : Int) (x6 : Int) (q4b : Nat) (a4b : Option (Nat × Nat)) (n4b : Nat) (c4b : Option Nat) (q4b_1 : Nat) (a4b_1 : Option (Nat × Nat)) (n4b_1 : Nat) (c4b_1 : Option Nat) (q4b_2 : Nat) (a4b_2 : Option (Nat × Nat)) (n4b_2 : Nat) (c4b_2 : Option Nat) (q4b_3 : Nat) (a4b_3 : Option (Nat × Nat)) (n4b_3 : Nat) (c4b_3 : Option Nat) (q5b : Nat) (a5b : Option (Nat × Nat)) (n5b : Nat) (c5b : Option Nat) (q5b_1 : Nat) (a5b_1 : Option (Nat × Nat)) (n5b_1 : Nat) (c5b_1 : Option Nat) (q5b_2 : Nat) (a5b_2 : Option (Nat × Nat)) (n5b_2 : Nat) (c5b_2 : Option Nat) (q5b_3 : Nat) (a5b_3 : Option (Nat × Nat)) (n5b_3 : Nat) (c5b_3 : Option Nat) (h : Heap) : Option (V × Heap) :=
  Lp (X 321) lo (cb (cb (cr (cl (cr (cr (code Tryz.f321))))))) 0 (kBlock 0 (kS (X 321) lo (cr (cr (cr (code Tryz.f321)))) 0 (kTop (X 321) Tryz.f321.results.toList))) ⟨[(0, .int .i64 (x0)), (1, .int .i64 (x1)), (4, .lp 4 0), (5, .lp 5 0), (6, .int .i64 (x6))], [(4, [.sl q4b a4b n4b c4b, .sl q4b_1 a4b_1 n4b_1 c4b_1, .sl q4b_2 a4b_2 n4b_2 c4b_2, .sl q4b_3 a4b_3 n4b_3 c4b_3]), (5, [.sl q5b a5b n5b c5b, .sl q5b_1 a5b_1 n5b_1 c5b_1, .sl q5b_2 a5b_2 n5b_2 c5b_2, .sl q5b_3 a5b_3 n5b_3 c5b_3])], h⟩
noncomputable def L_spec_l5New_2 (lo : Nat) (x1 : Int) (x7 : Int) (q4b : Nat) (a4b : Option (Nat × Nat)) (n4b : Nat) (c4b : Option Nat) (q4b_1 : Nat) (a4b_1 : Option (Nat × Nat)) (n4b_1 : Nat) (c4b_1 : Option Nat) (q4b_2 : Nat) (a4b_2 : Option (Nat × Nat)) (n4b_2 : Nat) (c4b_2 : Option Nat) (q4b_3 : Nat) (a4b_3 : Option (Nat × Nat)) (n4b_3 : Nat) (c4b_3 : Option Nat) (q5b : Nat) (a5b : Option (Nat × Nat)) (n5b : Nat) (c5b : Option Nat) (q5b_1 : Nat) (a5b_1 : Option (Nat × Nat)) (n5b_1 : Nat) (c5b_1 : Option Nat) (q5b_2 : Nat) (a5b_2 : Option (Nat × Nat)) (n5b_2 : Nat) (c5b_2 : Option Nat) (q5b_3 : Nat) (a5b_3 : Option (Nat × Nat)) (n5b_3 : Nat) (c5b_3 : Option Nat) (h : Heap) : Option (V × Heap) :=
  Lp (X 321) lo (cb (cb (cr (cl (cr (cr (cr (code Tryz.f321)))))))) 2 (kBlock 2 (kS (X 321) lo (cr (cr (cr (cr (code Tryz.f321))))) 0 (kTop (X 321) Tryz.f321.results.toList))) ⟨[(1, .int .i64 (x1)), (4, .lp 4 0), (5, .lp 5 0), (7, .int .i64 (x7))], [(4, [.sl q4b a4b n4b c4b, .sl q4b_1 a4b_1 n4b_1 c4b_1, .sl q4b_2 a4b_2 n4b_2 c4b_2, .sl q4b_3 a4b_3 n4b_3 c4b_3]), (5, [.sl q5b a5b n5b c5b, .sl q5b_1 a5b_1 n5b_1 c5b_1, .sl q5b_2 a5b_2 n5b_2 c5b_2, .sl q5b_3 a5b_3 n5b_3 c5b_3])], h⟩
theorem L_spec_l5New_0.e {lo : Nat} {x0 : Int} {x1 : Int} {x6 : Int} {q4b : Nat} {a4b : Option (Nat × Nat)} {n4b : Nat} {c4b : Option Nat} {q4b_1 : Nat} {a4b_1 : Option (Nat × Nat)} {n4b_1 : Nat} {c4b_1 : Option Nat} {q4b_2 : Nat} {a4b_2 : Option (Nat × Nat)} {n4b_2 : Nat} {c4b_2 : Option Nat} {q4b_3 : Nat} {a4b_3 : Option (Nat × Nat)} {n4b_3 : Nat} {c4b_3 : Option Nat} {q5b : Nat} {a5b : Option (Nat × Nat)} {n5b : Nat} {c5b : Option Nat} {q5b_1 : Nat} {a5b_1 : Option (Nat × Nat)} {n5b_1 : Nat} {c5b_1 : Option Nat} {q5b_2 : Nat} {a5b_2 : Option (Nat × Nat)} {n5b_2 : Nat} {c5b_2 : Option Nat} {q5b_3 : Nat} {a5b_3 : Option (Nat × Nat)} {n5b_3 : Nat} {c5b_3 : Option Nat} {h : Heap} :
    L_spec_l5New_0 lo x0 x1 x6 q4b a4b n4b c4b q4b_1 a4b_1 n4b_1 c4b_1 q4b_2 a4b_2 n4b_2 c4b_2 q4b_3 a4b_3 n4b_3 c4b_3 q5b a5b n5b c5b q5b_1 a5b_1 n5b_1 c5b_1 q5b_2 a5b_2 n5b_2 c5b_2 q5b_3 a5b_3 n5b_3 c5b_3 h = br (decide (x6 < (3 : Int))) (cal (evl lo 351 [.int .i64 (x6), .int .i64 (x0)] h) fun v_0 h_1 => eA v_0 fun c_2 => eC c_2 fun v_3 l_4 => eI .i64 v_3 fun n_5 => eC l_4 fun v_6 l_7 => eI .i64 v_6 fun n_8 => eC l_7 fun v_9 l_10 => eS 2 (v_9) fun a_11 n_12 c_13 => eC l_10 fun v_14 l_15 => eS 6 (v_14) fun a_16 n_17 c_18 => eC l_15 fun v_19 l_20 => eS 1 (v_19) fun a_21 n_22 c_23 => eC l_20 fun v_24 l_25 => eBv v_24 fun b_26 => eN l_25 (rowsOf 6 (h_1 ++ [.rows 6 89 false [[.int .i64 (n_5), .int .i64 (n_8), .sl 2 a_11 n_12 c_13, .sl 6 a_16 n_17 c_18, .sl 1 a_21 n_22 c_23, .bool (b_26)]]]) (.sl 6 (some ((List.length h_1), 0)) 1 (some 1)) fun x_27 => app lo 89 6 96 (.sl q5b a5b n5b c5b) x_27 (h_1 ++ [.rows 6 89 false [[.int .i64 (n_5), .int .i64 (n_8), .sl 2 a_11 n_12 c_13, .sl 6 a_16 n_17 c_18, .sl 1 a_21 n_22 c_23, .bool (b_26)]]]) fun v_28 h_29 => eS 6 (v_28) fun a_30 n_31 c_32 => L_spec_l5New_0 lo (x0) (x1) (IntKind.wrap .i64 ((x6) + 1)) q4b a4b n4b c4b q4b_1 a4b_1 n4b_1 c4b_1 q4b_2 a4b_2 n4b_2 c4b_2 q4b_3 a4b_3 n4b_3 c4b_3 6 a_30 n_31 c_32 q5b_1 a5b_1 n5b_1 c5b_1 q5b_2 a5b_2 n5b_2 c5b_2 q5b_3 a5b_3 n5b_3 c5b_3 h_29)) (L_spec_l5New_2 lo (x1) 0 q4b a4b n4b c4b q4b_1 a4b_1 n4b_1 c4b_1 q4b_2 a4b_2 n4b_2 c4b_2 q4b_3 a4b_3 n4b_3 c4b_3 q5b a5b n5b c5b q5b_1 a5b_1 n5b_1 c5b_1 q5b_2 a5b_2 n5b_2 c5b_2 q5b_3 a5b_3 n5b_3 c5b_3 h) :=
  Lp_eq.trans (by kernel_rfl)
theorem L_spec_l5New_2.e {lo : Nat} {x1 : Int} {x7 : Int} {q4b : Nat} {a4b : Option (Nat × Nat)} {n4b : Nat} {c4b : Option Nat} {q4b_1 : Nat} {a4b_1 : Option (Nat × Nat)} {n4b_1 : Nat} {c4b_1 : Option Nat} {q4b_2 : Nat} {a4b_2 : Option (Nat × Nat)} {n4b_2 : Nat} {c4b_2 : Option Nat} {q4b_3 : Nat} {a4b_3 : Option (Nat × Nat)} {n4b_3 : Nat} {c4b_3 : Option Nat} {q5b : Nat} {a5b : Option (Nat × Nat)} {n5b : Nat} {c5b : Option Nat} {q5b_1 : Nat} {a5b_1 : Option (Nat × Nat)} {n5b_1 : Nat} {c5b_1 : Option Nat} {q5b_2 : Nat} {a5b_2 : Option (Nat × Nat)} {n5b_2 : Nat} {c5b_2 : Option Nat} {q5b_3 : Nat} {a5b_3 : Option (Nat × Nat)} {n5b_3 : Nat} {c5b_3 : Option Nat} {h : Heap} :
    L_spec_l5New_2 lo x1 x7 q4b a4b n4b c4b q4b_1 a4b_1 n4b_1 c4b_1 q4b_2 a4b_2 n4b_2 c4b_2 q4b_3 a4b_3 n4b_3 c4b_3 q5b a5b n5b c5b q5b_1 a5b_1 n5b_1 c5b_1 q5b_2 a5b_2 n5b_2 c5b_2 q5b_3 a5b_3 n5b_3 c5b_3 h = br (decide (x7 < x1)) (cal (evl lo 155 [] h) fun v_33 h_34 => eA v_33 fun c_35 => eC c_35 fun v_36 l_37 => eS 2 (v_36) fun a_38 n_39 c_40 => eN l_37 (rowsOf 5 (h_34 ++ [.rows 5 115 false [[.int .i64 (x7.tmod (3 : Int)), .sl 2 a_38 n_39 c_40, .int .i64 0, .int .i64 0, .int .i64 0]]]) (.sl 5 (some ((List.length h_34), 0)) 1 (some 1)) fun x_41 => app lo 115 5 56 (.sl q5b_1 a5b_1 n5b_1 c5b_1) x_41 (h_34 ++ [.rows 5 115 false [[.int .i64 (x7.tmod (3 : Int)), .sl 2 a_38 n_39 c_40, .int .i64 0, .int .i64 0, .int .i64 0]]]) fun v_42 h_43 => eS 5 (v_42) fun a_44 n_45 c_46 => L_spec_l5New_2 lo (x1) (IntKind.wrap .i64 ((x7) + 1)) q4b a4b n4b c4b q4b_1 a4b_1 n4b_1 c4b_1 q4b_2 a4b_2 n4b_2 c4b_2 q4b_3 a4b_3 n4b_3 c4b_3 q5b a5b n5b c5b 5 a_44 n_45 c_46 q5b_2 a5b_2 n5b_2 c5b_2 q5b_3 a5b_3 n5b_3 c5b_3 h_43)) (some (.agg [.sl q5b a5b n5b c5b, .sl q5b_1 a5b_1 n5b_1 c5b_1, .sl q5b_2 a5b_2 n5b_2 c5b_2, .sl q5b_3 a5b_3 n5b_3 c5b_3], h)) :=
  Lp_eq.trans (by kernel_rfl)
theorem E_impl_hasTag_1 {lo : Nat} {x0 : Int} {x0_1 : Int} {x0_2 : Int} {a0 : Option (Nat × Nat)} {n0 : Nat} {c0 : Option Nat} {s0 : ByteArray} {b0 : Bool} {pb1 : Nat} {h : Heap} {v : V} {h' : Heap} (hk : (eO (ld h pb1 0 0 2) fun o_0 => eC o_0 fun v_1 l_2 => eI .i64 v_1 fun n_3 => eC l_2 fun v_4 l_5 => eI .i64 v_4 fun n_6 => eN l_5 (br ((x0_1 == n_3) && ((x0_2 == n_6) && true)) (some (.bool true, h)) (some (.bool false, h)))) = some (v, h')) (hn : noId v = true := by rfl) :
    evl lo 322 [.agg [.int .i64 (x0), .int .i64 (x0_1), .int .i64 (x0_2), .sl 2 a0 n0 c0, .str (s0), .bool (b0)], .ptr (some (pb1, (0, 0)))] h = some (v, h) :=
  eval_drop Tryz.func322 (by kernel_rfl) (Eq.trans (by kernel_rfl) hk) hn
noncomputable def L_slices_IndexFunc_impl_Done_impl_Done_0 (lo : Nat) (a0 : Option (Nat × Nat)) (n0 : Nat) (c0 : Option Nat) (g1 : Nat) (l1 : List V) (x4 : Int) (x7 : Int) (x8 : Int) (h : Heap) : Option (V × Heap) :=
  Lp (X 327) lo (cb (cb (cr (cl (cr (code Tryz.f327)))))) 0 (kBlock 0 (kS (X 327) lo (cr (cr (code Tryz.f327))) 0 (kTop (X 327) Tryz.f327.results.toList))) ⟨[(0, .sl 5 a0 n0 c0), (1, .fn g1 l1), (4, .int .i64 (x4)), (7, .int .i64 (x7)), (8, .int .i64 (x8))], [], h⟩
theorem E_slices_IndexFunc_impl_Done_impl_Done {lo : Nat} {a0 : Option (Nat × Nat)} {n0 : Nat} {c0 : Option Nat} {g1 : Nat} {l1 : List V} {h : Heap} {v : V} {h' : Heap} (hk : (L_slices_IndexFunc_impl_Done_impl_Done_0 (List.length h) a0 n0 c0 g1 l1 0 ((↑n0 : Int)) 0 h) = some (v, h')) (hn : noId v = true := by rfl) :
    evl lo 327 [.sl 5 a0 n0 c0, .fn g1 l1] h = some (v, h) :=
  eval_drop Tryz.func327 (by kernel_rfl) (Eq.trans (by kernel_rfl) hk) hn
theorem L_slices_IndexFunc_impl_Done_impl_Done_0.e {lo : Nat} {a0 : Option (Nat × Nat)} {n0 : Nat} {c0 : Option Nat} {g1 : Nat} {l1 : List V} {x4 : Int} {x7 : Int} {x8 : Int} {h : Heap} :
    L_slices_IndexFunc_impl_Done_impl_Done_0 lo a0 n0 c0 g1 l1 x4 x7 x8 h = br (decide (x8 < x7)) (inB (x8) n0 (eO a0 fun o_0 => eO (ld h (o_0.1) ((o_0.2) + (x8.toNat)) 0 5) fun o_1 => eC o_1 fun v_2 l_3 => eI .i64 v_2 fun n_4 => eC l_3 fun v_5 l_6 => eI .i64 v_5 fun n_7 => eC l_6 fun v_8 l_9 => eI .i64 v_8 fun n_10 => eC l_9 fun v_11 l_12 => eI .i64 v_11 fun n_13 => eC l_12 fun v_14 l_15 => eI .i64 v_14 fun n_16 => eN l_15 (cal (evl lo g1 (fnArgs [.agg [.int .i64 (n_4), .int .i64 (n_7), .int .i64 (n_10), .int .i64 (n_13), .int .i64 (n_16)]] l1) h) fun v_17 h_18 => eB v_17 (some (.int .i64 (x8), h_18)) (L_slices_IndexFunc_impl_Done_impl_Done_0 lo a0 n0 c0 g1 l1 (x4) (x7) (IntKind.wrap .i64 ((x8) + 1)) h_18)))) (some (.int .i64 (-1), h)) :=
  Lp_eq.trans (by kernel_rfl)
noncomputable def L_laws_szNodeS_0 (lo : Nat) (a0 : Option (Nat × Nat)) (n0 : Nat) (c0 : Option Nat) (x1 : Int) (x4 : Int) (x5 : Int) (h : Heap) : Option (V × Heap) :=
  Lp (X 328) lo (cb (cb (cr (cl (cr (cr (cr (code Tryz.f328)))))))) 0 (kBlock 0 (kS (X 328) lo (cr (cr (cr (cr (code Tryz.f328))))) 0 (kTop (X 328) Tryz.f328.results.toList))) ⟨[(0, .sl 2 a0 n0 c0), (1, .int .i64 (x1)), (4, .int .i64 (x4)), (5, .int .i64 (x5))], [], h⟩
theorem E_laws_szNodeS {lo : Nat} {a0 : Option (Nat × Nat)} {n0 : Nat} {c0 : Option Nat} {x1 : Int} {h : Heap} {v : V} {h' : Heap} (hk : (br (decide (IntKind.i64.wrap (x1 - (↑n0 : Int)) < (0 : Int))) (some (.int .i64 (-1), h)) (L_laws_szNodeS_0 (List.length h) a0 n0 c0 (IntKind.wrap .i64 ((x1) - ((↑n0 : Int)))) 0 0 h)) = some (v, h')) (hn : noId v = true := by rfl) :
    evl lo 328 [.sl 2 a0 n0 c0, .int .i64 (x1)] h = some (v, h) :=
  eval_drop Tryz.func328 (by kernel_rfl) (Eq.trans (by kernel_rfl) hk) hn
theorem L_laws_szNodeS_0.e {lo : Nat} {a0 : Option (Nat × Nat)} {n0 : Nat} {c0 : Option Nat} {x1 : Int} {x4 : Int} {x5 : Int} {h : Heap} :
    L_laws_szNodeS_0 lo a0 n0 c0 x1 x4 x5 h = br (decide (x5 < (↑n0 : Int))) (inB (x5) n0 (eO a0 fun o_0 => eO (ld h (o_0.1) ((o_0.2) + (x5.toNat)) 0 2) fun o_1 => eC o_1 fun v_2 l_3 => eS 6 (v_2) fun a_4 n_5 c_6 => eC l_3 fun v_7 l_8 => eS 6 (v_7) fun a_9 n_10 c_11 => eN l_8 (cal (evl lo 353 [.agg [.sl 6 a_4 n_5 c_6, .sl 6 a_9 n_10 c_11], .int .i64 (x1)] h) fun v_12 h_13 => eI .i64 v_12 fun n_14 => br (decide (n_14 < (0 : Int))) (some (.int .i64 (-1), h_13)) (L_laws_szNodeS_0 lo a0 n0 c0 (n_14) (x4) (IntKind.wrap .i64 ((x5) + 1)) h_13)))) (some (.int .i64 (x1), h)) :=
  Lp_eq.trans (by kernel_rfl)
theorem E_laws_szTagS {lo : Nat} {a0 : Option (Nat × Nat)} {n0 : Nat} {c0 : Option Nat} {x1 : Int} {h : Heap} {v : V} {h' : Heap} (hk : (br (decide (IntKind.i64.wrap (x1 - (↑n0 : Int)) < (0 : Int))) (some (.int .i64 (-1), h)) (some (.int .i64 (IntKind.wrap .i64 ((x1) - ((↑n0 : Int)))), h))) = some (v, h')) (hn : noId v = true := by rfl) :
    evl lo 329 [.sl 2 a0 n0 c0, .int .i64 (x1)] h = some (v, h) :=
  eval_drop Tryz.func329 (by kernel_rfl) (Eq.trans (by kernel_rfl) hk) hn
theorem E_spec_l2Put {lo : Nat} {x0 : Int} {x0_1 : Int} {x0_2 : Int} {a0 : Option (Nat × Nat)} {n0 : Nat} {c0 : Option Nat} {s0 : ByteArray} {b0 : Bool} {h : Heap} {v : V} {h' : Heap} (hk : (cat ⟨⟨[61]⟩⟩ (s0) fun s_0 => br b0 (cal (evl (List.length h) 354 [.int .i64 (x0)] h) fun v_1 h_2 => eT v_1 fun s_3 => cat (s_3) ⟨⟨[32]⟩⟩ fun s_4 => cal (evl (List.length h) 355 [.agg [.int .i64 (x0_1), .int .i64 (x0_2)]] h_2) fun v_5 h_6 => eT v_5 fun s_7 => cat (s_4) (s_7) fun s_8 => cal (evl (List.length h) 356 [.agg [.sl 2 a0 n0 c0]] h_6) fun v_9 h_10 => eT v_9 fun s_11 => cat (s_8) (s_11) fun s_12 => cat (s_12) ⟨⟨[32]⟩⟩ fun s_13 => cat (s_13) ⟨⟨[45]⟩⟩ fun s_14 => some (.str (s_14), h_10)) (cal (evl (List.length h) 354 [.int .i64 (x0)] h) fun v_15 h_16 => eT v_15 fun s_17 => cat (s_17) ⟨⟨[32]⟩⟩ fun s_18 => cal (evl (List.length h) 355 [.agg [.int .i64 (x0_1), .int .i64 (x0_2)]] h_16) fun v_19 h_20 => eT v_19 fun s_21 => cat (s_18) (s_21) fun s_22 => cal (evl (List.length h) 356 [.agg [.sl 2 a0 n0 c0]] h_20) fun v_23 h_24 => eT v_23 fun s_25 => cat (s_22) (s_25) fun s_26 => cat (s_26) ⟨⟨[32]⟩⟩ fun s_27 => cat (s_27) (s_0) fun s_28 => some (.str (s_28), h_24))) = some (v, h')) (hn : noId v = true := by rfl) :
    evl lo 330 [.agg [.int .i64 (x0), .int .i64 (x0_1), .int .i64 (x0_2), .sl 2 a0 n0 c0, .str (s0), .bool (b0)]] h = some (v, h) :=
  by cases b0 <;> exact eval_drop Tryz.func330 (by kernel_rfl) (Eq.trans (by kernel_rfl) hk) hn
noncomputable def L_laws_toNodeS_0 (lo : Nat) (a0 : Option (Nat × Nat)) (n0 : Nat) (c0 : Option Nat) (a3 : Option (Nat × Nat)) (n3 : Nat) (c3 : Option Nat) (x4 : Int) (h : Heap) : Option (V × Heap) :=
  Lp (X 331) lo (cb (cb (cr (cl (cr (cr (code Tryz.f331))))))) 0 (kBlock 0 (kS (X 331) lo (cr (cr (cr (code Tryz.f331)))) 0 (kTop (X 331) Tryz.f331.results.toList))) ⟨[(0, .sl 2 a0 n0 c0), (3, .sl 2 a3 n3 c3), (4, .int .i64 (x4))], [], h⟩
theorem E_laws_toNodeS {lo : Nat} {a0 : Option (Nat × Nat)} {n0 : Nat} {c0 : Option Nat} {h : Heap} {r : V × Heap} (hk : (need (decide ((0 : Int) ≤ (↑n0 : Int) ∧ (↑n0 : Int) ≤ (↑n0 : Int) ∧ (↑n0 : Int) ≤ (140737488355328 : Int) ∧ (↑n0 : Int) * (↑(48 : Nat) : Int) ≤ (281474976710656 : Int))) (L_laws_toNodeS_0 lo a0 n0 c0 (some ((List.length h), 0)) n0 (some n0) 0 (h ++ [.rows 2 76 false (List.replicate n0 [.sl 0 none 0 (some 0), .sl 0 none 0 (some 0)])]))) = some r) :
    evl lo 331 [.sl 2 a0 n0 c0] h = some r :=
  eval_keep Tryz.func331 (by kernel_rfl) (Eq.trans (by kernel_rfl) hk)
theorem L_laws_toNodeS_0.e {lo : Nat} {a0 : Option (Nat × Nat)} {n0 : Nat} {c0 : Option Nat} {a3 : Option (Nat × Nat)} {n3 : Nat} {c3 : Option Nat} {x4 : Int} {h : Heap} :
    L_laws_toNodeS_0 lo a0 n0 c0 a3 n3 c3 x4 h = br (decide (x4 < (↑n0 : Int))) (inB (x4) n0 (eO a0 fun o_0 => eO (ld h (o_0.1) ((o_0.2) + (x4.toNat)) 0 2) fun o_1 => eC o_1 fun v_2 l_3 => eS 6 (v_2) fun a_4 n_5 c_6 => eC l_3 fun v_7 l_8 => eS 6 (v_7) fun a_9 n_10 c_11 => eN l_8 (cal (evl lo 357 [.agg [.sl 6 a_4 n_5 c_6, .sl 6 a_9 n_10 c_11]] h) fun v_12 h_13 => eA v_12 fun c_14 => eC c_14 fun v_15 l_16 => eS 6 (v_15) fun a_17 n_18 c_19 => eC l_16 fun v_20 l_21 => eS 6 (v_20) fun a_22 n_23 c_24 => eN l_21 (inB (x4) n3 (eO a3 fun o_25 => eO (st lo h_13 (o_25.1) ((o_25.2) + (x4.toNat)) 0 [.sl 6 a_17 n_18 c_19, .sl 6 a_22 n_23 c_24]) fun o_26 => L_laws_toNodeS_0 lo a0 n0 c0 a3 n3 c3 (IntKind.wrap .i64 ((x4) + 1)) o_26))))) (some (.sl 2 a3 n3 c3, h)) :=
  Lp_eq.trans (by kernel_rfl)
noncomputable def L_laws_toTagS_0 (lo : Nat) (a0 : Option (Nat × Nat)) (n0 : Nat) (c0 : Option Nat) (a3 : Option (Nat × Nat)) (n3 : Nat) (c3 : Option Nat) (x4 : Int) (h : Heap) : Option (V × Heap) :=
  Lp (X 332) lo (cb (cb (cr (cl (cr (cr (code Tryz.f332))))))) 0 (kBlock 0 (kS (X 332) lo (cr (cr (cr (code Tryz.f332)))) 0 (kTop (X 332) Tryz.f332.results.toList))) ⟨[(0, .sl 2 a0 n0 c0), (3, .sl 2 a3 n3 c3), (4, .int .i64 (x4))], [], h⟩
theorem E_laws_toTagS {lo : Nat} {a0 : Option (Nat × Nat)} {n0 : Nat} {c0 : Option Nat} {h : Heap} {r : V × Heap} (hk : (need (decide ((0 : Int) ≤ (↑n0 : Int) ∧ (↑n0 : Int) ≤ (↑n0 : Int) ∧ (↑n0 : Int) ≤ (140737488355328 : Int) ∧ (↑n0 : Int) * (↑(16 : Nat) : Int) ≤ (281474976710656 : Int))) (L_laws_toTagS_0 lo a0 n0 c0 (some ((List.length h), 0)) n0 (some n0) 0 (h ++ [.rows 2 60 false (List.replicate n0 [.int .i64 0, .int .i64 0])]))) = some r) :
    evl lo 332 [.sl 2 a0 n0 c0] h = some r :=
  eval_keep Tryz.func332 (by kernel_rfl) (Eq.trans (by kernel_rfl) hk)
theorem L_laws_toTagS_0.e {lo : Nat} {a0 : Option (Nat × Nat)} {n0 : Nat} {c0 : Option Nat} {a3 : Option (Nat × Nat)} {n3 : Nat} {c3 : Option Nat} {x4 : Int} {h : Heap} :
    L_laws_toTagS_0 lo a0 n0 c0 a3 n3 c3 x4 h = br (decide (x4 < (↑n0 : Int))) (inB (x4) n0 (eO a0 fun o_0 => eO (ld h (o_0.1) ((o_0.2) + (x4.toNat)) 0 2) fun o_1 => eC o_1 fun v_2 l_3 => eI .i64 v_2 fun n_4 => eC l_3 fun v_5 l_6 => eI .i64 v_5 fun n_7 => eN l_6 (cal (evl lo 280 [.agg [.int .i64 (n_4), .int .i64 (n_7)]] h) fun v_8 h_9 => eA v_8 fun c_10 => eC c_10 fun v_11 l_12 => eI .i64 v_11 fun n_13 => eC l_12 fun v_14 l_15 => eI .i64 v_14 fun n_16 => eN l_15 (inB (x4) n3 (eO a3 fun o_17 => eO (st lo h_9 (o_17.1) ((o_17.2) + (x4.toNat)) 0 [.int .i64 (n_13), .int .i64 (n_16)]) fun o_18 => L_laws_toTagS_0 lo a0 n0 c0 a3 n3 c3 (IntKind.wrap .i64 ((x4) + 1)) o_18))))) (some (.sl 2 a3 n3 c3, h)) :=
  Lp_eq.trans (by kernel_rfl)
noncomputable def L_laws_eqNodeS_0 (lo : Nat) (a0 : Option (Nat × Nat)) (n0 : Nat) (c0 : Option Nat) (a1 : Option (Nat × Nat)) (n1 : Nat) (c1 : Option Nat) (b4 : Bool) (x5 : Int) (h : Heap) : Option (V × Heap) :=
  Lp (X 333) lo (cb (cb (cr (cl (cr (cr (code Tryz.f333))))))) 0 (kBlock 0 (kS (X 333) lo (cr (cr (cr (code Tryz.f333)))) 0 (kTop (X 333) Tryz.f333.results.toList))) ⟨[(0, .sl 2 a0 n0 c0), (1, .sl 2 a1 n1 c1), (4, .bool (b4)), (5, .int .i64 (x5))], [], h⟩
theorem E_laws_eqNodeS {lo : Nat} {a0 : Option (Nat × Nat)} {n0 : Nat} {c0 : Option Nat} {a1 : Option (Nat × Nat)} {n1 : Nat} {c1 : Option Nat} {h : Heap} {v : V} {h' : Heap} (hk : (br ((↑n0 : Int) == (↑n1 : Int)) (L_laws_eqNodeS_0 (List.length h) a0 n0 c0 a1 n1 c1 false 0 h) (some (.bool false, h))) = some (v, h')) (hn : noId v = true := by rfl) :
    evl lo 333 [.sl 2 a0 n0 c0, .sl 2 a1 n1 c1] h = some (v, h) :=
  eval_drop Tryz.func333 (by kernel_rfl) (Eq.trans (by kernel_rfl) hk) hn
theorem L_laws_eqNodeS_0.e {lo : Nat} {a0 : Option (Nat × Nat)} {n0 : Nat} {c0 : Option Nat} {a1 : Option (Nat × Nat)} {n1 : Nat} {c1 : Option Nat} {b4 : Bool} {x5 : Int} {h : Heap} :
    L_laws_eqNodeS_0 lo a0 n0 c0 a1 n1 c1 b4 x5 h = br (decide (x5 < (↑n0 : Int))) (inB (x5) n0 (eO a0 fun o_0 => eO (ld h (o_0.1) ((o_0.2) + (x5.toNat)) 0 2) fun o_1 => eC o_1 fun v_2 l_3 => eS 6 (v_2) fun a_4 n_5 c_6 => eC l_3 fun v_7 l_8 => eS 6 (v_7) fun a_9 n_10 c_11 => eN l_8 (inB (x5) n1 (eO a1 fun o_12 => eO (ld h (o_12.1) ((o_12.2) + (x5.toNat)) 0 2) fun o_13 => eC o_13 fun v_14 l_15 => eS 6 (v_14) fun a_16 n_17 c_18 => eC l_15 fun v_19 l_20 => eS 6 (v_19) fun a_21 n_22 c_23 => eN l_20 (cal (evl lo 358 [.agg [.sl 6 a_4 n_5 c_6, .sl 6 a_9 n_10 c_11], .agg [.sl 6 a_16 n_17 c_18, .sl 6 a_21 n_22 c_23]] h) fun v_24 h_25 => eB v_24 (L_laws_eqNodeS_0 lo a0 n0 c0 a1 n1 c1 (b4) (IntKind.wrap .i64 ((x5) + 1)) h_25) (some (.bool false, h_25))))))) (some (.bool true, h)) :=
  Lp_eq.trans (by kernel_rfl)
noncomputable def L_laws_eqTagS_0 (lo : Nat) (a0 : Option (Nat × Nat)) (n0 : Nat) (c0 : Option Nat) (a1 : Option (Nat × Nat)) (n1 : Nat) (c1 : Option Nat) (b4 : Bool) (x5 : Int) (h : Heap) : Option (V × Heap) :=
  Lp (X 334) lo (cb (cb (cr (cl (cr (cr (code Tryz.f334))))))) 0 (kBlock 0 (kS (X 334) lo (cr (cr (cr (code Tryz.f334)))) 0 (kTop (X 334) Tryz.f334.results.toList))) ⟨[(0, .sl 2 a0 n0 c0), (1, .sl 2 a1 n1 c1), (4, .bool (b4)), (5, .int .i64 (x5))], [], h⟩
theorem E_laws_eqTagS {lo : Nat} {a0 : Option (Nat × Nat)} {n0 : Nat} {c0 : Option Nat} {a1 : Option (Nat × Nat)} {n1 : Nat} {c1 : Option Nat} {h : Heap} {v : V} {h' : Heap} (hk : (br ((↑n0 : Int) == (↑n1 : Int)) (L_laws_eqTagS_0 (List.length h) a0 n0 c0 a1 n1 c1 false 0 h) (some (.bool false, h))) = some (v, h')) (hn : noId v = true := by rfl) :
    evl lo 334 [.sl 2 a0 n0 c0, .sl 2 a1 n1 c1] h = some (v, h) :=
  eval_drop Tryz.func334 (by kernel_rfl) (Eq.trans (by kernel_rfl) hk) hn
theorem L_laws_eqTagS_0.e {lo : Nat} {a0 : Option (Nat × Nat)} {n0 : Nat} {c0 : Option Nat} {a1 : Option (Nat × Nat)} {n1 : Nat} {c1 : Option Nat} {b4 : Bool} {x5 : Int} {h : Heap} :
    L_laws_eqTagS_0 lo a0 n0 c0 a1 n1 c1 b4 x5 h = br (decide (x5 < (↑n0 : Int))) (inB (x5) n0 (eO a0 fun o_0 => eO (ld h (o_0.1) ((o_0.2) + (x5.toNat)) 0 2) fun o_1 => eC o_1 fun v_2 l_3 => eI .i64 v_2 fun n_4 => eC l_3 fun v_5 l_6 => eI .i64 v_5 fun n_7 => eN l_6 (inB (x5) n1 (eO a1 fun o_8 => eO (ld h (o_8.1) ((o_8.2) + (x5.toNat)) 0 2) fun o_9 => eC o_9 fun v_10 l_11 => eI .i64 v_10 fun n_12 => eC l_11 fun v_13 l_14 => eI .i64 v_13 fun n_15 => eN l_14 (cal (evl lo 286 [.agg [.int .i64 (n_4), .int .i64 (n_7)], .agg [.int .i64 (n_12), .int .i64 (n_15)]] h) fun v_16 h_17 => eB v_16 (L_laws_eqTagS_0 lo a0 n0 c0 a1 n1 c1 (b4) (IntKind.wrap .i64 ((x5) + 1)) h_17) (some (.bool false, h_17))))))) (some (.bool true, h)) :=
  Lp_eq.trans (by kernel_rfl)
noncomputable def L_impl_bookOf_0 (lo : Nat) (a0 : Option (Nat × Nat)) (n0 : Nat) (c0 : Option Nat) (p2 : Option (Nat × Nat × Nat)) (x3 : Int) (p4 : Option (Nat × Nat × Nat)) (a8 : Option (Nat × Nat)) (n8 : Nat) (c8 : Option Nat) (x9 : Int) (x10 : Int) (h : Heap) : Option (V × Heap) :=
  Lp (X 339) lo (cb (cb (cr (cl (cr (cr (code Tryz.f339))))))) 0 (kBlock 0 (kS (X 339) lo (cr (cr (cr (code Tryz.f339)))) 0 (kTop (X 339) Tryz.f339.results.toList))) ⟨[(0, .sl 5 a0 n0 c0), (2, .ptr p2), (3, .int .i64 (x3)), (4, .ptr p4), (8, .sl 5 a8 n8 c8), (9, .int .i64 (x9)), (10, .int .i64 (x10))], [], h⟩
theorem L_impl_bookOf_0.e {lo : Nat} {a0 : Option (Nat × Nat)} {n0 : Nat} {c0 : Option Nat} {p2 : Option (Nat × Nat × Nat)} {x3 : Int} {p4 : Option (Nat × Nat × Nat)} {a8 : Option (Nat × Nat)} {n8 : Nat} {c8 : Option Nat} {x9 : Int} {x10 : Int} {h : Heap} :
    L_impl_bookOf_0 lo a0 n0 c0 p2 x3 p4 a8 n8 c8 x9 x10 h = br (decide (x10 < x9)) (inB (x10) n8 (eO a8 fun o_3 => eO (ld h (o_3.1) ((o_3.2) + (x10.toNat)) 0 5) fun o_4 => eC o_4 fun v_5 l_6 => eI .i64 v_5 fun n_7 => eC l_6 fun v_8 l_9 => eI .i64 v_8 fun n_10 => eC l_9 fun v_11 l_12 => eI .i64 v_11 fun n_13 => eC l_12 fun v_14 l_15 => eI .i64 v_14 fun n_16 => eC l_15 fun v_17 l_18 => eI .i64 v_17 fun n_19 => eN l_18 (cal (evl lo 360 [.ptr p4, .agg [.int .i64 (n_7), .int .i64 (n_10), .int .i64 (n_13), .int .i64 (n_16), .int .i64 (n_19)]] h) fun v_20 h_21 => eB v_20 (L_impl_bookOf_0 lo a0 n0 c0 p2 (x3) p4 a8 n8 c8 (x9) (IntKind.wrap .i64 ((x10) + 1)) h_21) (some (.tup [.ptr p4, .int .i64 (x10)], h_21))))) (some (.tup [.ptr p4, .int .i64 ((↑n0 : Int))], h)) :=
  Lp_eq.trans (by kernel_rfl)
noncomputable def L_slices_insertionSortCmpFunc_impl_Ver_0 (lo : Nat) (a0 : Option (Nat × Nat)) (n0 : Nat) (c0 : Option Nat) (x1 : Int) (x2 : Int) (g3 : Nat) (l3 : List V) (x8 : Int) (h : Heap) : Option (V × Heap) :=
  Lp (X 341) lo (cb (cb (cr (code Tryz.f341)))) 0 (kBlock 0 (kTop (X 341) Tryz.f341.results.toList)) ⟨[(0, .sl 6 a0 n0 c0), (1, .int .i64 (x1)), (2, .int .i64 (x2)), (3, .fn g3 l3), (8, .int .i64 (x8))], [], h⟩
noncomputable def L_slices_insertionSortCmpFunc_impl_Ver_2 (lo : Nat) (a0 : Option (Nat × Nat)) (n0 : Nat) (c0 : Option Nat) (x1 : Int) (x2 : Int) (g3 : Nat) (l3 : List V) (x8 : Int) (x9 : Int) (h : Heap) : Option (V × Heap) :=
  Lp (X 341) lo (cb (cb (cr (cb (cl (cr (cb (cb (cr (code Tryz.f341)))))))))) 2 (kBlock 2 (kBlock 1 (kS (X 341) lo (cr (cr (cb (cb (cr (code Tryz.f341)))))) 0 (kLp (X 341) lo (cb (cb (cr (code Tryz.f341)))) 0 (kBlock 0 (kTop (X 341) Tryz.f341.results.toList)))))) ⟨[(0, .sl 6 a0 n0 c0), (1, .int .i64 (x1)), (2, .int .i64 (x2)), (3, .fn g3 l3), (8, .int .i64 (x8)), (9, .int .i64 (x9))], [], h⟩
theorem L_slices_insertionSortCmpFunc_impl_Ver_0.e {lo : Nat} {a0 : Option (Nat × Nat)} {n0 : Nat} {c0 : Option Nat} {x1 : Int} {x2 : Int} {g3 : Nat} {l3 : List V} {x8 : Int} {h : Heap} :
    L_slices_insertionSortCmpFunc_impl_Ver_0 lo a0 n0 c0 x1 x2 g3 l3 x8 h = br (decide (x8 < x2)) (L_slices_insertionSortCmpFunc_impl_Ver_2 lo a0 n0 c0 (x1) (x2) g3 l3 (x8) (x8) h) (some (.tup [], h)) :=
  Lp_eq.trans (by kernel_rfl)
theorem L_slices_insertionSortCmpFunc_impl_Ver_2.e {lo : Nat} {a0 : Option (Nat × Nat)} {n0 : Nat} {c0 : Option Nat} {x1 : Int} {x2 : Int} {g3 : Nat} {l3 : List V} {x8 : Int} {x9 : Int} {h : Heap} :
    L_slices_insertionSortCmpFunc_impl_Ver_2 lo a0 n0 c0 x1 x2 g3 l3 x8 x9 h = br (decide (x9 > x1)) (inB (x9) n0 (eO a0 fun o_0 => eO (ld h (o_0.1) ((o_0.2) + (x9.toNat)) 0 6) fun o_1 => eC o_1 fun v_2 l_3 => eI .i64 v_2 fun n_4 => eC l_3 fun v_5 l_6 => eI .i64 v_5 fun n_7 => eC l_6 fun v_8 l_9 => eI .i64 v_8 fun n_10 => eC l_9 fun v_11 l_12 => eS 2 (v_11) fun a_13 n_14 c_15 => eC l_12 fun v_16 l_17 => eT v_16 fun s_18 => eC l_17 fun v_19 l_20 => eBv v_19 fun b_21 => eN l_20 (inB (IntKind.wrap .i64 ((x9) - 1)) n0 (eO a0 fun o_22 => eO (ld h (o_22.1) ((o_22.2) + ((IntKind.i64.wrap (x9 - (1 : Int))).toNat)) 0 6) fun o_23 => eC o_23 fun v_24 l_25 => eI .i64 v_24 fun n_26 => eC l_25 fun v_27 l_28 => eI .i64 v_27 fun n_29 => eC l_28 fun v_30 l_31 => eI .i64 v_30 fun n_32 => eC l_31 fun v_33 l_34 => eS 2 (v_33) fun a_35 n_36 c_37 => eC l_34 fun v_38 l_39 => eT v_38 fun s_40 => eC l_39 fun v_41 l_42 => eBv v_41 fun b_43 => eN l_42 (cal (evl lo g3 (fnArgs [.agg [.int .i64 (n_4), .int .i64 (n_7), .int .i64 (n_10), .sl 2 a_13 n_14 c_15, .str (s_18), .bool (b_21)], .agg [.int .i64 (n_26), .int .i64 (n_29), .int .i64 (n_32), .sl 2 a_35 n_36 c_37, .str (s_40), .bool (b_43)]] l3) h) fun v_44 h_45 => eI .i64 v_44 fun n_46 => br (decide (n_46 < (0 : Int))) (inB (IntKind.wrap .i64 ((x9) - 1)) n0 (eO a0 fun o_47 => eO (ld h_45 (o_47.1) ((o_47.2) + ((IntKind.i64.wrap (x9 - (1 : Int))).toNat)) 0 6) fun o_48 => eC o_48 fun v_49 l_50 => eI .i64 v_49 fun n_51 => eC l_50 fun v_52 l_53 => eI .i64 v_52 fun n_54 => eC l_53 fun v_55 l_56 => eI .i64 v_55 fun n_57 => eC l_56 fun v_58 l_59 => eS 2 (v_58) fun a_60 n_61 c_62 => eC l_59 fun v_63 l_64 => eT v_63 fun s_65 => eC l_64 fun v_66 l_67 => eBv v_66 fun b_68 => eN l_67 (inB (x9) n0 (eO a0 fun o_69 => eO (ld h_45 (o_69.1) ((o_69.2) + (x9.toNat)) 0 6) fun o_70 => eC o_70 fun v_71 l_72 => eI .i64 v_71 fun n_73 => eC l_72 fun v_74 l_75 => eI .i64 v_74 fun n_76 => eC l_75 fun v_77 l_78 => eI .i64 v_77 fun n_79 => eC l_78 fun v_80 l_81 => eS 2 (v_80) fun a_82 n_83 c_84 => eC l_81 fun v_85 l_86 => eT v_85 fun s_87 => eC l_86 fun v_88 l_89 => eBv v_88 fun b_90 => eN l_89 (inB (x9) n0 (eO a0 fun o_91 => eO (st lo h_45 (o_91.1) ((o_91.2) + (x9.toNat)) 0 [.int .i64 (n_51), .int .i64 (n_54), .int .i64 (n_57), .sl 2 a_60 n_61 c_62, .str (s_65), .bool (b_68)]) fun o_92 => inB (IntKind.wrap .i64 ((x9) - 1)) n0 (eO a0 fun o_93 => eO (st lo o_92 (o_93.1) ((o_93.2) + ((IntKind.i64.wrap (x9 - (1 : Int))).toNat)) 0 [.int .i64 (n_73), .int .i64 (n_76), .int .i64 (n_79), .sl 2 a_82 n_83 c_84, .str (s_87), .bool (b_90)]) fun o_94 => L_slices_insertionSortCmpFunc_impl_Ver_2 lo a0 n0 c0 (x1) (x2) g3 l3 (x8) (IntKind.wrap .i64 ((x9) - 1)) o_94))))))) (L_slices_insertionSortCmpFunc_impl_Ver_0 lo a0 n0 c0 (x1) (x2) g3 l3 (IntKind.wrap .i64 ((x8) + 1)) h_45)))))) (L_slices_insertionSortCmpFunc_impl_Ver_0 lo a0 n0 c0 (x1) (x2) g3 l3 (IntKind.wrap .i64 ((x8) + 1)) h) :=
  Lp_eq.trans (by kernel_rfl)
noncomputable def L_slices_IndexFunc_impl_Node_impl_Node_0 (lo : Nat) (a0 : Option (Nat × Nat)) (n0 : Nat) (c0 : Option Nat) (g1 : Nat) (l1 : List V) (x4 : Int) (x7 : Int) (x8 : Int) (h : Heap) : Option (V × Heap) :=
  Lp (X 352) lo (cb (cb (cr (cl (cr (code Tryz.f352)))))) 0 (kBlock 0 (kS (X 352) lo (cr (cr (code Tryz.f352))) 0 (kTop (X 352) Tryz.f352.results.toList))) ⟨[(0, .sl 2 a0 n0 c0), (1, .fn g1 l1), (4, .int .i64 (x4)), (7, .int .i64 (x7)), (8, .int .i64 (x8))], [], h⟩
theorem L_slices_IndexFunc_impl_Node_impl_Node_0.e {lo : Nat} {a0 : Option (Nat × Nat)} {n0 : Nat} {c0 : Option Nat} {g1 : Nat} {l1 : List V} {x4 : Int} {x7 : Int} {x8 : Int} {h : Heap} :
    L_slices_IndexFunc_impl_Node_impl_Node_0 lo a0 n0 c0 g1 l1 x4 x7 x8 h = br (decide (x8 < x7)) (inB (x8) n0 (eO a0 fun o_0 => eO (ld h (o_0.1) ((o_0.2) + (x8.toNat)) 0 2) fun o_1 => eC o_1 fun v_2 l_3 => eS 6 (v_2) fun a_4 n_5 c_6 => eC l_3 fun v_7 l_8 => eS 6 (v_7) fun a_9 n_10 c_11 => eN l_8 (cal (evl lo g1 (fnArgs [.agg [.sl 6 a_4 n_5 c_6, .sl 6 a_9 n_10 c_11]] l1) h) fun v_12 h_13 => eB v_12 (some (.int .i64 (x8), h_13)) (L_slices_IndexFunc_impl_Node_impl_Node_0 lo a0 n0 c0 g1 l1 (x4) (x7) (IntKind.wrap .i64 ((x8) + 1)) h_13)))) (some (.int .i64 (-1), h)) :=
  Lp_eq.trans (by kernel_rfl)
theorem E_laws_szNode {lo : Nat} {a0 : Option (Nat × Nat)} {n0 : Nat} {c0 : Option Nat} {a0_1 : Option (Nat × Nat)} {n0_1 : Nat} {c0_1 : Option Nat} {x1 : Int} {h : Heap} {v : V} {h' : Heap} (hk : (cal (evl (List.length h) 366 [.agg [.sl 6 a0 n0 c0], .int .i64 (x1)] h) fun v_0 h_1 => eI .i64 v_0 fun n_2 => br (decide (n_2 < (0 : Int))) (some (.int .i64 (-1), h_1)) (cal (evl (List.length h) 271 [.sl 6 a0_1 n0_1 c0_1, .int .i64 (n_2)] h_1) fun v_3 h_4 => eI .i64 v_3 fun n_5 => br (decide (n_5 < (0 : Int))) (some (.int .i64 (-1), h_4)) (some (.int .i64 (n_5), h_4)))) = some (v, h')) (hn : noId v = true := by rfl) :
    evl lo 353 [.agg [.sl 6 a0 n0 c0, .sl 6 a0_1 n0_1 c0_1], .int .i64 (x1)] h = some (v, h) :=
  eval_drop Tryz.func353 (by kernel_rfl) (Eq.trans (by kernel_rfl) hk) hn
theorem E_spec_l1Dec {lo : Nat} {x0 : Int} {h : Heap} {v : V} {h' : Heap} (hk : (br (decide (x0 < (-9223372036854775807 : Int))) (some (.str ⟨⟨[45, 57, 50, 50, 51, 51, 55, 50, 48, 51, 54, 56, 53, 52, 55, 55, 53, 56, 48, 56]⟩⟩, h)) (br (decide (x0 < (0 : Int))) (cal (evl (List.length h) 354 [.int .i64 (IntKind.wrap .i64 (0 - (x0)))] h) fun v_0 h_1 => eT v_0 fun s_2 => cat ⟨⟨[45]⟩⟩ (s_2) fun s_3 => some (.str (s_3), h_1)) (br (decide (x0 < (10 : Int))) (rowsOf 1 (h ++ [.rows 1 5 false [[.int .u8 (IntKind.wrap .u8 (IntKind.wrap .i64 (48 + (x0))))]]]) (.sl 1 (some ((List.length h), 0)) 1 (some 1)) fun x_4 => eO (byteRows x_4) fun o_5 => some (.str (bytesOf o_5), (h ++ [.rows 1 5 false [[.int .u8 (IntKind.wrap .u8 (IntKind.wrap .i64 (48 + (x0))))]]]))) (cal (evl (List.length h) 354 [.int .i64 (IntKind.wrap .i64 (x0.tdiv (10 : Int)))] h) fun v_6 h_7 => eT v_6 fun s_8 => rowsOf 1 (h_7 ++ [.rows 1 5 false [[.int .u8 (IntKind.wrap .u8 (IntKind.wrap .i64 (48 + (x0.tmod (10 : Int)))))]]]) (.sl 1 (some ((List.length h_7), 0)) 1 (some 1)) fun x_9 => eO (byteRows x_9) fun o_10 => cat (s_8) (bytesOf o_10) fun s_11 => some (.str (s_11), (h_7 ++ [.rows 1 5 false [[.int .u8 (IntKind.wrap .u8 (IntKind.wrap .i64 (48 + (x0.tmod (10 : Int)))))]]])))))) = some (v, h')) (hn : noId v = true := by rfl) :
    evl lo 354 [.int .i64 (x0)] h = some (v, h) :=
  eval_drop Tryz.func354 (by kernel_rfl) (Eq.trans (by kernel_rfl) hk) hn
theorem E_spec_l1Put {lo : Nat} {x0 : Int} {x0_1 : Int} {h : Heap} {v : V} {h' : Heap} (hk : (cal (evl (List.length h) 354 [.int .i64 (x0)] h) fun v_0 h_1 => eT v_0 fun s_2 => cat (s_2) ⟨⟨[46]⟩⟩ fun s_3 => cal (evl (List.length h) 354 [.int .i64 (x0_1)] h_1) fun v_4 h_5 => eT v_4 fun s_6 => cat (s_3) (s_6) fun s_7 => some (.str (s_7), h_5)) = some (v, h')) (hn : noId v = true := by rfl) :
    evl lo 355 [.agg [.int .i64 (x0), .int .i64 (x0_1)]] h = some (v, h) :=
  eval_drop Tryz.func355 (by kernel_rfl) (Eq.trans (by kernel_rfl) hk) hn
noncomputable def L_spec_l2Past_0 (lo : Nat) (s3 : ByteArray) (x4 : Int) (a1b : Option (Nat × Nat)) (n1b : Nat) (c1b : Option Nat) (h : Heap) : Option (V × Heap) :=
  Lp (X 356) lo (cb (cb (cr (cl (cr (cr (code Tryz.f356))))))) 0 (kBlock 0 (kS (X 356) lo (cr (cr (cr (code Tryz.f356)))) 0 (kTop (X 356) Tryz.f356.results.toList))) ⟨[(1, .lp 1 0), (3, .str (s3)), (4, .int .i64 (x4))], [(1, [.sl 2 a1b n1b c1b])], h⟩
theorem E_spec_l2Past {lo : Nat} {a0 : Option (Nat × Nat)} {n0 : Nat} {c0 : Option Nat} {h : Heap} {v : V} {h' : Heap} (hk : (L_spec_l2Past_0 (List.length h) ⟨⟨[]⟩⟩ 0 a0 n0 c0 h) = some (v, h')) (hn : noId v = true := by rfl) :
    evl lo 356 [.agg [.sl 2 a0 n0 c0]] h = some (v, h) :=
  eval_drop Tryz.func356 (by kernel_rfl) (Eq.trans (by kernel_rfl) hk) hn
theorem L_spec_l2Past_0.e {lo : Nat} {s3 : ByteArray} {x4 : Int} {a1b : Option (Nat × Nat)} {n1b : Nat} {c1b : Option Nat} {h : Heap} :
    L_spec_l2Past_0 lo s3 x4 a1b n1b c1b h = br (decide (x4 < (↑n1b : Int))) (cat (s3) ⟨⟨[32]⟩⟩ fun s_0 => inB (x4) n1b (eO a1b fun o_1 => eO (ld h (o_1.1) ((o_1.2) + (x4.toNat)) 0 2) fun o_2 => eC o_2 fun v_3 l_4 => eI .i64 v_3 fun n_5 => eC l_4 fun v_6 l_7 => eI .i64 v_6 fun n_8 => eN l_7 (cal (evl lo 355 [.agg [.int .i64 (n_5), .int .i64 (n_8)]] h) fun v_9 h_10 => eT v_9 fun s_11 => cat (s_0) (s_11) fun s_12 => L_spec_l2Past_0 lo (s_12) (IntKind.wrap .i64 ((x4) + 1)) a1b n1b c1b h_10))) (some (.str (s3), h)) :=
  Lp_eq.trans (by kernel_rfl)
theorem E_laws_toNode {lo : Nat} {a0 : Option (Nat × Nat)} {n0 : Nat} {c0 : Option Nat} {a0_1 : Option (Nat × Nat)} {n0_1 : Nat} {c0_1 : Option Nat} {h : Heap} {r : V × Heap} (hk : (cal (evl lo 367 [.agg [.sl 6 a0 n0 c0]] h) fun v_0 h_1 => eA v_0 fun c_2 => eC c_2 fun v_3 l_4 => eS 6 (v_3) fun a_5 n_6 c_7 => eN l_4 (cal (evl lo 277 [.sl 6 a0_1 n0_1 c0_1] h_1) fun v_8 h_9 => eS 6 (v_8) fun a_10 n_11 c_12 => some (.agg [.sl 6 a_5 n_6 c_7, .sl 6 a_10 n_11 c_12], h_9))) = some r) :
    evl lo 357 [.agg [.sl 6 a0 n0 c0, .sl 6 a0_1 n0_1 c0_1]] h = some r :=
  eval_keep Tryz.func357 (by kernel_rfl) (Eq.trans (by kernel_rfl) hk)
theorem E_laws_eqNode {lo : Nat} {a0 : Option (Nat × Nat)} {n0 : Nat} {c0 : Option Nat} {a0_1 : Option (Nat × Nat)} {n0_1 : Nat} {c0_1 : Option Nat} {a1 : Option (Nat × Nat)} {n1 : Nat} {c1 : Option Nat} {a1_1 : Option (Nat × Nat)} {n1_1 : Nat} {c1_1 : Option Nat} {h : Heap} {v : V} {h' : Heap} (hk : (cal (evl (List.length h) 368 [.agg [.sl 6 a0 n0 c0], .agg [.sl 6 a1 n1 c1]] h) fun v_0 h_1 => eB v_0 (cal (evl (List.length h) 283 [.sl 6 a0_1 n0_1 c0_1, .sl 6 a1_1 n1_1 c1_1] h_1) fun v_2 h_3 => eB v_2 (some (.bool true, h_3)) (some (.bool false, h_3))) (some (.bool false, h_1))) = some (v, h')) (hn : noId v = true := by rfl) :
    evl lo 358 [.agg [.sl 6 a0 n0 c0, .sl 6 a0_1 n0_1 c0_1], .agg [.sl 6 a1 n1 c1, .sl 6 a1_1 n1_1 c1_1]] h = some (v, h) :=
  eval_drop Tryz.func358 (by kernel_rfl) (Eq.trans (by kernel_rfl) hk) hn
noncomputable def L_impl_bookNew_0 (lo : Nat) (pb1 : Nat) (pi1 : Nat) (pj1 : Nat) (x6 : Int) (h : Heap) : Option (V × Heap) :=
  Lp (X 359) lo (cb (cb (cr (cl (cr (cr (code Tryz.f359))))))) 0 (kBlock 0 (kS (X 359) lo (cr (cr (cr (code Tryz.f359)))) 0 (kTop (X 359) Tryz.f359.results.toList))) ⟨[(1, .ptr (some (pb1, (pi1, pj1)))), (6, .int .i64 (x6))], [], h⟩
theorem L_impl_bookNew_0.e {lo : Nat} {pb1 : Nat} {pi1 : Nat} {pj1 : Nat} {x6 : Int} {h : Heap} :
    L_impl_bookNew_0 lo pb1 pi1 pj1 x6 h = br (decide (x6 < (4 : Int))) (cal (evl lo 215 [] h) fun v_0 h_1 => eA v_0 fun c_2 => eC c_2 fun v_3 l_4 => eS 2 (v_3) fun a_5 n_6 c_7 => eN l_4 (inB (x6) 4 (eO (st lo h_1 pb1 pi1 ((pj1 + 0) + ((x6.toNat) * 1)) [.sl 2 a_5 n_6 c_7]) fun o_8 => L_impl_bookNew_0 lo pb1 pi1 pj1 (IntKind.wrap .i64 ((x6) + 1)) o_8))) (some (.ptr (some (pb1, (pi1, pj1))), h)) :=
  Lp_eq.trans (by kernel_rfl)
theorem E_laws_szStore {lo : Nat} {a0 : Option (Nat × Nat)} {n0 : Nat} {c0 : Option Nat} {x1 : Int} {h : Heap} {v : V} {h' : Heap} (hk : (cal (evl (List.length h) 271 [.sl 6 a0 n0 c0, .int .i64 (x1)] h) fun v_0 h_1 => eI .i64 v_0 fun n_2 => br (decide (n_2 < (0 : Int))) (some (.int .i64 (-1), h_1)) (some (.int .i64 (n_2), h_1))) = some (v, h')) (hn : noId v = true := by rfl) :
    evl lo 366 [.agg [.sl 6 a0 n0 c0], .int .i64 (x1)] h = some (v, h) :=
  eval_drop Tryz.func366 (by kernel_rfl) (Eq.trans (by kernel_rfl) hk) hn
theorem E_laws_toStore {lo : Nat} {a0 : Option (Nat × Nat)} {n0 : Nat} {c0 : Option Nat} {h : Heap} {r : V × Heap} (hk : (cal (evl lo 277 [.sl 6 a0 n0 c0] h) fun v_0 h_1 => eS 6 (v_0) fun a_2 n_3 c_4 => some (.agg [.sl 6 a_2 n_3 c_4], h_1)) = some r) :
    evl lo 367 [.agg [.sl 6 a0 n0 c0]] h = some r :=
  eval_keep Tryz.func367 (by kernel_rfl) (Eq.trans (by kernel_rfl) hk)
theorem E_laws_eqStore {lo : Nat} {a0 : Option (Nat × Nat)} {n0 : Nat} {c0 : Option Nat} {a1 : Option (Nat × Nat)} {n1 : Nat} {c1 : Option Nat} {h : Heap} {v : V} {h' : Heap} (hk : (cal (evl (List.length h) 283 [.sl 6 a0 n0 c0, .sl 6 a1 n1 c1] h) fun v_0 h_1 => eB v_0 (some (.bool true, h_1)) (some (.bool false, h_1))) = some (v, h')) (hn : noId v = true := by rfl) :
    evl lo 368 [.agg [.sl 6 a0 n0 c0], .agg [.sl 6 a1 n1 c1]] h = some (v, h) :=
  eval_drop Tryz.func368 (by kernel_rfl) (Eq.trans (by kernel_rfl) hk) hn
noncomputable def L_slices_pdqsortCmpFunc_impl_Ver_0_0_0 (lo : Nat) (a0 : Option (Nat × Nat)) (n0 : Nat) (c0 : Option Nat) (x3 : Int) (g4 : Nat) (l4 : List V) (h : Heap) : Option (V × Heap) :=
  Lp (X 315) lo (cb (cb (cr (cr (code Tryz.f315))))) 0 (kBlock 0 (kTop (X 315) Tryz.f315.results.toList)) ⟨[(0, .sl 6 a0 n0 c0), (1, .int .i64 0), (2, .int .i64 0), (3, .int .i64 (x3)), (4, .fn g4 l4), (10, .bool true), (11, .bool true)], [], h⟩
theorem L_slices_pdqsortCmpFunc_impl_Ver_0_0_0.e {lo : Nat} {a0 : Option (Nat × Nat)} {n0 : Nat} {c0 : Option Nat} {x3 : Int} {g4 : Nat} {l4 : List V} {h : Heap} :
    L_slices_pdqsortCmpFunc_impl_Ver_0_0_0 lo a0 n0 c0 x3 g4 l4 h = cal (evl lo 341 [.sl 6 a0 n0 c0, .int .i64 0, .int .i64 0, .fn g4 l4] h) fun v_0 h_1 => eU v_0 fun c_2 => eN c_2 (some (.tup [], h_1)) :=
  Lp_eq.trans (by kernel_rfl)
noncomputable def L_slices_pdqsortCmpFunc_impl_Ver_0_1_0 (lo : Nat) (a0 : Option (Nat × Nat)) (n0 : Nat) (c0 : Option Nat) (x3 : Int) (g4 : Nat) (l4 : List V) (h : Heap) : Option (V × Heap) :=
  Lp (X 315) lo (cb (cb (cr (cr (code Tryz.f315))))) 0 (kBlock 0 (kTop (X 315) Tryz.f315.results.toList)) ⟨[(0, .sl 6 a0 n0 c0), (1, .int .i64 0), (2, .int .i64 1), (3, .int .i64 (x3)), (4, .fn g4 l4), (10, .bool true), (11, .bool true)], [], h⟩
theorem L_slices_pdqsortCmpFunc_impl_Ver_0_1_0.e {lo : Nat} {a0 : Option (Nat × Nat)} {n0 : Nat} {c0 : Option Nat} {x3 : Int} {g4 : Nat} {l4 : List V} {h : Heap} :
    L_slices_pdqsortCmpFunc_impl_Ver_0_1_0 lo a0 n0 c0 x3 g4 l4 h = cal (evl lo 341 [.sl 6 a0 n0 c0, .int .i64 0, .int .i64 1, .fn g4 l4] h) fun v_0 h_1 => eU v_0 fun c_2 => eN c_2 (some (.tup [], h_1)) :=
  Lp_eq.trans (by kernel_rfl)
noncomputable def L_slices_pdqsortCmpFunc_impl_Ver_0_2_0 (lo : Nat) (a0 : Option (Nat × Nat)) (n0 : Nat) (c0 : Option Nat) (x3 : Int) (g4 : Nat) (l4 : List V) (h : Heap) : Option (V × Heap) :=
  Lp (X 315) lo (cb (cb (cr (cr (code Tryz.f315))))) 0 (kBlock 0 (kTop (X 315) Tryz.f315.results.toList)) ⟨[(0, .sl 6 a0 n0 c0), (1, .int .i64 0), (2, .int .i64 2), (3, .int .i64 (x3)), (4, .fn g4 l4), (10, .bool true), (11, .bool true)], [], h⟩
theorem L_slices_pdqsortCmpFunc_impl_Ver_0_2_0.e {lo : Nat} {a0 : Option (Nat × Nat)} {n0 : Nat} {c0 : Option Nat} {x3 : Int} {g4 : Nat} {l4 : List V} {h : Heap} :
    L_slices_pdqsortCmpFunc_impl_Ver_0_2_0 lo a0 n0 c0 x3 g4 l4 h = cal (evl lo 341 [.sl 6 a0 n0 c0, .int .i64 0, .int .i64 2, .fn g4 l4] h) fun v_0 h_1 => eU v_0 fun c_2 => eN c_2 (some (.tup [], h_1)) :=
  Lp_eq.trans (by kernel_rfl)
noncomputable def L_slices_pdqsortCmpFunc_impl_Ver_0_3_0 (lo : Nat) (a0 : Option (Nat × Nat)) (n0 : Nat) (c0 : Option Nat) (x3 : Int) (g4 : Nat) (l4 : List V) (h : Heap) : Option (V × Heap) :=
  Lp (X 315) lo (cb (cb (cr (cr (code Tryz.f315))))) 0 (kBlock 0 (kTop (X 315) Tryz.f315.results.toList)) ⟨[(0, .sl 6 a0 n0 c0), (1, .int .i64 0), (2, .int .i64 3), (3, .int .i64 (x3)), (4, .fn g4 l4), (10, .bool true), (11, .bool true)], [], h⟩
theorem L_slices_pdqsortCmpFunc_impl_Ver_0_3_0.e {lo : Nat} {a0 : Option (Nat × Nat)} {n0 : Nat} {c0 : Option Nat} {x3 : Int} {g4 : Nat} {l4 : List V} {h : Heap} :
    L_slices_pdqsortCmpFunc_impl_Ver_0_3_0 lo a0 n0 c0 x3 g4 l4 h = cal (evl lo 341 [.sl 6 a0 n0 c0, .int .i64 0, .int .i64 3, .fn g4 l4] h) fun v_0 h_1 => eU v_0 fun c_2 => eN c_2 (some (.tup [], h_1)) :=
  Lp_eq.trans (by kernel_rfl)
noncomputable def L_slices_pdqsortCmpFunc_impl_Ver_0_4_0 (lo : Nat) (a0 : Option (Nat × Nat)) (n0 : Nat) (c0 : Option Nat) (x3 : Int) (g4 : Nat) (l4 : List V) (h : Heap) : Option (V × Heap) :=
  Lp (X 315) lo (cb (cb (cr (cr (code Tryz.f315))))) 0 (kBlock 0 (kTop (X 315) Tryz.f315.results.toList)) ⟨[(0, .sl 6 a0 n0 c0), (1, .int .i64 0), (2, .int .i64 4), (3, .int .i64 (x3)), (4, .fn g4 l4), (10, .bool true), (11, .bool true)], [], h⟩
theorem L_slices_pdqsortCmpFunc_impl_Ver_0_4_0.e {lo : Nat} {a0 : Option (Nat × Nat)} {n0 : Nat} {c0 : Option Nat} {x3 : Int} {g4 : Nat} {l4 : List V} {h : Heap} :
    L_slices_pdqsortCmpFunc_impl_Ver_0_4_0 lo a0 n0 c0 x3 g4 l4 h = cal (evl lo 341 [.sl 6 a0 n0 c0, .int .i64 0, .int .i64 4, .fn g4 l4] h) fun v_0 h_1 => eU v_0 fun c_2 => eN c_2 (some (.tup [], h_1)) :=
  Lp_eq.trans (by kernel_rfl)
theorem E_impl_Ver_same_z {lo : Nat} {x0 : Int} {x0_1 : Int} {x0_2 : Int} {a0 : Option (Nat × Nat)} {n0 : Nat} {c0 : Option Nat} {s0 : ByteArray} {b0 : Bool} {h : Heap} {v : V} {h' : Heap} (hk : (br (x0 == (0 : Int)) (br ((x0_1 == (0 : Int)) && ((x0_2 == (0 : Int)) && true)) (cal (evl (List.length h) 317 [.sl 2 a0 n0 c0, .sl 0 none 0 (some 0)] h) fun v_0 h_1 => eB v_0 (br (s0.toList == (ByteArray.mk #[]).toList) (br (b0 == false) (some (.bool true, h_1)) (some (.bool false, h_1))) (some (.bool false, h_1))) (some (.bool false, h_1))) (some (.bool false, h))) (some (.bool false, h))) = some (v, h')) (hn : noId v = true := by rfl) :
    evl lo 233 [.agg [.int .i64 (x0), .int .i64 (x0_1), .int .i64 (x0_2), .sl 2 a0 n0 c0, .str (s0), .bool (b0)], .agg [.int .i64 0, .int .i64 0, .int .i64 0, .sl 0 none 0 (some 0), .str ⟨⟨[]⟩⟩, .bool false]] h = some (v, h) :=
  eval_drop Tryz.func233 (by kernel_rfl) (Eq.trans (by kernel_rfl) hk) hn
noncomputable def L_slices_Equal_impl_Tag_impl_Tag_z_0 (lo : Nat) (a0 : Option (Nat × Nat)) (n0 : Nat) (c0 : Option Nat) (q1 : Nat) (a1 : Option (Nat × Nat)) (n1 : Nat) (c1 : Option Nat) (b4 : Bool) (x12 : Int) (x13 : Int) (h : Heap) : Option (V × Heap) :=
  Lp (X 317) lo (cb (cb (cr (cl (cr (cr (code Tryz.f317))))))) 0 (kBlock 0 (kS (X 317) lo (cr (cr (cr (code Tryz.f317)))) 0 (kTop (X 317) Tryz.f317.results.toList))) ⟨[(0, .sl 2 a0 n0 c0), (1, .sl q1 a1 n1 c1), (4, .bool (b4)), (12, .int .i64 (x12)), (13, .int .i64 (x13))], [], h⟩
theorem E_slices_Equal_impl_Tag_impl_Tag_z {lo : Nat} {a0 : Option (Nat × Nat)} {n0 : Nat} {c0 : Option Nat} {h : Heap} {v : V} {h' : Heap} (hk : (br ((↑n0 : Int) == (↑(0 : Nat) : Int)) (L_slices_Equal_impl_Tag_impl_Tag_z_0 (List.length h) a0 n0 c0 0 none 0 (some 0) false ((↑n0 : Int)) 0 h) (some (.bool false, h))) = some (v, h')) (hn : noId v = true := by rfl) :
    evl lo 317 [.sl 2 a0 n0 c0, .sl 0 none 0 (some 0)] h = some (v, h) :=
  eval_drop Tryz.func317 (by kernel_rfl) (Eq.trans (by kernel_rfl) hk) hn
theorem L_slices_Equal_impl_Tag_impl_Tag_z_0.e {lo : Nat} {a0 : Option (Nat × Nat)} {n0 : Nat} {c0 : Option Nat} {q1 : Nat} {a1 : Option (Nat × Nat)} {n1 : Nat} {c1 : Option Nat} {b4 : Bool} {x12 : Int} {x13 : Int} {h : Heap} :
    L_slices_Equal_impl_Tag_impl_Tag_z_0 lo a0 n0 c0 q1 a1 n1 c1 b4 x12 x13 h = br (decide (x13 < x12)) (inB (x13) n0 (eO a0 fun o_0 => eO (ld h (o_0.1) ((o_0.2) + (x13.toNat)) 0 2) fun o_1 => eC o_1 fun v_2 l_3 => eI .i64 v_2 fun n_4 => eC l_3 fun v_5 l_6 => eI .i64 v_5 fun n_7 => eN l_6 (inB (x13) n1 (eO a1 fun o_8 => need ((q1.beq (2 : Nat)) && true) (eO (ld h (o_8.1) ((o_8.2) + (x13.toNat)) 0 2) fun o_9 => eC o_9 fun v_10 l_11 => eI .i64 v_10 fun n_12 => eC l_11 fun v_13 l_14 => eI .i64 v_13 fun n_15 => eN l_14 (br ((n_4 == n_12) && ((n_7 == n_15) && true)) (L_slices_Equal_impl_Tag_impl_Tag_z_0 lo a0 n0 c0 q1 a1 n1 c1 (b4) (x12) (IntKind.wrap .i64 ((x13) + 1)) h) (some (.bool false, h)))))))) (some (.bool true, h)) :=
  Lp_eq.trans (by kernel_rfl)
theorem E_slices_Grow_impl_Ver_impl_Ver_z {lo : Nat} {x1 : Int} {h : Heap} {r : V × Heap} (hk : (br (decide (x1 < (0 : Int))) (none) (br (decide (IntKind.i64.wrap (x1 - IntKind.i64.wrap ((↑(0 : Nat) : Int) - (↑(0 : Nat) : Int))) > (0 : Int))) (reslice none 0 (some 0) none (some (.int .i64 0)) none fun a_0 n_1 c_2 => need (decide ((0 : Int) ≤ IntKind.i64.wrap (x1 - IntKind.i64.wrap ((↑(0 : Nat) : Int) - (↑(0 : Nat) : Int))) ∧ IntKind.i64.wrap (x1 - IntKind.i64.wrap ((↑(0 : Nat) : Int) - (↑(0 : Nat) : Int))) * (↑(72 : Nat) : Int) ≤ (140737488355328 : Int))) (app lo 65 6 72 (.sl 6 a_0 n_1 c_2) (List.replicate ((IntKind.i64.wrap (x1 - IntKind.i64.wrap ((↑(0 : Nat) : Int) - (↑(0 : Nat) : Int)))).toNat) [.int .i64 0, .int .i64 0, .int .i64 0, .sl 0 none 0 (some 0), .str ⟨⟨[]⟩⟩, .bool false]) h fun v_3 h_4 => eS 6 (v_3) fun a_5 n_6 c_7 => reslice a_5 n_6 c_7 none (some (.int .i64 0)) none fun a_8 n_9 c_10 => some (.sl 6 a_8 n_9 c_10, h_4))) (some (.sl 0 none 0 (some 0), h)))) = some r) :
    evl lo 253 [.sl 0 none 0 (some 0), .int .i64 (x1)] h = some r :=
  eval_keep Tryz.func253 (by kernel_rfl) (Eq.trans (by kernel_rfl) hk)
end Go.Proofs.YthdfojchihooeaaGreat
namespace Go.Proofs.YthdfojchihooeaaGreat
open Go T
set_option linter.unusedVariables false
set_option linter.unusedSimpArgs false
structure Tag where
  time : Int
  place : Int
  deriving DecidableEq
def Tag.cs (t : Tag) : List V := [.int .i64 t.time, .int .i64 t.place]

def within (n a b : Int) : Bool := decide (a ≤ n) && decide (n ≤ b)
def tagOk (t : Int) (p : Int) : Bool := (t == 0 && p == 0) || (within t 1 999 && within p 0 2)
def less (t p t' p' : Int) : Bool := decide (t < t') || (t == t' && decide (p < p'))

section
variable {lo : Nat} {h : Heap} {a b c d e : Int}
theorem impl_within : evl lo 85 [.int .i64 a, .int .i64 b, .int .i64 c] h = some (.bool (within a b c), h) :=
  E_impl_within (h' := h) (by simp [within])
theorem spec_l1In : evl lo 78 [.int .i64 a, .int .i64 b, .int .i64 c] h = some (.bool (within a b c), h) :=
  E_spec_l1In (h' := h) (by simp [within])
theorem impl_placeOk : evl lo 140 [.int .i64 a] h = some (.bool (within a 0 2), h) := E_impl_placeOk (h' := h) (by simp [impl_within])
theorem impl_keyOk : evl lo 86 [.int .i64 a] h = some (.bool (within a 0 3), h) := E_impl_keyOk (h' := h) (by simp [impl_within])
theorem impl_TagOk : evl lo 236 [.agg [.int .i64 a, .int .i64 b]] h = some (.bool (tagOk a b), h) :=
  E_impl_TagOk (h' := h) (by simp [impl_within, impl_placeOk, tagOk])
theorem spec_l1TagOk : evl lo 250 [.agg [.int .i64 a, .int .i64 b]] h = some (.bool (tagOk a b), h) :=
  E_spec_l1TagOk (h' := h) (by simp [spec_l1In, tagOk])
theorem spec_l1Less : evl lo 79 [.agg [.int .i64 a, .int .i64 b], .agg [.int .i64 c, .int .i64 d]] h = some (.bool (less a b c d), h) :=
  E_spec_l1Less (h' := h) (by simp [less])
theorem laws_toTag : evl lo 280 [.agg [.int .i64 a, .int .i64 b]] h = some (.agg [.int .i64 a, .int .i64 b], h) := E_laws_toTag (h' := h) (by simp)
/-- the first that fits -/
def firstAt {α : Type} (p : α → Bool) : List α → Nat → Int
  | [], _ => -1
  | x :: r, k => bif p x then (k : Int) else firstAt p r (k + 1)
theorem firstAt_pos {α : Type} {p : α → Bool} : ∀ {l : List α} {k : Nat}, decide (firstAt p l k ≥ 0) = l.any p
  | [], k => by simp [firstAt]
  | x :: r, k => by
    simp only [firstAt, List.any_cons]
    by_cases h : p x = true
    · simp [h]
    · simpa [h] using firstAt_pos (p := p) (l := r) (k := k + 1)
def cmpI (a b : Int) : Int := if a < b then -1 else if b < a then 1 else 0
theorem cmp_isNaN : evl lo 314 [.int .i64 a] h = some (.bool false, h) := E_cmp_isNaN_int (h' := h) (by simp)
theorem cmp_Compare : evl lo 224 [.int .i64 a, .int .i64 b] h = some (.int .i64 (cmpI a b), h) :=
  E_cmp_Compare_int (h' := h) (by
    simp only [cmp_isNaN, cal_s, eB_b, br_f]
    unfold cmpI
    by_cases h1 : a < b
    · rw [br_pos h1, if_pos h1]
    · rw [br_neg h1, if_neg h1]
      by_cases h2 : b < a
      · rw [br_pos h2, if_pos h2]
      · rw [br_neg h2, if_neg h2])
theorem cmp_Or_two : evl lo 223 [.sl 1 (some (h.length, 0)) 2 (some 2)] (h ++ [.rows 1 3 false [[.int .i64 a], [.int .i64 b]]]) = some (.int .i64 (if a = 0 then b else a), h ++ [.rows 1 3 false [[.int .i64 a], [.int .i64 b]]]) :=
  E_cmp_Or_int (h' := h ++ [.rows 1 3 false [[.int .i64 a], [.int .i64 b]]]) (by
    rw [L_cmp_Or_int_0.e, br_pos (by decide), inB_in (by decide)]
    simp only [eO_s]
    rw [ld_last (row := [.int .i64 a]) (by rfl)]
    simp only [cut, eO_s, eC_c, eN_n, eI_int]
    by_cases h1 : a = 0
    · subst h1
      rw [if_pos rfl, show ((0 : Int) == 0) = true from rfl, br_t, show IntKind.i64.wrap (0 + 1) = ((1 : Nat) : Int) from wr_succ (k := 0) (by decide), L_cmp_Or_int_0.e, br_pos (by decide), inB_in (by decide)]
      simp only [eO_s]
      rw [ld_last (row := [.int .i64 b]) (by rfl)]
      simp only [cut, eO_s, eC_c, eN_n, eI_int]
      by_cases h2 : b = 0
      · subst h2
        rw [show ((0 : Int) == 0) = true from rfl, br_t, show IntKind.i64.wrap (((1 : Nat) : Int) + 1) = ((2 : Nat) : Int) from wr_succ (k := 1) (by decide), L_cmp_Or_int_0.e, br_neg (by decide)]
      · rw [show (b == 0) = false by simpa using h2, br_f]
    · rw [if_neg h1, show (a == 0) = false by simpa using h1, br_f])
theorem impl_compare : evl lo 112 [.agg [.int .i64 a, .int .i64 b], .agg [.int .i64 c, .int .i64 d]] h = some (.int .i64 (if cmpI a c = 0 then cmpI b d else cmpI a c), h) :=
  E_impl_Tag_compare (h' := h ++ [.rows 1 3 false [[.int .i64 (cmpI a c)], [.int .i64 (cmpI b d)]]]) (by
    simp only [cmp_Compare, cal_s, eI_int, cmp_Or_two])
theorem cmp_less : decide ((if cmpI a c = 0 then cmpI b d else cmpI a c) < 0) = less a b c d := by
  unfold cmpI less
  by_cases h1 : a < c
  · simp [h1]
  · by_cases h2 : c < a
    · simp [h1, h2]; omega
    · have : a = c := by omega
      subst this
      by_cases h3 : b < d
      · simp [h3]
      · simp [h3]; split <;> simp
theorem impl_TagLess : evl lo 35 [.agg [.int .i64 a, .int .i64 b], .agg [.int .i64 c, .int .i64 d]] h = some (.bool (less a b c d), h) :=
  E_impl_TagLess (h' := h) (by simp only [impl_compare, cal_s, eI_int, br_bool, cmp_less]; simp)
theorem laws_eqTag {a b c d : Int} : evl lo 286 [.agg [.int .i64 a, .int .i64 b], .agg [.int .i64 c, .int .i64 d]] h = some (.bool (a == c && b == d), h) :=
  E_laws_eqTag (h' := h) (by simp)
end
end Go.Proofs.YthdfojchihooeaaGreat
/- Arguments: data that came in, as blocks that are read alone. -/
namespace Go.Proofs.YthdfojchihooeaaGreat.T
open Go
set_option linter.unusedVariables false
set_option linter.unusedSimpArgs false
set_option linter.unnecessarySimpa false

/-- types of which T takes arguments: numbers, bools, strings, slices, structs whose fields stand one behind the other -/
def inFs (P : Program) (g : TypeId → Bool) : List Field → Nat → Nat → Bool
  | [], off, n => Nat.beq off n
  | f :: fs, off, n => match Nat.beq f.offset off && g f.type with
    | true => inFs P g fs (off + P.cellsOf f.type) n
    | false => false
def inTy (P : Program) : Nat → TypeId → Bool
  | 0, _ => false
  | n + 1, t => match P.underlying t with
    | some .bool => Nat.beq (P.cellsOf t) 1
    | some (.int _) => Nat.beq (P.cellsOf t) 1
    | some .string => Nat.beq (P.cellsOf t) 1
    | some (.slice e) => Nat.beq (P.cellsOf t) 1 && Nat.blt 0 (P.cellsOf e) && inTy P n e
    | some (.struct fs) => inFs P (inTy P n) fs.toList 0 (P.cellsOf t)
    | _ => false

/-- cells that look as their type says -/
def TVs (P : Program) (g : TypeId → List V → Prop) : List Field → List V → Prop
  | [], xs => xs = []
  | f :: fs, xs => ∃ ys zs, xs = ys ++ zs ∧ ys.length = P.cellsOf f.type ∧ g f.type ys ∧ TVs P g fs zs
def TV (P : Program) (h : Heap) : Nat → TypeId → List V → Prop
  | 0, _, _ => False
  | n + 1, t, xs => match P.underlying t with
    | some .bool => ∃ b, xs = [.bool b]
    | some (.int k) => ∃ i, xs = [.int k i] ∧ (Lit.int k i).wf = true
    | some .string => ∃ s, xs = [.str s] ∧ s.size ≤ maxLen
    | some (.slice e) => ∃ a c rs, xs = [.sl (P.cellsOf e) a rs.length c] ∧ rs.length ≤ maxLen ∧ (∀ row ∈ rs, row.length = P.cellsOf e ∧ TV P h n e row) ∧
        (rs = [] ∨ ∃ b, a = some (b, 0) ∧ Heap.rows? h b = some rs)
    | some (.struct fs) => TVs P (TV P h n) fs.toList xs
    | _ => False

theorem rows_pre {h h' : Heap} (hp : h <+: h') {b : Nat} {rs : List (List V)} (hb : Heap.rows? h b = some rs) : Heap.rows? h' b = some rs := by
  obtain ⟨t, rfl⟩ := hp
  unfold Heap.rows? at hb ⊢
  have hl : b < h.length := by
    apply Nat.lt_of_not_le
    intro hle
    rw [List.getElem?_eq_none hle] at hb; cases hb
  rw [List.getElem?_append_left hl]; exact hb
theorem TVs.imp {P : Program} {g g' : TypeId → List V → Prop} (hg : ∀ t xs, g t xs → g' t xs) : ∀ {fs : List Field} {xs : List V}, TVs P g fs xs → TVs P g' fs xs
  | [], xs, h => h
  | f :: fs, xs, ⟨ys, zs, h1, h2, h3, h4⟩ => ⟨ys, zs, h1, h2, hg _ _ h3, TVs.imp hg h4⟩
theorem TV.mono {P : Program} {h h' : Heap} (hp : h <+: h') : ∀ (n : Nat) (t : TypeId) (xs : List V), TV P h n t xs → TV P h' n t xs
  | 0, _, _, hx => hx
  | n + 1, t, xs, hx => by
    simp only [TV] at hx ⊢
    split at hx
    · exact hx
    · exact hx
    · exact hx
    · obtain ⟨a, c, rs, h1, h2, h3, h4⟩ := hx
      exact ⟨a, c, rs, h1, h2, fun row hr => ⟨(h3 row hr).1, TV.mono hp n _ _ (h3 row hr).2⟩, h4.imp id fun ⟨b, h5, h6⟩ => ⟨b, h5, rows_pre hp h6⟩⟩
    · exact TVs.imp (fun t xs => TV.mono hp n t xs) hx
    · exact hx
theorem firms_append {xs ys : List V} (h1 : firms xs = true) (h2 : firms ys = true) : firms (xs ++ ys) = true := by
  induction xs with
  | nil => exact h2
  | cons x r ih =>
    simp only [List.cons_append, firms] at h1 ⊢
    split at h1
    · exact ih h1
    · cases h1
theorem TVs.firm {P : Program} {g : TypeId → List V → Prop} (hg : ∀ t xs, g t xs → firms xs = true) : ∀ {l : List Field} {xs : List V}, TVs P g l xs → firms xs = true
  | [], xs, h => by simp only [TVs] at h; subst h; rfl
  | f :: l, xs, ⟨ys, zs, e, _, h3, h4⟩ => by subst e; exact firms_append (hg _ _ h3) (TVs.firm hg h4)
theorem TV.firm {P : Program} {h : Heap} : ∀ (n : Nat) (t : TypeId) (xs : List V), TV P h n t xs → firms xs = true
  | 0, _, _, hx => hx.elim
  | n + 1, t, xs, hx => by
    simp only [TV] at hx
    split at hx
    · obtain ⟨b, rfl⟩ := hx; rfl
    · obtain ⟨i, rfl, _⟩ := hx; rfl
    · obtain ⟨s, rfl, _⟩ := hx; rfl
    · obtain ⟨a, c, rs, rfl, _⟩ := hx; rfl
    · exact TVs.firm (fun t xs => TV.firm n t xs) hx
    · exact hx.elim

/-- what has been laid so far -/
structure Imp (W : World) (ρ : Rho) (h : Heap) : Prop where
  rel : HRel ρ h W
  ro : ∀ b, b < h.length → isDead h b ∨ isRo h b

theorem isDead_pre {h : Heap} {k : Blk} {b : Nat} (hb : b < h.length) (hd : isDead h b) : isDead (h ++ [k]) b := by unfold isDead at *; rw [List.getElem?_append_left hb]; exact hd
theorem isRo_pre {h : Heap} {k : Blk} {b : Nat} (hb : b < h.length) (hd : isRo h b) : isRo (h ++ [k]) b := by obtain ⟨R, e, rs, h1⟩ := hd; exact ⟨R, e, rs, by rw [List.getElem?_append_left hb]; exact h1⟩

theorem Imp.lay {W : World} {ρ : Rho} {h : Heap} (hi : Imp W ρ h) (k : Blk) (e : E) (hlt : e.r < W.heap.size) (hk : BR ρ e k W) (hro : k = .dead ∨ ∃ R e rs, k = .rows R e true rs) :
    Imp W (ρ.set h.length e) (h ++ [k]) := by
  have hle : Rle ρ (ρ.set h.length e) := Rho.set_le hi.rel.fresh
  have hnew : isDead (h ++ [k]) h.length ∨ isRo (h ++ [k]) h.length := by
    rcases hro with rfl | ⟨R, t, rs, rfl⟩
    · exact .inl (by simp [isDead])
    · exact .inr ⟨R, t, rs, by simp⟩
  have hall : ∀ b, b < (h ++ [k]).length → isDead (h ++ [k]) b ∨ isRo (h ++ [k]) b := fun b hb => by
    by_cases hx : b = h.length
    · subst hx; exact hnew
    · have : b < h.length := by simp at hb; omega
      exact (hi.ro b this).imp (isDead_pre this) (isRo_pre this)
  have hdom : ∀ b e', (ρ.set h.length e) b = some e' → b < (h ++ [k]).length ∧ e'.r < W.heap.size := fun b e' hb => by
    by_cases hx : b = h.length
    · subst hx; rw [Rho.set_same] at hb; injection hb with hb; subst hb; exact ⟨by simp, hlt⟩
    · rw [Rho.set_other hx] at hb
      have := hi.rel.dom b e' hb
      exact ⟨by simp; omega, by omega⟩
  refine ⟨⟨hdom, fun b e' k' hb hk' => ?_, fun b b' e1 e2 h1 h2 hr hne => ?_⟩, hall⟩
  · by_cases hx : b = h.length
    · subst hx; rw [Rho.set_same] at hb; injection hb with hb; subst hb
      simp at hk'; subst hk'
      exact BR.mono hle rfl hk
    · rw [Rho.set_other hx] at hb
      have := (hi.rel.dom b e' hb).1
      rw [List.getElem?_append_left this] at hk'
      exact BR.mono hle rfl (hi.rel.blk b e' k' hb hk')
  · have g1 := hall b (hdom b e1 h1).1
    have g2 := hall b' (hdom b' e2 h2).1
    rcases g1 with g1 | g1
    · exact .inl g1
    · rcases g2 with g2 | g2
      · exact .inr (.inl g2)
      · exact .inr (.inr ⟨g1, g2⟩)

section
variable {P : Program} {W : World} {H : Type} {enc : TypeId × Value → H}

theorem cells_some {base : Nat} {a : Addr} {n : Nat} {cs : List Value} (h : W.cells? base a n = some cs) : cs.length = n ∧ ∀ (i : Nat) (c : Value), cs[i]? = some c → W.cell? (a.add i) = some c := by
  unfold World.cells? at h
  split at h
  · have hl : cs.length = n := by simpa using mapM_some_length h
    refine ⟨hl, fun i c hc => ?_⟩
    have hi : i < n := by have := (List.getElem?_eq_some_iff.1 hc).1; omega
    have := mapM_some_get h i i (by simp [hi])
    rw [this, hc]
  · cases h
theorem cell_block {a : Addr} {c : Value} (h : W.cell? a = some c) : ∃ cs el fr, W.heap[a.block]? = some (.cells cs el fr) ∧ a.spot = none ∧ cs[a.off]? = some c := by
  unfold World.cell? at h
  split at h
  · rename_i cs el fr he
    split at h
    · cases h
    · rename_i hs; exact ⟨cs, el, fr, he, by simpa using hs, h⟩
  · cases h

/-- data that came in, laid as blocks that are read alone -/
def Lays (P : Program) (W : World) (n : Nat) (t : TypeId) (cs : List Value) : Prop :=
  ∀ ρ h, Imp W ρ h → ∃ (ρ' : Rho) (h' : Heap) (xs : List V), Rle ρ ρ' ∧ h <+: h' ∧ Imp W ρ' h' ∧ VRs ρ' xs cs ∧ TV P h' n t xs

theorem lays_rows {n : Nat} {t : TypeId} {R : Nat} : ∀ (css : List (List Value)), (∀ cs ∈ css, cs.length = R ∧ Lays P W n t cs) → ∀ ρ h, Imp W ρ h →
    ∃ (ρ' : Rho) (h' : Heap) (rs : List (List V)), Rle ρ ρ' ∧ h <+: h' ∧ Imp W ρ' h' ∧ rs.length = css.length ∧ (∀ (i : Nat) (row : List V), rs[i]? = some row → ∃ cs, css[i]? = some cs ∧ VRs ρ' row cs ∧ row.length = R ∧ TV P h' n t row)
  | [], _, ρ, h, hi => ⟨ρ, h, [], Rle.refl _, List.prefix_refl _, hi, rfl, fun i row hr => by simp at hr⟩
  | cs :: css, hc, ρ, h, hi => by
    obtain ⟨ρ1, h1, xs, a1, a2, a3, a4, a5⟩ := (hc cs (by simp)).2 ρ h hi
    obtain ⟨ρ2, h2, rs, b1, b2, b3, b4, b5⟩ := lays_rows css (fun c hcc => hc c (by simp [hcc])) ρ1 h1 a3
    refine ⟨ρ2, h2, xs :: rs, a1.trans b1, a2.trans b2, b3, by simp [b4], fun i row hr => ?_⟩
    cases i with
    | zero =>
      simp at hr; subst hr
      exact ⟨cs, rfl, VRs.mono b1 _ _ a4, by rw [a4.length]; exact (hc cs (by simp)).1, TV.mono b2 _ _ _ a5⟩
    | succ i =>
      simp at hr
      obtain ⟨c, g1, g2⟩ := b5 i row hr
      exact ⟨c, by simpa using g1, g2⟩

theorem lays_fields {n : Nat} {cs : List Value} : ∀ (fs : List Field) (off : Nat), inFs P (inTy P n) fs off cs.length = true → (∀ f ∈ fs, inTy P n f.type = true → Lays P W n f.type ((cs.drop f.offset).take (P.cellsOf f.type))) → ∀ ρ h, Imp W ρ h →
    ∃ (ρ' : Rho) (h' : Heap) (xs : List V), Rle ρ ρ' ∧ h <+: h' ∧ Imp W ρ' h' ∧ VRs ρ' xs (cs.drop off) ∧ TVs P (TV P h' n) fs xs ∧ off ≤ cs.length
  | [], off, hin, _, ρ, h, hi => by
    simp only [inFs] at hin
    have := Nat.eq_of_beq_eq_true hin
    exact ⟨ρ, h, [], Rle.refl _, List.prefix_refl _, hi, by rw [List.drop_eq_nil_of_le (by omega)]; exact VRs.nil, rfl, by omega⟩
  | f :: fs, off, hin, hl, ρ, h, hi => by
    simp only [inFs] at hin
    split at hin
    · rename_i hc
      simp only [Bool.and_eq_true] at hc
      have ho := Nat.eq_of_beq_eq_true hc.1
      obtain ⟨ρ1, h1, xs, a1, a2, a3, a4, a5⟩ := hl f (by simp) hc.2 ρ h hi
      obtain ⟨ρ2, h2, ys, b1, b2, b3, b4, b5, b6⟩ := lays_fields fs (off + P.cellsOf f.type) hin (fun g hg => hl g (by simp [hg])) ρ1 h1 a3
      rw [ho] at a4
      have hlen := a4.length
      refine ⟨ρ2, h2, xs ++ ys, a1.trans b1, a2.trans b2, b3, ?_, ⟨xs, ys, rfl, ?_, TV.mono b2 _ _ _ a5, b5⟩, by omega⟩
      · have := (VRs.mono b1 _ _ a4).append b4
        rwa [← List.drop_drop, List.take_append_drop] at this
      · rw [hlen]; simp; omega
    · cases hin

theorem lays : ∀ (n : Nat) (t : TypeId), inTy P n t = true → ∀ (fuel : Nat) (cs : List Value) (x : DataW H × List MemPlace), DataW.trod enc P W 0 (fun _ => true) true fuel t cs = some x →
    (∀ a l c, Value.slice (some a) l c ∈ cs → 0 < W.heap.size) → Lays P W n t cs := by
  intro n
  induction n with
  | zero => intro t h; simp [inTy] at h
  | succ n ih =>
    intro t hin fuel cs x hx hpos ρ h hi
    simp only [inTy] at hin
    split at hin
    · rename_i hu
      obtain ⟨b, rfl, _⟩ := DataW.trod_bool hu hx
      exact ⟨ρ, h, [.bool b], Rle.refl _, List.prefix_refl _, hi, VRs.cons VR.bool' VRs.nil, by simp only [TV, hu]; exact ⟨b, rfl⟩⟩
    · rename_i k hu
      obtain ⟨i, rfl, _, hw⟩ := DataW.trod_int hu hx
      exact ⟨ρ, h, [.int k i], Rle.refl _, List.prefix_refl _, hi, VRs.cons VR.int' VRs.nil, by simp only [TV, hu]; exact ⟨i, rfl, hw⟩⟩
    · rename_i hu
      obtain ⟨s, rfl, _, hw⟩ := DataW.trod_string hu hx
      exact ⟨ρ, h, [.str s], Rle.refl _, List.prefix_refl _, hi, VRs.cons (by simp [VR]) VRs.nil, by simp only [TV, hu]; exact ⟨s, rfl, hw⟩⟩
    · rename_i e hu
      simp only [Bool.and_eq_true] at hin
      have hR : 0 < P.cellsOf e := by have := hin.1.2; simpa [Nat.blt_eq] using this
      rcases DataW.trod_slice hu hx with ⟨rfl, _⟩ | ⟨a, len, cap, elems, rest, m, rfl, rfl, _, _, hlc, hcm, hel, hg, hsp, _⟩
      · exact ⟨ρ, h, [.sl (P.cellsOf e) none 0 (some 0)], Rle.refl _, List.prefix_refl _, hi, VRs.cons (by simp [VR]) VRs.nil, by
          simp only [TV, hu]; exact ⟨none, some 0, [], rfl, Nat.zero_le _, fun r hr => (by cases hr), .inl rfl⟩⟩
      · -- the rows
        have hrow : ∀ i, i < len → ∃ c y, W.cells? 0 (a.add (i * P.cellsOf e)) (P.cellsOf e) = some c ∧ DataW.trod enc P W 0 (fun _ => true) true m e c = some y := fun i hi' => by
          have h1 := hg i hi'
          rw [List.getElem?_eq_getElem (by omega)] at h1
          obtain ⟨c, h2, h3⟩ := Option.bind_eq_some_iff.1 h1
          exact ⟨c, _, h2, h3⟩
        have hspare : ∀ j, len + j < cap → ∃ c, W.cells? 0 (a.add ((len + j) * P.cellsOf e)) (P.cellsOf e) = some c := fun j hj => by
          obtain ⟨h0, h1⟩ := hsp rfl
          have h1 := h1 j (by omega)
          rw [List.getElem?_eq_getElem (by omega)] at h1
          obtain ⟨c, h2, _⟩ := Option.bind_eq_some_iff.1 h1
          exact ⟨c, h2⟩
        by_cases hcap : cap = 0
        · -- no room at all
          subst hcap
          have hl0 : len = 0 := by omega
          subst hl0
          have hp := hpos a 0 0 (by simp)
          have hi2 := hi.lay .dead ⟨0, 0, P.cellsOf e, 0, 0⟩ hp trivial (.inl rfl)
          refine ⟨_, _, [.sl (P.cellsOf e) (some (h.length, 0)) 0 (some 0)], Rho.set_le hi.rel.fresh, ⟨_, rfl⟩, hi2, VRs.cons ?_ VRs.nil, ?_⟩
          · simp only [VR]; exact ⟨_, a, 0, Rho.set_same _ _ _, rfl, rfl, .inl rfl, Nat.le_refl _, fun y hy => by injection hy, fun hc => by cases hc⟩
          · simp only [TV, hu]; exact ⟨_, _, [], rfl, Nat.zero_le _, fun r hr => (by cases hr), .inl rfl⟩
        · -- the block
          have hblk : ∃ carr el fr, W.heap[a.block]? = some (.cells carr el fr) ∧ a.spot = none := by
            have : ∃ c, W.cells? 0 (a.add (0 * P.cellsOf e)) (P.cellsOf e) = some c := by
              by_cases hl0 : len = 0
              · have := hspare 0 (by omega); rw [hl0] at this; simpa using this
              · obtain ⟨c, _, h2, _⟩ := hrow 0 (by omega); exact ⟨c, h2⟩
            obtain ⟨c, hc⟩ := this
            obtain ⟨c1, c2⟩ := cells_some hc
            have h0 : c[0]? = some c[0] := List.getElem?_eq_getElem (by omega)
            obtain ⟨carr, el, fr, h1, h2, _⟩ := cell_block (c2 0 _ h0)
            have e1 : (a.add (0 * P.cellsOf e)).add 0 = a := by simp [Addr.add]
            rw [e1] at h1 h2
            exact ⟨carr, el, fr, h1, h2⟩
          obtain ⟨carr, el, fr, hW, hspot⟩ := hblk
          obtain ⟨r, o, sp⟩ := a
          simp only at hW hspot
          subst hspot
          have hlt : r < W.heap.size := by
            apply Nat.lt_of_not_le
            intro hle
            rw [Array.getElem?_eq_none hle] at hW; cases hW
          have hcells : ∀ i, i < len → ∃ c y, c.length = P.cellsOf e ∧ (∀ (j : Nat) (v : Value), c[j]? = some v → carr[o + (i * P.cellsOf e + j)]? = some v) ∧ DataW.trod enc P W 0 (fun _ => true) true m e c = some y := fun i hi' => by
            obtain ⟨c, y, h1, h2⟩ := hrow i hi'
            obtain ⟨c1, c2⟩ := cells_some h1
            refine ⟨c, y, c1, fun j v hv => ?_, h2⟩
            have := c2 j v hv
            rw [add_mk, add_mk, cell_at hW] at this
            rw [← this]; congr 1; omega
          have hall : ∃ css : List (List Value), css.length = len ∧ ∀ i, i < len → ∃ c y, css[i]? = some c ∧ c.length = P.cellsOf e ∧ (∀ (j : Nat) (v : Value), c[j]? = some v → carr[o + (i * P.cellsOf e + j)]? = some v) ∧ DataW.trod enc P W 0 (fun _ => true) true m e c = some y := by
            refine ⟨(List.range len).map fun i => if hi' : i < len then (hcells i hi').choose else [], by simp, fun i hi' => ?_⟩
            obtain ⟨y, h1, h2, h3⟩ := (hcells i hi').choose_spec
            exact ⟨_, y, by simp [hi'], h1, h2, h3⟩
          obtain ⟨css, hcl, hcs⟩ := hall
          obtain ⟨ρ1, h1, rs, a1, a2, a3, a4, a5⟩ := lays_rows (P := P) (W := W) (n := n) (t := e) (R := P.cellsOf e) css (fun c hc => by
            obtain ⟨i, hi'⟩ := List.mem_iff_getElem?.1 hc
            have hlt := (List.getElem?_eq_some_iff.1 hi').1
            obtain ⟨c', y, g1, g2, g3, g4⟩ := hcs i (by omega)
            rw [hi'] at g1; injection g1 with g1; subst g1
            exact ⟨g2, ih e hin.2 m c y g4 fun _ _ _ _ => by omega⟩) ρ h hi
          by_cases hl0 : len = 0
          · have hrs : rs = [] := List.eq_nil_of_length_eq_zero (by omega)
            subst hrs
            have hi2 := a3.lay .dead ⟨r, o, P.cellsOf e, 0, 0⟩ hlt trivial (.inl rfl)
            refine ⟨_, _, [.sl (P.cellsOf e) (some (h1.length, 0)) 0 (some cap)], a1.trans (Rho.set_le a3.rel.fresh), a2.trans ⟨_, rfl⟩, hi2, VRs.cons ?_ VRs.nil, ?_⟩
            · simp only [VR]; exact ⟨_, ⟨r, o, none⟩, cap, Rho.set_same _ _ _, rfl, by rw [hl0], .inr (by simp), by omega, fun y hy => by injection hy, fun hc => by cases hc⟩
            · simp only [TV, hu]; exact ⟨_, _, [], rfl, Nat.zero_le _, fun r hr => (by cases hr), .inl rfl⟩
          · have hrl : rs.length = len := by omega
            have hbr : BR ρ1 ⟨r, o, P.cellsOf e, rs.length, rs.length⟩ (.rows (P.cellsOf e) el true rs) W := by
              refine ⟨carr, fr, ?_, fun h => (by cases h), rfl, rfl, Nat.le_refl _, ?_, fun i row hr => ?_, .inr ⟨rfl, fun j c g1 g2 g3 => ?_⟩⟩
              · exact hW
              · obtain ⟨c, y, g1, g2, g3, _⟩ := hcs (len - 1) (by omega)
                have := g3 (P.cellsOf e - 1) _ (List.getElem?_eq_getElem (by omega))
                have hb := (Array.getElem?_eq_some_iff.1 this).1
                have e1 : rs.length * P.cellsOf e = (len - 1) * P.cellsOf e + P.cellsOf e := by rw [hrl, ← Nat.succ_mul]; congr 1; omega
                show o + rs.length * P.cellsOf e ≤ carr.size
                omega
              · obtain ⟨c, g1, g2, g3, _⟩ := a5 i row hr
                refine ⟨g3, fun j v hv => ?_⟩
                have hlt := (List.getElem?_eq_some_iff.1 hr).1
                obtain ⟨c', y, k1, k2, k3, _⟩ := hcs i (by omega)
                rw [g1] at k1; injection k1 with k1; subst k1
                obtain ⟨z, z1, z2⟩ := g2.get j v hv
                exact ⟨z, k3 j z z1, z2⟩
              · obtain ⟨q, hq⟩ : ∃ q, j = o + q := ⟨j - o, by simp only at g1; omega⟩
                have hq2 : q < rs.length * P.cellsOf e := by simp only at g2; omega
                have hdiv : q / P.cellsOf e < rs.length := (Nat.div_lt_iff_lt_mul hR).2 hq2
                have hmod : q % P.cellsOf e < P.cellsOf e := Nat.mod_lt _ hR
                have hqq : q = q / P.cellsOf e * P.cellsOf e + q % P.cellsOf e := by rw [Nat.mul_comm]; exact (Nat.div_add_mod q _).symm
                obtain ⟨c0, k1, k2, k3, k4⟩ := a5 (q / P.cellsOf e) _ (List.getElem?_eq_getElem hdiv)
                obtain ⟨c', y, l1, l2, l3, _⟩ := hcs (q / P.cellsOf e) (by omega)
                rw [k1] at l1; injection l1 with l1; subst l1
                have hz := l3 (q % P.cellsOf e) _ (List.getElem?_eq_getElem (by omega))
                rw [← hqq, ← hq, g3] at hz
                injection hz with hz
                rw [hz]
                exact one_of_firms k2 (TV.firm _ _ _ k4) _ (List.getElem_mem _)
            have hi2 := a3.lay (.rows (P.cellsOf e) el true rs) ⟨r, o, P.cellsOf e, rs.length, rs.length⟩ hlt hbr (.inr ⟨_, _, _, rfl⟩)
            refine ⟨_, _, [.sl (P.cellsOf e) (some (h1.length, 0)) rs.length (some cap)], a1.trans (Rho.set_le a3.rel.fresh), a2.trans ⟨_, rfl⟩, hi2, VRs.cons ?_ VRs.nil, ?_⟩
            · simp only [VR]; exact ⟨_, ⟨r, o, none⟩, cap, Rho.set_same _ _ _, rfl, by rw [hrl], .inr (by simp), by omega, fun y hy => by injection hy, fun hc => by cases hc⟩
            · simp only [TV, hu]
              refine ⟨_, _, rs, rfl, by omega, fun row hr => ?_, .inr ⟨_, rfl, by simp [Heap.rows?]⟩⟩
              obtain ⟨i, hi'⟩ := List.mem_iff_getElem?.1 hr
              obtain ⟨c, _, _, g3, g4⟩ := a5 i row hi'
              exact ⟨g3, TV.mono ⟨_, rfl⟩ _ _ _ g4⟩
    · rename_i fs hu
      obtain ⟨xs, m, rfl, _, hl, hxl, hf⟩ := DataW.trod_struct hu hx
      rw [← hl] at hin
      obtain ⟨ρ', h', ys, b1, b2, b3, b4, b5, _⟩ := lays_fields (P := P) (W := W) (n := n) (cs := cs) fs.toList 0 hin (fun f hfm hft => by
        obtain ⟨i, hi'⟩ := List.mem_iff_getElem?.1 hfm
        have hi2 : fs[i]? = some f := by simpa using hi'
        have h1 := hf i f hi2
        have hlt : i < xs.length := by have := (Array.getElem?_eq_some_iff.1 hi2).1; omega
        rw [List.getElem?_eq_getElem hlt] at h1
        exact ih f.type hft m _ _ h1 fun a l c hm => hpos a l c (List.mem_of_mem_drop (List.mem_of_mem_take hm))) ρ h hi
      exact ⟨ρ', h', ys, b1, b2, b3, by simpa using b4, by simp only [TV, hu]; exact b5⟩
    · cases hin
end
end Go.Proofs.YthdfojchihooeaaGreat.T
/- A law's call: its arguments laid, its answer and what it leaves as it was. -/
namespace Go.Proofs.YthdfojchihooeaaGreat.T
open Go Go.RowKit
set_option linter.unusedVariables false
set_option linter.unusedSimpArgs false
set_option linter.unnecessarySimpa false

section
variable {P : Program} {W : World} {H : Type} {enc : TypeId × Value → H}

theorem pos_of_has {r : Reach} {base : Nat} {a : Addr} {e : TypeId} {n : Nat} (h : W.has P r base a e n) : 0 < W.heap.size := by
  obtain ⟨_, _, row, cells, hs, _⟩ := h
  unfold World.shape? at hs
  apply Nat.lt_of_not_le
  intro hle
  rw [Array.getElem?_eq_none (by omega)] at hs
  cases hs
theorem pos_of_cell {r : Reach} {base : Nat} {u : TypeId} {a : Addr} {l c : Nat} (h : Cell.okWide P W r base u (.slice (some a) l c)) : 0 < W.heap.size := by
  have h2 : Cell.ok P W r base u (.slice (some a) l c) := by
    unfold Cell.okWide at h
    split at h <;> simp_all
  unfold Cell.ok at h2
  split at h2 <;> simp_all
  exact pos_of_has h2.2.2
theorem pos_of_value {r : Reach} {base : Nat} {t : TypeId} {v : Value} (h : Value.okWide P W r base t v) {a : Addr} {l c : Nat} (hm : Value.slice (some a) l c ∈ v.cells.toList) : 0 < W.heap.size := by
  have row : ∀ cs : Array Value, Row.okWide P W r base t cs → v = .agg cs → 0 < W.heap.size := fun cs hr hv => by
    subst hv
    obtain ⟨ts, _, _, h3⟩ := hr
    simp [Value.cells] at hm
    obtain ⟨i, hi⟩ := Array.mem_iff_getElem?.1 hm
    obtain ⟨u, _, hu⟩ := h3 i _ hi
    exact pos_of_cell hu
  unfold Value.okWide at h
  split at h
  · obtain ⟨cs, hv, _, hr⟩ := h; exact row cs hr hv
  · obtain ⟨cs, hv, _, hr⟩ := h; exact row cs hr hv
  · cases v <;> simp [Value.cells] at hm
    · obtain ⟨rfl, rfl, rfl⟩ := hm
      exact pos_of_cell h
    · exfalso
      unfold Cell.okWide Cell.ok at h
      split at h <;> (try split at h) <;> simp_all

/-- an argument of T, as its type says -/
def ArgV (P : Program) (h : Heap) (n : Nat) (t : TypeId) (x : V) : Prop := match P.underlying t with
  | some (.struct _) => ∃ xs, x = .agg xs ∧ TV P h n t xs
  | _ => TV P h n t [x]
theorem ArgV.mono {h h' : Heap} (hp : h <+: h') {n : Nat} {t : TypeId} {x : V} (hx : ArgV P h n t x) : ArgV P h' n t x := by
  unfold ArgV at *
  split at hx
  · obtain ⟨xs, h1, h2⟩ := hx; exact ⟨xs, h1, TV.mono hp _ _ _ h2⟩
  · exact TV.mono hp _ _ _ hx

theorem lays_arg {n : Nat} {t : TypeId} {v : Value} {d : DataW H} {p : List MemPlace} {r : Reach} {base : Nat} (hin : inTy P n t = true) (hok : Value.okWide P W r base t v)
    (h0 : DataW.Trod enc P W 0 (fun _ => true) true t v d p) {ρ : Rho} {h : Heap} (hi : Imp W ρ h) : ∃ (ρ' : Rho) (h' : Heap) (x : V), Rle ρ ρ' ∧ h <+: h' ∧ Imp W ρ' h' ∧ VR ρ' x v ∧ ArgV P h' n t x := by
  obtain ⟨fuel, hf⟩ := h0
  obtain ⟨ρ', h', xs, a1, a2, a3, a4, a5⟩ := lays n t hin fuel _ _ hf (fun a l c hm => pos_of_value hok hm) ρ h hi
  unfold Value.okWide at hok
  cases hu : P.underlying t with
  | none =>
    cases n with
    | zero => simp [inTy] at hin
    | succ n => simp [inTy, hu] at hin
  | some td =>
    have one : (∀ fs, td ≠ .struct fs) → ∃ x, xs = [x] ∧ VR ρ' x v := fun hns => by
      cases n with
      | zero => simp [inTy] at hin
      | succ n =>
        simp only [TV, hu] at a5
        have hl := a4.length
        have hx : ∃ x, xs = [x] := by
          cases td <;> simp only at a5 <;> (try exact a5.elim)
          · obtain ⟨b, rfl⟩ := a5; exact ⟨_, rfl⟩
          · obtain ⟨i, rfl, _⟩ := a5; exact ⟨_, rfl⟩
          · obtain ⟨s, rfl, _⟩ := a5; exact ⟨_, rfl⟩
          · obtain ⟨a, c, rs, rfl, _⟩ := a5; exact ⟨_, rfl⟩
          · exact absurd rfl (hns _)
        obtain ⟨x, rfl⟩ := hx
        refine ⟨x, rfl, ?_⟩
        have hns' : ∀ cs, v ≠ .agg cs := fun cs hv => by
          subst hv
          rw [hu] at hok
          cases td <;> simp only [inTy, hu] at hin <;> (try cases hin) <;> simp [Cell.okWide, Cell.ok, hu] at hok
          exact absurd rfl (hns _)
        have hc : v.cells.toList = [v] := by
          cases v <;> (try rfl)
          · exact absurd rfl (hns' _)
        rw [hc] at a4
        exact a4.uncons.1
    by_cases hs : ∃ fs, td = .struct fs
    · obtain ⟨fs, rfl⟩ := hs
      rw [hu] at hok
      obtain ⟨cs, rfl, _⟩ := hok
      refine ⟨ρ', h', .agg xs, a1, a2, a3, ?_, ?_⟩
      · simp only [VR]; exact ⟨cs, rfl, by simpa [Value.cells] using a4⟩
      · simp only [ArgV, hu]; exact ⟨xs, rfl, a5⟩
    · obtain ⟨x, rfl, hx⟩ := one fun fs e => hs ⟨fs, e⟩
      refine ⟨ρ', h', x, a1, a2, a3, hx, ?_⟩
      unfold ArgV
      rw [hu]
      split
      · rename_i fs' he; injection he with he; exact absurd ⟨_, he⟩ hs
      · exact a5

theorem imp_nil (W : World) : Imp W (fun _ => none) [] :=
  ⟨⟨fun b e h => (by cases h), fun b e k h => (by cases h), fun b b' e e' h => (by cases h)⟩, fun b hb => by simp at hb⟩

/-- a law's call -/
theorem law_walk {call : CallT} (hS : SC P call) {f : FuncId} {args : List V} {h h' : Heap} {ρ : Rho} (hk : call h.length f args h = some (.bool true, h')) {cargs : Array Value} (hv : VRs ρ args cargs.toList) (hi : Imp W ρ h) :
    Calls P f cargs W fun e w' => e = .returned (.bool true) ∧ Below W.heap.size W w' := by
  refine Calls.mono (hS.calls hk (Nat.le_refl _) hv hi.rel) ?_
  rintro e w' ⟨c, rfl, ρ', h1, h2, h3⟩
  simp only [VR] at h1; subst h1
  exact ⟨rfl, ⟨h3.os, h3.tape, h3.output, h3.size, fun k hk => h3.frame k hk fun b e hb hle => by
    have := (hi.rel.dom b e hb).1
    omega⟩⟩
end
end Go.Proofs.YthdfojchihooeaaGreat.T
namespace Go.Proofs.YthdfojchihooeaaGreat
open Go T
set_option linter.unusedVariables false
set_option linter.unusedSimpArgs false
structure Ver where
  key : Int
  tag : Tag
  past : List Tag
  text : ByteArray
  gone : Bool
structure Node where
  store : List Ver
  wait : List Ver
structure Place where
  me : Int
  clock : Int
  chain : List Node
  log : List Ver
  got : List (List Ver)
  fell : Bool
structure Frame where
  fro : Int
  to : Int
  at' : Int
  ver : Ver

abbrev eTag (ro : Bool) : Nat := bif ro then 192 else 60
abbrev eVer (ro : Bool) : Nat := bif ro then 197 else 65
abbrev eVers (ro : Bool) : Nat := bif ro then 184 else 72
abbrev eNode (ro : Bool) : Nat := bif ro then 330 else 76
/-- a version's cells -/
abbrev Ver.cs (v : Ver) (a : Option (Nat × Nat)) (c : Option Nat) : List V := [.int .i64 v.key, .int .i64 v.tag.time, .int .i64 v.tag.place, .sl 2 a v.past.length c, .str v.text, .bool v.gone]
abbrev RTags (ro : Bool) : Rel (List Tag) := Sli ro 2 (eTag ro) (flat Tag.cs)
def RVer (ro : Bool) : Rel Ver := fun h cs v F => ∃ s, cs = [.int .i64 v.key, .int .i64 v.tag.time, .int .i64 v.tag.place, s, .str v.text, .bool v.gone] ∧ RTags ro h [s] v.past F
abbrev RVers (ro : Bool) : Rel (List Ver) := Sli ro 6 (eVer ro) (RVer ro)
abbrev RVss (ro : Bool) : Rel (List (List Ver)) := Sli ro 1 (eVers ro) (RVers ro)
def RNode (ro : Bool) : Rel Node := fun h cs x F => ∃ s1 s2 F1 F2, cs = [s1, s2] ∧ F = F1 ++ F2 ∧ RVers ro h [s1] x.store F1 ∧ RVers ro h [s2] x.wait F2
abbrev RNodes (ro : Bool) : Rel (List Node) := Sli ro 2 (eNode ro) (RNode ro)
def RPlace (ro : Bool) : Rel Place := fun h cs p F => ∃ s1 s2 s3 F1 F2 F3, cs = [.int .i64 p.me, .int .i64 p.clock, s1, s2, s3, .bool p.fell] ∧ F = F1 ++ (F2 ++ F3) ∧ RNodes ro h [s1] p.chain F1 ∧ RVers ro h [s2] p.log F2 ∧ RVss ro h [s3] p.got F3
def RFrame (ro : Bool) : Rel Frame := fun h cs f F => ∃ vs, cs = .int .i64 f.fro :: .int .i64 f.to :: .int .i64 f.at' :: vs ∧ RVer ro h vs f.ver F

theorem rtags_ok {ro : Bool} : (RTags ro).Ok := Sli.ok flat_ok
theorem rver_ok {ro : Bool} : (RVer ro).Ok :=
  ⟨fun h h' cs x F ⟨s, h1, h2⟩ hb => ⟨s, h1, rtags_ok.fr _ _ _ _ _ h2 hb⟩, fun h cs x F ⟨s, _, h2⟩ => rtags_ok.bd _ _ _ _ h2⟩
theorem rvers_ok {ro : Bool} : (RVers ro).Ok := Sli.ok rver_ok
theorem rvss_ok {ro : Bool} : (RVss ro).Ok := Sli.ok rvers_ok
theorem rnode_ok {ro : Bool} : (RNode ro).Ok := by
  refine ⟨?_, ?_⟩
  · rintro h h' cs x F ⟨s1, s2, F1, F2, h1, rfl, h2, h3⟩ hb
    exact ⟨s1, s2, F1, F2, h1, rfl, rvers_ok.fr _ _ _ _ _ h2 fun b hm => hb b (by simp [hm]), rvers_ok.fr _ _ _ _ _ h3 fun b hm => hb b (by simp [hm])⟩
  · rintro h cs x F ⟨s1, s2, F1, F2, h1, rfl, h2, h3⟩ b hb
    rw [List.mem_append] at hb
    exact hb.elim (rvers_ok.bd _ _ _ _ h2 b) (rvers_ok.bd _ _ _ _ h3 b)
theorem rnodes_ok {ro : Bool} : (RNodes ro).Ok := Sli.ok rnode_ok
theorem rplace_ok {ro : Bool} : (RPlace ro).Ok := by
  refine ⟨?_, ?_⟩
  · rintro h h' cs x F ⟨s1, s2, s3, F1, F2, F3, h1, rfl, h2, h3, h4⟩ hb
    exact ⟨s1, s2, s3, F1, F2, F3, h1, rfl, rnodes_ok.fr _ _ _ _ _ h2 fun b hm => hb b (by simp [hm]), rvers_ok.fr _ _ _ _ _ h3 fun b hm => hb b (by simp [hm]), rvss_ok.fr _ _ _ _ _ h4 fun b hm => hb b (by simp [hm])⟩
  · rintro h cs x F ⟨s1, s2, s3, F1, F2, F3, h1, rfl, h2, h3, h4⟩ b hb
    rw [List.mem_append, List.mem_append] at hb
    rcases hb with hb | hb | hb
    · exact rnodes_ok.bd _ _ _ _ h2 b hb
    · exact rvers_ok.bd _ _ _ _ h3 b hb
    · exact rvss_ok.bd _ _ _ _ h4 b hb
theorem rframe_ok {ro : Bool} : (RFrame ro).Ok :=
  ⟨fun h h' cs x F ⟨s, h1, h2⟩ hb => ⟨s, h1, rver_ok.fr _ _ _ _ _ h2 hb⟩, fun h cs x F ⟨s, _, h2⟩ => rver_ok.bd _ _ _ _ h2⟩

section
variable {ro : Bool} {h : Heap} {F : List Nat} {a : Option (Nat × Nat)} {c : Option Nat} {n k : Nat}
theorem RTags.get {l : List Tag} (hs : RTags ro h [.sl 2 a n c] l F) (hk : k < l.length) : ∃ o, a = some o ∧ ld h o.1 (o.2 + k) 0 2 = some [.int .i64 l[k].time, .int .i64 l[k].place] := by
  obtain ⟨o, row, G, h1, h2, ⟨rfl, _⟩, _⟩ := hs.read hk
  exact ⟨o, h1, by rw [h2]; rfl⟩
theorem RVer.form {row : List V} {v : Ver} (hv : RVer ro h row v F) : ∃ s a c, row = [.int .i64 v.key, .int .i64 v.tag.time, .int .i64 v.tag.place, s, .str v.text, .bool v.gone] ∧
    (∀ {R' : Type} (K : Option (Nat × Nat) → Nat → Option Nat → Option R'), eS 2 s K = K a v.past.length c) ∧ RTags ro h [.sl 2 a v.past.length c] v.past F := by
  obtain ⟨s, rfl, hp⟩ := hv
  obtain ⟨a, c, es, hp2⟩ := hp.form
  exact ⟨s, a, c, rfl, es, hp2⟩
theorem RVers.get {l : List Ver} (hs : RVers ro h [.sl 6 a n c] l F) (hk : k < l.length) : ∃ o s a' c' G, a = some o ∧
    ld h o.1 (o.2 + k) 0 6 = some [.int .i64 l[k].key, .int .i64 l[k].tag.time, .int .i64 l[k].tag.place, s, .str l[k].text, .bool l[k].gone] ∧
    (∀ {R' : Type} (K : Option (Nat × Nat) → Nat → Option Nat → Option R'), eS 2 s K = K a' l[k].past.length c') ∧ RTags ro h [.sl 2 a' l[k].past.length c'] l[k].past G ∧ (∀ b ∈ G, b ∈ F) := by
  obtain ⟨o, row, G, h1, h2, hv, hG, _⟩ := hs.read hk
  obtain ⟨s, a', c', rfl, es, hp⟩ := hv.form
  exact ⟨o, s, a', c', G, h1, by rw [h2]; rfl, es, hp, hG⟩
theorem RVss.get {l : List (List Ver)} (hs : RVss ro h [.sl 1 a n c] l F) (hk : k < l.length) : ∃ o s a' c' G, a = some o ∧ ld h o.1 (o.2 + k) 0 1 = some [s] ∧
    (∀ {R' : Type} (K : Option (Nat × Nat) → Nat → Option Nat → Option R'), eS 6 s K = K a' l[k].length c') ∧ RVers ro h [.sl 6 a' l[k].length c'] l[k] G ∧ (∀ b ∈ G, b ∈ F) := by
  obtain ⟨o, row, G, h1, h2, hv, hG, _⟩ := hs.read hk
  have : ∃ s, row = [s] := by obtain ⟨R', a', c', e, _⟩ := hv; exact ⟨_, e⟩
  obtain ⟨s, rfl⟩ := this
  obtain ⟨a', c', es, hp⟩ := hv.form
  exact ⟨o, s, a', c', G, h1, by rw [h2]; rfl, es, hp, hG⟩
theorem RNode.form {row : List V} {x : Node} (hv : RNode ro h row x F) : ∃ s1 s2 a1 c1 a2 c2 F1 F2, row = [s1, s2] ∧ F = F1 ++ F2 ∧
    (∀ {R' : Type} (K : Option (Nat × Nat) → Nat → Option Nat → Option R'), eS 6 s1 K = K a1 x.store.length c1) ∧ (∀ {R' : Type} (K : Option (Nat × Nat) → Nat → Option Nat → Option R'), eS 6 s2 K = K a2 x.wait.length c2) ∧
    RVers ro h [.sl 6 a1 x.store.length c1] x.store F1 ∧ RVers ro h [.sl 6 a2 x.wait.length c2] x.wait F2 := by
  obtain ⟨s1, s2, F1, F2, rfl, rfl, h1, h2⟩ := hv
  obtain ⟨a1, c1, e1, g1⟩ := h1.form
  obtain ⟨a2, c2, e2, g2⟩ := h2.form
  exact ⟨s1, s2, a1, c1, a2, c2, F1, F2, rfl, rfl, e1, e2, g1, g2⟩
theorem RNodes.get {l : List Node} (hs : RNodes ro h [.sl 2 a n c] l F) (hk : k < l.length) : ∃ o s1 s2 a1 c1 a2 c2 F1 F2, a = some o ∧ ld h o.1 (o.2 + k) 0 2 = some [s1, s2] ∧ ld h o.1 (o.2 + k) 0 1 = some [s1] ∧ ld h o.1 (o.2 + k) 1 1 = some [s2] ∧
    (∀ {R' : Type} (K : Option (Nat × Nat) → Nat → Option Nat → Option R'), eS 6 s1 K = K a1 l[k].store.length c1) ∧ (∀ {R' : Type} (K : Option (Nat × Nat) → Nat → Option Nat → Option R'), eS 6 s2 K = K a2 l[k].wait.length c2) ∧
    RVers ro h [.sl 6 a1 l[k].store.length c1] l[k].store F1 ∧ RVers ro h [.sl 6 a2 l[k].wait.length c2] l[k].wait F2 ∧ (∀ b ∈ F1, b ∈ F) ∧ (∀ b ∈ F2, b ∈ F) := by
  obtain ⟨o, row, G, h1, h2, hv, hG, _⟩ := hs.read hk
  obtain ⟨s1, s2, a1, c1, a2, c2, F1, F2, rfl, rfl, e1, e2, g1, g2⟩ := hv.form
  exact ⟨o, s1, s2, a1, c1, a2, c2, F1, F2, h1, by rw [h2]; rfl, by rw [h2]; rfl, by rw [h2]; rfl, e1, e2, g1, g2, fun b hb => hG b (List.mem_append_left _ hb), fun b hb => hG b (List.mem_append_right _ hb)⟩
theorem RPlace.form {row : List V} {p : Place} (hv : RPlace ro h row p F) : ∃ s1 s2 s3 a1 c1 a2 c2 a3 c3 F1 F2 F3, row = [.int .i64 p.me, .int .i64 p.clock, s1, s2, s3, .bool p.fell] ∧ F = F1 ++ (F2 ++ F3) ∧
    (∀ {R' : Type} (K : Option (Nat × Nat) → Nat → Option Nat → Option R'), eS 2 s1 K = K a1 p.chain.length c1) ∧ (∀ {R' : Type} (K : Option (Nat × Nat) → Nat → Option Nat → Option R'), eS 6 s2 K = K a2 p.log.length c2) ∧
    (∀ {R' : Type} (K : Option (Nat × Nat) → Nat → Option Nat → Option R'), eS 1 s3 K = K a3 p.got.length c3) ∧
    RNodes ro h [.sl 2 a1 p.chain.length c1] p.chain F1 ∧ RVers ro h [.sl 6 a2 p.log.length c2] p.log F2 ∧ RVss ro h [.sl 1 a3 p.got.length c3] p.got F3 := by
  obtain ⟨s1, s2, s3, F1, F2, F3, rfl, rfl, h1, h2, h3⟩ := hv
  obtain ⟨a1, c1, e1, g1⟩ := h1.form
  obtain ⟨a2, c2, e2, g2⟩ := h2.form
  obtain ⟨a3, c3, e3, g3⟩ := h3.form
  exact ⟨s1, s2, s3, a1, c1, a2, c2, a3, c3, F1, F2, F3, rfl, rfl, e1, e2, e3, g1, g2, g3⟩
end
/-- so much less, if there is enough -/
def szN (left : Int) (s : Nat) : Int := if (s : Int) ≤ left then left - s else -1
theorem szN_add {left : Int} {s t : Nat} (h : 0 ≤ left) : (if szN left s < 0 then -1 else szN (szN left s) t) = szN left (s + t) := by
  unfold szN
  by_cases h1 : (s : Int) ≤ left
  · rw [if_pos h1, if_neg (by omega)]
    by_cases h2 : (t : Int) ≤ left - s
    · rw [if_pos h2, if_pos (by omega)]; omega
    · rw [if_neg h2, if_neg (by omega)]
  · rw [if_neg h1, if_pos (by omega), if_neg (by omega)]
theorem sz_sub {α : Type} {left : Int} {n : Nat} {x y : Option α} (h0 : 0 ≤ left) (hl : left ≤ 1048576) (hn : n ≤ maxLen) : br (decide (IntKind.i64.wrap (left - (n : Int)) < 0)) x y = if szN left n < 0 then x else y := by
  have hm : maxLen = 9223372036854775807 := by decide
  rw [wr (by omega) (by omega)]
  by_cases h1 : (n : Int) ≤ left
  · rw [br_neg (by omega), if_neg (by unfold szN; rw [if_pos h1]; omega)]
  · rw [br_pos (by omega), if_pos (by unfold szN; rw [if_neg h1]; omega)]

/-- the sum of sizes, one by one -/
theorem sz_loop {α : Type} {sz : α → Nat} {h : Heap} {l : List α} (L : Int → Nat → Option (V × Heap))
    (step : ∀ i (hi : i < l.length) left, 0 ≤ left → left ≤ 1048576 → L left i = if szN left (sz l[i]) < 0 then some (.int .i64 (-1), h) else L (szN left (sz l[i])) (i + 1))
    (done : ∀ left, L left l.length = some (.int .i64 left, h)) {left : Int} (h0 : 0 ≤ left) (h1 : left ≤ 1048576) : L left 0 = some (.int .i64 (szN left (l.map sz).sum), h) := by
  have loop : ∀ m i left, m + i = l.length → 0 ≤ left → left ≤ 1048576 → L left i = some (.int .i64 (szN left ((l.drop i).map sz).sum), h) := by
    intro m
    induction m with
    | zero =>
      intro i left hi h0 h1
      have : i = l.length := by omega
      subst this
      rw [done, List.drop_length]
      simp [szN, h0]
    | succ m ih =>
      intro i left hi h0 h1
      have hlt : i < l.length := by omega
      rw [step i hlt left h0 h1, List.drop_eq_getElem_cons hlt, List.map_cons, List.sum_cons, ← szN_add h0]
      by_cases hn : szN left (sz l[i]) < 0
      · rw [if_pos hn, if_pos hn]
      · rw [if_neg hn, if_neg hn]
        have hle : szN left (sz l[i]) ≤ left := by unfold szN; split <;> omega
        exact ih (i + 1) _ (by omega) (by omega) (by omega)
  exact loop l.length 0 left (by omega) h0 h1
/-- all hold, one by one -/
theorem all_loop {α T : Type} {p : α → Bool} {l : List α} (L : Nat → Option T) (no yes : Option T)
    (step : ∀ i (hi : i < l.length), L i = if p l[i] = true then L (i + 1) else no) (done : L l.length = yes) : L 0 = if l.all p = true then yes else no := by
  have loop : ∀ m i, m + i = l.length → L i = if (l.drop i).all p = true then yes else no := by
    intro m
    induction m with
    | zero =>
      intro i hi
      have : i = l.length := by omega
      subst this
      rw [done, List.drop_length]; simp
    | succ m ih =>
      intro i hi
      have hlt : i < l.length := by omega
      rw [step i hlt, List.drop_eq_getElem_cons hlt, List.all_cons]
      cases hp : p l[i]
      · simp
      · simpa using ih (i + 1) (by omega)
  exact loop l.length 0 (by omega)
end Go.Proofs.YthdfojchihooeaaGreat
