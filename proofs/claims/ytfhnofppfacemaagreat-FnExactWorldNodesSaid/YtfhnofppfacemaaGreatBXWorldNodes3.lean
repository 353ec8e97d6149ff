/- Part 3 of what is shown for the law FnExactWorldNodes, whatever the input; no condition of its own. -/
import Derived.Test.YtfhnofppfacemaaGreatBXWorldNodes2
namespace Go.Proofs.YtfhnofppfacemaaGreat
open Go T
set_option linter.unusedVariables false
set_option maxRecDepth 100000
noncomputable def L_spec_l2StoreOk_0 (lo : Nat) (b2 : Bool) (x3 : Int) (a1b : Option (Nat × Nat)) (n1b : Nat) (c1b : Option Nat) (h : Heap) : Option (V × Heap) :=
  Lp (X 199) lo (cb (cb (cr (cl (cr (code Tryz.f199)))))) 0 (kBlock 0 (kS (X 199) lo (cr (cr (code Tryz.f199))) 0 (kTop (X 199) Tryz.f199.results.toList))) ⟨[(1, .lp 1 0), (2, .bool (b2)), (3, .int .i64 (x3))], [(1, [.sl 6 a1b n1b c1b])], h⟩
theorem E_spec_l2StoreOk {lo : Nat} {a0 : Option (Nat × Nat)} {n0 : Nat} {c0 : Option Nat} {h : Heap} {v : V} {h' : Heap} (hk : (L_spec_l2StoreOk_0 (List.length h) false 0 a0 n0 c0 h) = some (v, h')) (hn : noId v = true := by rfl) :
    evl lo 199 [.agg [.sl 6 a0 n0 c0]] h = some (v, h) :=
  eval_drop Tryz.func199 (by kernel_rfl) (Eq.trans (by kernel_rfl) hk) hn
theorem L_spec_l2StoreOk_0.e {lo : Nat} {b2 : Bool} {x3 : Int} {a1b : Option (Nat × Nat)} {n1b : Nat} {c1b : Option Nat} {h : Heap} :
    L_spec_l2StoreOk_0 lo b2 x3 a1b n1b c1b h = br (decide (x3 < (↑n1b : Int))) (inB (x3) n1b (eO a1b fun o_0 => eO (ld h (o_0.1) ((o_0.2) + (x3.toNat)) 1 2) fun o_1 => eC o_1 fun v_2 l_3 => eI .i64 v_2 fun n_4 => eC l_3 fun v_5 l_6 => eI .i64 v_5 fun n_7 => eN l_6 (br ((n_4 == (0 : Int)) && ((n_7 == (0 : Int)) && true)) (inB (x3) n1b (eO a1b fun o_8 => eO (ld h (o_8.1) ((o_8.2) + (x3.toNat)) 1 2) fun o_9 => eC o_9 fun v_10 l_11 => eI .i64 v_10 fun n_12 => eC l_11 fun v_13 l_14 => eI .i64 v_13 fun n_15 => eN l_14 (br ((n_12 == (0 : Int)) && ((n_15 == (0 : Int)) && true)) (inB (x3) n1b (eO a1b fun o_16 => eO (ld h (o_16.1) ((o_16.2) + (x3.toNat)) 0 1) fun o_17 => eC o_17 fun v_18 l_19 => eN l_19 (eI .i64 v_18 fun n_20 => br (n_20 == (0 : Int)) (inB (x3) n1b (eO a1b fun o_21 => eO (ld h (o_21.1) ((o_21.2) + (x3.toNat)) 4 1) fun o_22 => eC o_22 fun v_23 l_24 => eN l_24 (eT v_23 fun s_25 => br (s_25.toList == (ByteArray.mk #[]).toList) (inB (x3) n1b (eO a1b fun o_26 => eO (ld h (o_26.1) ((o_26.2) + (x3.toNat)) 5 1) fun o_27 => eC o_27 fun v_28 l_29 => eN l_29 (eB v_28 (some (.bool false, h)) (inB (x3) n1b (eO a1b fun o_30 => eO (ld h (o_30.1) ((o_30.2) + (x3.toNat)) 3 1) fun o_31 => eC o_31 fun v_32 l_33 => eN l_33 (eS 2 (v_32) fun a_34 n_35 c_36 => br (decide ((↑n_35 : Int) > (0 : Int))) (some (.bool false, h)) (L_spec_l2StoreOk_0 lo (b2) (IntKind.wrap .i64 ((x3) + 1)) a1b n1b c1b h))))))) (some (.bool false, h))))) (some (.bool false, h))))) (L_spec_l2StoreOk_0 lo (b2) (IntKind.wrap .i64 ((x3) + 1)) a1b n1b c1b h)))) (inB (x3) n1b (eO a1b fun o_37 => eO (ld h (o_37.1) ((o_37.2) + (x3.toNat)) 0 6) fun o_38 => eC o_38 fun v_39 l_40 => eI .i64 v_39 fun n_41 => eC l_40 fun v_42 l_43 => eI .i64 v_42 fun n_44 => eC l_43 fun v_45 l_46 => eI .i64 v_45 fun n_47 => eC l_46 fun v_48 l_49 => eS 2 (v_48) fun a_50 n_51 c_52 => eC l_49 fun v_53 l_54 => eT v_53 fun s_55 => eC l_54 fun v_56 l_57 => eBv v_56 fun b_58 => eN l_57 (cal (evl lo 91 [.agg [.int .i64 (n_41), .int .i64 (n_44), .int .i64 (n_47), .sl 2 a_50 n_51 c_52, .str (s_55), .bool (b_58)]] h) fun v_59 h_60 => eB v_59 (inB (x3) n1b (eO a1b fun o_61 => eO (ld h_60 (o_61.1) ((o_61.2) + (x3.toNat)) 0 1) fun o_62 => eC o_62 fun v_63 l_64 => eN l_64 (eI .i64 v_63 fun n_65 => br (n_65 == x3) (inB (x3) n1b (eO a1b fun o_66 => eO (ld h_60 (o_66.1) ((o_66.2) + (x3.toNat)) 1 2) fun o_67 => eC o_67 fun v_68 l_69 => eI .i64 v_68 fun n_70 => eC l_69 fun v_71 l_72 => eI .i64 v_71 fun n_73 => eN l_72 (br ((n_70 == (0 : Int)) && ((n_73 == (0 : Int)) && true)) (inB (x3) n1b (eO a1b fun o_74 => eO (ld h_60 (o_74.1) ((o_74.2) + (x3.toNat)) 0 1) fun o_75 => eC o_75 fun v_76 l_77 => eN l_77 (eI .i64 v_76 fun n_78 => br (n_78 == (0 : Int)) (inB (x3) n1b (eO a1b fun o_79 => eO (ld h_60 (o_79.1) ((o_79.2) + (x3.toNat)) 4 1) fun o_80 => eC o_80 fun v_81 l_82 => eN l_82 (eT v_81 fun s_83 => br (s_83.toList == (ByteArray.mk #[]).toList) (inB (x3) n1b (eO a1b fun o_84 => eO (ld h_60 (o_84.1) ((o_84.2) + (x3.toNat)) 5 1) fun o_85 => eC o_85 fun v_86 l_87 => eN l_87 (eB v_86 (some (.bool false, h_60)) (inB (x3) n1b (eO a1b fun o_88 => eO (ld h_60 (o_88.1) ((o_88.2) + (x3.toNat)) 3 1) fun o_89 => eC o_89 fun v_90 l_91 => eN l_91 (eS 2 (v_90) fun a_92 n_93 c_94 => br (decide ((↑n_93 : Int) > (0 : Int))) (some (.bool false, h_60)) (L_spec_l2StoreOk_0 lo (b2) (IntKind.wrap .i64 ((x3) + 1)) a1b n1b c1b h_60))))))) (some (.bool false, h_60))))) (some (.bool false, h_60))))) (L_spec_l2StoreOk_0 lo (b2) (IntKind.wrap .i64 ((x3) + 1)) a1b n1b c1b h_60)))) (some (.bool false, h_60))))) (some (.bool false, h_60)))))))) (br ((↑n1b : Int) == (4 : Int)) (some (.bool true, h)) (some (.bool false, h))) :=
  Lp_eq.trans (by kernel_rfl)
noncomputable def L_spec_l3Next_0 (lo : Nat) (b4 : Bool) (x6 : Int) (a2b : Option (Nat × Nat)) (n2b : Nat) (c2b : Option Nat) (a2b_1 : Option (Nat × Nat)) (n2b_1 : Nat) (c2b_1 : Option Nat) (a5b : Option (Nat × Nat)) (n5b : Nat) (c5b : Option Nat) (h : Heap) : Option (V × Heap) :=
  Lp (X 200) lo (cb (cb (cr (cl (cr (cr (cr (code Tryz.f200)))))))) 0 (kBlock 0 (kS (X 200) lo (cr (cr (cr (cr (code Tryz.f200))))) 0 (kTop (X 200) Tryz.f200.results.toList))) ⟨[(2, .lp 2 0), (4, .bool (b4)), (5, .lp 5 0), (6, .int .i64 (x6))], [(2, [.sl 6 a2b n2b c2b, .sl 6 a2b_1 n2b_1 c2b_1]), (5, [.sl 6 a5b n5b c5b])], h⟩
theorem E_spec_l3Next {lo : Nat} {a0 : Option (Nat × Nat)} {n0 : Nat} {c0 : Option Nat} {a0_1 : Option (Nat × Nat)} {n0_1 : Nat} {c0_1 : Option Nat} {a1 : Option (Nat × Nat)} {n1 : Nat} {c1 : Option Nat} {a1_1 : Option (Nat × Nat)} {n1_1 : Nat} {c1_1 : Option Nat} {h : Heap} {v : V} {h' : Heap} (hk : (cal (evl (List.length h) 199 [.agg [.sl 6 a1 n1 c1]] h) fun v_0 h_1 => eB v_0 (cal (evl (List.length h) 174 [.agg [.sl 6 a1 n1 c1]] h_1) fun v_2 h_3 => eA v_2 fun c_4 => eC c_4 fun v_5 l_6 => eS 6 (v_5) fun a_7 n_8 c_9 => eN l_6 (L_spec_l3Next_0 (List.length h) false 0 a0 n0 c0 a0_1 n0_1 c0_1 a_7 n_8 c_9 h_3)) (some (.bool false, h_1))) = some (v, h')) (hn : noId v = true := by rfl) :
    evl lo 200 [.agg [.sl 6 a0 n0 c0, .sl 6 a0_1 n0_1 c0_1], .agg [.sl 6 a1 n1 c1, .sl 6 a1_1 n1_1 c1_1]] h = some (v, h) :=
  eval_drop Tryz.func200 (by kernel_rfl) (Eq.trans (by kernel_rfl) hk) hn
theorem L_spec_l3Next_0.e {lo : Nat} {b4 : Bool} {x6 : Int} {a2b : Option (Nat × Nat)} {n2b : Nat} {c2b : Option Nat} {a2b_1 : Option (Nat × Nat)} {n2b_1 : Nat} {c2b_1 : Option Nat} {a5b : Option (Nat × Nat)} {n5b : Nat} {c5b : Option Nat} {h : Heap} :
    L_spec_l3Next_0 lo b4 x6 a2b n2b c2b a2b_1 n2b_1 c2b_1 a5b n5b c5b h = br (decide (x6 < (↑n2b_1 : Int))) (inB (x6) n2b_1 (eO a2b_1 fun o_10 => eO (ld h (o_10.1) ((o_10.2) + (x6.toNat)) 0 1) fun o_11 => eC o_11 fun v_12 l_13 => eN l_13 (eI .i64 v_12 fun n_14 => inB (n_14) n5b (eO a5b fun o_15 => eO (ld h (o_15.1) ((o_15.2) + (n_14.toNat)) 1 2) fun o_16 => eC o_16 fun v_17 l_18 => eI .i64 v_17 fun n_19 => eC l_18 fun v_20 l_21 => eI .i64 v_20 fun n_22 => eN l_21 (inB (x6) n2b_1 (eO a2b_1 fun o_23 => eO (ld h (o_23.1) ((o_23.2) + (x6.toNat)) 1 2) fun o_24 => eC o_24 fun v_25 l_26 => eI .i64 v_25 fun n_27 => eC l_26 fun v_28 l_29 => eI .i64 v_28 fun n_30 => eN l_29 (cal (evl lo 154 [.agg [.int .i64 (n_19), .int .i64 (n_22)], .agg [.int .i64 (n_27), .int .i64 (n_30)]] h) fun v_31 h_32 => eB v_31 (inB (x6) n2b_1 (eO a2b_1 fun o_33 => eO (ld h_32 (o_33.1) ((o_33.2) + (x6.toNat)) 0 6) fun o_34 => eC o_34 fun v_35 l_36 => eI .i64 v_35 fun n_37 => eC l_36 fun v_38 l_39 => eI .i64 v_38 fun n_40 => eC l_39 fun v_41 l_42 => eI .i64 v_41 fun n_43 => eC l_42 fun v_44 l_45 => eS 2 (v_44) fun a_46 n_47 c_48 => eC l_45 fun v_49 l_50 => eT v_49 fun s_51 => eC l_50 fun v_52 l_53 => eBv v_52 fun b_54 => eN l_53 (cal (evl lo 246 [.agg [.sl 6 a5b n5b c5b], .agg [.int .i64 (n_37), .int .i64 (n_40), .int .i64 (n_43), .sl 2 a_46 n_47 c_48, .str (s_51), .bool (b_54)]] h_32) fun v_55 h_56 => eA v_55 fun c_57 => eC c_57 fun v_58 l_59 => eS 6 (v_58) fun a_60 n_61 c_62 => eN l_59 (L_spec_l3Next_0 lo (b4) (IntKind.wrap .i64 ((x6) + 1)) a2b n2b c2b a2b_1 n2b_1 c2b_1 a_60 n_61 c_62 h_56)))) (some (.bool false, h_32))))))))) (cal (evl lo 148 [.agg [.sl 6 a5b n5b c5b], .agg [.sl 6 a2b n2b c2b]] h) fun v_63 h_64 => eB v_63 (some (.bool true, h_64)) (some (.bool false, h_64))) :=
  Lp_eq.trans (by kernel_rfl)
noncomputable def L_spec_l3Lack_0 (lo : Nat) (a5 : Option (Nat × Nat)) (n5 : Nat) (c5 : Option Nat) (x6 : Int) (a2b : Option (Nat × Nat)) (n2b : Nat) (c2b : Option Nat) (a3b : Option (Nat × Nat)) (n3b : Nat) (c3b : Option Nat) (h : Heap) : Option (V × Heap) :=
  Lp (X 201) lo (cb (cb (cr (cl (cr (cr (code Tryz.f201))))))) 0 (kBlock 0 (kS (X 201) lo (cr (cr (cr (code Tryz.f201)))) 0 (kTop (X 201) Tryz.f201.results.toList))) ⟨[(2, .lp 2 0), (3, .lp 3 0), (5, .sl 6 a5 n5 c5), (6, .int .i64 (x6))], [(2, [.sl 6 a2b n2b c2b]), (3, [.sl 6 a3b n3b c3b])], h⟩
noncomputable def L_spec_l3Lack_2 (lo : Nat) (a5 : Option (Nat × Nat)) (n5 : Nat) (c5 : Option Nat) (x6 : Int) (x7 : Int) (a2b : Option (Nat × Nat)) (n2b : Nat) (c2b : Option Nat) (a3b : Option (Nat × Nat)) (n3b : Nat) (c3b : Option Nat) (h : Heap) : Option (V × Heap) :=
  Lp (X 201) lo (cb (cb (cl (cr (cr (cb (cl (cr (cb (cb (cr (cl (cr (cr (code Tryz.f201))))))))))))))) 2 (kBlock 2 (kS (X 201) lo (cr (cr (cr (cb (cl (cr (cb (cb (cr (cl (cr (cr (code Tryz.f201))))))))))))) 1 (kBlock 1 (kS (X 201) lo (cr (cr (cb (cb (cr (cl (cr (cr (code Tryz.f201))))))))) 0 (kLp (X 201) lo (cb (cb (cr (cl (cr (cr (code Tryz.f201))))))) 0 (kBlock 0 (kS (X 201) lo (cr (cr (cr (code Tryz.f201)))) 0 (kTop (X 201) Tryz.f201.results.toList)))))))) ⟨[(2, .lp 2 0), (3, .lp 3 0), (5, .sl 6 a5 n5 c5), (6, .int .i64 (x6)), (7, .int .i64 (x7))], [(2, [.sl 6 a2b n2b c2b]), (3, [.sl 6 a3b n3b c3b])], h⟩
theorem L_spec_l3Lack_0.e {lo : Nat} {a5 : Option (Nat × Nat)} {n5 : Nat} {c5 : Option Nat} {x6 : Int} {a2b : Option (Nat × Nat)} {n2b : Nat} {c2b : Option Nat} {a3b : Option (Nat × Nat)} {n3b : Nat} {c3b : Option Nat} {h : Heap} :
    L_spec_l3Lack_0 lo a5 n5 c5 x6 a2b n2b c2b a3b n3b c3b h = br (decide (x6 < (4 : Int))) (inB (x6) n3b (eO a3b fun o_0 => eO (ld h (o_0.1) ((o_0.2) + (x6.toNat)) 1 2) fun o_1 => eC o_1 fun v_2 l_3 => eI .i64 v_2 fun n_4 => eC l_3 fun v_5 l_6 => eI .i64 v_5 fun n_7 => eN l_6 (inB (x6) n2b (eO a2b fun o_8 => eO (ld h (o_8.1) ((o_8.2) + (x6.toNat)) 1 2) fun o_9 => eC o_9 fun v_10 l_11 => eI .i64 v_10 fun n_12 => eC l_11 fun v_13 l_14 => eI .i64 v_13 fun n_15 => eN l_14 (cal (evl lo 154 [.agg [.int .i64 (n_4), .int .i64 (n_7)], .agg [.int .i64 (n_12), .int .i64 (n_15)]] h) fun v_16 h_17 => eB v_16 (L_spec_l3Lack_2 lo a5 n5 c5 (x6) 0 a2b n2b c2b a3b n3b c3b h_17) (L_spec_l3Lack_0 lo a5 n5 c5 (IntKind.wrap .i64 ((x6) + 1)) a2b n2b c2b a3b n3b c3b h_17)))))) (some (.sl 6 a5 n5 c5, h)) :=
  Lp_eq.trans (by kernel_rfl)
theorem L_spec_l3Lack_2.e {lo : Nat} {a5 : Option (Nat × Nat)} {n5 : Nat} {c5 : Option Nat} {x6 : Int} {x7 : Int} {a2b : Option (Nat × Nat)} {n2b : Nat} {c2b : Option Nat} {a3b : Option (Nat × Nat)} {n3b : Nat} {c3b : Option Nat} {h : Heap} :
    L_spec_l3Lack_2 lo a5 n5 c5 x6 x7 a2b n2b c2b a3b n3b c3b h = br (decide (x7 < (↑n5 : Int))) (inB (x7) n5 (eO a5 fun o_18 => eO (ld h (o_18.1) ((o_18.2) + (x7.toNat)) 1 2) fun o_19 => eC o_19 fun v_20 l_21 => eI .i64 v_20 fun n_22 => eC l_21 fun v_23 l_24 => eI .i64 v_23 fun n_25 => eN l_24 (inB (x6) n2b (eO a2b fun o_26 => eO (ld h (o_26.1) ((o_26.2) + (x6.toNat)) 1 2) fun o_27 => eC o_27 fun v_28 l_29 => eI .i64 v_28 fun n_30 => eC l_29 fun v_31 l_32 => eI .i64 v_31 fun n_33 => eN l_32 (cal (evl lo 154 [.agg [.int .i64 (n_22), .int .i64 (n_25)], .agg [.int .i64 (n_30), .int .i64 (n_33)]] h) fun v_34 h_35 => eB v_34 (L_spec_l3Lack_2 lo a5 n5 c5 (x6) (IntKind.wrap .i64 ((x7) + 1)) a2b n2b c2b a3b n3b c3b h_35) (reslice a5 n5 c5 none (some (.int .i64 (x7))) none fun a_36 n_37 c_38 => rowsOf 6 (h_35 ++ [.rows 6 36 false []]) (.sl 6 a_36 n_37 c_38) fun x_39 => app lo 36 6 72 (.sl 6 (some ((List.length h_35), 0)) 0 (some 0)) x_39 (h_35 ++ [.rows 6 36 false []]) fun v_40 h_41 => eS 6 (v_40) fun a_42 n_43 c_44 => inB (x6) n2b (eO a2b fun o_45 => eO (ld h_41 (o_45.1) ((o_45.2) + (x6.toNat)) 0 6) fun o_46 => eC o_46 fun v_47 l_48 => eI .i64 v_47 fun n_49 => eC l_48 fun v_50 l_51 => eI .i64 v_50 fun n_52 => eC l_51 fun v_53 l_54 => eI .i64 v_53 fun n_55 => eC l_54 fun v_56 l_57 => eS 2 (v_56) fun a_58 n_59 c_60 => eC l_57 fun v_61 l_62 => eT v_61 fun s_63 => eC l_62 fun v_64 l_65 => eBv v_64 fun b_66 => eN l_65 (cal (evl lo 72 [.agg [.int .i64 (n_49), .int .i64 (n_52), .int .i64 (n_55), .sl 2 a_58 n_59 c_60, .str (s_63), .bool (b_66)]] h_41) fun v_67 h_68 => eA v_67 fun c_69 => eC c_69 fun v_70 l_71 => eI .i64 v_70 fun n_72 => eC l_71 fun v_73 l_74 => eI .i64 v_73 fun n_75 => eC l_74 fun v_76 l_77 => eI .i64 v_76 fun n_78 => eC l_77 fun v_79 l_80 => eS 2 (v_79) fun a_81 n_82 c_83 => eC l_80 fun v_84 l_85 => eT v_84 fun s_86 => eC l_85 fun v_87 l_88 => eBv v_87 fun b_89 => eN l_88 (rowsOf 6 (h_68 ++ [.rows 6 36 false [[.int .i64 (n_72), .int .i64 (n_75), .int .i64 (n_78), .sl 2 a_81 n_82 c_83, .str (s_86), .bool (b_89)]]]) (.sl 6 (some ((List.length h_68), 0)) 1 (some 1)) fun x_90 => app lo 36 6 72 (.sl 6 a_42 n_43 c_44) x_90 (h_68 ++ [.rows 6 36 false [[.int .i64 (n_72), .int .i64 (n_75), .int .i64 (n_78), .sl 2 a_81 n_82 c_83, .str (s_86), .bool (b_89)]]]) fun v_91 h_92 => eS 6 (v_91) fun a_93 n_94 c_95 => reslice a5 n5 c5 (some (.int .i64 (x7))) none none fun a_96 n_97 c_98 => rowsOf 6 h_92 (.sl 6 a_96 n_97 c_98) fun x_99 => app lo 36 6 72 (.sl 6 a_93 n_94 c_95) x_99 h_92 fun v_100 h_101 => eS 6 (v_100) fun a_102 n_103 c_104 => L_spec_l3Lack_0 lo a_102 n_103 c_104 (IntKind.wrap .i64 ((x6) + 1)) a2b n2b c2b a3b n3b c3b h_101))))))))) (reslice a5 n5 c5 none (some (.int .i64 (x7))) none fun a_105 n_106 c_107 => rowsOf 6 (h ++ [.rows 6 36 false []]) (.sl 6 a_105 n_106 c_107) fun x_108 => app lo 36 6 72 (.sl 6 (some ((List.length h), 0)) 0 (some 0)) x_108 (h ++ [.rows 6 36 false []]) fun v_109 h_110 => eS 6 (v_109) fun a_111 n_112 c_113 => inB (x6) n2b (eO a2b fun o_114 => eO (ld h_110 (o_114.1) ((o_114.2) + (x6.toNat)) 0 6) fun o_115 => eC o_115 fun v_116 l_117 => eI .i64 v_116 fun n_118 => eC l_117 fun v_119 l_120 => eI .i64 v_119 fun n_121 => eC l_120 fun v_122 l_123 => eI .i64 v_122 fun n_124 => eC l_123 fun v_125 l_126 => eS 2 (v_125) fun a_127 n_128 c_129 => eC l_126 fun v_130 l_131 => eT v_130 fun s_132 => eC l_131 fun v_133 l_134 => eBv v_133 fun b_135 => eN l_134 (cal (evl lo 72 [.agg [.int .i64 (n_118), .int .i64 (n_121), .int .i64 (n_124), .sl 2 a_127 n_128 c_129, .str (s_132), .bool (b_135)]] h_110) fun v_136 h_137 => eA v_136 fun c_138 => eC c_138 fun v_139 l_140 => eI .i64 v_139 fun n_141 => eC l_140 fun v_142 l_143 => eI .i64 v_142 fun n_144 => eC l_143 fun v_145 l_146 => eI .i64 v_145 fun n_147 => eC l_146 fun v_148 l_149 => eS 2 (v_148) fun a_150 n_151 c_152 => eC l_149 fun v_153 l_154 => eT v_153 fun s_155 => eC l_154 fun v_156 l_157 => eBv v_156 fun b_158 => eN l_157 (rowsOf 6 (h_137 ++ [.rows 6 36 false [[.int .i64 (n_141), .int .i64 (n_144), .int .i64 (n_147), .sl 2 a_150 n_151 c_152, .str (s_155), .bool (b_158)]]]) (.sl 6 (some ((List.length h_137), 0)) 1 (some 1)) fun x_159 => app lo 36 6 72 (.sl 6 a_111 n_112 c_113) x_159 (h_137 ++ [.rows 6 36 false [[.int .i64 (n_141), .int .i64 (n_144), .int .i64 (n_147), .sl 2 a_150 n_151 c_152, .str (s_155), .bool (b_158)]]]) fun v_160 h_161 => eS 6 (v_160) fun a_162 n_163 c_164 => reslice a5 n5 c5 (some (.int .i64 (x7))) none none fun a_165 n_166 c_167 => rowsOf 6 h_161 (.sl 6 a_165 n_166 c_167) fun x_168 => app lo 36 6 72 (.sl 6 a_162 n_163 c_164) x_168 h_161 fun v_169 h_170 => eS 6 (v_169) fun a_171 n_172 c_173 => L_spec_l3Lack_0 lo a_171 n_172 c_173 (IntKind.wrap .i64 ((x6) + 1)) a2b n2b c2b a3b n3b c3b h_170)))) :=
  Lp_eq.trans (by kernel_rfl)
theorem E_laws_toNode {lo : Nat} {a0 : Option (Nat × Nat)} {n0 : Nat} {c0 : Option Nat} {a0_1 : Option (Nat × Nat)} {n0_1 : Nat} {c0_1 : Option Nat} {h : Heap} {r : V × Heap} (hk : (cal (evl lo 253 [.agg [.sl 6 a0 n0 c0]] h) fun v_0 h_1 => eA v_0 fun c_2 => eC c_2 fun v_3 l_4 => eS 6 (v_3) fun a_5 n_6 c_7 => eN l_4 (cal (evl lo 73 [.sl 6 a0_1 n0_1 c0_1] h_1) fun v_8 h_9 => eS 6 (v_8) fun a_10 n_11 c_12 => some (.agg [.sl 6 a_5 n_6 c_7, .sl 6 a_10 n_11 c_12], h_9))) = some r) :
    evl lo 202 [.agg [.sl 6 a0 n0 c0, .sl 6 a0_1 n0_1 c0_1]] h = some r :=
  eval_keep Tryz.func202 (by kernel_rfl) (Eq.trans (by kernel_rfl) hk)
theorem E_impl_nodesOk {lo : Nat} {x0 : Int} {h : Heap} {v : V} {h' : Heap} (hk : (cal (evl (List.length h) 77 [.int .i64 (x0), .int .i64 1, .int .i64 4] h) fun v_0 h_1 => eB v_0 (some (.bool true, h_1)) (some (.bool false, h_1))) = some (v, h')) (hn : noId v = true := by rfl) :
    evl lo 203 [.int .i64 (x0)] h = some (v, h) :=
  eval_drop Tryz.func203 (by kernel_rfl) (Eq.trans (by kernel_rfl) hk) hn
noncomputable def L_impl_StoreOk_0 (lo : Nat) (b2 : Bool) (a6 : Option (Nat × Nat)) (n6 : Nat) (c6 : Option Nat) (x7 : Int) (x8 : Int) (a1b : Option (Nat × Nat)) (n1b : Nat) (c1b : Option Nat) (h : Heap) : Option (V × Heap) :=
  Lp (X 204) lo (cb (cb (cr (cl (cr (code Tryz.f204)))))) 0 (kBlock 0 (kS (X 204) lo (cr (cr (code Tryz.f204))) 0 (kTop (X 204) Tryz.f204.results.toList))) ⟨[(1, .lp 1 0), (2, .bool (b2)), (6, .sl 6 a6 n6 c6), (7, .int .i64 (x7)), (8, .int .i64 (x8))], [(1, [.sl 6 a1b n1b c1b])], h⟩
theorem E_impl_StoreOk {lo : Nat} {a0 : Option (Nat × Nat)} {n0 : Nat} {c0 : Option Nat} {h : Heap} {v : V} {h' : Heap} (hk : (L_impl_StoreOk_0 (List.length h) false a0 n0 c0 ((↑n0 : Int)) 0 a0 n0 c0 h) = some (v, h')) (hn : noId v = true := by rfl) :
    evl lo 204 [.agg [.sl 6 a0 n0 c0]] h = some (v, h) :=
  eval_drop Tryz.func204 (by kernel_rfl) (Eq.trans (by kernel_rfl) hk) hn
theorem L_impl_StoreOk_0.e {lo : Nat} {b2 : Bool} {a6 : Option (Nat × Nat)} {n6 : Nat} {c6 : Option Nat} {x7 : Int} {x8 : Int} {a1b : Option (Nat × Nat)} {n1b : Nat} {c1b : Option Nat} {h : Heap} :
    L_impl_StoreOk_0 lo b2 a6 n6 c6 x7 x8 a1b n1b c1b h = br (decide (x8 < x7)) (inB (x8) n6 (eO a6 fun o_0 => eO (ld h (o_0.1) ((o_0.2) + (x8.toNat)) 0 6) fun o_1 => eC o_1 fun v_2 l_3 => eI .i64 v_2 fun n_4 => eC l_3 fun v_5 l_6 => eI .i64 v_5 fun n_7 => eC l_6 fun v_8 l_9 => eI .i64 v_8 fun n_10 => eC l_9 fun v_11 l_12 => eS 2 (v_11) fun a_13 n_14 c_15 => eC l_12 fun v_16 l_17 => eT v_16 fun s_18 => eC l_17 fun v_19 l_20 => eBv v_19 fun b_21 => eN l_20 (cal (evl lo 230 [.agg [.int .i64 (n_4), .int .i64 (n_7), .int .i64 (n_10), .sl 2 a_13 n_14 c_15, .str (s_18), .bool (b_21)], .agg [.int .i64 0, .int .i64 0, .int .i64 0, .sl 0 none 0 (some 0), .str ⟨⟨[]⟩⟩, .bool false]] h) fun v_22 h_23 => eB v_22 (L_impl_StoreOk_0 lo (b2) a6 n6 c6 (x7) (IntKind.wrap .i64 ((x8) + 1)) a1b n1b c1b h_23) (cal (evl lo 181 [.agg [.int .i64 (n_4), .int .i64 (n_7), .int .i64 (n_10), .sl 2 a_13 n_14 c_15, .str (s_18), .bool (b_21)]] h_23) fun v_24 h_25 => eB v_24 (br (n_4 == x8) (L_impl_StoreOk_0 lo (b2) a6 n6 c6 (x7) (IntKind.wrap .i64 ((x8) + 1)) a1b n1b c1b h_25) (some (.bool false, h_25))) (some (.bool false, h_25)))))) (br ((↑n1b : Int) == (4 : Int)) (some (.bool true, h)) (some (.bool false, h))) :=
  Lp_eq.trans (by kernel_rfl)
theorem E_slices_ContainsFunc_impl_Ver_impl_Ver {lo : Nat} {a0 : Option (Nat × Nat)} {n0 : Nat} {c0 : Option Nat} {g1 : Nat} {l1 : List V} {h : Heap} {v : V} {h' : Heap} (hk : (cal (evl (List.length h) 191 [.sl 6 a0 n0 c0, .fn g1 l1] h) fun v_0 h_1 => eI .i64 v_0 fun n_2 => br (decide (n_2 ≥ (0 : Int))) (some (.bool true, h_1)) (some (.bool false, h_1))) = some (v, h')) (hn : noId v = true := by rfl) :
    evl lo 205 [.sl 6 a0 n0 c0, .fn g1 l1] h = some (v, h) :=
  eval_drop Tryz.func205 (by kernel_rfl) (Eq.trans (by kernel_rfl) hk) hn
theorem E_impl_ChainOk_1 {lo : Nat} {x0 : Int} {x0_1 : Int} {x0_2 : Int} {a0 : Option (Nat × Nat)} {n0 : Nat} {c0 : Option Nat} {s0 : ByteArray} {b0 : Bool} {h : Heap} {v : V} {h' : Heap} (hk : (cal (evl (List.length h) 181 [.agg [.int .i64 (x0), .int .i64 (x0_1), .int .i64 (x0_2), .sl 2 a0 n0 c0, .str (s0), .bool (b0)]] h) fun v_0 h_1 => eB v_0 (some (.bool false, h_1)) (some (.bool true, h_1))) = some (v, h')) (hn : noId v = true := by rfl) :
    evl lo 206 [.agg [.int .i64 (x0), .int .i64 (x0_1), .int .i64 (x0_2), .sl 2 a0 n0 c0, .str (s0), .bool (b0)]] h = some (v, h) :=
  eval_drop Tryz.func206 (by kernel_rfl) (Eq.trans (by kernel_rfl) hk) hn
theorem E_impl_Chain_last {lo : Nat} {a0 : Option (Nat × Nat)} {n0 : Nat} {c0 : Option Nat} {x1 : Int} {h : Heap} {v : V} {h' : Heap} (hk : (br (x1 == IntKind.i64.wrap ((↑n0 : Int) - (1 : Int))) (some (.bool true, h)) (some (.bool false, h))) = some (v, h')) (hn : noId v = true := by rfl) :
    evl lo 207 [.agg [.sl 2 a0 n0 c0], .int .i64 (x1)] h = some (v, h) :=
  eval_drop Tryz.func207 (by kernel_rfl) (Eq.trans (by kernel_rfl) hk) hn
noncomputable def L_impl_Node_fits_0 (lo : Nat) (b4 : Bool) (a11 : Option (Nat × Nat)) (n11 : Nat) (c11 : Option Nat) (x12 : Int) (x13 : Int) (a2b : Option (Nat × Nat)) (n2b : Nat) (c2b : Option Nat) (a2b_1 : Option (Nat × Nat)) (n2b_1 : Nat) (c2b_1 : Option Nat) (a5b : Option (Nat × Nat)) (n5b : Nat) (c5b : Option Nat) (h : Heap) : Option (V × Heap) :=
  Lp (X 208) lo (cb (cb (cr (cl (cr (cr (code Tryz.f208))))))) 0 (kBlock 0 (kS (X 208) lo (cr (cr (cr (code Tryz.f208)))) 0 (kTop (X 208) Tryz.f208.results.toList))) ⟨[(2, .lp 2 0), (4, .bool (b4)), (5, .lp 5 0), (11, .sl 6 a11 n11 c11), (12, .int .i64 (x12)), (13, .int .i64 (x13))], [(2, [.sl 6 a2b n2b c2b, .sl 6 a2b_1 n2b_1 c2b_1]), (5, [.sl 6 a5b n5b c5b])], h⟩
theorem E_impl_Node_fits {lo : Nat} {a0 : Option (Nat × Nat)} {n0 : Nat} {c0 : Option Nat} {a0_1 : Option (Nat × Nat)} {n0_1 : Nat} {c0_1 : Option Nat} {a1 : Option (Nat × Nat)} {n1 : Nat} {c1 : Option Nat} {h : Heap} {v : V} {h' : Heap} (hk : (cal (evl (List.length h) 177 [.agg [.sl 6 a1 n1 c1]] h) fun v_0 h_1 => eA v_0 fun c_2 => eC c_2 fun v_3 l_4 => eS 6 (v_3) fun a_5 n_6 c_7 => eN l_4 (L_impl_Node_fits_0 (List.length h) false a0_1 n0_1 c0_1 ((↑n0_1 : Int)) 0 a0 n0 c0 a0_1 n0_1 c0_1 a_5 n_6 c_7 h_1)) = some (v, h')) (hn : noId v = true := by rfl) :
    evl lo 208 [.agg [.sl 6 a0 n0 c0, .sl 6 a0_1 n0_1 c0_1], .agg [.sl 6 a1 n1 c1]] h = some (v, h) :=
  eval_drop Tryz.func208 (by kernel_rfl) (Eq.trans (by kernel_rfl) hk) hn
theorem L_impl_Node_fits_0.e {lo : Nat} {b4 : Bool} {a11 : Option (Nat × Nat)} {n11 : Nat} {c11 : Option Nat} {x12 : Int} {x13 : Int} {a2b : Option (Nat × Nat)} {n2b : Nat} {c2b : Option Nat} {a2b_1 : Option (Nat × Nat)} {n2b_1 : Nat} {c2b_1 : Option Nat} {a5b : Option (Nat × Nat)} {n5b : Nat} {c5b : Option Nat} {h : Heap} :
    L_impl_Node_fits_0 lo b4 a11 n11 c11 x12 x13 a2b n2b c2b a2b_1 n2b_1 c2b_1 a5b n5b c5b h = br (decide (x13 < x12)) (inB (x13) n11 (eO a11 fun o_8 => eO (ld h (o_8.1) ((o_8.2) + (x13.toNat)) 0 6) fun o_9 => eC o_9 fun v_10 l_11 => eI .i64 v_10 fun n_12 => eC l_11 fun v_13 l_14 => eI .i64 v_13 fun n_15 => eC l_14 fun v_16 l_17 => eI .i64 v_16 fun n_18 => eC l_17 fun v_19 l_20 => eS 2 (v_19) fun a_21 n_22 c_23 => eC l_20 fun v_24 l_25 => eT v_24 fun s_26 => eC l_25 fun v_27 l_28 => eBv v_27 fun b_29 => eN l_28 (cal (evl lo 192 [.agg [.sl 6 a5b n5b c5b], .agg [.int .i64 (n_12), .int .i64 (n_15), .int .i64 (n_18), .sl 2 a_21 n_22 c_23, .str (s_26), .bool (b_29)]] h) fun v_30 h_31 => eB v_30 (inB (n_12) n5b (eO a5b fun o_32 => eO (st lo h_31 (o_32.1) ((o_32.2) + (n_12.toNat)) 0 [.int .i64 (n_12), .int .i64 (n_15), .int .i64 (n_18), .sl 2 a_21 n_22 c_23, .str (s_26), .bool (b_29)]) fun o_33 => L_impl_Node_fits_0 lo (b4) a11 n11 c11 (x12) (IntKind.wrap .i64 ((x13) + 1)) a2b n2b c2b a2b_1 n2b_1 c2b_1 a5b n5b c5b o_33)) (some (.bool false, h_31))))) (cal (evl lo 239 [.agg [.sl 6 a5b n5b c5b], .agg [.sl 6 a2b n2b c2b]] h) fun v_34 h_35 => eB v_34 (some (.bool true, h_35)) (some (.bool false, h_35))) :=
  Lp_eq.trans (by kernel_rfl)
noncomputable def L_impl_Chain_copied_0 (lo : Nat) (a12 : Option (Nat × Nat)) (n12 : Nat) (c12 : Option Nat) (x13 : Int) (x14 : Int) (q2b : Nat) (a2b : Option (Nat × Nat)) (n2b : Nat) (c2b : Option Nat) (a3b : Option (Nat × Nat)) (n3b : Nat) (c3b : Option Nat) (h : Heap) : Option (V × Heap) :=
  Lp (X 209) lo (cb (cb (cr (cl (cr (cr (code Tryz.f209))))))) 0 (kBlock 0 (kS (X 209) lo (cr (cr (cr (code Tryz.f209)))) 0 (kTop (X 209) Tryz.f209.results.toList))) ⟨[(2, .lp 2 0), (3, .lp 3 0), (12, .sl 2 a12 n12 c12), (13, .int .i64 (x13)), (14, .int .i64 (x14))], [(2, [.sl q2b a2b n2b c2b]), (3, [.sl 2 a3b n3b c3b])], h⟩
theorem L_impl_Chain_copied_0.e {lo : Nat} {a12 : Option (Nat × Nat)} {n12 : Nat} {c12 : Option Nat} {x13 : Int} {x14 : Int} {q2b : Nat} {a2b : Option (Nat × Nat)} {n2b : Nat} {c2b : Option Nat} {a3b : Option (Nat × Nat)} {n3b : Nat} {c3b : Option Nat} {h : Heap} :
    L_impl_Chain_copied_0 lo a12 n12 c12 x13 x14 q2b a2b n2b c2b a3b n3b c3b h = br (decide (x14 < x13)) (inB (x14) n12 (eO a12 fun o_0 => eO (ld h (o_0.1) ((o_0.2) + (x14.toNat)) 0 2) fun o_1 => eC o_1 fun v_2 l_3 => eS 6 (v_2) fun a_4 n_5 c_6 => eC l_3 fun v_7 l_8 => eS 6 (v_7) fun a_9 n_10 c_11 => eN l_8 (cal (evl lo 177 [.agg [.sl 6 a_4 n_5 c_6]] h) fun v_12 h_13 => eA v_12 fun c_14 => eC c_14 fun v_15 l_16 => eS 6 (v_15) fun a_17 n_18 c_19 => eN l_16 (cal (evl lo 244 [.sl 6 a_9 n_10 c_11] h_13) fun v_20 h_21 => eS 6 (v_20) fun a_22 n_23 c_24 => rowsOf 2 (h_21 ++ [.rows 2 175 false [[.sl 6 a_17 n_18 c_19, .sl 6 a_22 n_23 c_24]]]) (.sl 2 (some ((List.length h_21), 0)) 1 (some 1)) fun x_25 => app lo 175 2 48 (.sl 2 a3b n3b c3b) x_25 (h_21 ++ [.rows 2 175 false [[.sl 6 a_17 n_18 c_19, .sl 6 a_22 n_23 c_24]]]) fun v_26 h_27 => eS 2 (v_26) fun a_28 n_29 c_30 => L_impl_Chain_copied_0 lo a12 n12 c12 (x13) (IntKind.wrap .i64 ((x14) + 1)) q2b a2b n2b c2b a_28 n_29 c_30 h_27)))) (some (.agg [.sl 2 a3b n3b c3b], h)) :=
  Lp_eq.trans (by kernel_rfl)
noncomputable def L_cmp_Or_int_0 (lo : Nat) (x2 : Int) (x3 : Int) (a6 : Option (Nat × Nat)) (n6 : Nat) (c6 : Option Nat) (x7 : Int) (x8 : Int) (h : Heap) : Option (V × Heap) :=
  Lp (X 213) lo (cb (cb (cr (cl (cr (cr (code Tryz.f213))))))) 0 (kBlock 0 (kS (X 213) lo (cr (cr (cr (code Tryz.f213)))) 0 (kTop (X 213) Tryz.f213.results.toList))) ⟨[(2, .int .i64 (x2)), (3, .int .i64 (x3)), (6, .sl 1 a6 n6 c6), (7, .int .i64 (x7)), (8, .int .i64 (x8))], [], h⟩
theorem E_cmp_Or_int {lo : Nat} {a0 : Option (Nat × Nat)} {n0 : Nat} {c0 : Option Nat} {h : Heap} {v : V} {h' : Heap} (hk : (L_cmp_Or_int_0 (List.length h) 0 0 a0 n0 c0 ((↑n0 : Int)) 0 h) = some (v, h')) (hn : noId v = true := by rfl) :
    evl lo 213 [.sl 1 a0 n0 c0] h = some (v, h) :=
  eval_drop Tryz.func213 (by kernel_rfl) (Eq.trans (by kernel_rfl) hk) hn
theorem L_cmp_Or_int_0.e {lo : Nat} {x2 : Int} {x3 : Int} {a6 : Option (Nat × Nat)} {n6 : Nat} {c6 : Option Nat} {x7 : Int} {x8 : Int} {h : Heap} :
    L_cmp_Or_int_0 lo x2 x3 a6 n6 c6 x7 x8 h = br (decide (x8 < x7)) (inB (x8) n6 (eO a6 fun o_0 => eO (ld h (o_0.1) ((o_0.2) + (x8.toNat)) 0 1) fun o_1 => eC o_1 fun v_2 l_3 => eN l_3 (eI .i64 v_2 fun n_4 => br (n_4 == x3) (L_cmp_Or_int_0 lo (x2) (x3) a6 n6 c6 (x7) (IntKind.wrap .i64 ((x8) + 1)) h) (some (.int .i64 (n_4), h))))) (some (.int .i64 (x3), h)) :=
  Lp_eq.trans (by kernel_rfl)
theorem E_impl_Tag_compare {lo : Nat} {x0 : Int} {x0_1 : Int} {x1 : Int} {x1_1 : Int} {h : Heap} {v : V} {h' : Heap} (hk : (cal (evl (List.length h) 215 [.int .i64 (x0), .int .i64 (x1)] h) fun v_0 h_1 => eI .i64 v_0 fun n_2 => cal (evl (List.length h) 215 [.int .i64 (x0_1), .int .i64 (x1_1)] h_1) fun v_3 h_4 => eI .i64 v_3 fun n_5 => cal (evl (List.length h) 213 [.sl 1 (some ((List.length h_4), 0)) 2 (some 2)] (h_4 ++ [.rows 1 3 false [[.int .i64 (n_2)], [.int .i64 (n_5)]]])) fun v_6 h_7 => eI .i64 v_6 fun n_8 => some (.int .i64 (n_8), h_7)) = some (v, h')) (hn : noId v = true := by rfl) :
    evl lo 214 [.agg [.int .i64 (x0), .int .i64 (x0_1)], .agg [.int .i64 (x1), .int .i64 (x1_1)]] h = some (v, h) :=
  eval_drop Tryz.func214 (by kernel_rfl) (Eq.trans (by kernel_rfl) hk) hn
theorem E_cmp_Compare_int {lo : Nat} {x0 : Int} {x1 : Int} {h : Heap} {v : V} {h' : Heap} (hk : (cal (evl (List.length h) 256 [.int .i64 (x0)] h) fun v_0 h_1 => eB v_0 (cal (evl (List.length h) 256 [.int .i64 (x1)] h_1) fun v_2 h_3 => eB v_2 (some (.int .i64 0, h_3)) (some (.int .i64 (-1), h_3))) (cal (evl (List.length h) 256 [.int .i64 (x1)] h_1) fun v_4 h_5 => eB v_4 (some (.int .i64 1, h_5)) (br (decide (x0 < x1)) (some (.int .i64 (-1), h_5)) (br (decide (x0 > x1)) (some (.int .i64 1, h_5)) (some (.int .i64 0, h_5)))))) = some (v, h')) (hn : noId v = true := by rfl) :
    evl lo 215 [.int .i64 (x0), .int .i64 (x1)] h = some (v, h) :=
  eval_drop Tryz.func215 (by kernel_rfl) (Eq.trans (by kernel_rfl) hk) hn
theorem E_laws_eqNode {lo : Nat} {a0 : Option (Nat × Nat)} {n0 : Nat} {c0 : Option Nat} {a0_1 : Option (Nat × Nat)} {n0_1 : Nat} {c0_1 : Option Nat} {a1 : Option (Nat × Nat)} {n1 : Nat} {c1 : Option Nat} {a1_1 : Option (Nat × Nat)} {n1_1 : Nat} {c1_1 : Option Nat} {h : Heap} {v : V} {h' : Heap} (hk : (cal (evl (List.length h) 257 [.agg [.sl 6 a0 n0 c0], .agg [.sl 6 a1 n1 c1]] h) fun v_0 h_1 => eB v_0 (cal (evl (List.length h) 79 [.sl 6 a0_1 n0_1 c0_1, .sl 6 a1_1 n1_1 c1_1] h_1) fun v_2 h_3 => eB v_2 (some (.bool true, h_3)) (some (.bool false, h_3))) (some (.bool false, h_1))) = some (v, h')) (hn : noId v = true := by rfl) :
    evl lo 216 [.agg [.sl 6 a0 n0 c0, .sl 6 a0_1 n0_1 c0_1], .agg [.sl 6 a1 n1 c1, .sl 6 a1_1 n1_1 c1_1]] h = some (v, h) :=
  eval_drop Tryz.func216 (by kernel_rfl) (Eq.trans (by kernel_rfl) hk) hn
theorem E_laws_szSess {lo : Nat} {x0 : Int} {a0 : Option (Nat × Nat)} {n0 : Nat} {c0 : Option Nat} {x0_1 : Int} {x0_2 : Int} {x0_3 : Int} {x1 : Int} {h : Heap} {v : V} {h' : Heap} (hk : (cal (evl (List.length h) 37 [.agg [.sl 2 a0 n0 c0], .int .i64 (x1)] h) fun v_0 h_1 => eI .i64 v_0 fun n_2 => br (decide (n_2 < (0 : Int))) (some (.int .i64 (-1), h_1)) (some (.int .i64 (n_2), h_1))) = some (v, h')) (hn : noId v = true := by rfl) :
    evl lo 217 [.agg [.int .i64 (x0), .sl 2 a0 n0 c0, .int .i64 (x0_1), .int .i64 (x0_2), .int .i64 (x0_3)], .int .i64 (x1)] h = some (v, h) :=
  eval_drop Tryz.func217 (by kernel_rfl) (Eq.trans (by kernel_rfl) hk) hn
theorem E_laws_szFrame {lo : Nat} {x0 : Int} {x0_1 : Int} {x0_2 : Int} {x0_3 : Int} {x0_4 : Int} {x0_5 : Int} {a0 : Option (Nat × Nat)} {n0 : Nat} {c0 : Option Nat} {s0 : ByteArray} {b0 : Bool} {x1 : Int} {h : Heap} {v : V} {h' : Heap} (hk : (cal (evl (List.length h) 27 [.agg [.int .i64 (x0_3), .int .i64 (x0_4), .int .i64 (x0_5), .sl 2 a0 n0 c0, .str (s0), .bool (b0)], .int .i64 (x1)] h) fun v_0 h_1 => eI .i64 v_0 fun n_2 => br (decide (n_2 < (0 : Int))) (some (.int .i64 (-1), h_1)) (some (.int .i64 (n_2), h_1))) = some (v, h')) (hn : noId v = true := by rfl) :
    evl lo 218 [.agg [.int .i64 (x0), .int .i64 (x0_1), .int .i64 (x0_2), .int .i64 (x0_3), .int .i64 (x0_4), .int .i64 (x0_5), .sl 2 a0 n0 c0, .str (s0), .bool (b0)], .int .i64 (x1)] h = some (v, h) :=
  eval_drop Tryz.func218 (by kernel_rfl) (Eq.trans (by kernel_rfl) hk) hn
theorem E_spec_l5SessOk {lo : Nat} {x0 : Int} {a0 : Option (Nat × Nat)} {n0 : Nat} {c0 : Option Nat} {x0_1 : Int} {x0_2 : Int} {x0_3 : Int} {h : Heap} {v : V} {h' : Heap} (hk : (cal (evl (List.length h) 71 [.int .i64 (x0), .int .i64 0, .int .i64 2] h) fun v_0 h_1 => eB v_0 (cal (evl (List.length h) 107 [.agg [.sl 2 a0 n0 c0]] h_1) fun v_2 h_3 => eB v_2 (cal (evl (List.length h) 179 [.agg [.int .i64 (x0_1), .int .i64 (x0_2)]] h_3) fun v_4 h_5 => eB v_4 (cal (evl (List.length h) 71 [.int .i64 (x0_3), .int .i64 0, .int .i64 3] h_5) fun v_6 h_7 => eB v_6 (br (decide (x0_1 > (0 : Int))) (br (x0_1 == (0 : Int)) (some (.bool true, h_7)) (br (x0_2 == x0) (some (.bool true, h_7)) (some (.bool false, h_7)))) (br (x0_3 == (0 : Int)) (br (x0_1 == (0 : Int)) (some (.bool true, h_7)) (br (x0_2 == x0) (some (.bool true, h_7)) (some (.bool false, h_7)))) (some (.bool false, h_7)))) (some (.bool false, h_7))) (some (.bool false, h_5))) (some (.bool false, h_3))) (some (.bool false, h_1))) = some (v, h')) (hn : noId v = true := by rfl) :
    evl lo 219 [.agg [.int .i64 (x0), .sl 2 a0 n0 c0, .int .i64 (x0_1), .int .i64 (x0_2), .int .i64 (x0_3)]] h = some (v, h) :=
  eval_drop Tryz.func219 (by kernel_rfl) (Eq.trans (by kernel_rfl) hk) hn
theorem E_spec_l5FrameOk {lo : Nat} {a0 : Option (Nat × Nat)} {n0 : Nat} {c0 : Option Nat} {a0_1 : Option (Nat × Nat)} {n0_1 : Nat} {c0_1 : Option Nat} {a0_2 : Option (Nat × Nat)} {n0_2 : Nat} {c0_2 : Option Nat} {a0_3 : Option (Nat × Nat)} {n0_3 : Nat} {c0_3 : Option Nat} {x1 : Int} {x1_1 : Int} {x1_2 : Int} {x1_3 : Int} {x1_4 : Int} {x1_5 : Int} {a1 : Option (Nat × Nat)} {n1 : Nat} {c1 : Option Nat} {s1 : ByteArray} {b1 : Bool} {h : Heap} {v : V} {h' : Heap} (hk : (cal (evl (List.length h) 71 [.int .i64 (x1), .int .i64 0, .int .i64 2] h) fun v_0 h_1 => eB v_0 (cal (evl (List.length h) 71 [.int .i64 (x1_1), .int .i64 0, .int .i64 2] h_1) fun v_2 h_3 => eB v_2 (br (x1 == x1_1) (some (.bool false, h_3)) (inB (x1) n0 (eO a0 fun o_4 => eO (ld h_3 (o_4.1) ((o_4.2) + (x1.toNat)) 3 1) fun o_5 => eC o_5 fun v_6 l_7 => eN l_7 (eS 6 (v_6) fun a_8 n_9 c_10 => cal (evl (List.length h) 71 [.int .i64 (x1_2), .int .i64 0, .int .i64 (IntKind.wrap .i64 (((↑n_9 : Int)) - 1))] h_3) fun v_11 h_12 => eB v_11 (cal (evl (List.length h) 91 [.agg [.int .i64 (x1_3), .int .i64 (x1_4), .int .i64 (x1_5), .sl 2 a1 n1 c1, .str (s1), .bool (b1)]] h_12) fun v_13 h_14 => eB v_13 (inB (x1) n0 (eO a0 fun o_15 => eO (ld h_14 (o_15.1) ((o_15.2) + (x1.toNat)) 3 1) fun o_16 => eC o_16 fun v_17 l_18 => eN l_18 (eS 6 (v_17) fun a_19 n_20 c_21 => inB (x1_2) n_20 (eO a_19 fun o_22 => eO (ld h_14 (o_22.1) ((o_22.2) + (x1_2.toNat)) 0 6) fun o_23 => eC o_23 fun v_24 l_25 => eI .i64 v_24 fun n_26 => eC l_25 fun v_27 l_28 => eI .i64 v_27 fun n_29 => eC l_28 fun v_30 l_31 => eI .i64 v_30 fun n_32 => eC l_31 fun v_33 l_34 => eS 2 (v_33) fun a_35 n_36 c_37 => eC l_34 fun v_38 l_39 => eT v_38 fun s_40 => eC l_39 fun v_41 l_42 => eBv v_41 fun b_43 => eN l_42 (cal (evl (List.length h) 236 [.agg [.int .i64 (x1_3), .int .i64 (x1_4), .int .i64 (x1_5), .sl 2 a1 n1 c1, .str (s1), .bool (b1)], .agg [.int .i64 (n_26), .int .i64 (n_29), .int .i64 (n_32), .sl 2 a_35 n_36 c_37, .str (s_40), .bool (b_43)]] h_14) fun v_44 h_45 => eB v_44 (some (.bool true, h_45)) (some (.bool false, h_45))))))) (some (.bool false, h_14))) (some (.bool false, h_12)))))) (some (.bool false, h_3))) (some (.bool false, h_1))) = some (v, h')) (hn : noId v = true := by rfl) :
    evl lo 220 [.agg [.sl 6 a0 n0 c0, .sl 5 a0_1 n0_1 c0_1, .sl 9 a0_2 n0_2 c0_2, .sl 5 a0_3 n0_3 c0_3], .agg [.int .i64 (x1), .int .i64 (x1_1), .int .i64 (x1_2), .int .i64 (x1_3), .int .i64 (x1_4), .int .i64 (x1_5), .sl 2 a1 n1 c1, .str (s1), .bool (b1)]] h = some (v, h) :=
  eval_drop Tryz.func220 (by kernel_rfl) (Eq.trans (by kernel_rfl) hk) hn
theorem E_spec_l5OpOk {lo : Nat} {x0 : Int} {x0_1 : Int} {x0_2 : Int} {x0_3 : Int} {x0_4 : Int} {h : Heap} {v : V} {h' : Heap} (hk : (cal (evl (List.length h) 71 [.int .i64 (x0), .int .i64 0, .int .i64 3] h) fun v_0 h_1 => eB v_0 (cal (evl (List.length h) 71 [.int .i64 (x0_1), .int .i64 1, .int .i64 3] h_1) fun v_2 h_3 => eB v_2 (cal (evl (List.length h) 71 [.int .i64 (x0_2), .int .i64 0, .int .i64 3] h_3) fun v_4 h_5 => eB v_4 (cal (evl (List.length h) 179 [.agg [.int .i64 (x0_3), .int .i64 (x0_4)]] h_5) fun v_6 h_7 => eB v_6 (br (x0_1 == (2 : Int)) (some (.bool true, h_7)) (br (decide (x0_3 > (0 : Int))) (some (.bool true, h_7)) (some (.bool false, h_7)))) (some (.bool false, h_7))) (some (.bool false, h_5))) (some (.bool false, h_3))) (some (.bool false, h_1))) = some (v, h')) (hn : noId v = true := by rfl) :
    evl lo 221 [.agg [.int .i64 (x0), .int .i64 (x0_1), .int .i64 (x0_2), .int .i64 (x0_3), .int .i64 (x0_4)]] h = some (v, h) :=
  eval_drop Tryz.func221 (by kernel_rfl) (Eq.trans (by kernel_rfl) hk) hn
noncomputable def L_spec_l5Heard_0 (lo : Nat) (b2 : Bool) (x3 : Int) (a1b : Option (Nat × Nat)) (n1b : Nat) (c1b : Option Nat) (a1b_1 : Option (Nat × Nat)) (n1b_1 : Nat) (c1b_1 : Option Nat) (a1b_2 : Option (Nat × Nat)) (n1b_2 : Nat) (c1b_2 : Option Nat) (a1b_3 : Option (Nat × Nat)) (n1b_3 : Nat) (c1b_3 : Option Nat) (h : Heap) : Option (V × Heap) :=
  Lp (X 222) lo (cb (cb (cr (cl (cr (code Tryz.f222)))))) 0 (kBlock 0 (kS (X 222) lo (cr (cr (code Tryz.f222))) 0 (kTop (X 222) Tryz.f222.results.toList))) ⟨[(1, .lp 1 0), (2, .bool (b2)), (3, .int .i64 (x3))], [(1, [.sl 6 a1b n1b c1b, .sl 5 a1b_1 n1b_1 c1b_1, .sl 9 a1b_2 n1b_2 c1b_2, .sl 5 a1b_3 n1b_3 c1b_3])], h⟩
noncomputable def L_spec_l5Heard_2 (lo : Nat) (b2 : Bool) (x3 : Int) (x4 : Int) (a1b : Option (Nat × Nat)) (n1b : Nat) (c1b : Option Nat) (a1b_1 : Option (Nat × Nat)) (n1b_1 : Nat) (c1b_1 : Option Nat) (a1b_2 : Option (Nat × Nat)) (n1b_2 : Nat) (c1b_2 : Option Nat) (a1b_3 : Option (Nat × Nat)) (n1b_3 : Nat) (c1b_3 : Option Nat) (h : Heap) : Option (V × Heap) :=
  Lp (X 222) lo (cb (cb (cr (cb (cl (cr (cb (cb (cr (cl (cr (code Tryz.f222)))))))))))) 2 (kBlock 2 (kBlock 1 (kS (X 222) lo (cr (cr (cb (cb (cr (cl (cr (code Tryz.f222)))))))) 0 (kLp (X 222) lo (cb (cb (cr (cl (cr (code Tryz.f222)))))) 0 (kBlock 0 (kS (X 222) lo (cr (cr (code Tryz.f222))) 0 (kTop (X 222) Tryz.f222.results.toList))))))) ⟨[(1, .lp 1 0), (2, .bool (b2)), (3, .int .i64 (x3)), (4, .int .i64 (x4))], [(1, [.sl 6 a1b n1b c1b, .sl 5 a1b_1 n1b_1 c1b_1, .sl 9 a1b_2 n1b_2 c1b_2, .sl 5 a1b_3 n1b_3 c1b_3])], h⟩
noncomputable def L_spec_l5Heard_4 (lo : Nat) (b2 : Bool) (x3 : Int) (x4 : Int) (a5 : Option (Nat × Nat)) (n5 : Nat) (c5 : Option Nat) (x6 : Int) (a1b : Option (Nat × Nat)) (n1b : Nat) (c1b : Option Nat) (a1b_1 : Option (Nat × Nat)) (n1b_1 : Nat) (c1b_1 : Option Nat) (a1b_2 : Option (Nat × Nat)) (n1b_2 : Nat) (c1b_2 : Option Nat) (a1b_3 : Option (Nat × Nat)) (n1b_3 : Nat) (c1b_3 : Option Nat) (h : Heap) : Option (V × Heap) :=
  Lp (X 222) lo (cb (cb (cr (cr (cr (cb (cl (cr (cb (cb (cr (cb (cl (cr (cb (cb (cr (cl (cr (code Tryz.f222)))))))))))))))))))) 4 (kBlock 4 (kBlock 3 (kS (X 222) lo (cr (cr (cb (cb (cr (cb (cl (cr (cb (cb (cr (cl (cr (code Tryz.f222)))))))))))))) 2 (kLp (X 222) lo (cb (cb (cr (cb (cl (cr (cb (cb (cr (cl (cr (code Tryz.f222)))))))))))) 2 (kBlock 2 (kBlock 1 (kS (X 222) lo (cr (cr (cb (cb (cr (cl (cr (code Tryz.f222)))))))) 0 (kLp (X 222) lo (cb (cb (cr (cl (cr (code Tryz.f222)))))) 0 (kBlock 0 (kS (X 222) lo (cr (cr (code Tryz.f222))) 0 (kTop (X 222) Tryz.f222.results.toList))))))))))) ⟨[(1, .lp 1 0), (2, .bool (b2)), (3, .int .i64 (x3)), (4, .int .i64 (x4)), (5, .sl 6 a5 n5 c5), (6, .int .i64 (x6))], [(1, [.sl 6 a1b n1b c1b, .sl 5 a1b_1 n1b_1 c1b_1, .sl 9 a1b_2 n1b_2 c1b_2, .sl 5 a1b_3 n1b_3 c1b_3])], h⟩
theorem E_spec_l5Heard {lo : Nat} {a0 : Option (Nat × Nat)} {n0 : Nat} {c0 : Option Nat} {a0_1 : Option (Nat × Nat)} {n0_1 : Nat} {c0_1 : Option Nat} {a0_2 : Option (Nat × Nat)} {n0_2 : Nat} {c0_2 : Option Nat} {a0_3 : Option (Nat × Nat)} {n0_3 : Nat} {c0_3 : Option Nat} {h : Heap} {v : V} {h' : Heap} (hk : (L_spec_l5Heard_0 (List.length h) false 0 a0 n0 c0 a0_1 n0_1 c0_1 a0_2 n0_2 c0_2 a0_3 n0_3 c0_3 h) = some (v, h')) (hn : noId v = true := by rfl) :
    evl lo 222 [.agg [.sl 6 a0 n0 c0, .sl 5 a0_1 n0_1 c0_1, .sl 9 a0_2 n0_2 c0_2, .sl 5 a0_3 n0_3 c0_3]] h = some (v, h) :=
  eval_drop Tryz.func222 (by kernel_rfl) (Eq.trans (by kernel_rfl) hk) hn
theorem L_spec_l5Heard_0.e {lo : Nat} {b2 : Bool} {x3 : Int} {a1b : Option (Nat × Nat)} {n1b : Nat} {c1b : Option Nat} {a1b_1 : Option (Nat × Nat)} {n1b_1 : Nat} {c1b_1 : Option Nat} {a1b_2 : Option (Nat × Nat)} {n1b_2 : Nat} {c1b_2 : Option Nat} {a1b_3 : Option (Nat × Nat)} {n1b_3 : Nat} {c1b_3 : Option Nat} {h : Heap} :
    L_spec_l5Heard_0 lo b2 x3 a1b n1b c1b a1b_1 n1b_1 c1b_1 a1b_2 n1b_2 c1b_2 a1b_3 n1b_3 c1b_3 h = br (decide (x3 < (3 : Int))) (L_spec_l5Heard_2 lo (b2) (x3) 0 a1b n1b c1b a1b_1 n1b_1 c1b_1 a1b_2 n1b_2 c1b_2 a1b_3 n1b_3 c1b_3 h) (some (.bool true, h)) :=
  Lp_eq.trans (by kernel_rfl)
theorem L_spec_l5Heard_2.e {lo : Nat} {b2 : Bool} {x3 : Int} {x4 : Int} {a1b : Option (Nat × Nat)} {n1b : Nat} {c1b : Option Nat} {a1b_1 : Option (Nat × Nat)} {n1b_1 : Nat} {c1b_1 : Option Nat} {a1b_2 : Option (Nat × Nat)} {n1b_2 : Nat} {c1b_2 : Option Nat} {a1b_3 : Option (Nat × Nat)} {n1b_3 : Nat} {c1b_3 : Option Nat} {h : Heap} :
    L_spec_l5Heard_2 lo b2 x3 x4 a1b n1b c1b a1b_1 n1b_1 c1b_1 a1b_2 n1b_2 c1b_2 a1b_3 n1b_3 c1b_3 h = br (decide (x4 < (3 : Int))) (inB (x3) n1b (eO a1b fun o_0 => eO (ld h (o_0.1) ((o_0.2) + (x3.toNat)) 4 1) fun o_1 => eC o_1 fun v_2 l_3 => eN l_3 (eS 1 (v_2) fun a_4 n_5 c_6 => inB (x4) n_5 (eO a_4 fun o_7 => eO (ld h (o_7.1) ((o_7.2) + (x4.toNat)) 0 1) fun o_8 => eC o_8 fun v_9 l_10 => eN l_10 (eS 6 (v_9) fun a_11 n_12 c_13 => inB (x4) n1b (eO a1b fun o_14 => eO (ld h (o_14.1) ((o_14.2) + (x4.toNat)) 3 1) fun o_15 => eC o_15 fun v_16 l_17 => eN l_17 (eS 6 (v_16) fun a_18 n_19 c_20 => br (decide ((↑n_12 : Int) > (↑n_19 : Int))) (some (.bool false, h)) (L_spec_l5Heard_4 lo (b2) (x3) (x4) a_11 n_12 c_13 0 a1b n1b c1b a1b_1 n1b_1 c1b_1 a1b_2 n1b_2 c1b_2 a1b_3 n1b_3 c1b_3 h)))))))) (L_spec_l5Heard_0 lo (b2) (IntKind.wrap .i64 ((x3) + 1)) a1b n1b c1b a1b_1 n1b_1 c1b_1 a1b_2 n1b_2 c1b_2 a1b_3 n1b_3 c1b_3 h) :=
  Lp_eq.trans (by kernel_rfl)
theorem L_spec_l5Heard_4.e {lo : Nat} {b2 : Bool} {x3 : Int} {x4 : Int} {a5 : Option (Nat × Nat)} {n5 : Nat} {c5 : Option Nat} {x6 : Int} {a1b : Option (Nat × Nat)} {n1b : Nat} {c1b : Option Nat} {a1b_1 : Option (Nat × Nat)} {n1b_1 : Nat} {c1b_1 : Option Nat} {a1b_2 : Option (Nat × Nat)} {n1b_2 : Nat} {c1b_2 : Option Nat} {a1b_3 : Option (Nat × Nat)} {n1b_3 : Nat} {c1b_3 : Option Nat} {h : Heap} :
    L_spec_l5Heard_4 lo b2 x3 x4 a5 n5 c5 x6 a1b n1b c1b a1b_1 n1b_1 c1b_1 a1b_2 n1b_2 c1b_2 a1b_3 n1b_3 c1b_3 h = br (decide (x6 < (↑n5 : Int))) (inB (x6) n5 (eO a5 fun o_21 => eO (ld h (o_21.1) ((o_21.2) + (x6.toNat)) 0 6) fun o_22 => eC o_22 fun v_23 l_24 => eI .i64 v_23 fun n_25 => eC l_24 fun v_26 l_27 => eI .i64 v_26 fun n_28 => eC l_27 fun v_29 l_30 => eI .i64 v_29 fun n_31 => eC l_30 fun v_32 l_33 => eS 2 (v_32) fun a_34 n_35 c_36 => eC l_33 fun v_37 l_38 => eT v_37 fun s_39 => eC l_38 fun v_40 l_41 => eBv v_40 fun b_42 => eN l_41 (inB (x4) n1b (eO a1b fun o_43 => eO (ld h (o_43.1) ((o_43.2) + (x4.toNat)) 3 1) fun o_44 => eC o_44 fun v_45 l_46 => eN l_46 (eS 6 (v_45) fun a_47 n_48 c_49 => inB (x6) n_48 (eO a_47 fun o_50 => eO (ld h (o_50.1) ((o_50.2) + (x6.toNat)) 0 6) fun o_51 => eC o_51 fun v_52 l_53 => eI .i64 v_52 fun n_54 => eC l_53 fun v_55 l_56 => eI .i64 v_55 fun n_57 => eC l_56 fun v_58 l_59 => eI .i64 v_58 fun n_60 => eC l_59 fun v_61 l_62 => eS 2 (v_61) fun a_63 n_64 c_65 => eC l_62 fun v_66 l_67 => eT v_66 fun s_68 => eC l_67 fun v_69 l_70 => eBv v_69 fun b_71 => eN l_70 (cal (evl lo 236 [.agg [.int .i64 (n_25), .int .i64 (n_28), .int .i64 (n_31), .sl 2 a_34 n_35 c_36, .str (s_39), .bool (b_42)], .agg [.int .i64 (n_54), .int .i64 (n_57), .int .i64 (n_60), .sl 2 a_63 n_64 c_65, .str (s_68), .bool (b_71)]] h) fun v_72 h_73 => eB v_72 (L_spec_l5Heard_4 lo (b2) (x3) (x4) a5 n5 c5 (IntKind.wrap .i64 ((x6) + 1)) a1b n1b c1b a1b_1 n1b_1 c1b_1 a1b_2 n1b_2 c1b_2 a1b_3 n1b_3 c1b_3 h_73) (some (.bool false, h_73))))))))) (L_spec_l5Heard_2 lo (b2) (x3) (IntKind.wrap .i64 ((x4) + 1)) a1b n1b c1b a1b_1 n1b_1 c1b_1 a1b_2 n1b_2 c1b_2 a1b_3 n1b_3 c1b_3 h) :=
  Lp_eq.trans (by kernel_rfl)
theorem E_laws_toSess {lo : Nat} {x0 : Int} {a0 : Option (Nat × Nat)} {n0 : Nat} {c0 : Option Nat} {x0_1 : Int} {x0_2 : Int} {x0_3 : Int} {h : Heap} {r : V × Heap} (hk : (cal (evl lo 39 [.agg [.sl 2 a0 n0 c0]] h) fun v_0 h_1 => eA v_0 fun c_2 => eC c_2 fun v_3 l_4 => eS 2 (v_3) fun a_5 n_6 c_7 => eN l_4 (cal (evl lo 93 [.agg [.int .i64 (x0_1), .int .i64 (x0_2)]] h_1) fun v_8 h_9 => eA v_8 fun c_10 => eC c_10 fun v_11 l_12 => eI .i64 v_11 fun n_13 => eC l_12 fun v_14 l_15 => eI .i64 v_14 fun n_16 => eN l_15 (some (.agg [.int .i64 (x0), .sl 2 a_5 n_6 c_7, .int .i64 (n_13), .int .i64 (n_16), .int .i64 (x0_3)], h_9)))) = some r) :
    evl lo 223 [.agg [.int .i64 (x0), .sl 2 a0 n0 c0, .int .i64 (x0_1), .int .i64 (x0_2), .int .i64 (x0_3)]] h = some r :=
  eval_keep Tryz.func223 (by kernel_rfl) (Eq.trans (by kernel_rfl) hk)
theorem E_laws_toFrame {lo : Nat} {x0 : Int} {x0_1 : Int} {x0_2 : Int} {x0_3 : Int} {x0_4 : Int} {x0_5 : Int} {a0 : Option (Nat × Nat)} {n0 : Nat} {c0 : Option Nat} {s0 : ByteArray} {b0 : Bool} {h : Heap} {r : V × Heap} (hk : (cal (evl lo 29 [.agg [.int .i64 (x0_3), .int .i64 (x0_4), .int .i64 (x0_5), .sl 2 a0 n0 c0, .str (s0), .bool (b0)]] h) fun v_0 h_1 => eA v_0 fun c_2 => eC c_2 fun v_3 l_4 => eI .i64 v_3 fun n_5 => eC l_4 fun v_6 l_7 => eI .i64 v_6 fun n_8 => eC l_7 fun v_9 l_10 => eI .i64 v_9 fun n_11 => eC l_10 fun v_12 l_13 => eS 2 (v_12) fun a_14 n_15 c_16 => eC l_13 fun v_17 l_18 => eT v_17 fun s_19 => eC l_18 fun v_20 l_21 => eBv v_20 fun b_22 => eN l_21 (some (.agg [.int .i64 (x0), .int .i64 (x0_1), .int .i64 (x0_2), .int .i64 (n_5), .int .i64 (n_8), .int .i64 (n_11), .sl 2 a_14 n_15 c_16, .str (s_19), .bool (b_22)], h_1))) = some r) :
    evl lo 224 [.agg [.int .i64 (x0), .int .i64 (x0_1), .int .i64 (x0_2), .int .i64 (x0_3), .int .i64 (x0_4), .int .i64 (x0_5), .sl 2 a0 n0 c0, .str (s0), .bool (b0)]] h = some r :=
  eval_keep Tryz.func224 (by kernel_rfl) (Eq.trans (by kernel_rfl) hk)
theorem E_laws_toDone {lo : Nat} {x0 : Int} {x0_1 : Int} {x0_2 : Int} {x0_3 : Int} {x0_4 : Int} {h : Heap} {v : V} {h' : Heap} (hk : (cal (evl (List.length h) 93 [.agg [.int .i64 (x0_3), .int .i64 (x0_4)]] h) fun v_0 h_1 => eA v_0 fun c_2 => eC c_2 fun v_3 l_4 => eI .i64 v_3 fun n_5 => eC l_4 fun v_6 l_7 => eI .i64 v_6 fun n_8 => eN l_7 (some (.agg [.int .i64 (x0), .int .i64 (x0_1), .int .i64 (x0_2), .int .i64 (n_5), .int .i64 (n_8)], h_1))) = some (v, h')) (hn : noId v = true := by rfl) :
    evl lo 225 [.agg [.int .i64 (x0), .int .i64 (x0_1), .int .i64 (x0_2), .int .i64 (x0_3), .int .i64 (x0_4)]] h = some (v, h) :=
  eval_drop Tryz.func225 (by kernel_rfl) (Eq.trans (by kernel_rfl) hk) hn
theorem E_slices_ContainsFunc_impl_Done_impl_Done {lo : Nat} {a0 : Option (Nat × Nat)} {n0 : Nat} {c0 : Option Nat} {g1 : Nat} {l1 : List V} {h : Heap} {v : V} {h' : Heap} (hk : (cal (evl (List.length h) 258 [.sl 5 a0 n0 c0, .fn g1 l1] h) fun v_0 h_1 => eI .i64 v_0 fun n_2 => br (decide (n_2 ≥ (0 : Int))) (some (.bool true, h_1)) (some (.bool false, h_1))) = some (v, h')) (hn : noId v = true := by rfl) :
    evl lo 226 [.sl 5 a0 n0 c0, .fn g1 l1] h = some (v, h) :=
  eval_drop Tryz.func226 (by kernel_rfl) (Eq.trans (by kernel_rfl) hk) hn
theorem E_impl_formed_1 {lo : Nat} {x0 : Int} {x0_1 : Int} {x0_2 : Int} {x0_3 : Int} {x0_4 : Int} {h : Heap} {v : V} {h' : Heap} (hk : (cal (evl (List.length h) 77 [.int .i64 (x0), .int .i64 0, .int .i64 3] h) fun v_0 h_1 => eB v_0 (cal (evl (List.length h) 77 [.int .i64 (x0_1), .int .i64 1, .int .i64 3] h_1) fun v_2 h_3 => eB v_2 (cal (evl (List.length h) 156 [.int .i64 (x0_2)] h_3) fun v_4 h_5 => eB v_4 (cal (evl (List.length h) 228 [.agg [.int .i64 (x0_3), .int .i64 (x0_4)]] h_5) fun v_6 h_7 => eB v_6 (br ((x0_3 == (0 : Int)) && ((x0_4 == (0 : Int)) && true)) (br (x0_1 == (2 : Int)) (some (.bool false, h_7)) (some (.bool true, h_7))) (some (.bool false, h_7))) (some (.bool true, h_7))) (some (.bool true, h_5))) (some (.bool true, h_3))) (some (.bool true, h_1))) = some (v, h')) (hn : noId v = true := by rfl) :
    evl lo 227 [.agg [.int .i64 (x0), .int .i64 (x0_1), .int .i64 (x0_2), .int .i64 (x0_3), .int .i64 (x0_4)]] h = some (v, h) :=
  eval_drop Tryz.func227 (by kernel_rfl) (Eq.trans (by kernel_rfl) hk) hn
theorem E_impl_TagOk {lo : Nat} {x0 : Int} {x0_1 : Int} {h : Heap} {v : V} {h' : Heap} (hk : (br ((x0 == (0 : Int)) && ((x0_1 == (0 : Int)) && true)) (some (.bool true, h)) (cal (evl (List.length h) 77 [.int .i64 (x0), .int .i64 1, .int .i64 999] h) fun v_0 h_1 => eB v_0 (cal (evl (List.length h) 164 [.int .i64 (x0_1)] h_1) fun v_2 h_3 => eB v_2 (some (.bool true, h_3)) (some (.bool false, h_3))) (some (.bool false, h_1)))) = some (v, h')) (hn : noId v = true := by rfl) :
    evl lo 228 [.agg [.int .i64 (x0), .int .i64 (x0_1)]] h = some (v, h) :=
  eval_drop Tryz.func228 (by kernel_rfl) (Eq.trans (by kernel_rfl) hk) hn
noncomputable def L_slices_EqualFunc_impl_Ver_impl_Ver_impl_Ver_impl_Ver_0 (lo : Nat) (a1 : Option (Nat × Nat)) (n1 : Nat) (c1 : Option Nat) (g2 : Nat) (l2 : List V) (b6 : Bool) (a15 : Option (Nat × Nat)) (n15 : Nat) (c15 : Option Nat) (x16 : Int) (x17 : Int) (h : Heap) : Option (V × Heap) :=
  Lp (X 229) lo (cb (cb (cr (cl (cr (cr (code Tryz.f229))))))) 0 (kBlock 0 (kS (X 229) lo (cr (cr (cr (code Tryz.f229)))) 0 (kTop (X 229) Tryz.f229.results.toList))) ⟨[(1, .sl 6 a1 n1 c1), (2, .fn g2 l2), (6, .bool (b6)), (15, .sl 6 a15 n15 c15), (16, .int .i64 (x16)), (17, .int .i64 (x17))], [], h⟩
theorem E_slices_EqualFunc_impl_Ver_impl_Ver_impl_Ver_impl_Ver {lo : Nat} {a0 : Option (Nat × Nat)} {n0 : Nat} {c0 : Option Nat} {a1 : Option (Nat × Nat)} {n1 : Nat} {c1 : Option Nat} {g2 : Nat} {l2 : List V} {h : Heap} {v : V} {h' : Heap} (hk : (br ((↑n0 : Int) == (↑n1 : Int)) (L_slices_EqualFunc_impl_Ver_impl_Ver_impl_Ver_impl_Ver_0 (List.length h) a1 n1 c1 g2 l2 false a0 n0 c0 ((↑n0 : Int)) 0 h) (some (.bool false, h))) = some (v, h')) (hn : noId v = true := by rfl) :
    evl lo 229 [.sl 6 a0 n0 c0, .sl 6 a1 n1 c1, .fn g2 l2] h = some (v, h) :=
  eval_drop Tryz.func229 (by kernel_rfl) (Eq.trans (by kernel_rfl) hk) hn
theorem L_slices_EqualFunc_impl_Ver_impl_Ver_impl_Ver_impl_Ver_0.e {lo : Nat} {a1 : Option (Nat × Nat)} {n1 : Nat} {c1 : Option Nat} {g2 : Nat} {l2 : List V} {b6 : Bool} {a15 : Option (Nat × Nat)} {n15 : Nat} {c15 : Option Nat} {x16 : Int} {x17 : Int} {h : Heap} :
    L_slices_EqualFunc_impl_Ver_impl_Ver_impl_Ver_impl_Ver_0 lo a1 n1 c1 g2 l2 b6 a15 n15 c15 x16 x17 h = br (decide (x17 < x16)) (inB (x17) n15 (eO a15 fun o_0 => eO (ld h (o_0.1) ((o_0.2) + (x17.toNat)) 0 6) fun o_1 => eC o_1 fun v_2 l_3 => eI .i64 v_2 fun n_4 => eC l_3 fun v_5 l_6 => eI .i64 v_5 fun n_7 => eC l_6 fun v_8 l_9 => eI .i64 v_8 fun n_10 => eC l_9 fun v_11 l_12 => eS 2 (v_11) fun a_13 n_14 c_15 => eC l_12 fun v_16 l_17 => eT v_16 fun s_18 => eC l_17 fun v_19 l_20 => eBv v_19 fun b_21 => eN l_20 (inB (x17) n1 (eO a1 fun o_22 => eO (ld h (o_22.1) ((o_22.2) + (x17.toNat)) 0 6) fun o_23 => eC o_23 fun v_24 l_25 => eI .i64 v_24 fun n_26 => eC l_25 fun v_27 l_28 => eI .i64 v_27 fun n_29 => eC l_28 fun v_30 l_31 => eI .i64 v_30 fun n_32 => eC l_31 fun v_33 l_34 => eS 2 (v_33) fun a_35 n_36 c_37 => eC l_34 fun v_38 l_39 => eT v_38 fun s_40 => eC l_39 fun v_41 l_42 => eBv v_41 fun b_43 => eN l_42 (cal (evl lo g2 (fnArgs [.agg [.int .i64 (n_4), .int .i64 (n_7), .int .i64 (n_10), .sl 2 a_13 n_14 c_15, .str (s_18), .bool (b_21)], .agg [.int .i64 (n_26), .int .i64 (n_29), .int .i64 (n_32), .sl 2 a_35 n_36 c_37, .str (s_40), .bool (b_43)]] l2) h) fun v_44 h_45 => eB v_44 (L_slices_EqualFunc_impl_Ver_impl_Ver_impl_Ver_impl_Ver_0 lo a1 n1 c1 g2 l2 (b6) a15 n15 c15 (x16) (IntKind.wrap .i64 ((x17) + 1)) h_45) (some (.bool false, h_45))))))) (some (.bool true, h)) :=
  Lp_eq.trans (by kernel_rfl)
theorem E_impl_Ver_same {lo : Nat} {x0 : Int} {x0_1 : Int} {x0_2 : Int} {a0 : Option (Nat × Nat)} {n0 : Nat} {c0 : Option Nat} {s0 : ByteArray} {b0 : Bool} {x1 : Int} {x1_1 : Int} {x1_2 : Int} {a1 : Option (Nat × Nat)} {n1 : Nat} {c1 : Option Nat} {s1 : ByteArray} {b1 : Bool} {h : Heap} {v : V} {h' : Heap} (hk : (br (x0 == x1) (br ((x0_1 == x1_1) && ((x0_2 == x1_2) && true)) (cal (evl (List.length h) 259 [.sl 2 a0 n0 c0, .sl 2 a1 n1 c1] h) fun v_0 h_1 => eB v_0 (br (s0.toList == s1.toList) (br (b0 == b1) (some (.bool true, h_1)) (some (.bool false, h_1))) (some (.bool false, h_1))) (some (.bool false, h_1))) (some (.bool false, h))) (some (.bool false, h))) = some (v, h')) (hn : noId v = true := by rfl) :
    evl lo 230 [.agg [.int .i64 (x0), .int .i64 (x0_1), .int .i64 (x0_2), .sl 2 a0 n0 c0, .str (s0), .bool (b0)], .agg [.int .i64 (x1), .int .i64 (x1_1), .int .i64 (x1_2), .sl 2 a1 n1 c1, .str (s1), .bool (b1)]] h = some (v, h) :=
  eval_drop Tryz.func230 (by kernel_rfl) (Eq.trans (by kernel_rfl) hk) hn
noncomputable def L_slices_IndexFunc_impl_Sess_impl_Sess_0 (lo : Nat) (a0 : Option (Nat × Nat)) (n0 : Nat) (c0 : Option Nat) (g1 : Nat) (l1 : List V) (x4 : Int) (x7 : Int) (x8 : Int) (h : Heap) : Option (V × Heap) :=
  Lp (X 231) lo (cb (cb (cr (cl (cr (code Tryz.f231)))))) 0 (kBlock 0 (kS (X 231) lo (cr (cr (code Tryz.f231))) 0 (kTop (X 231) Tryz.f231.results.toList))) ⟨[(0, .sl 5 a0 n0 c0), (1, .fn g1 l1), (4, .int .i64 (x4)), (7, .int .i64 (x7)), (8, .int .i64 (x8))], [], h⟩
theorem E_slices_IndexFunc_impl_Sess_impl_Sess {lo : Nat} {a0 : Option (Nat × Nat)} {n0 : Nat} {c0 : Option Nat} {g1 : Nat} {l1 : List V} {h : Heap} {v : V} {h' : Heap} (hk : (L_slices_IndexFunc_impl_Sess_impl_Sess_0 (List.length h) a0 n0 c0 g1 l1 0 ((↑n0 : Int)) 0 h) = some (v, h')) (hn : noId v = true := by rfl) :
    evl lo 231 [.sl 5 a0 n0 c0, .fn g1 l1] h = some (v, h) :=
  eval_drop Tryz.func231 (by kernel_rfl) (Eq.trans (by kernel_rfl) hk) hn
theorem L_slices_IndexFunc_impl_Sess_impl_Sess_0.e {lo : Nat} {a0 : Option (Nat × Nat)} {n0 : Nat} {c0 : Option Nat} {g1 : Nat} {l1 : List V} {x4 : Int} {x7 : Int} {x8 : Int} {h : Heap} :
    L_slices_IndexFunc_impl_Sess_impl_Sess_0 lo a0 n0 c0 g1 l1 x4 x7 x8 h = br (decide (x8 < x7)) (inB (x8) n0 (eO a0 fun o_0 => eO (ld h (o_0.1) ((o_0.2) + (x8.toNat)) 0 5) fun o_1 => eC o_1 fun v_2 l_3 => eI .i64 v_2 fun n_4 => eC l_3 fun v_5 l_6 => eS 2 (v_5) fun a_7 n_8 c_9 => eC l_6 fun v_10 l_11 => eI .i64 v_10 fun n_12 => eC l_11 fun v_13 l_14 => eI .i64 v_13 fun n_15 => eC l_14 fun v_16 l_17 => eI .i64 v_16 fun n_18 => eN l_17 (cal (evl lo g1 (fnArgs [.agg [.int .i64 (n_4), .sl 2 a_7 n_8 c_9, .int .i64 (n_12), .int .i64 (n_15), .int .i64 (n_18)]] l1) h) fun v_19 h_20 => eB v_19 (some (.int .i64 (x8), h_20)) (L_slices_IndexFunc_impl_Sess_impl_Sess_0 lo a0 n0 c0 g1 l1 (x4) (x7) (IntKind.wrap .i64 ((x8) + 1)) h_20)))) (some (.int .i64 (-1), h)) :=
  Lp_eq.trans (by kernel_rfl)
theorem E_impl_PastOk {lo : Nat} {a0 : Option (Nat × Nat)} {n0 : Nat} {c0 : Option Nat} {h : Heap} {v : V} {h' : Heap} (hk : (br ((↑n0 : Int) == (4 : Int)) (cal (evl (List.length h) 260 [.sl 2 a0 n0 c0, .fn 261 []] h) fun v_0 h_1 => eB v_0 (some (.bool false, h_1)) (some (.bool true, h_1))) (some (.bool false, h))) = some (v, h')) (hn : noId v = true := by rfl) :
    evl lo 232 [.agg [.sl 2 a0 n0 c0]] h = some (v, h) :=
  eval_drop Tryz.func232 (by kernel_rfl) (Eq.trans (by kernel_rfl) hk) hn
noncomputable def L_slices_IndexFunc_impl_Frame_impl_Frame_0 (lo : Nat) (a0 : Option (Nat × Nat)) (n0 : Nat) (c0 : Option Nat) (g1 : Nat) (l1 : List V) (x4 : Int) (x7 : Int) (x8 : Int) (h : Heap) : Option (V × Heap) :=
  Lp (X 233) lo (cb (cb (cr (cl (cr (code Tryz.f233)))))) 0 (kBlock 0 (kS (X 233) lo (cr (cr (code Tryz.f233))) 0 (kTop (X 233) Tryz.f233.results.toList))) ⟨[(0, .sl 9 a0 n0 c0), (1, .fn g1 l1), (4, .int .i64 (x4)), (7, .int .i64 (x7)), (8, .int .i64 (x8))], [], h⟩
theorem E_slices_IndexFunc_impl_Frame_impl_Frame {lo : Nat} {a0 : Option (Nat × Nat)} {n0 : Nat} {c0 : Option Nat} {g1 : Nat} {l1 : List V} {h : Heap} {v : V} {h' : Heap} (hk : (L_slices_IndexFunc_impl_Frame_impl_Frame_0 (List.length h) a0 n0 c0 g1 l1 0 ((↑n0 : Int)) 0 h) = some (v, h')) (hn : noId v = true := by rfl) :
    evl lo 233 [.sl 9 a0 n0 c0, .fn g1 l1] h = some (v, h) :=
  eval_drop Tryz.func233 (by kernel_rfl) (Eq.trans (by kernel_rfl) hk) hn
theorem L_slices_IndexFunc_impl_Frame_impl_Frame_0.e {lo : Nat} {a0 : Option (Nat × Nat)} {n0 : Nat} {c0 : Option Nat} {g1 : Nat} {l1 : List V} {x4 : Int} {x7 : Int} {x8 : Int} {h : Heap} :
    L_slices_IndexFunc_impl_Frame_impl_Frame_0 lo a0 n0 c0 g1 l1 x4 x7 x8 h = br (decide (x8 < x7)) (inB (x8) n0 (eO a0 fun o_0 => eO (ld h (o_0.1) ((o_0.2) + (x8.toNat)) 0 9) fun o_1 => eC o_1 fun v_2 l_3 => eI .i64 v_2 fun n_4 => eC l_3 fun v_5 l_6 => eI .i64 v_5 fun n_7 => eC l_6 fun v_8 l_9 => eI .i64 v_8 fun n_10 => eC l_9 fun v_11 l_12 => eI .i64 v_11 fun n_13 => eC l_12 fun v_14 l_15 => eI .i64 v_14 fun n_16 => eC l_15 fun v_17 l_18 => eI .i64 v_17 fun n_19 => eC l_18 fun v_20 l_21 => eS 2 (v_20) fun a_22 n_23 c_24 => eC l_21 fun v_25 l_26 => eT v_25 fun s_27 => eC l_26 fun v_28 l_29 => eBv v_28 fun b_30 => eN l_29 (cal (evl lo g1 (fnArgs [.agg [.int .i64 (n_4), .int .i64 (n_7), .int .i64 (n_10), .int .i64 (n_13), .int .i64 (n_16), .int .i64 (n_19), .sl 2 a_22 n_23 c_24, .str (s_27), .bool (b_30)]] l1) h) fun v_31 h_32 => eB v_31 (some (.int .i64 (x8), h_32)) (L_slices_IndexFunc_impl_Frame_impl_Frame_0 lo a0 n0 c0 g1 l1 (x4) (x7) (IntKind.wrap .i64 ((x8) + 1)) h_32)))) (some (.int .i64 (-1), h)) :=
  Lp_eq.trans (by kernel_rfl)
theorem E_laws_eqSess {lo : Nat} {x0 : Int} {a0 : Option (Nat × Nat)} {n0 : Nat} {c0 : Option Nat} {x0_1 : Int} {x0_2 : Int} {x0_3 : Int} {x1 : Int} {a1 : Option (Nat × Nat)} {n1 : Nat} {c1 : Option Nat} {x1_1 : Int} {x1_2 : Int} {x1_3 : Int} {h : Heap} {v : V} {h' : Heap} (hk : (br (x0 == x1) (cal (evl (List.length h) 42 [.agg [.sl 2 a0 n0 c0], .agg [.sl 2 a1 n1 c1]] h) fun v_0 h_1 => eB v_0 (cal (evl (List.length h) 41 [.agg [.int .i64 (x0_1), .int .i64 (x0_2)], .agg [.int .i64 (x1_1), .int .i64 (x1_2)]] h_1) fun v_2 h_3 => eB v_2 (br (x0_3 == x1_3) (some (.bool true, h_3)) (some (.bool false, h_3))) (some (.bool false, h_3))) (some (.bool false, h_1))) (some (.bool false, h))) = some (v, h')) (hn : noId v = true := by rfl) :
    evl lo 234 [.agg [.int .i64 (x0), .sl 2 a0 n0 c0, .int .i64 (x0_1), .int .i64 (x0_2), .int .i64 (x0_3)], .agg [.int .i64 (x1), .sl 2 a1 n1 c1, .int .i64 (x1_1), .int .i64 (x1_2), .int .i64 (x1_3)]] h = some (v, h) :=
  eval_drop Tryz.func234 (by kernel_rfl) (Eq.trans (by kernel_rfl) hk) hn
theorem E_laws_eqDone {lo : Nat} {x0 : Int} {x0_1 : Int} {x0_2 : Int} {x0_3 : Int} {x0_4 : Int} {x1 : Int} {x1_1 : Int} {x1_2 : Int} {x1_3 : Int} {x1_4 : Int} {h : Heap} {v : V} {h' : Heap} (hk : (br (x0 == x1) (br (x0_1 == x1_1) (br (x0_2 == x1_2) (cal (evl (List.length h) 41 [.agg [.int .i64 (x0_3), .int .i64 (x0_4)], .agg [.int .i64 (x1_3), .int .i64 (x1_4)]] h) fun v_0 h_1 => eB v_0 (some (.bool true, h_1)) (some (.bool false, h_1))) (some (.bool false, h))) (some (.bool false, h))) (some (.bool false, h))) = some (v, h')) (hn : noId v = true := by rfl) :
    evl lo 235 [.agg [.int .i64 (x0), .int .i64 (x0_1), .int .i64 (x0_2), .int .i64 (x0_3), .int .i64 (x0_4)], .agg [.int .i64 (x1), .int .i64 (x1_1), .int .i64 (x1_2), .int .i64 (x1_3), .int .i64 (x1_4)]] h = some (v, h) :=
  eval_drop Tryz.func235 (by kernel_rfl) (Eq.trans (by kernel_rfl) hk) hn
theorem E_spec_l2Same {lo : Nat} {x0 : Int} {x0_1 : Int} {x0_2 : Int} {a0 : Option (Nat × Nat)} {n0 : Nat} {c0 : Option Nat} {s0 : ByteArray} {b0 : Bool} {x1 : Int} {x1_1 : Int} {x1_2 : Int} {a1 : Option (Nat × Nat)} {n1 : Nat} {c1 : Option Nat} {s1 : ByteArray} {b1 : Bool} {h : Heap} {v : V} {h' : Heap} (hk : (cal (evl (List.length h) 262 [.agg [.int .i64 (x0), .int .i64 (x0_1), .int .i64 (x0_2), .sl 2 a0 n0 c0, .str (s0), .bool (b0)]] h) fun v_0 h_1 => eT v_0 fun s_2 => cal (evl (List.length h) 262 [.agg [.int .i64 (x1), .int .i64 (x1_1), .int .i64 (x1_2), .sl 2 a1 n1 c1, .str (s1), .bool (b1)]] h_1) fun v_3 h_4 => eT v_3 fun s_5 => br (s_2.toList == s_5.toList) (some (.bool true, h_4)) (some (.bool false, h_4))) = some (v, h')) (hn : noId v = true := by rfl) :
    evl lo 236 [.agg [.int .i64 (x0), .int .i64 (x0_1), .int .i64 (x0_2), .sl 2 a0 n0 c0, .str (s0), .bool (b0)], .agg [.int .i64 (x1), .int .i64 (x1_1), .int .i64 (x1_2), .sl 2 a1 n1 c1, .str (s1), .bool (b1)]] h = some (v, h) :=
  eval_drop Tryz.func236 (by kernel_rfl) (Eq.trans (by kernel_rfl) hk) hn
theorem E_impl_Store_same {lo : Nat} {a0 : Option (Nat × Nat)} {n0 : Nat} {c0 : Option Nat} {a1 : Option (Nat × Nat)} {n1 : Nat} {c1 : Option Nat} {h : Heap} {v : V} {h' : Heap} (hk : (cal (evl (List.length h) 229 [.sl 6 a0 n0 c0, .sl 6 a1 n1 c1, .fn 230 []] h) fun v_0 h_1 => eB v_0 (some (.bool true, h_1)) (some (.bool false, h_1))) = some (v, h')) (hn : noId v = true := by rfl) :
    evl lo 239 [.agg [.sl 6 a0 n0 c0], .agg [.sl 6 a1 n1 c1]] h = some (v, h) :=
  eval_drop Tryz.func239 (by kernel_rfl) (Eq.trans (by kernel_rfl) hk) hn
theorem E_impl_PastNone {lo : Nat} {h : Heap} {r : V × Heap} (hk : (some (.agg [.sl 2 (some ((List.length h), 0)) 4 (some 4)], (h ++ [.rows 2 31 false [[.int .i64 0, .int .i64 0], [.int .i64 0, .int .i64 0], [.int .i64 0, .int .i64 0], [.int .i64 0, .int .i64 0]]]))) = some r) :
    evl lo 240 [] h = some r :=
  eval_keep Tryz.func240 (by kernel_rfl) (Eq.trans (by kernel_rfl) hk)
theorem E_slices_Clip_impl_Tag_impl_Tag {lo : Nat} {a0 : Option (Nat × Nat)} {n0 : Nat} {c0 : Option Nat} {h : Heap} {r : V × Heap} (hk : (reslice a0 n0 c0 none (some (.int .i64 ((↑n0 : Int)))) (some (.int .i64 ((↑n0 : Int)))) fun a_0 n_1 c_2 => some (.sl 2 a_0 n_1 c_2, h)) = some r) :
    evl lo 242 [.sl 2 a0 n0 c0] h = some r :=
  eval_keep Tryz.func242 (by kernel_rfl) (Eq.trans (by kernel_rfl) hk)
theorem E_slices_Clone_impl_Tag_impl_Tag {lo : Nat} {a0 : Option (Nat × Nat)} {n0 : Nat} {c0 : Option Nat} {h : Heap} {r : V × Heap} (hk : (br (a0.isNone) (some (.sl 0 none 0 (some 0), h)) (rowsOf 2 (h ++ [.rows 2 31 false []]) (.sl 2 a0 n0 c0) fun x_0 => app lo 31 2 16 (.sl 2 (some ((List.length h), 0)) 0 (some 0)) x_0 (h ++ [.rows 2 31 false []]) fun v_1 h_2 => eS 2 (v_1) fun a_3 n_4 c_5 => some (.sl 2 a_3 n_4 c_5, h_2))) = some r) :
    evl lo 243 [.sl 2 a0 n0 c0] h = some r :=
  eval_keep Tryz.func243 (by kernel_rfl) (Eq.trans (by kernel_rfl) hk)
noncomputable def L_impl_versCopied_0 (lo : Nat) (a3 : Option (Nat × Nat)) (n3 : Nat) (c3 : Option Nat) (a9 : Option (Nat × Nat)) (n9 : Nat) (c9 : Option Nat) (x10 : Int) (x11 : Int) (h : Heap) : Option (V × Heap) :=
  Lp (X 244) lo (cb (cb (cr (cl (cr (cr (code Tryz.f244))))))) 0 (kBlock 0 (kS (X 244) lo (cr (cr (cr (code Tryz.f244)))) 0 (kTop (X 244) Tryz.f244.results.toList))) ⟨[(3, .sl 6 a3 n3 c3), (9, .sl 6 a9 n9 c9), (10, .int .i64 (x10)), (11, .int .i64 (x11))], [], h⟩
theorem E_impl_versCopied {lo : Nat} {a0 : Option (Nat × Nat)} {n0 : Nat} {c0 : Option Nat} {h : Heap} {r : V × Heap} (hk : (need (decide ((0 : Int) ≤ (0 : Int) ∧ (0 : Int) ≤ (↑n0 : Int) ∧ (↑n0 : Int) ≤ (140737488355328 : Int) ∧ (↑n0 : Int) * (↑(72 : Nat) : Int) ≤ (281474976710656 : Int))) (L_impl_versCopied_0 lo (some ((List.length h), 0)) 0 (some n0) a0 n0 c0 ((↑n0 : Int)) 0 (h ++ [.rows 6 36 false (List.replicate n0 [.int .i64 0, .int .i64 0, .int .i64 0, .sl 0 none 0 (some 0), .str ⟨⟨[]⟩⟩, .bool false])]))) = some r) :
    evl lo 244 [.sl 6 a0 n0 c0] h = some r :=
  eval_keep Tryz.func244 (by kernel_rfl) (Eq.trans (by kernel_rfl) hk)
theorem L_impl_versCopied_0.e {lo : Nat} {a3 : Option (Nat × Nat)} {n3 : Nat} {c3 : Option Nat} {a9 : Option (Nat × Nat)} {n9 : Nat} {c9 : Option Nat} {x10 : Int} {x11 : Int} {h : Heap} :
    L_impl_versCopied_0 lo a3 n3 c3 a9 n9 c9 x10 x11 h = br (decide (x11 < x10)) (inB (x11) n9 (eO a9 fun o_0 => eO (ld h (o_0.1) ((o_0.2) + (x11.toNat)) 0 6) fun o_1 => eC o_1 fun v_2 l_3 => eI .i64 v_2 fun n_4 => eC l_3 fun v_5 l_6 => eI .i64 v_5 fun n_7 => eC l_6 fun v_8 l_9 => eI .i64 v_8 fun n_10 => eC l_9 fun v_11 l_12 => eS 2 (v_11) fun a_13 n_14 c_15 => eC l_12 fun v_16 l_17 => eT v_16 fun s_18 => eC l_17 fun v_19 l_20 => eBv v_19 fun b_21 => eN l_20 (cal (evl lo 78 [.agg [.int .i64 (n_4), .int .i64 (n_7), .int .i64 (n_10), .sl 2 a_13 n_14 c_15, .str (s_18), .bool (b_21)]] h) fun v_22 h_23 => eA v_22 fun c_24 => eC c_24 fun v_25 l_26 => eI .i64 v_25 fun n_27 => eC l_26 fun v_28 l_29 => eI .i64 v_28 fun n_30 => eC l_29 fun v_31 l_32 => eI .i64 v_31 fun n_33 => eC l_32 fun v_34 l_35 => eS 2 (v_34) fun a_36 n_37 c_38 => eC l_35 fun v_39 l_40 => eT v_39 fun s_41 => eC l_40 fun v_42 l_43 => eBv v_42 fun b_44 => eN l_43 (rowsOf 6 (h_23 ++ [.rows 6 36 false [[.int .i64 (n_27), .int .i64 (n_30), .int .i64 (n_33), .sl 2 a_36 n_37 c_38, .str (s_41), .bool (b_44)]]]) (.sl 6 (some ((List.length h_23), 0)) 1 (some 1)) fun x_45 => app lo 36 6 72 (.sl 6 a3 n3 c3) x_45 (h_23 ++ [.rows 6 36 false [[.int .i64 (n_27), .int .i64 (n_30), .int .i64 (n_33), .sl 2 a_36 n_37 c_38, .str (s_41), .bool (b_44)]]]) fun v_46 h_47 => eS 6 (v_46) fun a_48 n_49 c_50 => L_impl_versCopied_0 lo a_48 n_49 c_50 a9 n9 c9 (x10) (IntKind.wrap .i64 ((x11) + 1)) h_47)))) (some (.sl 6 a3 n3 c3, h)) :=
  Lp_eq.trans (by kernel_rfl)
theorem E_impl_hasTag_1 {lo : Nat} {x0 : Int} {x0_1 : Int} {x0_2 : Int} {a0 : Option (Nat × Nat)} {n0 : Nat} {c0 : Option Nat} {s0 : ByteArray} {b0 : Bool} {pb1 : Nat} {h : Heap} {v : V} {h' : Heap} (hk : (eO (ld h pb1 0 0 2) fun o_0 => eC o_0 fun v_1 l_2 => eI .i64 v_1 fun n_3 => eC l_2 fun v_4 l_5 => eI .i64 v_4 fun n_6 => eN l_5 (br ((x0_1 == n_3) && ((x0_2 == n_6) && true)) (some (.bool true, h)) (some (.bool false, h)))) = some (v, h')) (hn : noId v = true := by rfl) :
    evl lo 245 [.agg [.int .i64 (x0), .int .i64 (x0_1), .int .i64 (x0_2), .sl 2 a0 n0 c0, .str (s0), .bool (b0)], .ptr (some (pb1, (0, 0)))] h = some (v, h) :=
  eval_drop Tryz.func245 (by kernel_rfl) (Eq.trans (by kernel_rfl) hk) hn
theorem E_spec_l2Add {lo : Nat} {a0 : Option (Nat × Nat)} {n0 : Nat} {c0 : Option Nat} {x1 : Int} {x1_1 : Int} {x1_2 : Int} {a1 : Option (Nat × Nat)} {n1 : Nat} {c1 : Option Nat} {s1 : ByteArray} {b1 : Bool} {h : Heap} {r : V × Heap} (hk : (inB (x1) n0 (eO a0 fun o_0 => eO (ld h (o_0.1) ((o_0.2) + (x1.toNat)) 1 2) fun o_1 => eC o_1 fun v_2 l_3 => eI .i64 v_2 fun n_4 => eC l_3 fun v_5 l_6 => eI .i64 v_5 fun n_7 => eN l_6 (cal (evl lo 154 [.agg [.int .i64 (n_4), .int .i64 (n_7)], .agg [.int .i64 (x1_1), .int .i64 (x1_2)]] h) fun v_8 h_9 => eB v_8 (cal (evl lo 72 [.agg [.int .i64 (x1), .int .i64 (x1_1), .int .i64 (x1_2), .sl 2 a1 n1 c1, .str (s1), .bool (b1)]] h_9) fun v_10 h_11 => eA v_10 fun c_12 => eC c_12 fun v_13 l_14 => eI .i64 v_13 fun n_15 => eC l_14 fun v_16 l_17 => eI .i64 v_16 fun n_18 => eC l_17 fun v_19 l_20 => eI .i64 v_19 fun n_21 => eC l_20 fun v_22 l_23 => eS 2 (v_22) fun a_24 n_25 c_26 => eC l_23 fun v_27 l_28 => eT v_27 fun s_29 => eC l_28 fun v_30 l_31 => eBv v_30 fun b_32 => eN l_31 (inB (x1) n0 (eO a0 fun o_33 => eO (st lo h_11 (o_33.1) ((o_33.2) + (x1.toNat)) 0 [.int .i64 (n_15), .int .i64 (n_18), .int .i64 (n_21), .sl 2 a_24 n_25 c_26, .str (s_29), .bool (b_32)]) fun o_34 => some (.agg [.sl 6 a0 n0 c0], o_34)))) (some (.agg [.sl 6 a0 n0 c0], h_9))))) = some r) :
    evl lo 246 [.agg [.sl 6 a0 n0 c0], .agg [.int .i64 (x1), .int .i64 (x1_1), .int .i64 (x1_2), .sl 2 a1 n1 c1, .str (s1), .bool (b1)]] h = some r :=
  eval_keep Tryz.func246 (by kernel_rfl) (Eq.trans (by kernel_rfl) hk)
noncomputable def L_spec_l2Tags_0 (lo : Nat) (x4 : Int) (a1b : Option (Nat × Nat)) (n1b : Nat) (c1b : Option Nat) (q2b : Nat) (a2b : Option (Nat × Nat)) (n2b : Nat) (c2b : Option Nat) (q3b : Nat) (a3b : Option (Nat × Nat)) (n3b : Nat) (c3b : Option Nat) (h : Heap) : Option (V × Heap) :=
  Lp (X 250) lo (cb (cb (cr (cl (cr (cr (code Tryz.f250))))))) 0 (kBlock 0 (kS (X 250) lo (cr (cr (cr (code Tryz.f250)))) 0 (kTop (X 250) Tryz.f250.results.toList))) ⟨[(1, .lp 1 0), (2, .lp 2 0), (3, .lp 3 0), (4, .int .i64 (x4))], [(1, [.sl 6 a1b n1b c1b]), (2, [.sl q2b a2b n2b c2b]), (3, [.sl q3b a3b n3b c3b])], h⟩
theorem E_spec_l2Tags {lo : Nat} {a0 : Option (Nat × Nat)} {n0 : Nat} {c0 : Option Nat} {h : Heap} {r : V × Heap} (hk : (L_spec_l2Tags_0 lo 0 a0 n0 c0 0 none 0 (some 0) 0 none 0 (some 0) h) = some r) :
    evl lo 250 [.agg [.sl 6 a0 n0 c0]] h = some r :=
  eval_keep Tryz.func250 (by kernel_rfl) (Eq.trans (by kernel_rfl) hk)
theorem L_spec_l2Tags_0.e {lo : Nat} {x4 : Int} {a1b : Option (Nat × Nat)} {n1b : Nat} {c1b : Option Nat} {q2b : Nat} {a2b : Option (Nat × Nat)} {n2b : Nat} {c2b : Option Nat} {q3b : Nat} {a3b : Option (Nat × Nat)} {n3b : Nat} {c3b : Option Nat} {h : Heap} :
    L_spec_l2Tags_0 lo x4 a1b n1b c1b q2b a2b n2b c2b q3b a3b n3b c3b h = br (decide (x4 < (↑n1b : Int))) (inB (x4) n1b (eO a1b fun o_0 => eO (ld h (o_0.1) ((o_0.2) + (x4.toNat)) 1 2) fun o_1 => eC o_1 fun v_2 l_3 => eI .i64 v_2 fun n_4 => eC l_3 fun v_5 l_6 => eI .i64 v_5 fun n_7 => eN l_6 (rowsOf 2 (h ++ [.rows 2 31 false [[.int .i64 (n_4), .int .i64 (n_7)]]]) (.sl 2 (some ((List.length h), 0)) 1 (some 1)) fun x_8 => app lo 31 2 16 (.sl q3b a3b n3b c3b) x_8 (h ++ [.rows 2 31 false [[.int .i64 (n_4), .int .i64 (n_7)]]]) fun v_9 h_10 => eS 2 (v_9) fun a_11 n_12 c_13 => L_spec_l2Tags_0 lo (IntKind.wrap .i64 ((x4) + 1)) a1b n1b c1b q2b a2b n2b c2b 2 a_11 n_12 c_13 h_10))) (some (.agg [.sl q3b a3b n3b c3b], h)) :=
  Lp_eq.trans (by kernel_rfl)
noncomputable def L_impl_textOk_0 (lo : Nat) (s0 : ByteArray) (b2 : Bool) (x5 : Int) (x6 : Int) (h : Heap) : Option (V × Heap) :=
  Lp (X 251) lo (cb (cb (cr (cl (cr (code Tryz.f251)))))) 0 (kBlock 0 (kS (X 251) lo (cr (cr (code Tryz.f251))) 0 (kTop (X 251) Tryz.f251.results.toList))) ⟨[(0, .str (s0)), (2, .bool (b2)), (5, .int .i64 (x5)), (6, .int .i64 (x6))], [], h⟩
theorem E_impl_textOk {lo : Nat} {s0 : ByteArray} {h : Heap} {v : V} {h' : Heap} (hk : (L_impl_textOk_0 (List.length h) (s0) false ((↑s0.size : Int)) 0 h) = some (v, h')) (hn : noId v = true := by rfl) :
    evl lo 251 [.str (s0)] h = some (v, h) :=
  eval_drop Tryz.func251 (by kernel_rfl) (Eq.trans (by kernel_rfl) hk) hn
theorem L_impl_textOk_0.e {lo : Nat} {s0 : ByteArray} {b2 : Bool} {x5 : Int} {x6 : Int} {h : Heap} :
    L_impl_textOk_0 lo s0 b2 x5 x6 h = br (decide (x6 < x5)) (eO (strAt (s0) (x6)) fun o_0 => cal (evl lo 77 [.int .i64 (IntKind.wrap .i64 ((↑o_0.toNat : Int))), .int .i64 33, .int .i64 126] h) fun v_1 h_2 => eB v_1 (L_impl_textOk_0 lo (s0) (b2) (x5) (IntKind.wrap .i64 ((x6) + 1)) h_2) (some (.bool false, h_2))) (br (decide ((↑s0.size : Int) ≤ (8 : Int))) (some (.bool true, h)) (some (.bool false, h))) :=
  Lp_eq.trans (by kernel_rfl)
theorem E_laws_szStore {lo : Nat} {a0 : Option (Nat × Nat)} {n0 : Nat} {c0 : Option Nat} {x1 : Int} {h : Heap} {v : V} {h' : Heap} (hk : (cal (evl (List.length h) 68 [.sl 6 a0 n0 c0, .int .i64 (x1)] h) fun v_0 h_1 => eI .i64 v_0 fun n_2 => br (decide (n_2 < (0 : Int))) (some (.int .i64 (-1), h_1)) (some (.int .i64 (n_2), h_1))) = some (v, h')) (hn : noId v = true := by rfl) :
    evl lo 252 [.agg [.sl 6 a0 n0 c0], .int .i64 (x1)] h = some (v, h) :=
  eval_drop Tryz.func252 (by kernel_rfl) (Eq.trans (by kernel_rfl) hk) hn
theorem E_laws_toStore {lo : Nat} {a0 : Option (Nat × Nat)} {n0 : Nat} {c0 : Option Nat} {h : Heap} {r : V × Heap} (hk : (cal (evl lo 73 [.sl 6 a0 n0 c0] h) fun v_0 h_1 => eS 6 (v_0) fun a_2 n_3 c_4 => some (.agg [.sl 6 a_2 n_3 c_4], h_1)) = some r) :
    evl lo 253 [.agg [.sl 6 a0 n0 c0]] h = some r :=
  eval_keep Tryz.func253 (by kernel_rfl) (Eq.trans (by kernel_rfl) hk)
theorem E_cmp_isNaN_int {lo : Nat} {x0 : Int} {h : Heap} {v : V} {h' : Heap} (hk : (br (x0 == x0) (some (.bool false, h)) (some (.bool true, h))) = some (v, h')) (hn : noId v = true := by rfl) :
    evl lo 256 [.int .i64 (x0)] h = some (v, h) :=
  eval_drop Tryz.func256 (by kernel_rfl) (Eq.trans (by kernel_rfl) hk) hn
theorem E_laws_eqStore {lo : Nat} {a0 : Option (Nat × Nat)} {n0 : Nat} {c0 : Option Nat} {a1 : Option (Nat × Nat)} {n1 : Nat} {c1 : Option Nat} {h : Heap} {v : V} {h' : Heap} (hk : (cal (evl (List.length h) 79 [.sl 6 a0 n0 c0, .sl 6 a1 n1 c1] h) fun v_0 h_1 => eB v_0 (some (.bool true, h_1)) (some (.bool false, h_1))) = some (v, h')) (hn : noId v = true := by rfl) :
    evl lo 257 [.agg [.sl 6 a0 n0 c0], .agg [.sl 6 a1 n1 c1]] h = some (v, h) :=
  eval_drop Tryz.func257 (by kernel_rfl) (Eq.trans (by kernel_rfl) hk) hn
noncomputable def L_slices_IndexFunc_impl_Done_impl_Done_0 (lo : Nat) (a0 : Option (Nat × Nat)) (n0 : Nat) (c0 : Option Nat) (g1 : Nat) (l1 : List V) (x4 : Int) (x7 : Int) (x8 : Int) (h : Heap) : Option (V × Heap) :=
  Lp (X 258) lo (cb (cb (cr (cl (cr (code Tryz.f258)))))) 0 (kBlock 0 (kS (X 258) lo (cr (cr (code Tryz.f258))) 0 (kTop (X 258) Tryz.f258.results.toList))) ⟨[(0, .sl 5 a0 n0 c0), (1, .fn g1 l1), (4, .int .i64 (x4)), (7, .int .i64 (x7)), (8, .int .i64 (x8))], [], h⟩
theorem E_slices_IndexFunc_impl_Done_impl_Done {lo : Nat} {a0 : Option (Nat × Nat)} {n0 : Nat} {c0 : Option Nat} {g1 : Nat} {l1 : List V} {h : Heap} {v : V} {h' : Heap} (hk : (L_slices_IndexFunc_impl_Done_impl_Done_0 (List.length h) a0 n0 c0 g1 l1 0 ((↑n0 : Int)) 0 h) = some (v, h')) (hn : noId v = true := by rfl) :
    evl lo 258 [.sl 5 a0 n0 c0, .fn g1 l1] h = some (v, h) :=
  eval_drop Tryz.func258 (by kernel_rfl) (Eq.trans (by kernel_rfl) hk) hn
theorem L_slices_IndexFunc_impl_Done_impl_Done_0.e {lo : Nat} {a0 : Option (Nat × Nat)} {n0 : Nat} {c0 : Option Nat} {g1 : Nat} {l1 : List V} {x4 : Int} {x7 : Int} {x8 : Int} {h : Heap} :
    L_slices_IndexFunc_impl_Done_impl_Done_0 lo a0 n0 c0 g1 l1 x4 x7 x8 h = br (decide (x8 < x7)) (inB (x8) n0 (eO a0 fun o_0 => eO (ld h (o_0.1) ((o_0.2) + (x8.toNat)) 0 5) fun o_1 => eC o_1 fun v_2 l_3 => eI .i64 v_2 fun n_4 => eC l_3 fun v_5 l_6 => eI .i64 v_5 fun n_7 => eC l_6 fun v_8 l_9 => eI .i64 v_8 fun n_10 => eC l_9 fun v_11 l_12 => eI .i64 v_11 fun n_13 => eC l_12 fun v_14 l_15 => eI .i64 v_14 fun n_16 => eN l_15 (cal (evl lo g1 (fnArgs [.agg [.int .i64 (n_4), .int .i64 (n_7), .int .i64 (n_10), .int .i64 (n_13), .int .i64 (n_16)]] l1) h) fun v_17 h_18 => eB v_17 (some (.int .i64 (x8), h_18)) (L_slices_IndexFunc_impl_Done_impl_Done_0 lo a0 n0 c0 g1 l1 (x4) (x7) (IntKind.wrap .i64 ((x8) + 1)) h_18)))) (some (.int .i64 (-1), h)) :=
  Lp_eq.trans (by kernel_rfl)
noncomputable def L_slices_Equal_impl_Tag_impl_Tag_0 (lo : Nat) (a0 : Option (Nat × Nat)) (n0 : Nat) (c0 : Option Nat) (a1 : Option (Nat × Nat)) (n1 : Nat) (c1 : Option Nat) (b4 : Bool) (x12 : Int) (x13 : Int) (h : Heap) : Option (V × Heap) :=
  Lp (X 259) lo (cb (cb (cr (cl (cr (cr (code Tryz.f259))))))) 0 (kBlock 0 (kS (X 259) lo (cr (cr (cr (code Tryz.f259)))) 0 (kTop (X 259) Tryz.f259.results.toList))) ⟨[(0, .sl 2 a0 n0 c0), (1, .sl 2 a1 n1 c1), (4, .bool (b4)), (12, .int .i64 (x12)), (13, .int .i64 (x13))], [], h⟩
theorem E_slices_Equal_impl_Tag_impl_Tag {lo : Nat} {a0 : Option (Nat × Nat)} {n0 : Nat} {c0 : Option Nat} {a1 : Option (Nat × Nat)} {n1 : Nat} {c1 : Option Nat} {h : Heap} {v : V} {h' : Heap} (hk : (br ((↑n0 : Int) == (↑n1 : Int)) (L_slices_Equal_impl_Tag_impl_Tag_0 (List.length h) a0 n0 c0 a1 n1 c1 false ((↑n0 : Int)) 0 h) (some (.bool false, h))) = some (v, h')) (hn : noId v = true := by rfl) :
    evl lo 259 [.sl 2 a0 n0 c0, .sl 2 a1 n1 c1] h = some (v, h) :=
  eval_drop Tryz.func259 (by kernel_rfl) (Eq.trans (by kernel_rfl) hk) hn
theorem L_slices_Equal_impl_Tag_impl_Tag_0.e {lo : Nat} {a0 : Option (Nat × Nat)} {n0 : Nat} {c0 : Option Nat} {a1 : Option (Nat × Nat)} {n1 : Nat} {c1 : Option Nat} {b4 : Bool} {x12 : Int} {x13 : Int} {h : Heap} :
    L_slices_Equal_impl_Tag_impl_Tag_0 lo a0 n0 c0 a1 n1 c1 b4 x12 x13 h = br (decide (x13 < x12)) (inB (x13) n0 (eO a0 fun o_0 => eO (ld h (o_0.1) ((o_0.2) + (x13.toNat)) 0 2) fun o_1 => eC o_1 fun v_2 l_3 => eI .i64 v_2 fun n_4 => eC l_3 fun v_5 l_6 => eI .i64 v_5 fun n_7 => eN l_6 (inB (x13) n1 (eO a1 fun o_8 => eO (ld h (o_8.1) ((o_8.2) + (x13.toNat)) 0 2) fun o_9 => eC o_9 fun v_10 l_11 => eI .i64 v_10 fun n_12 => eC l_11 fun v_13 l_14 => eI .i64 v_13 fun n_15 => eN l_14 (br ((n_4 == n_12) && ((n_7 == n_15) && true)) (L_slices_Equal_impl_Tag_impl_Tag_0 lo a0 n0 c0 a1 n1 c1 (b4) (x12) (IntKind.wrap .i64 ((x13) + 1)) h) (some (.bool false, h))))))) (some (.bool true, h)) :=
  Lp_eq.trans (by kernel_rfl)
theorem E_slices_ContainsFunc_impl_Tag_impl_Tag {lo : Nat} {a0 : Option (Nat × Nat)} {n0 : Nat} {c0 : Option Nat} {g1 : Nat} {l1 : List V} {h : Heap} {v : V} {h' : Heap} (hk : (cal (evl (List.length h) 274 [.sl 2 a0 n0 c0, .fn g1 l1] h) fun v_0 h_1 => eI .i64 v_0 fun n_2 => br (decide (n_2 ≥ (0 : Int))) (some (.bool true, h_1)) (some (.bool false, h_1))) = some (v, h')) (hn : noId v = true := by rfl) :
    evl lo 260 [.sl 2 a0 n0 c0, .fn g1 l1] h = some (v, h) :=
  eval_drop Tryz.func260 (by kernel_rfl) (Eq.trans (by kernel_rfl) hk) hn
theorem E_impl_PastOk_1 {lo : Nat} {x0 : Int} {x0_1 : Int} {h : Heap} {v : V} {h' : Heap} (hk : (cal (evl (List.length h) 228 [.agg [.int .i64 (x0), .int .i64 (x0_1)]] h) fun v_0 h_1 => eB v_0 (some (.bool false, h_1)) (some (.bool true, h_1))) = some (v, h')) (hn : noId v = true := by rfl) :
    evl lo 261 [.agg [.int .i64 (x0), .int .i64 (x0_1)]] h = some (v, h) :=
  eval_drop Tryz.func261 (by kernel_rfl) (Eq.trans (by kernel_rfl) hk) hn
theorem E_spec_l2Put {lo : Nat} {x0 : Int} {x0_1 : Int} {x0_2 : Int} {a0 : Option (Nat × Nat)} {n0 : Nat} {c0 : Option Nat} {s0 : ByteArray} {b0 : Bool} {h : Heap} {v : V} {h' : Heap} (hk : (cat ⟨⟨[61]⟩⟩ (s0) fun s_0 => br b0 (cal (evl (List.length h) 275 [.int .i64 (x0)] h) fun v_1 h_2 => eT v_1 fun s_3 => cat (s_3) ⟨⟨[32]⟩⟩ fun s_4 => cal (evl (List.length h) 276 [.agg [.int .i64 (x0_1), .int .i64 (x0_2)]] h_2) fun v_5 h_6 => eT v_5 fun s_7 => cat (s_4) (s_7) fun s_8 => cal (evl (List.length h) 277 [.agg [.sl 2 a0 n0 c0]] h_6) fun v_9 h_10 => eT v_9 fun s_11 => cat (s_8) (s_11) fun s_12 => cat (s_12) ⟨⟨[32]⟩⟩ fun s_13 => cat (s_13) ⟨⟨[45]⟩⟩ fun s_14 => some (.str (s_14), h_10)) (cal (evl (List.length h) 275 [.int .i64 (x0)] h) fun v_15 h_16 => eT v_15 fun s_17 => cat (s_17) ⟨⟨[32]⟩⟩ fun s_18 => cal (evl (List.length h) 276 [.agg [.int .i64 (x0_1), .int .i64 (x0_2)]] h_16) fun v_19 h_20 => eT v_19 fun s_21 => cat (s_18) (s_21) fun s_22 => cal (evl (List.length h) 277 [.agg [.sl 2 a0 n0 c0]] h_20) fun v_23 h_24 => eT v_23 fun s_25 => cat (s_22) (s_25) fun s_26 => cat (s_26) ⟨⟨[32]⟩⟩ fun s_27 => cat (s_27) (s_0) fun s_28 => some (.str (s_28), h_24))) = some (v, h')) (hn : noId v = true := by rfl) :
    evl lo 262 [.agg [.int .i64 (x0), .int .i64 (x0_1), .int .i64 (x0_2), .sl 2 a0 n0 c0, .str (s0), .bool (b0)]] h = some (v, h) :=
  by cases b0 <;> exact eval_drop Tryz.func262 (by kernel_rfl) (Eq.trans (by kernel_rfl) hk) hn
noncomputable def L_slices_IndexFunc_impl_Node_impl_Node_0 (lo : Nat) (a0 : Option (Nat × Nat)) (n0 : Nat) (c0 : Option Nat) (g1 : Nat) (l1 : List V) (x4 : Int) (x7 : Int) (x8 : Int) (h : Heap) : Option (V × Heap) :=
  Lp (X 263) lo (cb (cb (cr (cl (cr (code Tryz.f263)))))) 0 (kBlock 0 (kS (X 263) lo (cr (cr (code Tryz.f263))) 0 (kTop (X 263) Tryz.f263.results.toList))) ⟨[(0, .sl 2 a0 n0 c0), (1, .fn g1 l1), (4, .int .i64 (x4)), (7, .int .i64 (x7)), (8, .int .i64 (x8))], [], h⟩
theorem L_slices_IndexFunc_impl_Node_impl_Node_0.e {lo : Nat} {a0 : Option (Nat × Nat)} {n0 : Nat} {c0 : Option Nat} {g1 : Nat} {l1 : List V} {x4 : Int} {x7 : Int} {x8 : Int} {h : Heap} :
    L_slices_IndexFunc_impl_Node_impl_Node_0 lo a0 n0 c0 g1 l1 x4 x7 x8 h = br (decide (x8 < x7)) (inB (x8) n0 (eO a0 fun o_0 => eO (ld h (o_0.1) ((o_0.2) + (x8.toNat)) 0 2) fun o_1 => eC o_1 fun v_2 l_3 => eS 6 (v_2) fun a_4 n_5 c_6 => eC l_3 fun v_7 l_8 => eS 6 (v_7) fun a_9 n_10 c_11 => eN l_8 (cal (evl lo g1 (fnArgs [.agg [.sl 6 a_4 n_5 c_6, .sl 6 a_9 n_10 c_11]] l1) h) fun v_12 h_13 => eB v_12 (some (.int .i64 (x8), h_13)) (L_slices_IndexFunc_impl_Node_impl_Node_0 lo a0 n0 c0 g1 l1 (x4) (x7) (IntKind.wrap .i64 ((x8) + 1)) h_13)))) (some (.int .i64 (-1), h)) :=
  Lp_eq.trans (by kernel_rfl)
noncomputable def L_slices_insertionSortCmpFunc_impl_Ver_0 (lo : Nat) (a0 : Option (Nat × Nat)) (n0 : Nat) (c0 : Option Nat) (x1 : Int) (x2 : Int) (g3 : Nat) (l3 : List V) (x8 : Int) (h : Heap) : Option (V × Heap) :=
  Lp (X 264) lo (cb (cb (cr (code Tryz.f264)))) 0 (kBlock 0 (kTop (X 264) Tryz.f264.results.toList)) ⟨[(0, .sl 6 a0 n0 c0), (1, .int .i64 (x1)), (2, .int .i64 (x2)), (3, .fn g3 l3), (8, .int .i64 (x8))], [], h⟩
noncomputable def L_slices_insertionSortCmpFunc_impl_Ver_2 (lo : Nat) (a0 : Option (Nat × Nat)) (n0 : Nat) (c0 : Option Nat) (x1 : Int) (x2 : Int) (g3 : Nat) (l3 : List V) (x8 : Int) (x9 : Int) (h : Heap) : Option (V × Heap) :=
  Lp (X 264) lo (cb (cb (cr (cb (cl (cr (cb (cb (cr (code Tryz.f264)))))))))) 2 (kBlock 2 (kBlock 1 (kS (X 264) lo (cr (cr (cb (cb (cr (code Tryz.f264)))))) 0 (kLp (X 264) lo (cb (cb (cr (code Tryz.f264)))) 0 (kBlock 0 (kTop (X 264) Tryz.f264.results.toList)))))) ⟨[(0, .sl 6 a0 n0 c0), (1, .int .i64 (x1)), (2, .int .i64 (x2)), (3, .fn g3 l3), (8, .int .i64 (x8)), (9, .int .i64 (x9))], [], h⟩
theorem L_slices_insertionSortCmpFunc_impl_Ver_0.e {lo : Nat} {a0 : Option (Nat × Nat)} {n0 : Nat} {c0 : Option Nat} {x1 : Int} {x2 : Int} {g3 : Nat} {l3 : List V} {x8 : Int} {h : Heap} :
    L_slices_insertionSortCmpFunc_impl_Ver_0 lo a0 n0 c0 x1 x2 g3 l3 x8 h = br (decide (x8 < x2)) (L_slices_insertionSortCmpFunc_impl_Ver_2 lo a0 n0 c0 (x1) (x2) g3 l3 (x8) (x8) h) (some (.tup [], h)) :=
  Lp_eq.trans (by kernel_rfl)
theorem L_slices_insertionSortCmpFunc_impl_Ver_2.e {lo : Nat} {a0 : Option (Nat × Nat)} {n0 : Nat} {c0 : Option Nat} {x1 : Int} {x2 : Int} {g3 : Nat} {l3 : List V} {x8 : Int} {x9 : Int} {h : Heap} :
    L_slices_insertionSortCmpFunc_impl_Ver_2 lo a0 n0 c0 x1 x2 g3 l3 x8 x9 h = br (decide (x9 > x1)) (inB (x9) n0 (eO a0 fun o_0 => eO (ld h (o_0.1) ((o_0.2) + (x9.toNat)) 0 6) fun o_1 => eC o_1 fun v_2 l_3 => eI .i64 v_2 fun n_4 => eC l_3 fun v_5 l_6 => eI .i64 v_5 fun n_7 => eC l_6 fun v_8 l_9 => eI .i64 v_8 fun n_10 => eC l_9 fun v_11 l_12 => eS 2 (v_11) fun a_13 n_14 c_15 => eC l_12 fun v_16 l_17 => eT v_16 fun s_18 => eC l_17 fun v_19 l_20 => eBv v_19 fun b_21 => eN l_20 (inB (IntKind.wrap .i64 ((x9) - 1)) n0 (eO a0 fun o_22 => eO (ld h (o_22.1) ((o_22.2) + ((IntKind.i64.wrap (x9 - (1 : Int))).toNat)) 0 6) fun o_23 => eC o_23 fun v_24 l_25 => eI .i64 v_24 fun n_26 => eC l_25 fun v_27 l_28 => eI .i64 v_27 fun n_29 => eC l_28 fun v_30 l_31 => eI .i64 v_30 fun n_32 => eC l_31 fun v_33 l_34 => eS 2 (v_33) fun a_35 n_36 c_37 => eC l_34 fun v_38 l_39 => eT v_38 fun s_40 => eC l_39 fun v_41 l_42 => eBv v_41 fun b_43 => eN l_42 (cal (evl lo g3 (fnArgs [.agg [.int .i64 (n_4), .int .i64 (n_7), .int .i64 (n_10), .sl 2 a_13 n_14 c_15, .str (s_18), .bool (b_21)], .agg [.int .i64 (n_26), .int .i64 (n_29), .int .i64 (n_32), .sl 2 a_35 n_36 c_37, .str (s_40), .bool (b_43)]] l3) h) fun v_44 h_45 => eI .i64 v_44 fun n_46 => br (decide (n_46 < (0 : Int))) (inB (IntKind.wrap .i64 ((x9) - 1)) n0 (eO a0 fun o_47 => eO (ld h_45 (o_47.1) ((o_47.2) + ((IntKind.i64.wrap (x9 - (1 : Int))).toNat)) 0 6) fun o_48 => eC o_48 fun v_49 l_50 => eI .i64 v_49 fun n_51 => eC l_50 fun v_52 l_53 => eI .i64 v_52 fun n_54 => eC l_53 fun v_55 l_56 => eI .i64 v_55 fun n_57 => eC l_56 fun v_58 l_59 => eS 2 (v_58) fun a_60 n_61 c_62 => eC l_59 fun v_63 l_64 => eT v_63 fun s_65 => eC l_64 fun v_66 l_67 => eBv v_66 fun b_68 => eN l_67 (inB (x9) n0 (eO a0 fun o_69 => eO (ld h_45 (o_69.1) ((o_69.2) + (x9.toNat)) 0 6) fun o_70 => eC o_70 fun v_71 l_72 => eI .i64 v_71 fun n_73 => eC l_72 fun v_74 l_75 => eI .i64 v_74 fun n_76 => eC l_75 fun v_77 l_78 => eI .i64 v_77 fun n_79 => eC l_78 fun v_80 l_81 => eS 2 (v_80) fun a_82 n_83 c_84 => eC l_81 fun v_85 l_86 => eT v_85 fun s_87 => eC l_86 fun v_88 l_89 => eBv v_88 fun b_90 => eN l_89 (inB (x9) n0 (eO a0 fun o_91 => eO (st lo h_45 (o_91.1) ((o_91.2) + (x9.toNat)) 0 [.int .i64 (n_51), .int .i64 (n_54), .int .i64 (n_57), .sl 2 a_60 n_61 c_62, .str (s_65), .bool (b_68)]) fun o_92 => inB (IntKind.wrap .i64 ((x9) - 1)) n0 (eO a0 fun o_93 => eO (st lo o_92 (o_93.1) ((o_93.2) + ((IntKind.i64.wrap (x9 - (1 : Int))).toNat)) 0 [.int .i64 (n_73), .int .i64 (n_76), .int .i64 (n_79), .sl 2 a_82 n_83 c_84, .str (s_87), .bool (b_90)]) fun o_94 => L_slices_insertionSortCmpFunc_impl_Ver_2 lo a0 n0 c0 (x1) (x2) g3 l3 (x8) (IntKind.wrap .i64 ((x9) - 1)) o_94))))))) (L_slices_insertionSortCmpFunc_impl_Ver_0 lo a0 n0 c0 (x1) (x2) g3 l3 (IntKind.wrap .i64 ((x8) + 1)) h_45)))))) (L_slices_insertionSortCmpFunc_impl_Ver_0 lo a0 n0 c0 (x1) (x2) g3 l3 (IntKind.wrap .i64 ((x8) + 1)) h) :=
  Lp_eq.trans (by kernel_rfl)
noncomputable def L_slices_IndexFunc_impl_Tag_impl_Tag_0 (lo : Nat) (a0 : Option (Nat × Nat)) (n0 : Nat) (c0 : Option Nat) (g1 : Nat) (l1 : List V) (x4 : Int) (x7 : Int) (x8 : Int) (h : Heap) : Option (V × Heap) :=
  Lp (X 274) lo (cb (cb (cr (cl (cr (code Tryz.f274)))))) 0 (kBlock 0 (kS (X 274) lo (cr (cr (code Tryz.f274))) 0 (kTop (X 274) Tryz.f274.results.toList))) ⟨[(0, .sl 2 a0 n0 c0), (1, .fn g1 l1), (4, .int .i64 (x4)), (7, .int .i64 (x7)), (8, .int .i64 (x8))], [], h⟩
theorem E_slices_IndexFunc_impl_Tag_impl_Tag {lo : Nat} {a0 : Option (Nat × Nat)} {n0 : Nat} {c0 : Option Nat} {g1 : Nat} {l1 : List V} {h : Heap} {v : V} {h' : Heap} (hk : (L_slices_IndexFunc_impl_Tag_impl_Tag_0 (List.length h) a0 n0 c0 g1 l1 0 ((↑n0 : Int)) 0 h) = some (v, h')) (hn : noId v = true := by rfl) :
    evl lo 274 [.sl 2 a0 n0 c0, .fn g1 l1] h = some (v, h) :=
  eval_drop Tryz.func274 (by kernel_rfl) (Eq.trans (by kernel_rfl) hk) hn
theorem L_slices_IndexFunc_impl_Tag_impl_Tag_0.e {lo : Nat} {a0 : Option (Nat × Nat)} {n0 : Nat} {c0 : Option Nat} {g1 : Nat} {l1 : List V} {x4 : Int} {x7 : Int} {x8 : Int} {h : Heap} :
    L_slices_IndexFunc_impl_Tag_impl_Tag_0 lo a0 n0 c0 g1 l1 x4 x7 x8 h = br (decide (x8 < x7)) (inB (x8) n0 (eO a0 fun o_0 => eO (ld h (o_0.1) ((o_0.2) + (x8.toNat)) 0 2) fun o_1 => eC o_1 fun v_2 l_3 => eI .i64 v_2 fun n_4 => eC l_3 fun v_5 l_6 => eI .i64 v_5 fun n_7 => eN l_6 (cal (evl lo g1 (fnArgs [.agg [.int .i64 (n_4), .int .i64 (n_7)]] l1) h) fun v_8 h_9 => eB v_8 (some (.int .i64 (x8), h_9)) (L_slices_IndexFunc_impl_Tag_impl_Tag_0 lo a0 n0 c0 g1 l1 (x4) (x7) (IntKind.wrap .i64 ((x8) + 1)) h_9)))) (some (.int .i64 (-1), h)) :=
  Lp_eq.trans (by kernel_rfl)
theorem E_spec_l1Dec {lo : Nat} {x0 : Int} {h : Heap} {v : V} {h' : Heap} (hk : (br (decide (x0 < (-9223372036854775807 : Int))) (some (.str ⟨⟨[45, 57, 50, 50, 51, 51, 55, 50, 48, 51, 54, 56, 53, 52, 55, 55, 53, 56, 48, 56]⟩⟩, h)) (br (decide (x0 < (0 : Int))) (cal (evl (List.length h) 275 [.int .i64 (IntKind.wrap .i64 (0 - (x0)))] h) fun v_0 h_1 => eT v_0 fun s_2 => cat ⟨⟨[45]⟩⟩ (s_2) fun s_3 => some (.str (s_3), h_1)) (br (decide (x0 < (10 : Int))) (rowsOf 1 (h ++ [.rows 1 5 false [[.int .u8 (IntKind.wrap .u8 (IntKind.wrap .i64 (48 + (x0))))]]]) (.sl 1 (some ((List.length h), 0)) 1 (some 1)) fun x_4 => eO (byteRows x_4) fun o_5 => some (.str (bytesOf o_5), (h ++ [.rows 1 5 false [[.int .u8 (IntKind.wrap .u8 (IntKind.wrap .i64 (48 + (x0))))]]]))) (cal (evl (List.length h) 275 [.int .i64 (IntKind.wrap .i64 (x0.tdiv (10 : Int)))] h) fun v_6 h_7 => eT v_6 fun s_8 => rowsOf 1 (h_7 ++ [.rows 1 5 false [[.int .u8 (IntKind.wrap .u8 (IntKind.wrap .i64 (48 + (x0.tmod (10 : Int)))))]]]) (.sl 1 (some ((List.length h_7), 0)) 1 (some 1)) fun x_9 => eO (byteRows x_9) fun o_10 => cat (s_8) (bytesOf o_10) fun s_11 => some (.str (s_11), (h_7 ++ [.rows 1 5 false [[.int .u8 (IntKind.wrap .u8 (IntKind.wrap .i64 (48 + (x0.tmod (10 : Int)))))]]])))))) = some (v, h')) (hn : noId v = true := by rfl) :
    evl lo 275 [.int .i64 (x0)] h = some (v, h) :=
  eval_drop Tryz.func275 (by kernel_rfl) (Eq.trans (by kernel_rfl) hk) hn
theorem E_spec_l1Put {lo : Nat} {x0 : Int} {x0_1 : Int} {h : Heap} {v : V} {h' : Heap} (hk : (cal (evl (List.length h) 275 [.int .i64 (x0)] h) fun v_0 h_1 => eT v_0 fun s_2 => cat (s_2) ⟨⟨[46]⟩⟩ fun s_3 => cal (evl (List.length h) 275 [.int .i64 (x0_1)] h_1) fun v_4 h_5 => eT v_4 fun s_6 => cat (s_3) (s_6) fun s_7 => some (.str (s_7), h_5)) = some (v, h')) (hn : noId v = true := by rfl) :
    evl lo 276 [.agg [.int .i64 (x0), .int .i64 (x0_1)]] h = some (v, h) :=
  eval_drop Tryz.func276 (by kernel_rfl) (Eq.trans (by kernel_rfl) hk) hn
noncomputable def L_spec_l2Past_0 (lo : Nat) (s3 : ByteArray) (x4 : Int) (a1b : Option (Nat × Nat)) (n1b : Nat) (c1b : Option Nat) (h : Heap) : Option (V × Heap) :=
  Lp (X 277) lo (cb (cb (cr (cl (cr (cr (code Tryz.f277))))))) 0 (kBlock 0 (kS (X 277) lo (cr (cr (cr (code Tryz.f277)))) 0 (kTop (X 277) Tryz.f277.results.toList))) ⟨[(1, .lp 1 0), (3, .str (s3)), (4, .int .i64 (x4))], [(1, [.sl 2 a1b n1b c1b])], h⟩
theorem E_spec_l2Past {lo : Nat} {a0 : Option (Nat × Nat)} {n0 : Nat} {c0 : Option Nat} {h : Heap} {v : V} {h' : Heap} (hk : (L_spec_l2Past_0 (List.length h) ⟨⟨[]⟩⟩ 0 a0 n0 c0 h) = some (v, h')) (hn : noId v = true := by rfl) :
    evl lo 277 [.agg [.sl 2 a0 n0 c0]] h = some (v, h) :=
  eval_drop Tryz.func277 (by kernel_rfl) (Eq.trans (by kernel_rfl) hk) hn
theorem L_spec_l2Past_0.e {lo : Nat} {s3 : ByteArray} {x4 : Int} {a1b : Option (Nat × Nat)} {n1b : Nat} {c1b : Option Nat} {h : Heap} :
    L_spec_l2Past_0 lo s3 x4 a1b n1b c1b h = br (decide (x4 < (↑n1b : Int))) (cat (s3) ⟨⟨[32]⟩⟩ fun s_0 => inB (x4) n1b (eO a1b fun o_1 => eO (ld h (o_1.1) ((o_1.2) + (x4.toNat)) 0 2) fun o_2 => eC o_2 fun v_3 l_4 => eI .i64 v_3 fun n_5 => eC l_4 fun v_6 l_7 => eI .i64 v_6 fun n_8 => eN l_7 (cal (evl lo 276 [.agg [.int .i64 (n_5), .int .i64 (n_8)]] h) fun v_9 h_10 => eT v_9 fun s_11 => cat (s_0) (s_11) fun s_12 => L_spec_l2Past_0 lo (s_12) (IntKind.wrap .i64 ((x4) + 1)) a1b n1b c1b h_10))) (some (.str (s3), h)) :=
  Lp_eq.trans (by kernel_rfl)
noncomputable def L_slices_pdqsortCmpFunc_impl_Ver_0_0_0 (lo : Nat) (a0 : Option (Nat × Nat)) (n0 : Nat) (c0 : Option Nat) (x3 : Int) (g4 : Nat) (l4 : List V) (h : Heap) : Option (V × Heap) :=
  Lp (X 254) lo (cb (cb (cr (cr (code Tryz.f254))))) 0 (kBlock 0 (kTop (X 254) Tryz.f254.results.toList)) ⟨[(0, .sl 6 a0 n0 c0), (1, .int .i64 0), (2, .int .i64 0), (3, .int .i64 (x3)), (4, .fn g4 l4), (10, .bool true), (11, .bool true)], [], h⟩
theorem L_slices_pdqsortCmpFunc_impl_Ver_0_0_0.e {lo : Nat} {a0 : Option (Nat × Nat)} {n0 : Nat} {c0 : Option Nat} {x3 : Int} {g4 : Nat} {l4 : List V} {h : Heap} :
    L_slices_pdqsortCmpFunc_impl_Ver_0_0_0 lo a0 n0 c0 x3 g4 l4 h = cal (evl lo 264 [.sl 6 a0 n0 c0, .int .i64 0, .int .i64 0, .fn g4 l4] h) fun v_0 h_1 => eU v_0 fun c_2 => eN c_2 (some (.tup [], h_1)) :=
  Lp_eq.trans (by kernel_rfl)
noncomputable def L_slices_pdqsortCmpFunc_impl_Ver_0_1_0 (lo : Nat) (a0 : Option (Nat × Nat)) (n0 : Nat) (c0 : Option Nat) (x3 : Int) (g4 : Nat) (l4 : List V) (h : Heap) : Option (V × Heap) :=
  Lp (X 254) lo (cb (cb (cr (cr (code Tryz.f254))))) 0 (kBlock 0 (kTop (X 254) Tryz.f254.results.toList)) ⟨[(0, .sl 6 a0 n0 c0), (1, .int .i64 0), (2, .int .i64 1), (3, .int .i64 (x3)), (4, .fn g4 l4), (10, .bool true), (11, .bool true)], [], h⟩
theorem L_slices_pdqsortCmpFunc_impl_Ver_0_1_0.e {lo : Nat} {a0 : Option (Nat × Nat)} {n0 : Nat} {c0 : Option Nat} {x3 : Int} {g4 : Nat} {l4 : List V} {h : Heap} :
    L_slices_pdqsortCmpFunc_impl_Ver_0_1_0 lo a0 n0 c0 x3 g4 l4 h = cal (evl lo 264 [.sl 6 a0 n0 c0, .int .i64 0, .int .i64 1, .fn g4 l4] h) fun v_0 h_1 => eU v_0 fun c_2 => eN c_2 (some (.tup [], h_1)) :=
  Lp_eq.trans (by kernel_rfl)
noncomputable def L_slices_pdqsortCmpFunc_impl_Ver_0_2_0 (lo : Nat) (a0 : Option (Nat × Nat)) (n0 : Nat) (c0 : Option Nat) (x3 : Int) (g4 : Nat) (l4 : List V) (h : Heap) : Option (V × Heap) :=
  Lp (X 254) lo (cb (cb (cr (cr (code Tryz.f254))))) 0 (kBlock 0 (kTop (X 254) Tryz.f254.results.toList)) ⟨[(0, .sl 6 a0 n0 c0), (1, .int .i64 0), (2, .int .i64 2), (3, .int .i64 (x3)), (4, .fn g4 l4), (10, .bool true), (11, .bool true)], [], h⟩
theorem L_slices_pdqsortCmpFunc_impl_Ver_0_2_0.e {lo : Nat} {a0 : Option (Nat × Nat)} {n0 : Nat} {c0 : Option Nat} {x3 : Int} {g4 : Nat} {l4 : List V} {h : Heap} :
    L_slices_pdqsortCmpFunc_impl_Ver_0_2_0 lo a0 n0 c0 x3 g4 l4 h = cal (evl lo 264 [.sl 6 a0 n0 c0, .int .i64 0, .int .i64 2, .fn g4 l4] h) fun v_0 h_1 => eU v_0 fun c_2 => eN c_2 (some (.tup [], h_1)) :=
  Lp_eq.trans (by kernel_rfl)
noncomputable def L_slices_pdqsortCmpFunc_impl_Ver_0_3_0 (lo : Nat) (a0 : Option (Nat × Nat)) (n0 : Nat) (c0 : Option Nat) (x3 : Int) (g4 : Nat) (l4 : List V) (h : Heap) : Option (V × Heap) :=
  Lp (X 254) lo (cb (cb (cr (cr (code Tryz.f254))))) 0 (kBlock 0 (kTop (X 254) Tryz.f254.results.toList)) ⟨[(0, .sl 6 a0 n0 c0), (1, .int .i64 0), (2, .int .i64 3), (3, .int .i64 (x3)), (4, .fn g4 l4), (10, .bool true), (11, .bool true)], [], h⟩
theorem L_slices_pdqsortCmpFunc_impl_Ver_0_3_0.e {lo : Nat} {a0 : Option (Nat × Nat)} {n0 : Nat} {c0 : Option Nat} {x3 : Int} {g4 : Nat} {l4 : List V} {h : Heap} :
    L_slices_pdqsortCmpFunc_impl_Ver_0_3_0 lo a0 n0 c0 x3 g4 l4 h = cal (evl lo 264 [.sl 6 a0 n0 c0, .int .i64 0, .int .i64 3, .fn g4 l4] h) fun v_0 h_1 => eU v_0 fun c_2 => eN c_2 (some (.tup [], h_1)) :=
  Lp_eq.trans (by kernel_rfl)
noncomputable def L_slices_pdqsortCmpFunc_impl_Ver_0_4_0 (lo : Nat) (a0 : Option (Nat × Nat)) (n0 : Nat) (c0 : Option Nat) (x3 : Int) (g4 : Nat) (l4 : List V) (h : Heap) : Option (V × Heap) :=
  Lp (X 254) lo (cb (cb (cr (cr (code Tryz.f254))))) 0 (kBlock 0 (kTop (X 254) Tryz.f254.results.toList)) ⟨[(0, .sl 6 a0 n0 c0), (1, .int .i64 0), (2, .int .i64 4), (3, .int .i64 (x3)), (4, .fn g4 l4), (10, .bool true), (11, .bool true)], [], h⟩
theorem L_slices_pdqsortCmpFunc_impl_Ver_0_4_0.e {lo : Nat} {a0 : Option (Nat × Nat)} {n0 : Nat} {c0 : Option Nat} {x3 : Int} {g4 : Nat} {l4 : List V} {h : Heap} :
    L_slices_pdqsortCmpFunc_impl_Ver_0_4_0 lo a0 n0 c0 x3 g4 l4 h = cal (evl lo 264 [.sl 6 a0 n0 c0, .int .i64 0, .int .i64 4, .fn g4 l4] h) fun v_0 h_1 => eU v_0 fun c_2 => eN c_2 (some (.tup [], h_1)) :=
  Lp_eq.trans (by kernel_rfl)
theorem E_impl_Ver_same_z {lo : Nat} {x0 : Int} {x0_1 : Int} {x0_2 : Int} {a0 : Option (Nat × Nat)} {n0 : Nat} {c0 : Option Nat} {s0 : ByteArray} {b0 : Bool} {h : Heap} {v : V} {h' : Heap} (hk : (br (x0 == (0 : Int)) (br ((x0_1 == (0 : Int)) && ((x0_2 == (0 : Int)) && true)) (cal (evl (List.length h) 259 [.sl 2 a0 n0 c0, .sl 0 none 0 (some 0)] h) fun v_0 h_1 => eB v_0 (br (s0.toList == (ByteArray.mk #[]).toList) (br (b0 == false) (some (.bool true, h_1)) (some (.bool false, h_1))) (some (.bool false, h_1))) (some (.bool false, h_1))) (some (.bool false, h))) (some (.bool false, h))) = some (v, h')) (hn : noId v = true := by rfl) :
    evl lo 230 [.agg [.int .i64 (x0), .int .i64 (x0_1), .int .i64 (x0_2), .sl 2 a0 n0 c0, .str (s0), .bool (b0)], .agg [.int .i64 0, .int .i64 0, .int .i64 0, .sl 0 none 0 (some 0), .str ⟨⟨[]⟩⟩, .bool false]] h = some (v, h) :=
  eval_drop Tryz.func230 (by kernel_rfl) (Eq.trans (by kernel_rfl) hk) hn
noncomputable def L_slices_Equal_impl_Tag_impl_Tag_z_0 (lo : Nat) (a0 : Option (Nat × Nat)) (n0 : Nat) (c0 : Option Nat) (q1 : Nat) (a1 : Option (Nat × Nat)) (n1 : Nat) (c1 : Option Nat) (b4 : Bool) (x12 : Int) (x13 : Int) (h : Heap) : Option (V × Heap) :=
  Lp (X 259) lo (cb (cb (cr (cl (cr (cr (code Tryz.f259))))))) 0 (kBlock 0 (kS (X 259) lo (cr (cr (cr (code Tryz.f259)))) 0 (kTop (X 259) Tryz.f259.results.toList))) ⟨[(0, .sl 2 a0 n0 c0), (1, .sl q1 a1 n1 c1), (4, .bool (b4)), (12, .int .i64 (x12)), (13, .int .i64 (x13))], [], h⟩
theorem E_slices_Equal_impl_Tag_impl_Tag_z {lo : Nat} {a0 : Option (Nat × Nat)} {n0 : Nat} {c0 : Option Nat} {h : Heap} {v : V} {h' : Heap} (hk : (br ((↑n0 : Int) == (↑(0 : Nat) : Int)) (L_slices_Equal_impl_Tag_impl_Tag_z_0 (List.length h) a0 n0 c0 0 none 0 (some 0) false ((↑n0 : Int)) 0 h) (some (.bool false, h))) = some (v, h')) (hn : noId v = true := by rfl) :
    evl lo 259 [.sl 2 a0 n0 c0, .sl 0 none 0 (some 0)] h = some (v, h) :=
  eval_drop Tryz.func259 (by kernel_rfl) (Eq.trans (by kernel_rfl) hk) hn
theorem L_slices_Equal_impl_Tag_impl_Tag_z_0.e {lo : Nat} {a0 : Option (Nat × Nat)} {n0 : Nat} {c0 : Option Nat} {q1 : Nat} {a1 : Option (Nat × Nat)} {n1 : Nat} {c1 : Option Nat} {b4 : Bool} {x12 : Int} {x13 : Int} {h : Heap} :
    L_slices_Equal_impl_Tag_impl_Tag_z_0 lo a0 n0 c0 q1 a1 n1 c1 b4 x12 x13 h = br (decide (x13 < x12)) (inB (x13) n0 (eO a0 fun o_0 => eO (ld h (o_0.1) ((o_0.2) + (x13.toNat)) 0 2) fun o_1 => eC o_1 fun v_2 l_3 => eI .i64 v_2 fun n_4 => eC l_3 fun v_5 l_6 => eI .i64 v_5 fun n_7 => eN l_6 (inB (x13) n1 (eO a1 fun o_8 => need ((q1.beq (2 : Nat)) && true) (eO (ld h (o_8.1) ((o_8.2) + (x13.toNat)) 0 2) fun o_9 => eC o_9 fun v_10 l_11 => eI .i64 v_10 fun n_12 => eC l_11 fun v_13 l_14 => eI .i64 v_13 fun n_15 => eN l_14 (br ((n_4 == n_12) && ((n_7 == n_15) && true)) (L_slices_Equal_impl_Tag_impl_Tag_z_0 lo a0 n0 c0 q1 a1 n1 c1 (b4) (x12) (IntKind.wrap .i64 ((x13) + 1)) h) (some (.bool false, h)))))))) (some (.bool true, h)) :=
  Lp_eq.trans (by kernel_rfl)
theorem E_slices_Grow_impl_Ver_impl_Ver_z {lo : Nat} {x1 : Int} {h : Heap} {r : V × Heap} (hk : (br (decide (x1 < (0 : Int))) (none) (br (decide (IntKind.i64.wrap (x1 - IntKind.i64.wrap ((↑(0 : Nat) : Int) - (↑(0 : Nat) : Int))) > (0 : Int))) (reslice none 0 (some 0) none (some (.int .i64 0)) none fun a_0 n_1 c_2 => need (decide ((0 : Int) ≤ IntKind.i64.wrap (x1 - IntKind.i64.wrap ((↑(0 : Nat) : Int) - (↑(0 : Nat) : Int))) ∧ IntKind.i64.wrap (x1 - IntKind.i64.wrap ((↑(0 : Nat) : Int) - (↑(0 : Nat) : Int))) * (↑(72 : Nat) : Int) ≤ (140737488355328 : Int))) (app lo 36 6 72 (.sl 6 a_0 n_1 c_2) (List.replicate ((IntKind.i64.wrap (x1 - IntKind.i64.wrap ((↑(0 : Nat) : Int) - (↑(0 : Nat) : Int)))).toNat) [.int .i64 0, .int .i64 0, .int .i64 0, .sl 0 none 0 (some 0), .str ⟨⟨[]⟩⟩, .bool false]) h fun v_3 h_4 => eS 6 (v_3) fun a_5 n_6 c_7 => reslice a_5 n_6 c_7 none (some (.int .i64 0)) none fun a_8 n_9 c_10 => some (.sl 6 a_8 n_9 c_10, h_4))) (some (.sl 0 none 0 (some 0), h)))) = some r) :
    evl lo 241 [.sl 0 none 0 (some 0), .int .i64 (x1)] h = some r :=
  eval_keep Tryz.func241 (by kernel_rfl) (Eq.trans (by kernel_rfl) hk)
end Go.Proofs.YtfhnofppfacemaaGreat
namespace Go.Proofs.YtfhnofppfacemaaGreat
open Go T
set_option linter.unusedVariables false
set_option linter.unusedSimpArgs false
structure Tag where
  time : Int
  place : Int
  deriving DecidableEq
def Tag.cs (t : Tag) : List V := [.int .i64 t.time, .int .i64 t.place]

def within (n a b : Int) : Bool := decide (a ≤ n) && decide (n ≤ b)
def tagOk (t : Int) (p : Int) : Bool := (t == 0 && p == 0) || (within t 1 999 && within p 0 2)
def less (t p t' p' : Int) : Bool := decide (t < t') || (t == t' && decide (p < p'))

section
variable {lo : Nat} {h : Heap} {a b c d e : Int}
theorem impl_within : evl lo 77 [.int .i64 a, .int .i64 b, .int .i64 c] h = some (.bool (within a b c), h) :=
  E_impl_within (h' := h) (by simp [within])
theorem spec_l1In : evl lo 71 [.int .i64 a, .int .i64 b, .int .i64 c] h = some (.bool (within a b c), h) :=
  E_spec_l1In (h' := h) (by simp [within])
theorem impl_placeOk : evl lo 164 [.int .i64 a] h = some (.bool (within a 0 2), h) := E_impl_placeOk (h' := h) (by simp [impl_within])
theorem impl_keyOk : evl lo 156 [.int .i64 a] h = some (.bool (within a 0 3), h) := E_impl_keyOk (h' := h) (by simp [impl_within])
theorem impl_TagOk : evl lo 228 [.agg [.int .i64 a, .int .i64 b]] h = some (.bool (tagOk a b), h) :=
  E_impl_TagOk (h' := h) (by simp [impl_within, impl_placeOk, tagOk])
theorem spec_l1TagOk : evl lo 179 [.agg [.int .i64 a, .int .i64 b]] h = some (.bool (tagOk a b), h) :=
  E_spec_l1TagOk (h' := h) (by simp [spec_l1In, tagOk])
theorem spec_l1Less : evl lo 154 [.agg [.int .i64 a, .int .i64 b], .agg [.int .i64 c, .int .i64 d]] h = some (.bool (less a b c d), h) :=
  E_spec_l1Less (h' := h) (by simp [less])
theorem laws_toTag : evl lo 93 [.agg [.int .i64 a, .int .i64 b]] h = some (.agg [.int .i64 a, .int .i64 b], h) := E_laws_toTag (h' := h) (by simp)
/-- the first that fits -/
def firstAt {α : Type} (p : α → Bool) : List α → Nat → Int
  | [], _ => -1
  | x :: r, k => bif p x then (k : Int) else firstAt p r (k + 1)
theorem firstAt_pos {α : Type} {p : α → Bool} : ∀ {l : List α} {k : Nat}, decide (firstAt p l k ≥ 0) = l.any p
  | [], k => by simp [firstAt]
  | x :: r, k => by
    simp only [firstAt, List.any_cons]
    by_cases h : p x = true
    · simp [h]
    · simpa [h] using firstAt_pos (p := p) (l := r) (k := k + 1)
def cmpI (a b : Int) : Int := if a < b then -1 else if b < a then 1 else 0
theorem cmp_isNaN : evl lo 256 [.int .i64 a] h = some (.bool false, h) := E_cmp_isNaN_int (h' := h) (by simp)
theorem cmp_Compare : evl lo 215 [.int .i64 a, .int .i64 b] h = some (.int .i64 (cmpI a b), h) :=
  E_cmp_Compare_int (h' := h) (by
    simp only [cmp_isNaN, cal_s, eB_b, br_f]
    unfold cmpI
    by_cases h1 : a < b
    · rw [br_pos h1, if_pos h1]
    · rw [br_neg h1, if_neg h1]
      by_cases h2 : b < a
      · rw [br_pos h2, if_pos h2]
      · rw [br_neg h2, if_neg h2])
theorem cmp_Or_two : evl lo 213 [.sl 1 (some (h.length, 0)) 2 (some 2)] (h ++ [.rows 1 3 false [[.int .i64 a], [.int .i64 b]]]) = some (.int .i64 (if a = 0 then b else a), h ++ [.rows 1 3 false [[.int .i64 a], [.int .i64 b]]]) :=
  E_cmp_Or_int (h' := h ++ [.rows 1 3 false [[.int .i64 a], [.int .i64 b]]]) (by
    rw [L_cmp_Or_int_0.e, br_pos (by decide), inB_in (by decide)]
    simp only [eO_s]
    rw [ld_last (row := [.int .i64 a]) (by rfl)]
    simp only [cut, eO_s, eC_c, eN_n, eI_int]
    by_cases h1 : a = 0
    · subst h1
      rw [if_pos rfl, show ((0 : Int) == 0) = true from rfl, br_t, show IntKind.i64.wrap (0 + 1) = ((1 : Nat) : Int) from wr_succ (k := 0) (by decide), L_cmp_Or_int_0.e, br_pos (by decide), inB_in (by decide)]
      simp only [eO_s]
      rw [ld_last (row := [.int .i64 b]) (by rfl)]
      simp only [cut, eO_s, eC_c, eN_n, eI_int]
      by_cases h2 : b = 0
      · subst h2
        rw [show ((0 : Int) == 0) = true from rfl, br_t, show IntKind.i64.wrap (((1 : Nat) : Int) + 1) = ((2 : Nat) : Int) from wr_succ (k := 1) (by decide), L_cmp_Or_int_0.e, br_neg (by decide)]
      · rw [show (b == 0) = false by simpa using h2, br_f]
    · rw [if_neg h1, show (a == 0) = false by simpa using h1, br_f])
theorem impl_compare : evl lo 214 [.agg [.int .i64 a, .int .i64 b], .agg [.int .i64 c, .int .i64 d]] h = some (.int .i64 (if cmpI a c = 0 then cmpI b d else cmpI a c), h) :=
  E_impl_Tag_compare (h' := h ++ [.rows 1 3 false [[.int .i64 (cmpI a c)], [.int .i64 (cmpI b d)]]]) (by
    simp only [cmp_Compare, cal_s, eI_int, cmp_Or_two])
theorem cmp_less : decide ((if cmpI a c = 0 then cmpI b d else cmpI a c) < 0) = less a b c d := by
  unfold cmpI less
  by_cases h1 : a < c
  · simp [h1]
  · by_cases h2 : c < a
    · simp [h1, h2]; omega
    · have : a = c := by omega
      subst this
      by_cases h3 : b < d
      · simp [h3]
      · simp [h3]; split <;> simp
theorem impl_TagLess : evl lo 158 [.agg [.int .i64 a, .int .i64 b], .agg [.int .i64 c, .int .i64 d]] h = some (.bool (less a b c d), h) :=
  E_impl_TagLess (h' := h) (by simp only [impl_compare, cal_s, eI_int, br_bool, cmp_less]; simp)
theorem laws_eqTag {a b c d : Int} : evl lo 41 [.agg [.int .i64 a, .int .i64 b], .agg [.int .i64 c, .int .i64 d]] h = some (.bool (a == c && b == d), h) :=
  E_laws_eqTag (h' := h) (by simp)
end
end Go.Proofs.YtfhnofppfacemaaGreat
/- Arguments: data that came in, as blocks that are read alone. -/
namespace Go.Proofs.YtfhnofppfacemaaGreat.T
open Go
set_option linter.unusedVariables false
set_option linter.unusedSimpArgs false
set_option linter.unnecessarySimpa false

/-- types of which T takes arguments: numbers, bools, strings, slices, structs whose fields stand one behind the other -/
def inFs (P : Program) (g : TypeId → Bool) : List Field → Nat → Nat → Bool
  | [], off, n => Nat.beq off n
  | f :: fs, off, n => match Nat.beq f.offset off && g f.type with
    | true => inFs P g fs (off + P.cellsOf f.type) n
    | false => false
def inTy (P : Program) : Nat → TypeId → Bool
  | 0, _ => false
  | n + 1, t => match P.underlying t with
    | some .bool => Nat.beq (P.cellsOf t) 1
    | some (.int _) => Nat.beq (P.cellsOf t) 1
    | some .string => Nat.beq (P.cellsOf t) 1
    | some (.slice e) => Nat.beq (P.cellsOf t) 1 && Nat.blt 0 (P.cellsOf e) && inTy P n e
    | some (.struct fs) => inFs P (inTy P n) fs.toList 0 (P.cellsOf t)
    | _ => false

/-- cells that look as their type says -/
def TVs (P : Program) (g : TypeId → List V → Prop) : List Field → List V → Prop
  | [], xs => xs = []
  | f :: fs, xs => ∃ ys zs, xs = ys ++ zs ∧ ys.length = P.cellsOf f.type ∧ g f.type ys ∧ TVs P g fs zs
def TV (P : Program) (h : Heap) : Nat → TypeId → List V → Prop
  | 0, _, _ => False
  | n + 1, t, xs => match P.underlying t with
    | some .bool => ∃ b, xs = [.bool b]
    | some (.int k) => ∃ i, xs = [.int k i] ∧ (Lit.int k i).wf = true
    | some .string => ∃ s, xs = [.str s] ∧ s.size ≤ maxLen
    | some (.slice e) => ∃ a c rs, xs = [.sl (P.cellsOf e) a rs.length c] ∧ rs.length ≤ maxLen ∧ (∀ row ∈ rs, row.length = P.cellsOf e ∧ TV P h n e row) ∧
        (rs = [] ∨ ∃ b, a = some (b, 0) ∧ Heap.rows? h b = some rs)
    | some (.struct fs) => TVs P (TV P h n) fs.toList xs
    | _ => False

theorem rows_pre {h h' : Heap} (hp : h <+: h') {b : Nat} {rs : List (List V)} (hb : Heap.rows? h b = some rs) : Heap.rows? h' b = some rs := by
  obtain ⟨t, rfl⟩ := hp
  unfold Heap.rows? at hb ⊢
  have hl : b < h.length := by
    apply Nat.lt_of_not_le
    intro hle
    rw [List.getElem?_eq_none hle] at hb; cases hb
  rw [List.getElem?_append_left hl]; exact hb
theorem TVs.imp {P : Program} {g g' : TypeId → List V → Prop} (hg : ∀ t xs, g t xs → g' t xs) : ∀ {fs : List Field} {xs : List V}, TVs P g fs xs → TVs P g' fs xs
  | [], xs, h => h
  | f :: fs, xs, ⟨ys, zs, h1, h2, h3, h4⟩ => ⟨ys, zs, h1, h2, hg _ _ h3, TVs.imp hg h4⟩
theorem TV.mono {P : Program} {h h' : Heap} (hp : h <+: h') : ∀ (n : Nat) (t : TypeId) (xs : List V), TV P h n t xs → TV P h' n t xs
  | 0, _, _, hx => hx
  | n + 1, t, xs, hx => by
    simp only [TV] at hx ⊢
    split at hx
    · exact hx
    · exact hx
    · exact hx
    · obtain ⟨a, c, rs, h1, h2, h3, h4⟩ := hx
      exact ⟨a, c, rs, h1, h2, fun row hr => ⟨(h3 row hr).1, TV.mono hp n _ _ (h3 row hr).2⟩, h4.imp id fun ⟨b, h5, h6⟩ => ⟨b, h5, rows_pre hp h6⟩⟩
    · exact TVs.imp (fun t xs => TV.mono hp n t xs) hx
    · exact hx
theorem firms_append {xs ys : List V} (h1 : firms xs = true) (h2 : firms ys = true) : firms (xs ++ ys) = true := by
  induction xs with
  | nil => exact h2
  | cons x r ih =>
    simp only [List.cons_append, firms] at h1 ⊢
    split at h1
    · exact ih h1
    · cases h1
theorem TVs.firm {P : Program} {g : TypeId → List V → Prop} (hg : ∀ t xs, g t xs → firms xs = true) : ∀ {l : List Field} {xs : List V}, TVs P g l xs → firms xs = true
  | [], xs, h => by simp only [TVs] at h; subst h; rfl
  | f :: l, xs, ⟨ys, zs, e, _, h3, h4⟩ => by subst e; exact firms_append (hg _ _ h3) (TVs.firm hg h4)
theorem TV.firm {P : Program} {h : Heap} : ∀ (n : Nat) (t : TypeId) (xs : List V), TV P h n t xs → firms xs = true
  | 0, _, _, hx => hx.elim
  | n + 1, t, xs, hx => by
    simp only [TV] at hx
    split at hx
    · obtain ⟨b, rfl⟩ := hx; rfl
    · obtain ⟨i, rfl, _⟩ := hx; rfl
    · obtain ⟨s, rfl, _⟩ := hx; rfl
    · obtain ⟨a, c, rs, rfl, _⟩ := hx; rfl
    · exact TVs.firm (fun t xs => TV.firm n t xs) hx
    · exact hx.elim

/-- what has been laid so far -/
structure Imp (W : World) (ρ : Rho) (h : Heap) : Prop where
  rel : HRel ρ h W
  ro : ∀ b, b < h.length → isDead h b ∨ isRo h b

theorem isDead_pre {h : Heap} {k : Blk} {b : Nat} (hb : b < h.length) (hd : isDead h b) : isDead (h ++ [k]) b := by unfold isDead at *; rw [List.getElem?_append_left hb]; exact hd
theorem isRo_pre {h : Heap} {k : Blk} {b : Nat} (hb : b < h.length) (hd : isRo h b) : isRo (h ++ [k]) b := by obtain ⟨R, e, rs, h1⟩ := hd; exact ⟨R, e, rs, by rw [List.getElem?_append_left hb]; exact h1⟩

theorem Imp.lay {W : World} {ρ : Rho} {h : Heap} (hi : Imp W ρ h) (k : Blk) (e : E) (hlt : e.r < W.heap.size) (hk : BR ρ e k W) (hro : k = .dead ∨ ∃ R e rs, k = .rows R e true rs) :
    Imp W (ρ.set h.length e) (h ++ [k]) := by
  have hle : Rle ρ (ρ.set h.length e) := Rho.set_le hi.rel.fresh
  have hnew : isDead (h ++ [k]) h.length ∨ isRo (h ++ [k]) h.length := by
    rcases hro with rfl | ⟨R, t, rs, rfl⟩
    · exact .inl (by simp [isDead])
    · exact .inr ⟨R, t, rs, by simp⟩
  have hall : ∀ b, b < (h ++ [k]).length → isDead (h ++ [k]) b ∨ isRo (h ++ [k]) b := fun b hb => by
    by_cases hx : b = h.length
    · subst hx; exact hnew
    · have : b < h.length := by simp at hb; omega
      exact (hi.ro b this).imp (isDead_pre this) (isRo_pre this)
  have hdom : ∀ b e', (ρ.set h.length e) b = some e' → b < (h ++ [k]).length ∧ e'.r < W.heap.size := fun b e' hb => by
    by_cases hx : b = h.length
    · subst hx; rw [Rho.set_same] at hb; injection hb with hb; subst hb; exact ⟨by simp, hlt⟩
    · rw [Rho.set_other hx] at hb
      have := hi.rel.dom b e' hb
      exact ⟨by simp; omega, by omega⟩
  refine ⟨⟨hdom, fun b e' k' hb hk' => ?_, fun b b' e1 e2 h1 h2 hr hne => ?_⟩, hall⟩
  · by_cases hx : b = h.length
    · subst hx; rw [Rho.set_same] at hb; injection hb with hb; subst hb
      simp at hk'; subst hk'
      exact BR.mono hle rfl hk
    · rw [Rho.set_other hx] at hb
      have := (hi.rel.dom b e' hb).1
      rw [List.getElem?_append_left this] at hk'
      exact BR.mono hle rfl (hi.rel.blk b e' k' hb hk')
  · have g1 := hall b (hdom b e1 h1).1
    have g2 := hall b' (hdom b' e2 h2).1
    rcases g1 with g1 | g1
    · exact .inl g1
    · rcases g2 with g2 | g2
      · exact .inr (.inl g2)
      · exact .inr (.inr ⟨g1, g2⟩)

section
variable {P : Program} {W : World} {H : Type} {enc : TypeId × Value → H}

theorem cells_some {base : Nat} {a : Addr} {n : Nat} {cs : List Value} (h : W.cells? base a n = some cs) : cs.length = n ∧ ∀ (i : Nat) (c : Value), cs[i]? = some c → W.cell? (a.add i) = some c := by
  unfold World.cells? at h
  split at h
  · have hl : cs.length = n := by simpa using mapM_some_length h
    refine ⟨hl, fun i c hc => ?_⟩
    have hi : i < n := by have := (List.getElem?_eq_some_iff.1 hc).1; omega
    have := mapM_some_get h i i (by simp [hi])
    rw [this, hc]
  · cases h
theorem cell_block {a : Addr} {c : Value} (h : W.cell? a = some c) : ∃ cs el fr, W.heap[a.block]? = some (.cells cs el fr) ∧ a.spot = none ∧ cs[a.off]? = some c := by
  unfold World.cell? at h
  split at h
  · rename_i cs el fr he
    split at h
    · cases h
    · rename_i hs; exact ⟨cs, el, fr, he, by simpa using hs, h⟩
  · cases h

/-- data that came in, laid as blocks that are read alone -/
def Lays (P : Program) (W : World) (n : Nat) (t : TypeId) (cs : List Value) : Prop :=
  ∀ ρ h, Imp W ρ h → ∃ (ρ' : Rho) (h' : Heap) (xs : List V), Rle ρ ρ' ∧ h <+: h' ∧ Imp W ρ' h' ∧ VRs ρ' xs cs ∧ TV P h' n t xs

theorem lays_rows {n : Nat} {t : TypeId} {R : Nat} : ∀ (css : List (List Value)), (∀ cs ∈ css, cs.length = R ∧ Lays P W n t cs) → ∀ ρ h, Imp W ρ h →
    ∃ (ρ' : Rho) (h' : Heap) (rs : List (List V)), Rle ρ ρ' ∧ h <+: h' ∧ Imp W ρ' h' ∧ rs.length = css.length ∧ (∀ (i : Nat) (row : List V), rs[i]? = some row → ∃ cs, css[i]? = some cs ∧ VRs ρ' row cs ∧ row.length = R ∧ TV P h' n t row)
  | [], _, ρ, h, hi => ⟨ρ, h, [], Rle.refl _, List.prefix_refl _, hi, rfl, fun i row hr => by simp at hr⟩
  | cs :: css, hc, ρ, h, hi => by
    obtain ⟨ρ1, h1, xs, a1, a2, a3, a4, a5⟩ := (hc cs (by simp)).2 ρ h hi
    obtain ⟨ρ2, h2, rs, b1, b2, b3, b4, b5⟩ := lays_rows css (fun c hcc => hc c (by simp [hcc])) ρ1 h1 a3
    refine ⟨ρ2, h2, xs :: rs, a1.trans b1, a2.trans b2, b3, by simp [b4], fun i row hr => ?_⟩
    cases i with
    | zero =>
      simp at hr; subst hr
      exact ⟨cs, rfl, VRs.mono b1 _ _ a4, by rw [a4.length]; exact (hc cs (by simp)).1, TV.mono b2 _ _ _ a5⟩
    | succ i =>
      simp at hr
      obtain ⟨c, g1, g2⟩ := b5 i row hr
      exact ⟨c, by simpa using g1, g2⟩

theorem lays_fields {n : Nat} {cs : List Value} : ∀ (fs : List Field) (off : Nat), inFs P (inTy P n) fs off cs.length = true → (∀ f ∈ fs, inTy P n f.type = true → Lays P W n f.type ((cs.drop f.offset).take (P.cellsOf f.type))) → ∀ ρ h, Imp W ρ h →
    ∃ (ρ' : Rho) (h' : Heap) (xs : List V), Rle ρ ρ' ∧ h <+: h' ∧ Imp W ρ' h' ∧ VRs ρ' xs (cs.drop off) ∧ TVs P (TV P h' n) fs xs ∧ off ≤ cs.length
  | [], off, hin, _, ρ, h, hi => by
    simp only [inFs] at hin
    have := Nat.eq_of_beq_eq_true hin
    exact ⟨ρ, h, [], Rle.refl _, List.prefix_refl _, hi, by rw [List.drop_eq_nil_of_le (by omega)]; exact VRs.nil, rfl, by omega⟩
  | f :: fs, off, hin, hl, ρ, h, hi => by
    simp only [inFs] at hin
    split at hin
    · rename_i hc
      simp only [Bool.and_eq_true] at hc
      have ho := Nat.eq_of_beq_eq_true hc.1
      obtain ⟨ρ1, h1, xs, a1, a2, a3, a4, a5⟩ := hl f (by simp) hc.2 ρ h hi
      obtain ⟨ρ2, h2, ys, b1, b2, b3, b4, b5, b6⟩ := lays_fields fs (off + P.cellsOf f.type) hin (fun g hg => hl g (by simp [hg])) ρ1 h1 a3
      rw [ho] at a4
      have hlen := a4.length
      refine ⟨ρ2, h2, xs ++ ys, a1.trans b1, a2.trans b2, b3, ?_, ⟨xs, ys, rfl, ?_, TV.mono b2 _ _ _ a5, b5⟩, by omega⟩
      · have := (VRs.mono b1 _ _ a4).append b4
        rwa [← List.drop_drop, List.take_append_drop] at this
      · rw [hlen]; simp; omega
    · cases hin

theorem lays : ∀ (n : Nat) (t : TypeId), inTy P n t = true → ∀ (fuel : Nat) (cs : List Value) (x : DataW H × List MemPlace), DataW.trod enc P W 0 (fun _ => true) true fuel t cs = some x →
    (∀ a l c, Value.slice (some a) l c ∈ cs → 0 < W.heap.size) → Lays P W n t cs := by
  intro n
  induction n with
  | zero => intro t h; simp [inTy] at h
  | succ n ih =>
    intro t hin fuel cs x hx hpos ρ h hi
    simp only [inTy] at hin
    split at hin
    · rename_i hu
      obtain ⟨b, rfl, _⟩ := DataW.trod_bool hu hx
      exact ⟨ρ, h, [.bool b], Rle.refl _, List.prefix_refl _, hi, VRs.cons VR.bool' VRs.nil, by simp only [TV, hu]; exact ⟨b, rfl⟩⟩
    · rename_i k hu
      obtain ⟨i, rfl, _, hw⟩ := DataW.trod_int hu hx
      exact ⟨ρ, h, [.int k i], Rle.refl _, List.prefix_refl _, hi, VRs.cons VR.int' VRs.nil, by simp only [TV, hu]; exact ⟨i, rfl, hw⟩⟩
    · rename_i hu
      obtain ⟨s, rfl, _, hw⟩ := DataW.trod_string hu hx
      exact ⟨ρ, h, [.str s], Rle.refl _, List.prefix_refl _, hi, VRs.cons (by simp [VR]) VRs.nil, by simp only [TV, hu]; exact ⟨s, rfl, hw⟩⟩
    · rename_i e hu
      simp only [Bool.and_eq_true] at hin
      have hR : 0 < P.cellsOf e := by have := hin.1.2; simpa [Nat.blt_eq] using this
      rcases DataW.trod_slice hu hx with ⟨rfl, _⟩ | ⟨a, len, cap, elems, rest, m, rfl, rfl, _, _, hlc, hcm, hel, hg, hsp, _⟩
      · exact ⟨ρ, h, [.sl (P.cellsOf e) none 0 (some 0)], Rle.refl _, List.prefix_refl _, hi, VRs.cons (by simp [VR]) VRs.nil, by
          simp only [TV, hu]; exact ⟨none, some 0, [], rfl, Nat.zero_le _, fun r hr => (by cases hr), .inl rfl⟩⟩
      · -- the rows
        have hrow : ∀ i, i < len → ∃ c y, W.cells? 0 (a.add (i * P.cellsOf e)) (P.cellsOf e) = some c ∧ DataW.trod enc P W 0 (fun _ => true) true m e c = some y := fun i hi' => by
          have h1 := hg i hi'
          rw [List.getElem?_eq_getElem (by omega)] at h1
          obtain ⟨c, h2, h3⟩ := Option.bind_eq_some_iff.1 h1
          exact ⟨c, _, h2, h3⟩
        have hspare : ∀ j, len + j < cap → ∃ c, W.cells? 0 (a.add ((len + j) * P.cellsOf e)) (P.cellsOf e) = some c := fun j hj => by
          obtain ⟨h0, h1⟩ := hsp rfl
          have h1 := h1 j (by omega)
          rw [List.getElem?_eq_getElem (by omega)] at h1
          obtain ⟨c, h2, _⟩ := Option.bind_eq_some_iff.1 h1
          exact ⟨c, h2⟩
        by_cases hcap : cap = 0
        · -- no room at all
          subst hcap
          have hl0 : len = 0 := by omega
          subst hl0
          have hp := hpos a 0 0 (by simp)
          have hi2 := hi.lay .dead ⟨0, 0, P.cellsOf e, 0, 0⟩ hp trivial (.inl rfl)
          refine ⟨_, _, [.sl (P.cellsOf e) (some (h.length, 0)) 0 (some 0)], Rho.set_le hi.rel.fresh, ⟨_, rfl⟩, hi2, VRs.cons ?_ VRs.nil, ?_⟩
          · simp only [VR]; exact ⟨_, a, 0, Rho.set_same _ _ _, rfl, rfl, .inl rfl, Nat.le_refl _, fun y hy => by injection hy, fun hc => by cases hc⟩
          · simp only [TV, hu]; exact ⟨_, _, [], rfl, Nat.zero_le _, fun r hr => (by cases hr), .inl rfl⟩
        · -- the block
          have hblk : ∃ carr el fr, W.heap[a.block]? = some (.cells carr el fr) ∧ a.spot = none := by
            have : ∃ c, W.cells? 0 (a.add (0 * P.cellsOf e)) (P.cellsOf e) = some c := by
              by_cases hl0 : len = 0
              · have := hspare 0 (by omega); rw [hl0] at this; simpa using this
              · obtain ⟨c, _, h2, _⟩ := hrow 0 (by omega); exact ⟨c, h2⟩
            obtain ⟨c, hc⟩ := this
            obtain ⟨c1, c2⟩ := cells_some hc
            have h0 : c[0]? = some c[0] := List.getElem?_eq_getElem (by omega)
            obtain ⟨carr, el, fr, h1, h2, _⟩ := cell_block (c2 0 _ h0)
            have e1 : (a.add (0 * P.cellsOf e)).add 0 = a := by simp [Addr.add]
            rw [e1] at h1 h2
            exact ⟨carr, el, fr, h1, h2⟩
          obtain ⟨carr, el, fr, hW, hspot⟩ := hblk
          obtain ⟨r, o, sp⟩ := a
          simp only at hW hspot
          subst hspot
          have hlt : r < W.heap.size := by
            apply Nat.lt_of_not_le
            intro hle
            rw [Array.getElem?_eq_none hle] at hW; cases hW
          have hcells : ∀ i, i < len → ∃ c y, c.length = P.cellsOf e ∧ (∀ (j : Nat) (v : Value), c[j]? = some v → carr[o + (i * P.cellsOf e + j)]? = some v) ∧ DataW.trod enc P W 0 (fun _ => true) true m e c = some y := fun i hi' => by
            obtain ⟨c, y, h1, h2⟩ := hrow i hi'
            obtain ⟨c1, c2⟩ := cells_some h1
            refine ⟨c, y, c1, fun j v hv => ?_, h2⟩
            have := c2 j v hv
            rw [add_mk, add_mk, cell_at hW] at this
            rw [← this]; congr 1; omega
          have hall : ∃ css : List (List Value), css.length = len ∧ ∀ i, i < len → ∃ c y, css[i]? = some c ∧ c.length = P.cellsOf e ∧ (∀ (j : Nat) (v : Value), c[j]? = some v → carr[o + (i * P.cellsOf e + j)]? = some v) ∧ DataW.trod enc P W 0 (fun _ => true) true m e c = some y := by
            refine ⟨(List.range len).map fun i => if hi' : i < len then (hcells i hi').choose else [], by simp, fun i hi' => ?_⟩
            obtain ⟨y, h1, h2, h3⟩ := (hcells i hi').choose_spec
            exact ⟨_, y, by simp [hi'], h1, h2, h3⟩
          obtain ⟨css, hcl, hcs⟩ := hall
          obtain ⟨ρ1, h1, rs, a1, a2, a3, a4, a5⟩ := lays_rows (P := P) (W := W) (n := n) (t := e) (R := P.cellsOf e) css (fun c hc => by
            obtain ⟨i, hi'⟩ := List.mem_iff_getElem?.1 hc
            have hlt := (List.getElem?_eq_some_iff.1 hi').1
            obtain ⟨c', y, g1, g2, g3, g4⟩ := hcs i (by omega)
            rw [hi'] at g1; injection g1 with g1; subst g1
            exact ⟨g2, ih e hin.2 m c y g4 fun _ _ _ _ => by omega⟩) ρ h hi
          by_cases hl0 : len = 0
          · have hrs : rs = [] := List.eq_nil_of_length_eq_zero (by omega)
            subst hrs
            have hi2 := a3.lay .dead ⟨r, o, P.cellsOf e, 0, 0⟩ hlt trivial (.inl rfl)
            refine ⟨_, _, [.sl (P.cellsOf e) (some (h1.length, 0)) 0 (some cap)], a1.trans (Rho.set_le a3.rel.fresh), a2.trans ⟨_, rfl⟩, hi2, VRs.cons ?_ VRs.nil, ?_⟩
            · simp only [VR]; exact ⟨_, ⟨r, o, none⟩, cap, Rho.set_same _ _ _, rfl, by rw [hl0], .inr (by simp), by omega, fun y hy => by injection hy, fun hc => by cases hc⟩
            · simp only [TV, hu]; exact ⟨_, _, [], rfl, Nat.zero_le _, fun r hr => (by cases hr), .inl rfl⟩
          · have hrl : rs.length = len := by omega
            have hbr : BR ρ1 ⟨r, o, P.cellsOf e, rs.length, rs.length⟩ (.rows (P.cellsOf e) el true rs) W := by
              refine ⟨carr, fr, ?_, fun h => (by cases h), rfl, rfl, Nat.le_refl _, ?_, fun i row hr => ?_, .inr ⟨rfl, fun j c g1 g2 g3 => ?_⟩⟩
              · exact hW
              · obtain ⟨c, y, g1, g2, g3, _⟩ := hcs (len - 1) (by omega)
                have := g3 (P.cellsOf e - 1) _ (List.getElem?_eq_getElem (by omega))
                have hb := (Array.getElem?_eq_some_iff.1 this).1
                have e1 : rs.length * P.cellsOf e = (len - 1) * P.cellsOf e + P.cellsOf e := by rw [hrl, ← Nat.succ_mul]; congr 1; omega
                show o + rs.length * P.cellsOf e ≤ carr.size
                omega
              · obtain ⟨c, g1, g2, g3, _⟩ := a5 i row hr
                refine ⟨g3, fun j v hv => ?_⟩
                have hlt := (List.getElem?_eq_some_iff.1 hr).1
                obtain ⟨c', y, k1, k2, k3, _⟩ := hcs i (by omega)
                rw [g1] at k1; injection k1 with k1; subst k1
                obtain ⟨z, z1, z2⟩ := g2.get j v hv
                exact ⟨z, k3 j z z1, z2⟩
              · obtain ⟨q, hq⟩ : ∃ q, j = o + q := ⟨j - o, by simp only at g1; omega⟩
                have hq2 : q < rs.length * P.cellsOf e := by simp only at g2; omega
                have hdiv : q / P.cellsOf e < rs.length := (Nat.div_lt_iff_lt_mul hR).2 hq2
                have hmod : q % P.cellsOf e < P.cellsOf e := Nat.mod_lt _ hR
                have hqq : q = q / P.cellsOf e * P.cellsOf e + q % P.cellsOf e := by rw [Nat.mul_comm]; exact (Nat.div_add_mod q _).symm
                obtain ⟨c0, k1, k2, k3, k4⟩ := a5 (q / P.cellsOf e) _ (List.getElem?_eq_getElem hdiv)
                obtain ⟨c', y, l1, l2, l3, _⟩ := hcs (q / P.cellsOf e) (by omega)
                rw [k1] at l1; injection l1 with l1; subst l1
                have hz := l3 (q % P.cellsOf e) _ (List.getElem?_eq_getElem (by omega))
                rw [← hqq, ← hq, g3] at hz
                injection hz with hz
                rw [hz]
                exact one_of_firms k2 (TV.firm _ _ _ k4) _ (List.getElem_mem _)
            have hi2 := a3.lay (.rows (P.cellsOf e) el true rs) ⟨r, o, P.cellsOf e, rs.length, rs.length⟩ hlt hbr (.inr ⟨_, _, _, rfl⟩)
            refine ⟨_, _, [.sl (P.cellsOf e) (some (h1.length, 0)) rs.length (some cap)], a1.trans (Rho.set_le a3.rel.fresh), a2.trans ⟨_, rfl⟩, hi2, VRs.cons ?_ VRs.nil, ?_⟩
            · simp only [VR]; exact ⟨_, ⟨r, o, none⟩, cap, Rho.set_same _ _ _, rfl, by rw [hrl], .inr (by simp), by omega, fun y hy => by injection hy, fun hc => by cases hc⟩
            · simp only [TV, hu]
              refine ⟨_, _, rs, rfl, by omega, fun row hr => ?_, .inr ⟨_, rfl, by simp [Heap.rows?]⟩⟩
              obtain ⟨i, hi'⟩ := List.mem_iff_getElem?.1 hr
              obtain ⟨c, _, _, g3, g4⟩ := a5 i row hi'
              exact ⟨g3, TV.mono ⟨_, rfl⟩ _ _ _ g4⟩
    · rename_i fs hu
      obtain ⟨xs, m, rfl, _, hl, hxl, hf⟩ := DataW.trod_struct hu hx
      rw [← hl] at hin
      obtain ⟨ρ', h', ys, b1, b2, b3, b4, b5, _⟩ := lays_fields (P := P) (W := W) (n := n) (cs := cs) fs.toList 0 hin (fun f hfm hft => by
        obtain ⟨i, hi'⟩ := List.mem_iff_getElem?.1 hfm
        have hi2 : fs[i]? = some f := by simpa using hi'
        have h1 := hf i f hi2
        have hlt : i < xs.length := by have := (Array.getElem?_eq_some_iff.1 hi2).1; omega
        rw [List.getElem?_eq_getElem hlt] at h1
        exact ih f.type hft m _ _ h1 fun a l c hm => hpos a l c (List.mem_of_mem_drop (List.mem_of_mem_take hm))) ρ h hi
      exact ⟨ρ', h', ys, b1, b2, b3, by simpa using b4, by simp only [TV, hu]; exact b5⟩
    · cases hin
end
end Go.Proofs.YtfhnofppfacemaaGreat.T
/- A law's call: its arguments laid, its answer and what it leaves as it was. -/
namespace Go.Proofs.YtfhnofppfacemaaGreat.T
open Go Go.RowKit
set_option linter.unusedVariables false
set_option linter.unusedSimpArgs false
set_option linter.unnecessarySimpa false

section
variable {P : Program} {W : World} {H : Type} {enc : TypeId × Value → H}

theorem pos_of_has {r : Reach} {base : Nat} {a : Addr} {e : TypeId} {n : Nat} (h : W.has P r base a e n) : 0 < W.heap.size := by
  obtain ⟨_, _, row, cells, hs, _⟩ := h
  unfold World.shape? at hs
  apply Nat.lt_of_not_le
  intro hle
  rw [Array.getElem?_eq_none (by omega)] at hs
  cases hs
theorem pos_of_cell {r : Reach} {base : Nat} {u : TypeId} {a : Addr} {l c : Nat} (h : Cell.okWide P W r base u (.slice (some a) l c)) : 0 < W.heap.size := by
  have h2 : Cell.ok P W r base u (.slice (some a) l c) := by
    unfold Cell.okWide at h
    split at h <;> simp_all
  unfold Cell.ok at h2
  split at h2 <;> simp_all
  exact pos_of_has h2.2.2
theorem pos_of_value {r : Reach} {base : Nat} {t : TypeId} {v : Value} (h : Value.okWide P W r base t v) {a : Addr} {l c : Nat} (hm : Value.slice (some a) l c ∈ v.cells.toList) : 0 < W.heap.size := by
  have row : ∀ cs : Array Value, Row.okWide P W r base t cs → v = .agg cs → 0 < W.heap.size := fun cs hr hv => by
    subst hv
    obtain ⟨ts, _, _, h3⟩ := hr
    simp [Value.cells] at hm
    obtain ⟨i, hi⟩ := Array.mem_iff_getElem?.1 hm
    obtain ⟨u, _, hu⟩ := h3 i _ hi
    exact pos_of_cell hu
  unfold Value.okWide at h
  split at h
  · obtain ⟨cs, hv, _, hr⟩ := h; exact row cs hr hv
  · obtain ⟨cs, hv, _, hr⟩ := h; exact row cs hr hv
  · cases v <;> simp [Value.cells] at hm
    · obtain ⟨rfl, rfl, rfl⟩ := hm
      exact pos_of_cell h
    · exfalso
      unfold Cell.okWide Cell.ok at h
      split at h <;> (try split at h) <;> simp_all

/-- an argument of T, as its type says -/
def ArgV (P : Program) (h : Heap) (n : Nat) (t : TypeId) (x : V) : Prop := match P.underlying t with
  | some (.struct _) => ∃ xs, x = .agg xs ∧ TV P h n t xs
  | _ => TV P h n t [x]
theorem ArgV.mono {h h' : Heap} (hp : h <+: h') {n : Nat} {t : TypeId} {x : V} (hx : ArgV P h n t x) : ArgV P h' n t x := by
  unfold ArgV at *
  split at hx
  · obtain ⟨xs, h1, h2⟩ := hx; exact ⟨xs, h1, TV.mono hp _ _ _ h2⟩
  · exact TV.mono hp _ _ _ hx

theorem lays_arg {n : Nat} {t : TypeId} {v : Value} {d : DataW H} {p : List MemPlace} {r : Reach} {base : Nat} (hin : inTy P n t = true) (hok : Value.okWide P W r base t v)
    (h0 : DataW.Trod enc P W 0 (fun _ => true) true t v d p) {ρ : Rho} {h : Heap} (hi : Imp W ρ h) : ∃ (ρ' : Rho) (h' : Heap) (x : V), Rle ρ ρ' ∧ h <+: h' ∧ Imp W ρ' h' ∧ VR ρ' x v ∧ ArgV P h' n t x := by
  obtain ⟨fuel, hf⟩ := h0
  obtain ⟨ρ', h', xs, a1, a2, a3, a4, a5⟩ := lays n t hin fuel _ _ hf (fun a l c hm => pos_of_value hok hm) ρ h hi
  unfold Value.okWide at hok
  cases hu : P.underlying t with
  | none =>
    cases n with
    | zero => simp [inTy] at hin
    | succ n => simp [inTy, hu] at hin
  | some td =>
    have one : (∀ fs, td ≠ .struct fs) → ∃ x, xs = [x] ∧ VR ρ' x v := fun hns => by
      cases n with
      | zero => simp [inTy] at hin
      | succ n =>
        simp only [TV, hu] at a5
        have hl := a4.length
        have hx : ∃ x, xs = [x] := by
          cases td <;> simp only at a5 <;> (try exact a5.elim)
          · obtain ⟨b, rfl⟩ := a5; exact ⟨_, rfl⟩
          · obtain ⟨i, rfl, _⟩ := a5; exact ⟨_, rfl⟩
          · obtain ⟨s, rfl, _⟩ := a5; exact ⟨_, rfl⟩
          · obtain ⟨a, c, rs, rfl, _⟩ := a5; exact ⟨_, rfl⟩
          · exact absurd rfl (hns _)
        obtain ⟨x, rfl⟩ := hx
        refine ⟨x, rfl, ?_⟩
        have hns' : ∀ cs, v ≠ .agg cs := fun cs hv => by
          subst hv
          rw [hu] at hok
          cases td <;> simp only [inTy, hu] at hin <;> (try cases hin) <;> simp [Cell.okWide, Cell.ok, hu] at hok
          exact absurd rfl (hns _)
        have hc : v.cells.toList = [v] := by
          cases v <;> (try rfl)
          · exact absurd rfl (hns' _)
        rw [hc] at a4
        exact a4.uncons.1
    by_cases hs : ∃ fs, td = .struct fs
    · obtain ⟨fs, rfl⟩ := hs
      rw [hu] at hok
      obtain ⟨cs, rfl, _⟩ := hok
      refine ⟨ρ', h', .agg xs, a1, a2, a3, ?_, ?_⟩
      · simp only [VR]; exact ⟨cs, rfl, by simpa [Value.cells] using a4⟩
      · simp only [ArgV, hu]; exact ⟨xs, rfl, a5⟩
    · obtain ⟨x, rfl, hx⟩ := one fun fs e => hs ⟨fs, e⟩
      refine ⟨ρ', h', x, a1, a2, a3, hx, ?_⟩
      unfold ArgV
      rw [hu]
      split
      · rename_i fs' he; injection he with he; exact absurd ⟨_, he⟩ hs
      · exact a5

theorem imp_nil (W : World) : Imp W (fun _ => none) [] :=
  ⟨⟨fun b e h => (by cases h), fun b e k h => (by cases h), fun b b' e e' h => (by cases h)⟩, fun b hb => by simp at hb⟩

/-- a law's call -/
theorem law_walk {call : CallT} (hS : SC P call) {f : FuncId} {args : List V} {h h' : Heap} {ρ : Rho} (hk : call h.length f args h = some (.bool true, h')) {cargs : Array Value} (hv : VRs ρ args cargs.toList) (hi : Imp W ρ h) :
    Calls P f cargs W fun e w' => e = .returned (.bool true) ∧ Below W.heap.size W w' := by
  refine Calls.mono (hS.calls hk (Nat.le_refl _) hv hi.rel) ?_
  rintro e w' ⟨c, rfl, ρ', h1, h2, h3⟩
  simp only [VR] at h1; subst h1
  exact ⟨rfl, ⟨h3.os, h3.tape, h3.output, h3.size, fun k hk => h3.frame k hk fun b e hb hle => by
    have := (hi.rel.dom b e hb).1
    omega⟩⟩
end
end Go.Proofs.YtfhnofppfacemaaGreat.T
namespace Go.Proofs.YtfhnofppfacemaaGreat
open Go T
set_option linter.unusedVariables false
set_option linter.unusedSimpArgs false
structure Ver where
  key : Int
  tag : Tag
  past : List Tag
  text : ByteArray
  gone : Bool
structure Node where
  store : List Ver
  wait : List Ver
structure Place where
  me : Int
  clock : Int
  chain : List Node
  log : List Ver
  got : List (List Ver)
  fell : Bool
structure Frame where
  fro : Int
  to : Int
  at' : Int
  ver : Ver

abbrev eTag (ro : Bool) : Nat := bif ro then 57 else 31
abbrev eVer (ro : Bool) : Nat := bif ro then 62 else 36
abbrev eVers (ro : Bool) : Nat := bif ro then 25 else 44
abbrev eNode (ro : Bool) : Nat := bif ro then 204 else 175
/-- a version's cells -/
abbrev Ver.cs (v : Ver) (a : Option (Nat × Nat)) (c : Option Nat) : List V := [.int .i64 v.key, .int .i64 v.tag.time, .int .i64 v.tag.place, .sl 2 a v.past.length c, .str v.text, .bool v.gone]
abbrev RTags (ro : Bool) : Rel (List Tag) := Sli ro 2 (eTag ro) (flat Tag.cs)
def RVer (ro : Bool) : Rel Ver := fun h cs v F => ∃ s, cs = [.int .i64 v.key, .int .i64 v.tag.time, .int .i64 v.tag.place, s, .str v.text, .bool v.gone] ∧ RTags ro h [s] v.past F
abbrev RVers (ro : Bool) : Rel (List Ver) := Sli ro 6 (eVer ro) (RVer ro)
abbrev RVss (ro : Bool) : Rel (List (List Ver)) := Sli ro 1 (eVers ro) (RVers ro)
def RNode (ro : Bool) : Rel Node := fun h cs x F => ∃ s1 s2 F1 F2, cs = [s1, s2] ∧ F = F1 ++ F2 ∧ RVers ro h [s1] x.store F1 ∧ RVers ro h [s2] x.wait F2
abbrev RNodes (ro : Bool) : Rel (List Node) := Sli ro 2 (eNode ro) (RNode ro)
def RPlace (ro : Bool) : Rel Place := fun h cs p F => ∃ s1 s2 s3 F1 F2 F3, cs = [.int .i64 p.me, .int .i64 p.clock, s1, s2, s3, .bool p.fell] ∧ F = F1 ++ (F2 ++ F3) ∧ RNodes ro h [s1] p.chain F1 ∧ RVers ro h [s2] p.log F2 ∧ RVss ro h [s3] p.got F3
def RFrame (ro : Bool) : Rel Frame := fun h cs f F => ∃ vs, cs = .int .i64 f.fro :: .int .i64 f.to :: .int .i64 f.at' :: vs ∧ RVer ro h vs f.ver F

theorem rtags_ok {ro : Bool} : (RTags ro).Ok := Sli.ok flat_ok
theorem rver_ok {ro : Bool} : (RVer ro).Ok :=
  ⟨fun h h' cs x F ⟨s, h1, h2⟩ hb => ⟨s, h1, rtags_ok.fr _ _ _ _ _ h2 hb⟩, fun h cs x F ⟨s, _, h2⟩ => rtags_ok.bd _ _ _ _ h2⟩
theorem rvers_ok {ro : Bool} : (RVers ro).Ok := Sli.ok rver_ok
theorem rvss_ok {ro : Bool} : (RVss ro).Ok := Sli.ok rvers_ok
theorem rnode_ok {ro : Bool} : (RNode ro).Ok := by
  refine ⟨?_, ?_⟩
  · rintro h h' cs x F ⟨s1, s2, F1, F2, h1, rfl, h2, h3⟩ hb
    exact ⟨s1, s2, F1, F2, h1, rfl, rvers_ok.fr _ _ _ _ _ h2 fun b hm => hb b (by simp [hm]), rvers_ok.fr _ _ _ _ _ h3 fun b hm => hb b (by simp [hm])⟩
  · rintro h cs x F ⟨s1, s2, F1, F2, h1, rfl, h2, h3⟩ b hb
    rw [List.mem_append] at hb
    exact hb.elim (rvers_ok.bd _ _ _ _ h2 b) (rvers_ok.bd _ _ _ _ h3 b)
theorem rnodes_ok {ro : Bool} : (RNodes ro).Ok := Sli.ok rnode_ok
theorem rplace_ok {ro : Bool} : (RPlace ro).Ok := by
  refine ⟨?_, ?_⟩
  · rintro h h' cs x F ⟨s1, s2, s3, F1, F2, F3, h1, rfl, h2, h3, h4⟩ hb
    exact ⟨s1, s2, s3, F1, F2, F3, h1, rfl, rnodes_ok.fr _ _ _ _ _ h2 fun b hm => hb b (by simp [hm]), rvers_ok.fr _ _ _ _ _ h3 fun b hm => hb b (by simp [hm]), rvss_ok.fr _ _ _ _ _ h4 fun b hm => hb b (by simp [hm])⟩
  · rintro h cs x F ⟨s1, s2, s3, F1, F2, F3, h1, rfl, h2, h3, h4⟩ b hb
    rw [List.mem_append, List.mem_append] at hb
    rcases hb with hb | hb | hb
    · exact rnodes_ok.bd _ _ _ _ h2 b hb
    · exact rvers_ok.bd _ _ _ _ h3 b hb
    · exact rvss_ok.bd _ _ _ _ h4 b hb
theorem rframe_ok {ro : Bool} : (RFrame ro).Ok :=
  ⟨fun h h' cs x F ⟨s, h1, h2⟩ hb => ⟨s, h1, rver_ok.fr _ _ _ _ _ h2 hb⟩, fun h cs x F ⟨s, _, h2⟩ => rver_ok.bd _ _ _ _ h2⟩

section
variable {ro : Bool} {h : Heap} {F : List Nat} {a : Option (Nat × Nat)} {c : Option Nat} {n k : Nat}
theorem RTags.get {l : List Tag} (hs : RTags ro h [.sl 2 a n c] l F) (hk : k < l.length) : ∃ o, a = some o ∧ ld h o.1 (o.2 + k) 0 2 = some [.int .i64 l[k].time, .int .i64 l[k].place] := by
  obtain ⟨o, row, G, h1, h2, ⟨rfl, _⟩, _⟩ := hs.read hk
  exact ⟨o, h1, by rw [h2]; rfl⟩
theorem RVer.form {row : List V} {v : Ver} (hv : RVer ro h row v F) : ∃ s a c, row = [.int .i64 v.key, .int .i64 v.tag.time, .int .i64 v.tag.place, s, .str v.text, .bool v.gone] ∧
    (∀ {R' : Type} (K : Option (Nat × Nat) → Nat → Option Nat → Option R'), eS 2 s K = K a v.past.length c) ∧ RTags ro h [.sl 2 a v.past.length c] v.past F := by
  obtain ⟨s, rfl, hp⟩ := hv
  obtain ⟨a, c, es, hp2⟩ := hp.form
  exact ⟨s, a, c, rfl, es, hp2⟩
theorem RVers.get {l : List Ver} (hs : RVers ro h [.sl 6 a n c] l F) (hk : k < l.length) : ∃ o s a' c' G, a = some o ∧
    ld h o.1 (o.2 + k) 0 6 = some [.int .i64 l[k].key, .int .i64 l[k].tag.time, .int .i64 l[k].tag.place, s, .str l[k].text, .bool l[k].gone] ∧
    (∀ {R' : Type} (K : Option (Nat × Nat) → Nat → Option Nat → Option R'), eS 2 s K = K a' l[k].past.length c') ∧ RTags ro h [.sl 2 a' l[k].past.length c'] l[k].past G ∧ (∀ b ∈ G, b ∈ F) := by
  obtain ⟨o, row, G, h1, h2, hv, hG, _⟩ := hs.read hk
  obtain ⟨s, a', c', rfl, es, hp⟩ := hv.form
  exact ⟨o, s, a', c', G, h1, by rw [h2]; rfl, es, hp, hG⟩
theorem RVss.get {l : List (List Ver)} (hs : RVss ro h [.sl 1 a n c] l F) (hk : k < l.length) : ∃ o s a' c' G, a = some o ∧ ld h o.1 (o.2 + k) 0 1 = some [s] ∧
    (∀ {R' : Type} (K : Option (Nat × Nat) → Nat → Option Nat → Option R'), eS 6 s K = K a' l[k].length c') ∧ RVers ro h [.sl 6 a' l[k].length c'] l[k] G ∧ (∀ b ∈ G, b ∈ F) := by
  obtain ⟨o, row, G, h1, h2, hv, hG, _⟩ := hs.read hk
  have : ∃ s, row = [s] := by obtain ⟨R', a', c', e, _⟩ := hv; exact ⟨_, e⟩
  obtain ⟨s, rfl⟩ := this
  obtain ⟨a', c', es, hp⟩ := hv.form
  exact ⟨o, s, a', c', G, h1, by rw [h2]; rfl, es, hp, hG⟩
theorem RNode.form {row : List V} {x : Node} (hv : RNode ro h row x F) : ∃ s1 s2 a1 c1 a2 c2 F1 F2, row = [s1, s2] ∧ F = F1 ++ F2 ∧
    (∀ {R' : Type} (K : Option (Nat × Nat) → Nat → Option Nat → Option R'), eS 6 s1 K = K a1 x.store.length c1) ∧ (∀ {R' : Type} (K : Option (Nat × Nat) → Nat → Option Nat → Option R'), eS 6 s2 K = K a2 x.wait.length c2) ∧
    RVers ro h [.sl 6 a1 x.store.length c1] x.store F1 ∧ RVers ro h [.sl 6 a2 x.wait.length c2] x.wait F2 := by
  obtain ⟨s1, s2, F1, F2, rfl, rfl, h1, h2⟩ := hv
  obtain ⟨a1, c1, e1, g1⟩ := h1.form
  obtain ⟨a2, c2, e2, g2⟩ := h2.form
  exact ⟨s1, s2, a1, c1, a2, c2, F1, F2, rfl, rfl, e1, e2, g1, g2⟩
theorem RNodes.get {l : List Node} (hs : RNodes ro h [.sl 2 a n c] l F) (hk : k < l.length) : ∃ o s1 s2 a1 c1 a2 c2 F1 F2, a = some o ∧ ld h o.1 (o.2 + k) 0 2 = some [s1, s2] ∧ ld h o.1 (o.2 + k) 0 1 = some [s1] ∧ ld h o.1 (o.2 + k) 1 1 = some [s2] ∧
    (∀ {R' : Type} (K : Option (Nat × Nat) → Nat → Option Nat → Option R'), eS 6 s1 K = K a1 l[k].store.length c1) ∧ (∀ {R' : Type} (K : Option (Nat × Nat) → Nat → Option Nat → Option R'), eS 6 s2 K = K a2 l[k].wait.length c2) ∧
    RVers ro h [.sl 6 a1 l[k].store.length c1] l[k].store F1 ∧ RVers ro h [.sl 6 a2 l[k].wait.length c2] l[k].wait F2 ∧ (∀ b ∈ F1, b ∈ F) ∧ (∀ b ∈ F2, b ∈ F) := by
  obtain ⟨o, row, G, h1, h2, hv, hG, _⟩ := hs.read hk
  obtain ⟨s1, s2, a1, c1, a2, c2, F1, F2, rfl, rfl, e1, e2, g1, g2⟩ := hv.form
  exact ⟨o, s1, s2, a1, c1, a2, c2, F1, F2, h1, by rw [h2]; rfl, by rw [h2]; rfl, by rw [h2]; rfl, e1, e2, g1, g2, fun b hb => hG b (List.mem_append_left _ hb), fun b hb => hG b (List.mem_append_right _ hb)⟩
theorem RPlace.form {row : List V} {p : Place} (hv : RPlace ro h row p F) : ∃ s1 s2 s3 a1 c1 a2 c2 a3 c3 F1 F2 F3, row = [.int .i64 p.me, .int .i64 p.clock, s1, s2, s3, .bool p.fell] ∧ F = F1 ++ (F2 ++ F3) ∧
    (∀ {R' : Type} (K : Option (Nat × Nat) → Nat → Option Nat → Option R'), eS 2 s1 K = K a1 p.chain.length c1) ∧ (∀ {R' : Type} (K : Option (Nat × Nat) → Nat → Option Nat → Option R'), eS 6 s2 K = K a2 p.log.length c2) ∧
    (∀ {R' : Type} (K : Option (Nat × Nat) → Nat → Option Nat → Option R'), eS 1 s3 K = K a3 p.got.length c3) ∧
    RNodes ro h [.sl 2 a1 p.chain.length c1] p.chain F1 ∧ RVers ro h [.sl 6 a2 p.log.length c2] p.log F2 ∧ RVss ro h [.sl 1 a3 p.got.length c3] p.got F3 := by
  obtain ⟨s1, s2, s3, F1, F2, F3, rfl, rfl, h1, h2, h3⟩ := hv
  obtain ⟨a1, c1, e1, g1⟩ := h1.form
  obtain ⟨a2, c2, e2, g2⟩ := h2.form
  obtain ⟨a3, c3, e3, g3⟩ := h3.form
  exact ⟨s1, s2, s3, a1, c1, a2, c2, a3, c3, F1, F2, F3, rfl, rfl, e1, e2, e3, g1, g2, g3⟩
end
/-- so much less, if there is enough -/
def szN (left : Int) (s : Nat) : Int := if (s : Int) ≤ left then left - s else -1
theorem szN_add {left : Int} {s t : Nat} (h : 0 ≤ left) : (if szN left s < 0 then -1 else szN (szN left s) t) = szN left (s + t) := by
  unfold szN
  by_cases h1 : (s : Int) ≤ left
  · rw [if_pos h1, if_neg (by omega)]
    by_cases h2 : (t : Int) ≤ left - s
    · rw [if_pos h2, if_pos (by omega)]; omega
    · rw [if_neg h2, if_neg (by omega)]
  · rw [if_neg h1, if_pos (by omega), if_neg (by omega)]
theorem sz_sub {α : Type} {left : Int} {n : Nat} {x y : Option α} (h0 : 0 ≤ left) (hl : left ≤ 1048576) (hn : n ≤ maxLen) : br (decide (IntKind.i64.wrap (left - (n : Int)) < 0)) x y = if szN left n < 0 then x else y := by
  have hm : maxLen = 9223372036854775807 := by decide
  rw [wr (by omega) (by omega)]
  by_cases h1 : (n : Int) ≤ left
  · rw [br_neg (by omega), if_neg (by unfold szN; rw [if_pos h1]; omega)]
  · rw [br_pos (by omega), if_pos (by unfold szN; rw [if_neg h1]; omega)]

/-- the sum of sizes, one by one -/
theorem sz_loop {α : Type} {sz : α → Nat} {h : Heap} {l : List α} (L : Int → Nat → Option (V × Heap))
    (step : ∀ i (hi : i < l.length) left, 0 ≤ left → left ≤ 1048576 → L left i = if szN left (sz l[i]) < 0 then some (.int .i64 (-1), h) else L (szN left (sz l[i])) (i + 1))
    (done : ∀ left, L left l.length = some (.int .i64 left, h)) {left : Int} (h0 : 0 ≤ left) (h1 : left ≤ 1048576) : L left 0 = some (.int .i64 (szN left (l.map sz).sum), h) := by
  have loop : ∀ m i left, m + i = l.length → 0 ≤ left → left ≤ 1048576 → L left i = some (.int .i64 (szN left ((l.drop i).map sz).sum), h) := by
    intro m
    induction m with
    | zero =>
      intro i left hi h0 h1
      have : i = l.length := by omega
      subst this
      rw [done, List.drop_length]
      simp [szN, h0]
    | succ m ih =>
      intro i left hi h0 h1
      have hlt : i < l.length := by omega
      rw [step i hlt left h0 h1, List.drop_eq_getElem_cons hlt, List.map_cons, List.sum_cons, ← szN_add h0]
      by_cases hn : szN left (sz l[i]) < 0
      · rw [if_pos hn, if_pos hn]
      · rw [if_neg hn, if_neg hn]
        have hle : szN left (sz l[i]) ≤ left := by unfold szN; split <;> omega
        exact ih (i + 1) _ (by omega) (by omega) (by omega)
  exact loop l.length 0 left (by omega) h0 h1
/-- all hold, one by one -/
theorem all_loop {α T : Type} {p : α → Bool} {l : List α} (L : Nat → Option T) (no yes : Option T)
    (step : ∀ i (hi : i < l.length), L i = if p l[i] = true then L (i + 1) else no) (done : L l.length = yes) : L 0 = if l.all p = true then yes else no := by
  have loop : ∀ m i, m + i = l.length → L i = if (l.drop i).all p = true then yes else no := by
    intro m
    induction m with
    | zero =>
      intro i hi
      have : i = l.length := by omega
      subst this
      rw [done, List.drop_length]; simp
    | succ m ih =>
      intro i hi
      have hlt : i < l.length := by omega
      rw [step i hlt, List.drop_eq_getElem_cons hlt, List.all_cons]
      cases hp : p l[i]
      · simp
      · simpa using ih (i + 1) (by omega)
  exact loop l.length 0 (by omega)
end Go.Proofs.YtfhnofppfacemaaGreat
namespace Go.Proofs.YtfhnofppfacemaaGreat
open Go T
set_option linter.unusedVariables false
set_option linter.unusedSimpArgs false
def szVer (v : Ver) : Nat := v.past.length + v.text.size
def szVers (l : List Ver) : Nat := l.length + (l.map szVer).sum
def szVss (l : List (List Ver)) : Nat := l.length + (l.map szVers).sum
def szNode (x : Node) : Nat := szVers x.store + szVers x.wait
def szNodes (l : List Node) : Nat := l.length + (l.map szNode).sum
def szPlace (p : Place) : Nat := szNodes p.chain + szVers p.log + szVss p.got
/-- bounds that arguments have -/
def bdVer (v : Ver) : Prop := v.past.length ≤ maxLen ∧ v.text.size ≤ maxLen
def bdVers (l : List Ver) : Prop := l.length ≤ maxLen ∧ ∀ v ∈ l, bdVer v
def bdVss (l : List (List Ver)) : Prop := l.length ≤ maxLen ∧ ∀ v ∈ l, bdVers v
def bdNode (x : Node) : Prop := bdVers x.store ∧ bdVers x.wait
def bdNodes (l : List Node) : Prop := l.length ≤ maxLen ∧ ∀ v ∈ l, bdNode v
def bdPlace (p : Place) : Prop := bdNodes p.chain ∧ bdVers p.log ∧ bdVss p.got

section
variable {lo : Nat} {ro : Bool} {h : Heap} {F : List Nat} {a : Option (Nat × Nat)} {c : Option Nat} {left : Int}
theorem br_lt {α : Type} {x : Int} {y z : Option α} : br (decide (x < 0)) y z = if x < 0 then y else z := by
  by_cases h : x < 0
  · rw [br_pos h, if_pos h]
  · rw [br_neg h, if_neg h]
theorem szN_le {left : Int} {s : Nat} (h0 : 0 ≤ left) : szN left s ≤ left := by unfold szN; split <;> omega
theorem szN_if {left : Int} {s : Nat} {h : Heap} (h0 : 0 ≤ left) : (if szN left s < 0 then some (V.int .i64 (-1), h) else some (.int .i64 (szN left s), h)) = some (.int .i64 (szN left s), h) := by
  unfold szN
  by_cases h1 : (s : Int) ≤ left
  · rw [if_pos h1, if_neg (by omega)]
  · rw [if_neg h1]; rfl
theorem szN_wrap {left : Int} {n : Nat} (h0 : 0 ≤ left) (h1 : left ≤ 1048576) (h2 : n ≤ maxLen) (hn : ¬ szN left n < 0) : IntKind.i64.wrap (left - (n : Int)) = szN left n := by
  have hm : maxLen = 9223372036854775807 := by decide
  rw [wr (by omega) (by omega)]
  unfold szN at hn ⊢
  split
  · rfl
  · rename_i h; rw [if_neg h] at hn; omega
theorem laws_szTagS {n : Nat} (hn : n ≤ maxLen) (h0 : 0 ≤ left) (h1 : left ≤ 1048576) : evl lo 105 [.sl 2 a n c, .int .i64 left] h = some (.int .i64 (szN left n), h) := by
  refine E_laws_szTagS (h' := h) ?_
  rw [sz_sub h0 h1 hn]
  by_cases hh : szN left n < 0
  · rw [if_pos hh]; unfold szN at hh ⊢; split <;> simp_all; omega
  · rw [if_neg hh, szN_wrap h0 h1 hn hh]
theorem laws_szPast {n : Nat} (hn : n ≤ maxLen) (h0 : 0 ≤ left) (h1 : left ≤ 1048576) : evl lo 37 [.agg [.sl 2 a n c], .int .i64 left] h = some (.int .i64 (szN left n), h) := by
  refine E_laws_szPast (h' := h) ?_
  rw [laws_szTagS hn h0 h1]; simp only [cal_s, eI_int, br_lt]
  exact szN_if h0
theorem laws_szVer {v : Ver} (hb : bdVer v) (h0 : 0 ≤ left) (h1 : left ≤ 1048576) : evl lo 27 [.agg (v.cs a c), .int .i64 left] h = some (.int .i64 (szN left (szVer v)), h) := by
  refine E_laws_szVer (h' := h) ?_
  rw [laws_szPast hb.1 h0 h1]; simp only [cal_s, eI_int, br_lt]
  unfold szVer
  rw [← szN_add h0]
  by_cases hn : szN left v.past.length < 0
  · rw [if_pos hn, if_pos hn]
  · rw [if_neg hn, if_neg hn]
    have hle := szN_le (s := v.past.length) h0
    generalize szN left v.past.length = l2 at hn hle ⊢
    have := sz_sub (left := l2) (n := v.text.size) (x := some (V.int .i64 (-1), h)) (y := some (.int .i64 (IntKind.i64.wrap (l2 - (v.text.size : Int))), h)) (by omega) (by omega) hb.2
    rw [br_lt] at this
    rw [this]
    by_cases h3 : szN l2 v.text.size < 0
    · rw [if_pos h3]; unfold szN at h3 ⊢; split <;> simp_all; omega
    · rw [if_neg h3, szN_wrap (by omega) (by omega) hb.2 h3]
theorem laws_szVerS {l : List Ver} (hs : RVers ro h [.sl 6 a l.length c] l F) (hb : bdVers l) (h0 : 0 ≤ left) (h1 : left ≤ 1048576) : evl lo 68 [.sl 6 a l.length c, .int .i64 left] h = some (.int .i64 (szN left (szVers l)), h) := by
  refine E_laws_szVerS (h' := h) ?_
  unfold szVers
  rw [sz_sub h0 h1 hb.1, ← szN_add h0]
  by_cases hn : szN left l.length < 0
  · rw [if_pos hn, if_pos hn]
  · rw [if_neg hn, if_neg hn, szN_wrap h0 h1 hb.1 hn]
    have hle := szN_le (s := l.length) h0
    have hbig : l.length ≤ 1048576 := by unfold szN at hn; split at hn <;> omega
    refine sz_loop (sz := szVer) (L := fun left i => L_laws_szVerS_0 (List.length h) a l.length c left 0 (i : Nat) h) (fun i hi left g0 g1 => ?_) (fun left => ?_) (by omega) (by omega)
    · obtain ⟨o, s, a', c', G, rfl, ho, es, hp, _⟩ := hs.get hi
      rw [L_laws_szVerS_0.e, br_pos (by omega), inB_nat hi]
      simp only [eO_s, Int.toNat_natCast, ho, eC_c, eI_int, es, eT_s, eBv_b, eN_n]
      rw [laws_szVer (hb.2 _ (List.getElem_mem hi)) g0 g1]
      simp only [cal_s, eI_int, br_lt, wr_succ (show i < 9223372036854775807 by omega)]
    · rw [L_laws_szVerS_0.e, br_neg (by omega)]
theorem laws_szVerSS {l : List (List Ver)} (hs : RVss ro h [.sl 1 a l.length c] l F) (hb : bdVss l) (h0 : 0 ≤ left) (h1 : left ≤ 1048576) : evl lo 69 [.sl 1 a l.length c, .int .i64 left] h = some (.int .i64 (szN left (szVss l)), h) := by
  refine E_laws_szVerSS (h' := h) ?_
  unfold szVss
  rw [sz_sub h0 h1 hb.1, ← szN_add h0]
  by_cases hn : szN left l.length < 0
  · rw [if_pos hn, if_pos hn]
  · rw [if_neg hn, if_neg hn, szN_wrap h0 h1 hb.1 hn]
    have hle := szN_le (s := l.length) h0
    have hbig : l.length ≤ 1048576 := by unfold szN at hn; split at hn <;> omega
    refine sz_loop (sz := szVers) (L := fun left i => L_laws_szVerSS_0 (List.length h) a l.length c left 0 (i : Nat) h) (fun i hi left g0 g1 => ?_) (fun left => ?_) (by omega) (by omega)
    · obtain ⟨o, s, a', c', G, rfl, ho, es, hp, _⟩ := hs.get hi
      rw [L_laws_szVerSS_0.e, br_pos (by omega), inB_nat hi]
      simp only [eO_s, Int.toNat_natCast, ho, eC_c, es, eN_n]
      rw [laws_szVerS hp (hb.2 _ (List.getElem_mem hi)) g0 g1]
      simp only [cal_s, eI_int, br_lt, wr_succ (show i < 9223372036854775807 by omega)]
    · rw [L_laws_szVerSS_0.e, br_neg (by omega)]
theorem laws_szStore {l : List Ver} (hs : RVers ro h [.sl 6 a l.length c] l F) (hb : bdVers l) (h0 : 0 ≤ left) (h1 : left ≤ 1048576) : evl lo 252 [.agg [.sl 6 a l.length c], .int .i64 left] h = some (.int .i64 (szN left (szVers l)), h) := by
  refine E_laws_szStore (h' := h) ?_
  rw [laws_szVerS hs hb h0 h1]; simp only [cal_s, eI_int, br_lt]
  exact szN_if h0
theorem laws_szNode {x : Node} {a1 a2 : Option (Nat × Nat)} {c1 c2 : Option Nat} {F1 F2 : List Nat} (hs1 : RVers ro h [.sl 6 a1 x.store.length c1] x.store F1) (hs2 : RVers ro h [.sl 6 a2 x.wait.length c2] x.wait F2) (hb : bdNode x) (h0 : 0 ≤ left) (h1 : left ≤ 1048576) :
    evl lo 198 [.agg [.sl 6 a1 x.store.length c1, .sl 6 a2 x.wait.length c2], .int .i64 left] h = some (.int .i64 (szN left (szNode x)), h) := by
  refine E_laws_szNode (h' := h) ?_
  unfold szNode
  rw [laws_szStore hs1 hb.1 h0 h1]; simp only [cal_s, eI_int, br_lt]
  rw [← szN_add h0]
  by_cases hn : szN left (szVers x.store) < 0
  · rw [if_pos hn, if_pos hn]
  · rw [if_neg hn, if_neg hn]
    have hle := szN_le (s := szVers x.store) h0
    rw [laws_szVerS hs2 hb.2 (by omega) (by omega)]; simp only [cal_s, eI_int, br_lt]
    exact szN_if (by omega)
theorem laws_szNodeS {l : List Node} (hs : RNodes ro h [.sl 2 a l.length c] l F) (hb : bdNodes l) (h0 : 0 ≤ left) (h1 : left ≤ 1048576) : evl lo 115 [.sl 2 a l.length c, .int .i64 left] h = some (.int .i64 (szN left (szNodes l)), h) := by
  refine E_laws_szNodeS (h' := h) ?_
  unfold szNodes
  rw [sz_sub h0 h1 hb.1, ← szN_add h0]
  by_cases hn : szN left l.length < 0
  · rw [if_pos hn, if_pos hn]
  · rw [if_neg hn, if_neg hn, szN_wrap h0 h1 hb.1 hn]
    have hle := szN_le (s := l.length) h0
    have hbig : l.length ≤ 1048576 := by unfold szN at hn; split at hn <;> omega
    refine sz_loop (sz := szNode) (L := fun left i => L_laws_szNodeS_0 (List.length h) a l.length c left 0 (i : Nat) h) (fun i hi left g0 g1 => ?_) (fun left => ?_) (by omega) (by omega)
    · obtain ⟨o, s1, s2, a1, c1, a2, c2, F1, F2, rfl, ho, _, _, e1, e2, hp1, hp2, _⟩ := hs.get hi
      rw [L_laws_szNodeS_0.e, br_pos (by omega), inB_nat hi]
      simp only [eO_s, Int.toNat_natCast, ho, eC_c, e1, e2, eN_n]
      rw [laws_szNode hp1 hp2 (hb.2 _ (List.getElem_mem hi)) g0 g1]
      simp only [cal_s, eI_int, br_lt, wr_succ (show i < 9223372036854775807 by omega)]
    · rw [L_laws_szNodeS_0.e, br_neg (by omega)]
theorem laws_szChain {l : List Node} (hs : RNodes ro h [.sl 2 a l.length c] l F) (hb : bdNodes l) (h0 : 0 ≤ left) (h1 : left ≤ 1048576) : evl lo 44 [.agg [.sl 2 a l.length c], .int .i64 left] h = some (.int .i64 (szN left (szNodes l)), h) := by
  refine E_laws_szChain (h' := h) ?_
  rw [laws_szNodeS hs hb h0 h1]; simp only [cal_s, eI_int, br_lt]
  exact szN_if h0
theorem laws_szPlace {p : Place} {a1 a2 a3 : Option (Nat × Nat)} {c1 c2 c3 : Option Nat} {F1 F2 F3 : List Nat} (hs1 : RNodes ro h [.sl 2 a1 p.chain.length c1] p.chain F1) (hs2 : RVers ro h [.sl 6 a2 p.log.length c2] p.log F2)
    (hs3 : RVss ro h [.sl 1 a3 p.got.length c3] p.got F3) (hb : bdPlace p) (h0 : 0 ≤ left) (h1 : left ≤ 1048576) :
    evl lo 15 [.agg [.int .i64 p.me, .int .i64 p.clock, .sl 2 a1 p.chain.length c1, .sl 6 a2 p.log.length c2, .sl 1 a3 p.got.length c3, .bool p.fell], .int .i64 left] h = some (.int .i64 (szN left (szPlace p)), h) := by
  refine E_laws_szPlace (h' := h) ?_
  unfold szPlace
  rw [laws_szChain hs1 hb.1 h0 h1]; simp only [cal_s, eI_int, br_lt]
  rw [← szN_add h0, ← szN_add h0]
  by_cases hn : szN left (szNodes p.chain) < 0
  · rw [if_pos hn, if_pos hn, if_pos (by decide)]
  · rw [if_neg hn, if_neg hn]
    have hle := szN_le (s := szNodes p.chain) h0
    rw [laws_szVerS hs2 hb.2.1 (by omega) (by omega)]; simp only [cal_s, eI_int, br_lt]
    by_cases hn2 : szN (szN left (szNodes p.chain)) (szVers p.log) < 0
    · rw [if_pos hn2, if_pos hn2]
    · rw [if_neg hn2, if_neg hn2]
      have hle2 := szN_le (left := szN left (szNodes p.chain)) (s := szVers p.log) (by omega)
      rw [laws_szVerSS hs3 hb.2.2 (by omega) (by omega)]; simp only [cal_s, eI_int, br_lt]
      exact szN_if (by omega)
end
/-- what is small -/
def smVers (l : List Ver) : Prop := l.length ≤ 1048576 ∧ ∀ v ∈ l, v.past.length ≤ 1048576 ∧ v.text.size ≤ 1048576
def smVss (l : List (List Ver)) : Prop := l.length ≤ 1048576 ∧ ∀ v ∈ l, smVers v
def smNodes (l : List Node) : Prop := l.length ≤ 1048576 ∧ ∀ x ∈ l, smVers x.store ∧ smVers x.wait
def smPlace (p : Place) : Prop := smNodes p.chain ∧ smVers p.log ∧ smVss p.got
theorem le_sum {α : Type} {f : α → Nat} : ∀ {l : List α} {x : α}, x ∈ l → f x ≤ (l.map f).sum
  | y :: l, x, h => by
    simp only [List.map_cons, List.sum_cons]
    rcases List.mem_cons.1 h with rfl | h
    · omega
    · have := le_sum (f := f) h; omega
theorem sm_vers {l : List Ver} (h : szVers l ≤ 1048576) : smVers l := by
  unfold szVers at h
  refine ⟨by omega, fun v hv => ?_⟩
  have := le_sum (f := szVer) hv
  have e : szVer v = v.past.length + v.text.size := rfl
  omega
theorem sm_vss {l : List (List Ver)} (h : szVss l ≤ 1048576) : smVss l := by
  unfold szVss at h
  refine ⟨by omega, fun v hv => sm_vers ?_⟩
  have := le_sum (f := szVers) hv; omega
theorem sm_nodes {l : List Node} (h : szNodes l ≤ 1048576) : smNodes l := by
  unfold szNodes at h
  refine ⟨by omega, fun v hv => ?_⟩
  have := le_sum (f := szNode) hv
  have e : szNode v = szVers v.store + szVers v.wait := rfl
  exact ⟨sm_vers (by omega), sm_vers (by omega)⟩
theorem sm_place {p : Place} (h : szPlace p ≤ 1048576) : smPlace p := by
  unfold szPlace at h
  exact ⟨sm_nodes (by omega), sm_vers (by omega), sm_vss (by omega)⟩

section
variable {lo : Nat} {ro : Bool} {h : Heap} {F : List Nat} {a : Option (Nat × Nat)} {c : Option Nat}
theorem laws_toTagS {l : List Tag} (hs : RTags true h [.sl 2 a l.length c] l F) (hl : lo ≤ h.length) (hn : l.length ≤ 1048576) :
    ∃ a' h' F', evl lo 110 [.sl 2 a l.length c] h = some (.sl 2 a' l.length (some l.length), h') ∧ RTags false h' [.sl 2 a' l.length (some l.length)] l F' ∧ Mv h [] h' F' := by
  obtain ⟨h', F', e, r, m⟩ := fill_loop (El := flat Tag.cs) flat_ok (h0 := h) (l := l) (f := id) (lo := lo) (R := 2) (e := eTag false) (z := [.int .i64 0, .int .i64 0]) rfl hl
    (fun i hh => L_laws_toTagS_0 lo a l.length c (some (h.length, 0)) l.length (some l.length) (i : Nat) hh) (fun i hi hh m => by
      obtain ⟨o, rfl, ho⟩ := (m.keep0 rtags_ok hs).get hi
      refine ⟨[.int .i64 l[i].time, .int .i64 l[i].place], [], hh, ⟨rfl, rfl⟩, Mv.nil, rfl, ?_⟩
      rw [L_laws_toTagS_0.e, br_pos (by omega), inB_nat hi]
      simp only [eO_s, Int.toNat_natCast, ho, eC_c, eI_int, eN_n, laws_toTag, cal_s, eA_a, inB_nat hi, Nat.zero_add, wr_succ (show i < 9223372036854775807 by omega)])
  refine ⟨some (h.length, 0), h', F', E_laws_toTagS ?_, by rw [List.map_id] at r; exact r, m⟩
  rw [need_of (by omega)]
  refine e.trans ?_
  rw [L_laws_toTagS_0.e, br_neg (by omega)]
theorem laws_toPast {l : List Tag} (hs : RTags true h [.sl 2 a l.length c] l F) (hl : lo ≤ h.length) (hn : l.length ≤ 1048576) :
    ∃ a' h' F', evl lo 39 [.agg [.sl 2 a l.length c]] h = some (.agg [.sl 2 a' l.length (some l.length)], h') ∧ RTags false h' [.sl 2 a' l.length (some l.length)] l F' ∧ Mv h [] h' F' := by
  obtain ⟨a', h', F', e, r⟩ := laws_toTagS hs hl hn
  refine ⟨a', h', F', E_laws_toPast ?_, r⟩
  rw [e]; simp only [cal_s, eS_sl]
theorem laws_toVer {v : Ver} (hs : RTags true h [.sl 2 a v.past.length c] v.past F) (hl : lo ≤ h.length) (hn : v.past.length ≤ 1048576) :
    ∃ a' c' h' F', evl lo 29 [.agg (v.cs a c)] h = some (.agg (v.cs a' c'), h') ∧ RTags false h' [.sl 2 a' v.past.length c'] v.past F' ∧ Mv h [] h' F' := by
  obtain ⟨a', h', F', e, r⟩ := laws_toPast hs hl hn
  refine ⟨a', _, h', F', E_laws_toVer ?_, r⟩
  rw [laws_toTag]; simp only [cal_s, eA_a, eC_c, eI_int, eN_n]
  rw [e]; simp only [cal_s, eA_a, eC_c, eS_sl, eN_n]
theorem laws_toVerS {l : List Ver} (hs : RVers true h [.sl 6 a l.length c] l F) (hl : lo ≤ h.length) (hn : smVers l) :
    ∃ a' h' F', evl lo 73 [.sl 6 a l.length c] h = some (.sl 6 a' l.length (some l.length), h') ∧ RVers false h' [.sl 6 a' l.length (some l.length)] l F' ∧ Mv h [] h' F' := by
  have hn1 := hn.1
  obtain ⟨h', F', e, r, m⟩ := fill_loop (El := RVer false) rver_ok (h0 := h) (l := l) (f := id) (lo := lo) (R := 6) (e := eVer false) (z := [.int .i64 0, .int .i64 0, .int .i64 0, .sl 0 none 0 (some 0), .str ⟨⟨[]⟩⟩, .bool false]) rfl hl
    (fun i hh => L_laws_toVerS_0 lo a l.length c (some (h.length, 0)) l.length (some l.length) (i : Nat) hh) (fun i hi hh m => by
      obtain ⟨o, s, a2, c2, G, rfl, ho, es, hp, _⟩ := (m.keep0 rvers_ok hs).get hi
      obtain ⟨a3, c3, h3, F3, e3, r3, m3⟩ := laws_toVer (lo := lo) (v := l[i]) hp (Nat.le_trans hl m.le) (hn.2 _ (List.getElem_mem hi)).1
      refine ⟨l[i].cs a3 c3, F3, h3, ⟨_, rfl, r3⟩, m3, rfl, ?_⟩
      rw [L_laws_toVerS_0.e, br_pos (by omega), inB_nat hi]
      simp only [eO_s, Int.toNat_natCast, ho, eC_c, eI_int, es, eT_s, eBv_b, eN_n]
      rw [e3]
      simp only [eO_s, Int.toNat_natCast, eC_c, eI_int, eS_sl, eT_s, eBv_b, eN_n, cal_s, eA_a, inB_nat hi, Nat.zero_add, wr_succ (show i < 9223372036854775807 by omega)])
  refine ⟨some (h.length, 0), h', F', E_laws_toVerS ?_, by rw [List.map_id] at r; exact r, m⟩
  rw [need_of (by omega)]
  refine e.trans ?_
  rw [L_laws_toVerS_0.e, br_neg (by omega)]
theorem laws_toVerSS {l : List (List Ver)} (hs : RVss true h [.sl 1 a l.length c] l F) (hl : lo ≤ h.length) (hn : smVss l) :
    ∃ a' h' F', evl lo 74 [.sl 1 a l.length c] h = some (.sl 1 a' l.length (some l.length), h') ∧ RVss false h' [.sl 1 a' l.length (some l.length)] l F' ∧ Mv h [] h' F' := by
  have hn1 := hn.1
  obtain ⟨h', F', e, r, m⟩ := fill_loop (El := RVers false) rvers_ok (h0 := h) (l := l) (f := id) (lo := lo) (R := 1) (e := eVers false) (z := [.sl 0 none 0 (some 0)]) rfl hl
    (fun i hh => L_laws_toVerSS_0 lo a l.length c (some (h.length, 0)) l.length (some l.length) (i : Nat) hh) (fun i hi hh m => by
      obtain ⟨o, s, a2, c2, G, rfl, ho, es, hp, _⟩ := (m.keep0 rvss_ok hs).get hi
      obtain ⟨a3, h3, F3, e3, r3, m3⟩ := laws_toVerS (lo := lo) hp (Nat.le_trans hl m.le) (hn.2 _ (List.getElem_mem hi))
      refine ⟨[.sl 6 a3 l[i].length (some l[i].length)], F3, h3, r3, m3, rfl, ?_⟩
      rw [L_laws_toVerSS_0.e, br_pos (by omega), inB_nat hi]
      simp only [eO_s, Int.toNat_natCast, ho, eC_c, es, eN_n]
      rw [e3]
      simp only [eO_s, Int.toNat_natCast, eS_sl, cal_s, inB_nat hi, Nat.zero_add, wr_succ (show i < 9223372036854775807 by omega)])
  refine ⟨some (h.length, 0), h', F', E_laws_toVerSS ?_, by rw [List.map_id] at r; exact r, m⟩
  rw [need_of (by omega)]
  refine e.trans ?_
  rw [L_laws_toVerSS_0.e, br_neg (by omega)]
theorem laws_toStore {l : List Ver} (hs : RVers true h [.sl 6 a l.length c] l F) (hl : lo ≤ h.length) (hn : smVers l) :
    ∃ a' h' F', evl lo 253 [.agg [.sl 6 a l.length c]] h = some (.agg [.sl 6 a' l.length (some l.length)], h') ∧ RVers false h' [.sl 6 a' l.length (some l.length)] l F' ∧ Mv h [] h' F' := by
  obtain ⟨a', h', F', e, r⟩ := laws_toVerS hs hl hn
  refine ⟨a', h', F', E_laws_toStore ?_, r⟩
  rw [e]; simp only [cal_s, eS_sl]
theorem laws_toNode {x : Node} {a1 a2 : Option (Nat × Nat)} {c1 c2 : Option Nat} {F1 F2 : List Nat} (hs1 : RVers true h [.sl 6 a1 x.store.length c1] x.store F1) (hs2 : RVers true h [.sl 6 a2 x.wait.length c2] x.wait F2) (hl : lo ≤ h.length) (hn : smVers x.store ∧ smVers x.wait) :
    ∃ a1' c1' a2' c2' h' F', evl lo 202 [.agg [.sl 6 a1 x.store.length c1, .sl 6 a2 x.wait.length c2]] h = some (.agg [.sl 6 a1' x.store.length c1', .sl 6 a2' x.wait.length c2'], h') ∧
      RNode false h' [.sl 6 a1' x.store.length c1', .sl 6 a2' x.wait.length c2'] x F' ∧ Mv h [] h' F' := by
  obtain ⟨a1', h1, G1, e1, r1, m1⟩ := laws_toStore hs1 hl hn.1
  obtain ⟨a2', h2, G2, e2, r2, m2⟩ := laws_toVerS (m1.keep0 rvers_ok hs2) (Nat.le_trans hl m1.le) hn.2
  refine ⟨a1', _, a2', _, h2, G1 ++ G2, E_laws_toNode ?_, ⟨_, _, G1, G2, rfl, rfl, m2.keep0 rvers_ok r1, r2⟩, m1.join m2 (rvers_ok.bd _ _ _ _ r1)⟩
  rw [e1]; simp only [cal_s, eA_a, eC_c, eS_sl, eN_n]
  rw [e2]; simp only [cal_s, eS_sl]
theorem laws_toNodeS {l : List Node} (hs : RNodes true h [.sl 2 a l.length c] l F) (hl : lo ≤ h.length) (hn : smNodes l) :
    ∃ a' h' F', evl lo 119 [.sl 2 a l.length c] h = some (.sl 2 a' l.length (some l.length), h') ∧ RNodes false h' [.sl 2 a' l.length (some l.length)] l F' ∧ Mv h [] h' F' := by
  have hn1 := hn.1
  obtain ⟨h', F', e, r, m⟩ := fill_loop (El := RNode false) rnode_ok (h0 := h) (l := l) (f := id) (lo := lo) (R := 2) (e := eNode false) (z := [.sl 0 none 0 (some 0), .sl 0 none 0 (some 0)]) rfl hl
    (fun i hh => L_laws_toNodeS_0 lo a l.length c (some (h.length, 0)) l.length (some l.length) (i : Nat) hh) (fun i hi hh m => by
      obtain ⟨o, s1, s2, a1, c1, a2, c2, F1, F2, rfl, ho, _, _, e1, e2, hp1, hp2, _⟩ := (m.keep0 rnodes_ok hs).get hi
      obtain ⟨a3, c3, a4, c4, h3, F3, e3, r3, m3⟩ := laws_toNode (lo := lo) hp1 hp2 (Nat.le_trans hl m.le) (hn.2 _ (List.getElem_mem hi))
      refine ⟨_, F3, h3, r3, m3, rfl, ?_⟩
      rw [L_laws_toNodeS_0.e, br_pos (by omega), inB_nat hi]
      simp only [eO_s, Int.toNat_natCast, ho, eC_c, e1, e2, eN_n]
      rw [e3]
      simp only [eO_s, Int.toNat_natCast, eC_c, eS_sl, eN_n, cal_s, eA_a, inB_nat hi, Nat.zero_add, wr_succ (show i < 9223372036854775807 by omega)])
  refine ⟨some (h.length, 0), h', F', E_laws_toNodeS ?_, by rw [List.map_id] at r; exact r, m⟩
  rw [need_of (by omega)]
  refine e.trans ?_
  rw [L_laws_toNodeS_0.e, br_neg (by omega)]
theorem laws_toChain {l : List Node} (hs : RNodes true h [.sl 2 a l.length c] l F) (hl : lo ≤ h.length) (hn : smNodes l) :
    ∃ a' h' F', evl lo 46 [.agg [.sl 2 a l.length c]] h = some (.agg [.sl 2 a' l.length (some l.length)], h') ∧ RNodes false h' [.sl 2 a' l.length (some l.length)] l F' ∧ Mv h [] h' F' := by
  obtain ⟨a', h', F', e, r⟩ := laws_toNodeS hs hl hn
  refine ⟨a', h', F', E_laws_toChain ?_, r⟩
  rw [e]; simp only [cal_s, eS_sl]
/-- a place's cells -/
abbrev Place.cs (p : Place) (a1 : Option (Nat × Nat)) (c1 : Option Nat) (a2 : Option (Nat × Nat)) (c2 : Option Nat) (a3 : Option (Nat × Nat)) (c3 : Option Nat) : List V :=
  [.int .i64 p.me, .int .i64 p.clock, .sl 2 a1 p.chain.length c1, .sl 6 a2 p.log.length c2, .sl 1 a3 p.got.length c3, .bool p.fell]
theorem laws_toPlace {p : Place} {a1 a2 a3 : Option (Nat × Nat)} {c1 c2 c3 : Option Nat} {F1 F2 F3 : List Nat} (hs1 : RNodes true h [.sl 2 a1 p.chain.length c1] p.chain F1) (hs2 : RVers true h [.sl 6 a2 p.log.length c2] p.log F2)
    (hs3 : RVss true h [.sl 1 a3 p.got.length c3] p.got F3) (hl : lo ≤ h.length) (hn : smPlace p) :
    ∃ a1' c1' a2' c2' a3' c3' h' F', evl lo 17 [.agg (p.cs a1 c1 a2 c2 a3 c3)] h = some (.agg (p.cs a1' c1' a2' c2' a3' c3'), h') ∧ RPlace false h' (p.cs a1' c1' a2' c2' a3' c3') p F' ∧ Mv h [] h' F' := by
  obtain ⟨a1', h1, G1, e1, r1, m1⟩ := laws_toChain hs1 hl hn.1
  obtain ⟨a2', h2, G2, e2, r2, m2⟩ := laws_toVerS (m1.keep0 rvers_ok hs2) (Nat.le_trans hl m1.le) hn.2.1
  have m12 := m1.join m2 (rnodes_ok.bd _ _ _ _ r1)
  obtain ⟨a3', h3, G3, e3, r3, m3⟩ := laws_toVerSS (m2.keep0 rvss_ok (m1.keep0 rvss_ok hs3)) (Nat.le_trans hl m12.le) hn.2.2
  have r1' := m2.keep0 rnodes_ok r1
  refine ⟨a1', _, a2', _, a3', _, h3, G1 ++ (G2 ++ G3), E_laws_toPlace ?_, ⟨_, _, _, G1, G2, G3, rfl, rfl, m3.keep0 rnodes_ok r1', m3.keep0 rvers_ok r2, r3⟩, ?_⟩
  · rw [e1]; simp only [cal_s, eA_a, eC_c, eS_sl, eN_n]
    rw [e2]; simp only [cal_s, eS_sl]
    rw [e3]; simp only [cal_s, eS_sl]
  · have := m12.join m3 (fun b hb => by
      rw [List.mem_append] at hb
      exact hb.elim (rnodes_ok.bd _ _ _ _ r1' b) (rvers_ok.bd _ _ _ _ r2 b))
    rwa [List.append_assoc] at this
end
end Go.Proofs.YtfhnofppfacemaaGreat
namespace Go.Proofs.YtfhnofppfacemaaGreat
open Go T
set_option linter.unusedVariables false
set_option linter.unusedSimpArgs false
theorem go_loop {T : Type} {n : Nat} (L : Nat → Option T) (step : ∀ i, i < n → L i = L (i + 1)) : L 0 = L n := by
  have loop : ∀ i, i ≤ n → L 0 = L i := by
    intro i
    induction i with
    | zero => intro _; rfl
    | succ i ih => intro hi; rw [ih (by omega), step i (by omega)]
  exact loop n (Nat.le_refl n)
section
variable {lo : Nat} {ro ro' : Bool} {h : Heap} {F F' : List Nat} {a a' : Option (Nat × Nat)} {c c' : Option Nat}
theorem beqI (x : Int) : (x == x) = true := by simp
theorem beqB (x : Bool) : (x == x) = true := by simp
theorem beqL (x : List UInt8) : (x == x) = true := by simp
theorem eqTagS {l : List Tag} (h1 : RTags ro h [.sl 2 a l.length c] l F) (h2 : RTags ro' h [.sl 2 a' l.length c'] l F') (hn : l.length ≤ 1048576) : evl lo 113 [.sl 2 a l.length c, .sl 2 a' l.length c'] h = some (.bool true, h) := by
  refine E_laws_eqTagS (h' := h) ?_
  rw [beqI, br_t]
  refine (go_loop (n := l.length) (fun i => L_laws_eqTagS_0 (List.length h) a l.length c a' l.length c' false (i : Nat) h) fun i hi => ?_).trans ?_
  · obtain ⟨o, rfl, ho⟩ := h1.get hi
    obtain ⟨o', rfl, ho'⟩ := h2.get hi
    rw [L_laws_eqTagS_0.e, br_pos (by omega), inB_nat hi]
    simp only [eO_s, Int.toNat_natCast, ho, ho', eC_c, eI_int, eN_n, inB_nat hi, laws_eqTag, beqI, cal_s, eB_b, br_t, Bool.and_self, wr_succ (show i < 9223372036854775807 by omega)]
  · rw [L_laws_eqTagS_0.e, br_neg (by omega)]
theorem eqPast {l : List Tag} (h1 : RTags ro h [.sl 2 a l.length c] l F) (h2 : RTags ro' h [.sl 2 a' l.length c'] l F') (hn : l.length ≤ 1048576) : evl lo 42 [.agg [.sl 2 a l.length c], .agg [.sl 2 a' l.length c']] h = some (.bool true, h) :=
  E_laws_eqPast (h' := h) (by rw [eqTagS h1 h2 hn]; simp only [cal_s, eB_b, br_t])
theorem eqVer {v : Ver} (h1 : RTags ro h [.sl 2 a v.past.length c] v.past F) (h2 : RTags ro' h [.sl 2 a' v.past.length c'] v.past F') (hn : v.past.length ≤ 1048576) : evl lo 31 [.agg (v.cs a c), .agg (v.cs a' c')] h = some (.bool true, h) :=
  E_laws_eqVer (h' := h) (by simp only [eqPast h1 h2 hn, cal_s, eB_b, br_t, beqI, beqB, beqL, laws_eqTag, Bool.and_self])
theorem eqVerS {l : List Ver} (h1 : RVers ro h [.sl 6 a l.length c] l F) (h2 : RVers ro' h [.sl 6 a' l.length c'] l F') (hn : smVers l) : evl lo 79 [.sl 6 a l.length c, .sl 6 a' l.length c'] h = some (.bool true, h) := by
  have hn1 := hn.1
  refine E_laws_eqVerS (h' := h) ?_
  rw [beqI, br_t]
  refine (go_loop (n := l.length) (fun i => L_laws_eqVerS_0 (List.length h) a l.length c a' l.length c' false (i : Nat) h) fun i hi => ?_).trans ?_
  · obtain ⟨o, s, b1, c1, G1, rfl, ho, es, hp, _⟩ := h1.get hi
    obtain ⟨o', s', b2, c2, G2, rfl, ho', es', hp', _⟩ := h2.get hi
    rw [L_laws_eqVerS_0.e, br_pos (by omega), inB_nat hi]
    simp only [eO_s, Int.toNat_natCast, ho, ho', eC_c, eI_int, es, es', eT_s, eBv_b, eN_n, inB_nat hi]
    rw [eqVer hp hp' (hn.2 _ (List.getElem_mem hi)).1]
    simp only [cal_s, eB_b, br_t, wr_succ (show i < 9223372036854775807 by omega)]
  · rw [L_laws_eqVerS_0.e, br_neg (by omega)]
theorem eqVerSS {l : List (List Ver)} (h1 : RVss ro h [.sl 1 a l.length c] l F) (h2 : RVss ro' h [.sl 1 a' l.length c'] l F') (hn : smVss l) : evl lo 80 [.sl 1 a l.length c, .sl 1 a' l.length c'] h = some (.bool true, h) := by
  have hn1 := hn.1
  refine E_laws_eqVerSS (h' := h) ?_
  rw [beqI, br_t]
  refine (go_loop (n := l.length) (fun i => L_laws_eqVerSS_0 (List.length h) a l.length c a' l.length c' false (i : Nat) h) fun i hi => ?_).trans ?_
  · obtain ⟨o, s, b1, c1, G1, rfl, ho, es, hp, _⟩ := h1.get hi
    obtain ⟨o', s', b2, c2, G2, rfl, ho', es', hp', _⟩ := h2.get hi
    rw [L_laws_eqVerSS_0.e, br_pos (by omega), inB_nat hi]
    simp only [eO_s, Int.toNat_natCast, ho, ho', eC_c, es, es', eN_n, inB_nat hi]
    rw [eqVerS hp hp' (hn.2 _ (List.getElem_mem hi))]
    simp only [cal_s, eB_b, br_t, wr_succ (show i < 9223372036854775807 by omega)]
  · rw [L_laws_eqVerSS_0.e, br_neg (by omega)]
theorem eqStore {l : List Ver} (h1 : RVers ro h [.sl 6 a l.length c] l F) (h2 : RVers ro' h [.sl 6 a' l.length c'] l F') (hn : smVers l) : evl lo 257 [.agg [.sl 6 a l.length c], .agg [.sl 6 a' l.length c']] h = some (.bool true, h) :=
  E_laws_eqStore (h' := h) (by rw [eqVerS h1 h2 hn]; simp only [cal_s, eB_b, br_t])
theorem eqNodeS {l : List Node} (h1 : RNodes ro h [.sl 2 a l.length c] l F) (h2 : RNodes ro' h [.sl 2 a' l.length c'] l F') (hn : smNodes l) : evl lo 124 [.sl 2 a l.length c, .sl 2 a' l.length c'] h = some (.bool true, h) := by
  have hn1 := hn.1
  refine E_laws_eqNodeS (h' := h) ?_
  rw [beqI, br_t]
  refine (go_loop (n := l.length) (fun i => L_laws_eqNodeS_0 (List.length h) a l.length c a' l.length c' false (i : Nat) h) fun i hi => ?_).trans ?_
  · obtain ⟨o, s1, s2, a1, c1, a2, c2, G1, G2, rfl, ho, _, _, e1, e2, hp1, hp2, _⟩ := h1.get hi
    obtain ⟨o', s1', s2', a1', c1', a2', c2', G1', G2', rfl, ho', _, _, e1', e2', hp1', hp2', _⟩ := h2.get hi
    rw [L_laws_eqNodeS_0.e, br_pos (by omega), inB_nat hi]
    simp only [eO_s, Int.toNat_natCast, ho, ho', eC_c, e1, e2, e1', e2', eN_n, inB_nat hi]
    rw [E_laws_eqNode (h' := h) (v := .bool true) (by
      rw [eqStore hp1 hp1' (hn.2 _ (List.getElem_mem hi)).1]; simp only [cal_s, eB_b, br_t]
      rw [eqVerS hp2 hp2' (hn.2 _ (List.getElem_mem hi)).2]; simp only [cal_s, eB_b, br_t])]
    simp only [cal_s, eB_b, br_t, wr_succ (show i < 9223372036854775807 by omega)]
  · rw [L_laws_eqNodeS_0.e, br_neg (by omega)]
theorem eqChain {l : List Node} (h1 : RNodes ro h [.sl 2 a l.length c] l F) (h2 : RNodes ro' h [.sl 2 a' l.length c'] l F') (hn : smNodes l) : evl lo 48 [.agg [.sl 2 a l.length c], .agg [.sl 2 a' l.length c']] h = some (.bool true, h) :=
  E_laws_eqChain (h' := h) (by rw [eqNodeS h1 h2 hn]; simp only [cal_s, eB_b, br_t])
theorem eqPlace {p : Place} {a1 a2 a3 a1' a2' a3' : Option (Nat × Nat)} {c1 c2 c3 c1' c2' c3' : Option Nat} (h1 : RPlace ro h (p.cs a1 c1 a2 c2 a3 c3) p F) (h2 : RPlace ro' h (p.cs a1' c1' a2' c2' a3' c3') p F') (hn : smPlace p) :
    evl lo 20 [.agg (p.cs a1 c1 a2 c2 a3 c3), .agg (p.cs a1' c1' a2' c2' a3' c3')] h = some (.bool true, h) := by
  obtain ⟨_, _, _, _, _, _, e1, _, r1, r2, r3⟩ := h1
  obtain ⟨_, _, _, _, _, _, e2, _, q1, q2, q3⟩ := h2
  injection e1 with _ e1; injection e1 with _ e1; injection e1 with x1 e1; injection e1 with x2 e1; injection e1 with x3 e1
  injection e2 with _ e2; injection e2 with _ e2; injection e2 with y1 e2; injection e2 with y2 e2; injection e2 with y3 e2
  subst x1; subst x2; subst x3; subst y1; subst y2; subst y3
  refine E_laws_eqPlace (h' := h) ?_
  rw [eqChain r1 q1 hn.1]; simp only [cal_s, eB_b, br_t, beqI]
  rw [eqVerS r2 q2 hn.2.1]; simp only [cal_s, eB_b, br_t]
  rw [eqVerSS r3 q3 hn.2.2]; simp only [cal_s, eB_b, br_t, beqB]
/-- a frame's cells -/
abbrev Frame.cs (f : Frame) (a : Option (Nat × Nat)) (c : Option Nat) : List V := .int .i64 f.fro :: .int .i64 f.to :: .int .i64 f.at' :: f.ver.cs a c
theorem eqFrame {f : Frame} (h1 : RTags ro h [.sl 2 a f.ver.past.length c] f.ver.past F) (h2 : RTags ro' h [.sl 2 a' f.ver.past.length c'] f.ver.past F') (hn : f.ver.past.length ≤ 1048576) : evl lo 19 [.agg (f.cs a c), .agg (f.cs a' c')] h = some (.bool true, h) :=
  E_laws_eqFrame (h' := h) (by rw [eqVer h1 h2 hn]; simp only [cal_s, eB_b, br_t, beqI])
end
def marks {α : Type} (f : Int → α → α) (w : α → Nat) : List α → Int → List α
  | [], _ => []
  | x :: r, k => f k x :: marks f w r (k + w x)
def mkN {α : Type} (w : α → Nat) (l : List α) : Nat := (l.map w).sum
theorem marks_len {α : Type} {f : Int → α → α} {w : α → Nat} : ∀ {l : List α} {k : Int}, (marks f w l k).length = l.length
  | [], k => rfl
  | x :: l, k => by simp [marks, marks_len]
theorem marks_snoc {α : Type} {f : Int → α → α} {w : α → Nat} : ∀ {l : List α} {k : Int} {x : α}, marks f w (l ++ [x]) k = marks f w l k ++ [f (k + mkN w l) x]
  | [], k, x => by simp [marks, mkN]
  | y :: l, k, x => by
    simp only [List.cons_append, marks]
    rw [marks_snoc]
    simp only [mkN, List.map_cons, List.sum_cons]
    rw [show k + (w y : Int) + ((l.map w).sum : Nat) = k + ((w y + (l.map w).sum : Nat) : Int) by omega]
theorem mkN_snoc {α : Type} {w : α → Nat} {l : List α} {x : α} : mkN w (l ++ [x]) = mkN w l + w x := by simp [mkN]
theorem mkN_take {α : Type} {w : α → Nat} {l : List α} {i : Nat} (hi : i < l.length) : mkN w (l.take (i + 1)) = mkN w (l.take i) + w l[i] := by
  rw [List.take_add_one, List.getElem?_eq_getElem hi]; exact mkN_snoc
theorem mkN_le {α : Type} {w : α → Nat} : ∀ {l : List α} {i : Nat}, mkN w (l.take i) ≤ mkN w l
  | [], i => by simp
  | x :: l, 0 => by simp [mkN]
  | x :: l, i + 1 => by
    have := mkN_le (w := w) (l := l) (i := i)
    simp only [mkN, List.take_succ_cons, List.map_cons, List.sum_cons] at this ⊢; omega
theorem marks_take {α : Type} {f : Int → α → α} {w : α → Nat} {l : List α} {k : Int} {i : Nat} (hi : i < l.length) : marks f w (l.take (i + 1)) k = marks f w (l.take i) k ++ [f (k + mkN w (l.take i)) l[i]] := by
  rw [List.take_add_one, List.getElem?_eq_getElem hi]; exact marks_snoc
theorem marks_get {α : Type} {f : Int → α → α} {w : α → Nat} : ∀ {l : List α} {k : Int} {i : Nat} (hi : i < l.length) (hi' : i < (marks f w l k).length), (marks f w l k)[i] = f (k + mkN w (l.take i)) l[i]
  | x :: l, k, 0, _, _ => by simp [marks, mkN]
  | x :: l, k, i + 1, hi, hi' => by
    simp only [marks, List.getElem_cons_succ, List.take_succ_cons]
    rw [marks_get (by simpa using hi) (by simpa [marks] using hi')]
    simp only [mkN, List.map_cons, List.sum_cons]
    rw [show k + (w x : Int) + (((l.take i).map w).sum : Nat) = k + ((w x + ((l.take i).map w).sum : Nat) : Int) by omega]
/-- marks upon a slice, one by one -/
theorem mark_loop {α : Type} {El : Rel α} (ok : El.Ok) {f : Int → α → α} {w : α → Nat} {R R' e n : Nat} {a : Option (Nat × Nat)} {c : Option Nat} {F : List Nat} {h : Heap} {l : List α} {B : Int} (L : Int → Nat → Heap → Option (V × Heap))
    (step : ∀ i k hh x b j rs row G, a = some (b, j) → b ∈ F → b ∉ G → G.Nodup → (∀ y ∈ G, y ∈ F) → hh[b]? = some (.rows R e false rs) → rs[j + i]? = some row → El hh row x G → x ∈ l → i < n → 0 ≤ k → k + w x ≤ B →
      ∃ h2 row', L k i hh = L (k + w x) (i + 1) h2 ∧ h2[b]? = some (.rows R e false (rs.set (j + i) row')) ∧ El h2 row' (f k x) G ∧ (∀ y, y ≠ b → y ∉ G → h2[y]? = hh[y]?) ∧ h2.length = hh.length)
    (done : ∀ k hh, L k n hh = some (.int .i64 k, hh)) (hs : Sli false R e El h [.sl R' a n c] l F) (hnd : F.Nodup) {k : Int} (h0 : 0 ≤ k) (hB : k + mkN w l ≤ B) :
    ∃ h', L k 0 h = some (.int .i64 (k + mkN w l), h') ∧ Sli false R e El h' [.sl R' a n c] (marks f w l k) F ∧ h'.length = h.length ∧ Mv h F h' F := by
  have hlen := hs.val
  have loop : ∀ m i hh, m + i = l.length → Sli false R e El hh [.sl R' a n c] (marks f w (l.take i) k ++ l.drop i) F → hh.length = h.length → (∀ y, y ∉ F → hh[y]? = h[y]?) →
      ∃ h', L (k + mkN w (l.take i)) i hh = some (.int .i64 (k + mkN w l), h') ∧ Sli false R e El h' [.sl R' a n c] (marks f w l k) F ∧ h'.length = h.length ∧ Mv h F h' F := by
    intro m
    induction m with
    | zero =>
      intro i hh hi hr h1 h2
      have : i = l.length := by omega
      subst this
      rw [List.take_length, List.drop_length, List.append_nil] at hr
      rw [List.take_length, ← hlen, done]
      exact ⟨hh, rfl, hr, h1, Nat.le_of_eq h1.symm, fun b _ hb => h2 b hb, hnd, fun b hb => .inl hb⟩
    | succ m ih =>
      intro i hh hi hr h1 h2
      have hlt : i < l.length := by omega
      have hml : (marks f w (l.take i) k).length = i := by rw [marks_len]; simp; omega
      have hcur : (marks f w (l.take i) k ++ l.drop i)[i]'(by rw [List.length_append, hml]; simp; omega) = l[i] := by
        rw [List.getElem_append_right (by omega)]
        simp [hml]
      obtain ⟨b, j, rs, row, G, rfl, hbF, hbG, hb, hrow, hel, hGF, hGn, hput⟩ := Sli.put ok.fr hr (show i < _ by rw [List.length_append, hml]; simp; omega) hnd
      rw [hcur] at hel
      have hle := mkN_le (w := w) (l := l) (i := i + 1)
      rw [mkN_take hlt] at hle
      obtain ⟨h3, row', e3, b3, r3, f3, l3⟩ := step i (k + mkN w (l.take i)) hh l[i] b j rs row G rfl hbF hbG hGn hGF hb hrow hel (List.getElem_mem hlt) (by omega) (by omega) (by omega)
      obtain ⟨F', q1, _, _, q4⟩ := hput h3 row' _ G b3 (fun y _ hyb hyG => f3 y hyb hyG) r3 hGn (fun y hy _ => hy)
      rw [q4 rfl] at q1
      rw [e3, show k + (mkN w (l.take i) : Int) + (w l[i] : Int) = k + ((mkN w (l.take (i + 1)) : Nat) : Int) by rw [mkN_take hlt]; omega]
      refine ih (i + 1) h3 (by omega) ?_ (by omega) fun y hy => ?_
      · have e : (marks f w (l.take i) k ++ l.drop i).set i (f (k + mkN w (l.take i)) l[i]) = marks f w (l.take (i + 1)) k ++ l.drop (i + 1) := by
          rw [List.set_append_right _ _ (by omega), hml, Nat.sub_self, List.drop_eq_getElem_cons hlt, List.set_cons_zero, marks_take hlt, List.append_assoc, List.singleton_append]
        rw [← e]; exact q1
      · rw [f3 y (fun e => hy (e ▸ hbF)) (fun hm => hy (hGF y hm))]; exact h2 y hy
  have := loop l.length 0 h (by omega) (by simpa [marks] using hs) rfl (fun _ _ => rfl)
  simpa [mkN] using this
/-- marks are read, one by one -/
theorem held_loop {α T : Type} {w : α → Nat} {l : List α} {k : Int} (L : Int → Nat → Option T)
    (step : ∀ i (hi : i < l.length), L (k + mkN w (l.take i)) i = L (k + mkN w (l.take i) + w l[i]) (i + 1)) : L k 0 = L (k + mkN w l) l.length := by
  have := go_loop (n := l.length) (fun i => L (k + mkN w (l.take i)) i) fun i hi => by
    rw [step i hi, mkN_take hi, show k + (mkN w (l.take i) : Int) + (w l[i] : Int) = k + ((mkN w (l.take i) + w l[i] : Nat) : Int) by omega]
  simpa [mkN] using this
end Go.Proofs.YtfhnofppfacemaaGreat
namespace Go.Proofs.YtfhnofppfacemaaGreat
open Go T
set_option linter.unusedVariables false
set_option linter.unusedSimpArgs false
/-- numbers up to which marks go -/
abbrev big : Int := 1099511627776
/-- a text that a number has -/
def TextOf (k : Int) (s : ByteArray) : Prop := ∀ (lo : Nat) (h : Heap), evl lo 171 [.int .i64 k] h = some (.str s, h)
theorem markText_loop : ∀ (n : Nat) (k : Int) (s : ByteArray), 0 ≤ k → k ≤ n → k ≤ big → s.size + k ≤ 2 * big → ∃ t, ∀ (lo : Nat) (h : Heap), ∃ h', L_laws_markText_0 lo k s h = some (.str t, h') := by
  intro n
  induction n with
  | zero =>
    intro k s h0 h1 h2 h3
    have : k = 0 := by omega
    subst this
    have hm : IntKind.i64.max = 9223372036854775807 := by decide
    refine ⟨⟨⟨[109]⟩⟩ ++ s, fun lo h => ⟨h, ?_⟩⟩
    rw [L_laws_markText_0.e, br_neg (by omega), cat_of (by have h9 : (ByteArray.mk ⟨[109]⟩).size = 1 := rfl; simp only [big] at h3; omega)]
  | succ n ih =>
    intro k s h0 h1 h2 h3
    have hm : IntKind.i64.max = 9223372036854775807 := by decide
    by_cases hk : k = 0
    · subst hk
      refine ⟨⟨⟨[109]⟩⟩ ++ s, fun lo h => ⟨h, ?_⟩⟩
      rw [L_laws_markText_0.e, br_neg (by omega), cat_of (by have h9 : (ByteArray.mk ⟨[109]⟩).size = 1 := rfl; simp only [big] at h3; omega)]
    · have hd : k.tdiv 10 = k / 10 := Int.tdiv_eq_ediv_of_nonneg h0
      have hsz : (bytesOf [IntKind.wrap .u8 (IntKind.wrap .i64 (48 + (k.tmod (10 : Int))))]).size = 1 := rfl
      have hsz2 : (bytesOf [IntKind.wrap .u8 (IntKind.wrap .i64 (48 + (k.tmod (10 : Int))))] ++ s).size = 1 + s.size := by rw [ByteArray.size_append, hsz]
      obtain ⟨t, ht⟩ := ih (k / 10) (bytesOf [IntKind.wrap .u8 (IntKind.wrap .i64 (48 + (k.tmod (10 : Int))))] ++ s) (by omega) (by omega) (by omega) (by rw [hsz2]; push_cast; omega)
      refine ⟨t, fun lo h => ?_⟩
      obtain ⟨h', e⟩ := ht lo (h ++ [.rows 1 5 false [[.int .u8 (IntKind.wrap .u8 (IntKind.wrap .i64 (48 + (k.tmod (10 : Int)))))]]])
      refine ⟨h', ?_⟩
      rw [L_laws_markText_0.e, br_pos (by omega)]
      simp only [rows_one, byteRows, eO_s]
      rw [cat_of (by rw [hsz]; simp only [big] at h3; omega), hd, wr (by simp only [big] at h2; omega) (by simp only [big] at h2; omega)]
      exact e
theorem textOf {k : Int} (h0 : 0 ≤ k) (h1 : k ≤ big) : ∃ s, TextOf k s := by
  by_cases hk : k ≤ 0
  · exact ⟨_, fun lo h => E_laws_markText (h' := h) (by rw [br_pos hk])⟩
  · obtain ⟨t, ht⟩ := markText_loop k.toNat k ⟨⟨[]⟩⟩ h0 (by omega) h1 (by simp only [big] at h1 ⊢; show ((0 : Nat) : Int) + k ≤ _; omega)
    refine ⟨t, fun lo h => ?_⟩
    obtain ⟨h', e⟩ := ht (List.length h) h
    exact E_laws_markText (h' := h') (by rw [br_neg hk]; exact e)
open Classical in
/-- the text of a number -/
noncomputable def mtext (k : Int) : ByteArray := if h : ∃ s, TextOf k s then h.choose else ⟨⟨[]⟩⟩
theorem laws_markText {lo : Nat} {h : Heap} {k : Int} (h0 : 0 ≤ k) (h1 : k ≤ big) : evl lo 171 [.int .i64 k] h = some (.str (mtext k), h) := by
  have hx := textOf h0 h1
  unfold mtext
  rw [dif_pos hx]
  exact hx.choose_spec lo h

def mkTag (k : Int) (_ : Tag) : Tag := ⟨k, k + 1⟩
abbrev wTag (_ : Tag) : Nat := 2
noncomputable def mkVer (k : Int) (v : Ver) : Ver := ⟨k, ⟨k + 1, k + 2⟩, marks mkTag wTag v.past (k + 3), mtext (k + 3 + mkN wTag v.past), (k + 3 + mkN wTag v.past + 1).tmod 3 == 0⟩
def wVer (v : Ver) : Nat := 5 + mkN wTag v.past
noncomputable def mkVers (k : Int) (l : List Ver) : List Ver := marks mkVer wVer l k
def wVers (l : List Ver) : Nat := mkN wVer l
noncomputable def mkNode (k : Int) (x : Node) : Node := ⟨mkVers k x.store, mkVers (k + wVers x.store) x.wait⟩
def wNode (x : Node) : Nat := wVers x.store + wVers x.wait
section
variable {lo : Nat} {h : Heap} {F : List Nat} {a : Option (Nat × Nat)} {c : Option Nat} {k : Int}
theorem laws_markTagS {l : List Tag} (hs : RTags false h [.sl 2 a l.length c] l F) (hlo : ∀ b ∈ F, lo ≤ b) (hnd : F.Nodup) (h0 : 0 ≤ k) (hB : k + mkN wTag l ≤ big) (hn : l.length ≤ 1048576) :
    ∃ h', evl lo 114 [.sl 2 a l.length c, .int .i64 k] h = some (.int .i64 (k + mkN wTag l), h') ∧ RTags false h' [.sl 2 a l.length c] (marks mkTag wTag l k) F ∧ h'.length = h.length ∧ Mv h F h' F := by
  obtain ⟨h', e, r⟩ := mark_loop (El := flat Tag.cs) flat_ok (f := mkTag) (w := wTag) (B := big) (fun k i hh => L_laws_markTagS_0 lo a l.length c k (i : Nat) hh) (fun i k hh x b j rs row G ha hbF hbG hGn hGF hb hrow hel hx hi h0 hB => by
    obtain ⟨rfl, rfl⟩ := hel
    subst ha
    have hrl : j + i < rs.length := (List.getElem?_eq_some_iff.1 hrow).1
    have hbl : b < hh.length := (List.getElem?_eq_some_iff.1 hb).1
    have hlob := hlo b hbF
    refine ⟨hh.set b (.rows 2 (eTag false) false (rs.set (j + i) [.int .i64 k, .int .i64 (k + 1)])), [.int .i64 k, .int .i64 (k + 1)], ?_, by simp [hbl], ⟨rfl, rfl⟩, fun y hy _ => List.getElem?_set_ne (Ne.symm hy), by simp⟩
    simp only [big] at hB
    rw [L_laws_markTagS_0.e, br_pos (by omega), inB_nat hi]
    simp only [eO_s, Int.toNat_natCast]
    rw [st_first hb hlob hrow (row' := [.int .i64 k, .int .i64 x.place]) (by rfl), eO_s, inB_nat hi, wr (n := k + 1) (by omega) (by omega)]
    rw [st_next hbl hlob hrl (row' := [.int .i64 k, .int .i64 (k + 1)]) (by rfl), eO_s, wr (n := k + 1 + 1) (by omega) (by omega), wr_succ (by omega), show k + 1 + 1 = k + ((2 : Nat) : Int) by omega]) (fun k hh => by
    rw [L_laws_markTagS_0.e, br_neg (by omega)]) hs hnd h0 hB
  exact ⟨h', E_laws_markTagS e, r⟩
theorem laws_markVerS {l : List Ver} (hs : RVers false h [.sl 6 a l.length c] l F) (hlo : ∀ b ∈ F, lo ≤ b) (hnd : F.Nodup) (h0 : 0 ≤ k) (hB : k + wVers l ≤ big) (hn : smVers l) :
    ∃ h', evl lo 81 [.sl 6 a l.length c, .int .i64 k] h = some (.int .i64 (k + wVers l), h') ∧ RVers false h' [.sl 6 a l.length c] (mkVers k l) F ∧ h'.length = h.length ∧ Mv h F h' F := by
  have hn1 := hn.1
  obtain ⟨h', e, r⟩ := mark_loop (El := RVer false) rver_ok (f := mkVer) (w := wVer) (B := big) (fun k i hh => L_laws_markVerS_0 lo a l.length c k (i : Nat) hh) (fun i k hh x b j rs row G ha hbF hbG hGn hGF hb hrow hel hx hi h0 hB => by
    obtain ⟨s, rfl, hp0⟩ := hel
    obtain ⟨a2, c2, es, hp⟩ := hp0.form
    subst ha
    have hrl : j + i < rs.length := (List.getElem?_eq_some_iff.1 hrow).1
    have hbl : b < hh.length := (List.getElem?_eq_some_iff.1 hb).1
    have hlob := hlo b hbF
    have hw : wVer x = 5 + mkN wTag x.past := rfl
    rw [hw] at hB
    simp only [big] at hB
    -- the first three
    have hb3 : (hh.set b (.rows 6 (eVer false) false (rs.set (j + i) [.int .i64 k, .int .i64 (k + 1), .int .i64 (k + 1 + 1), s, .str x.text, .bool x.gone])))[b]? = some (.rows 6 (eVer false) false (rs.set (j + i) [.int .i64 k, .int .i64 (k + 1), .int .i64 (k + 1 + 1), s, .str x.text, .bool x.gone])) := by simp [hbl]
    have hp3 : RTags false (hh.set b (.rows 6 (eVer false) false (rs.set (j + i) [.int .i64 k, .int .i64 (k + 1), .int .i64 (k + 1 + 1), s, .str x.text, .bool x.gone]))) [.sl 2 a2 x.past.length c2] x.past G := rtags_ok.fr _ _ _ _ _ hp (fun y hy => List.getElem?_set_ne (by rintro rfl; exact hbG hy))
    obtain ⟨h4, e4, r4, l4, m4⟩ := laws_markTagS (lo := lo) (k := k + 3) hp3 (fun y hy => hlo y (hGF y hy)) hGn (by omega) (by simp only [big]; omega) (hn.2 x hx).1
    have hb4 : h4[b]? = some (.rows 6 (eVer false) false (rs.set (j + i) [.int .i64 k, .int .i64 (k + 1), .int .i64 (k + 1 + 1), s, .str x.text, .bool x.gone])) := by rw [m4.fr b (by simpa using hbl) hbG]; exact hb3
    have hbl4 : b < h4.length := (List.getElem?_eq_some_iff.1 hb4).1
    have hrow4 : (rs.set (j + i) [.int .i64 k, .int .i64 (k + 1), .int .i64 (k + 1 + 1), s, .str x.text, .bool x.gone])[j + i]? = some [.int .i64 k, .int .i64 (k + 1), .int .i64 (k + 1 + 1), s, .str x.text, .bool x.gone] := by simp [hrl]
    refine ⟨h4.set b (.rows 6 (eVer false) false (rs.set (j + i) [.int .i64 k, .int .i64 (k + 1), .int .i64 (k + 1 + 1), s, .str (mtext (k + 3 + mkN wTag x.past)), .bool ((k + 3 + mkN wTag x.past + 1).tmod 3 == 0)])),
      [.int .i64 k, .int .i64 (k + 1), .int .i64 (k + 1 + 1), s, .str (mtext (k + 3 + mkN wTag x.past)), .bool ((k + 3 + mkN wTag x.past + 1).tmod 3 == 0)], ?_, by simp [hbl4], ?_, fun y hy hyG => ?_, by simpa using l4⟩
    · rw [L_laws_markVerS_0.e, br_pos (by omega), inB_nat hi]
      simp only [eO_s, Int.toNat_natCast]
      rw [st_first hb hlob hrow (row' := [.int .i64 k, .int .i64 x.tag.time, .int .i64 x.tag.place, s, .str x.text, .bool x.gone]) (by rfl), eO_s, inB_nat hi, wr (n := k + 1) (by omega) (by omega)]
      rw [st_next hbl hlob hrl (row' := [.int .i64 k, .int .i64 (k + 1), .int .i64 x.tag.place, s, .str x.text, .bool x.gone]) (by rfl), eO_s, inB_nat hi, wr (n := k + 1 + 1) (by omega) (by omega)]
      rw [st_next hbl hlob hrl (row' := [.int .i64 k, .int .i64 (k + 1), .int .i64 (k + 1 + 1), s, .str x.text, .bool x.gone]) (by rfl), eO_s, inB_nat hi]
      have hld : ld (hh.set b (.rows 6 (eVer false) false (rs.set (j + i) [.int .i64 k, .int .i64 (k + 1), .int .i64 (k + 1 + 1), s, .str x.text, .bool x.gone]))) b (j + i) 3 1 = some [s] := by
        simp only [ld, Heap.rows?, hb3, Option.bind_some, hrow4]; rfl
      rw [hld, wr (n := k + 1 + 1 + 1) (by omega) (by omega), show k + 1 + 1 + 1 = k + 3 by omega]
      simp only [eO_s, eC_c, eN_n, es]
      rw [e4]
      simp only [cal_s, eI_int]
      rw [laws_markText (by omega) (by simp only [big]; omega)]
      simp only [cal_s, eT_s]
      rw [inB_nat hi, st_first hb4 hlob hrow4 (row' := [.int .i64 k, .int .i64 (k + 1), .int .i64 (k + 1 + 1), s, .str (mtext (k + 3 + mkN wTag x.past)), .bool x.gone]) (by rfl), eO_s, List.set_set]
      rw [wr (n := k + 3 + mkN wTag x.past + 1) (by omega) (by omega), wr (n := k + 3 + mkN wTag x.past + 1 + 1) (by omega) (by omega), wr_succ (by omega), inB_nat hi]
      rw [show k + ((wVer x : Nat) : Int) = k + 3 + mkN wTag x.past + 1 + 1 by rw [hw]; omega]
      cases hg : ((k + 3 + mkN wTag x.past + 1).tmod 3 == 0)
      · rw [br_f, inB_nat hi, st_next hbl4 hlob hrl (row' := [.int .i64 k, .int .i64 (k + 1), .int .i64 (k + 1 + 1), s, .str (mtext (k + 3 + mkN wTag x.past)), .bool false]) (by rfl), eO_s]
      · rw [br_t, st_next hbl4 hlob hrl (row' := [.int .i64 k, .int .i64 (k + 1), .int .i64 (k + 1 + 1), s, .str (mtext (k + 3 + mkN wTag x.past)), .bool true]) (by rfl), eO_s]
    · refine ⟨s, by simp only [mkVer]; rw [show k + 1 + 1 = k + 2 by omega], ?_⟩
      have hr5 : RTags false (h4.set b (.rows 6 (eVer false) false (rs.set (j + i) [.int .i64 k, .int .i64 (k + 1), .int .i64 (k + 1 + 1), s, .str (mtext (k + 3 + mkN wTag x.past)), .bool ((k + 3 + mkN wTag x.past + 1).tmod 3 == 0)]))) [.sl 2 a2 x.past.length c2] (marks mkTag wTag x.past (k + 3)) G := rtags_ok.fr _ _ _ _ _ r4 (fun y hy => List.getElem?_set_ne (by rintro rfl; exact hbG hy))
      exact Sli.same hp0 es hr5
    · rw [List.getElem?_set_ne (Ne.symm hy), m4.fr' l4 y hyG, List.getElem?_set_ne (Ne.symm hy)]) (fun k hh => by
    rw [L_laws_markVerS_0.e, br_neg (by omega)]) hs hnd h0 hB
  exact ⟨h', E_laws_markVerS e, r⟩
noncomputable def mkVss (k : Int) (l : List (List Ver)) : List (List Ver) := marks mkVers wVers l k
def wVss (l : List (List Ver)) : Nat := mkN wVers l
noncomputable def mkNodes (k : Int) (l : List Node) : List Node := marks mkNode wNode l k
def wNodes (l : List Node) : Nat := mkN wNode l
theorem mkVers_len {k : Int} {l : List Ver} : (mkVers k l).length = l.length := marks_len
theorem laws_markVerSS {l : List (List Ver)} (hs : RVss false h [.sl 1 a l.length c] l F) (hlo : ∀ b ∈ F, lo ≤ b) (hnd : F.Nodup) (h0 : 0 ≤ k) (hB : k + wVss l ≤ big) (hn : smVss l) :
    ∃ h', evl lo 82 [.sl 1 a l.length c, .int .i64 k] h = some (.int .i64 (k + wVss l), h') ∧ RVss false h' [.sl 1 a l.length c] (mkVss k l) F ∧ h'.length = h.length ∧ Mv h F h' F := by
  have hn1 := hn.1
  obtain ⟨h', e, r⟩ := mark_loop (El := RVers false) rvers_ok (f := mkVers) (w := wVers) (B := big) (fun k i hh => L_laws_markVerSS_0 lo a l.length c k (i : Nat) hh) (fun i k hh x b j rs row G ha hbF hbG hGn hGF hb hrow hel hx hi h0 hB => by
    have : ∃ s, row = [s] := by obtain ⟨R', a', c', e, _⟩ := hel; exact ⟨_, e⟩
    obtain ⟨s, rfl⟩ := this
    obtain ⟨a2, c2, es, hp⟩ := hel.form
    subst ha
    obtain ⟨h4, e4, r4, l4, m4⟩ := laws_markVerS (lo := lo) hp (fun y hy => hlo y (hGF y hy)) hGn h0 hB (hn.2 x hx)
    have hld : ld hh b (j + i) 0 1 = some [s] := by simp only [ld, Heap.rows?, hb, Option.bind_some, hrow]; rfl
    rw [← mkVers_len (k := k)] at r4
    refine ⟨h4, [s], ?_, by rw [set_same hrow, m4.fr' l4 b hbG]; exact hb, Sli.same hel (by rw [mkVers_len]; exact es) r4, fun y _ hyG => m4.fr' l4 y hyG, l4⟩
    rw [L_laws_markVerSS_0.e, br_pos (by omega), inB_nat hi]
    simp only [eO_s, Int.toNat_natCast, hld, eC_c, eN_n, es]
    rw [e4]
    simp only [cal_s, eI_int, wr_succ (show i < 9223372036854775807 by omega)]) (fun k hh => by
    rw [L_laws_markVerSS_0.e, br_neg (by omega)]) hs hnd h0 hB
  exact ⟨h', E_laws_markVerSS e, r⟩
end
end Go.Proofs.YtfhnofppfacemaaGreat
namespace Go.Proofs.YtfhnofppfacemaaGreat
open Go T
set_option linter.unusedVariables false
set_option linter.unusedSimpArgs false
section
variable {lo : Nat} {h : Heap} {F : List Nat} {a : Option (Nat × Nat)} {c : Option Nat} {k : Int}
theorem laws_markNodeS {l : List Node} (hs : RNodes false h [.sl 2 a l.length c] l F) (hlo : ∀ b ∈ F, lo ≤ b) (hnd : F.Nodup) (h0 : 0 ≤ k) (hB : k + wNodes l ≤ big) (hn : smNodes l) :
    ∃ h', evl lo 125 [.sl 2 a l.length c, .int .i64 k] h = some (.int .i64 (k + wNodes l), h') ∧ RNodes false h' [.sl 2 a l.length c] (mkNodes k l) F ∧ h'.length = h.length ∧ Mv h F h' F := by
  have hn1 := hn.1
  obtain ⟨h', e, r⟩ := mark_loop (El := RNode false) rnode_ok (f := mkNode) (w := wNode) (B := big) (fun k i hh => L_laws_markNodeS_0 lo a l.length c k (i : Nat) hh) (fun i k hh x b j rs row G ha hbF hbG hGn hGF hb hrow hel hx hi h0 hB => by
    obtain ⟨s1, s2, F1, F2, rfl, rfl, p1, p2⟩ := hel
    obtain ⟨a1, c1, e1, q1⟩ := p1.form
    obtain ⟨a2, c2, e2, q2⟩ := p2.form
    subst ha
    have hsm := hn.2 x hx
    have hw : wNode x = wVers x.store + wVers x.wait := rfl
    rw [hw] at hB
    rw [List.nodup_append] at hGn
    have d12 : ∀ y ∈ F2, y ∉ F1 := fun y h2 h1 => hGn.2.2 y h1 y h2 rfl
    have d21 : ∀ y ∈ F1, y ∉ F2 := fun y h1 h2 => hGn.2.2 y h1 y h2 rfl
    have hbG1 : b ∉ F1 := fun hm => hbG (List.mem_append_left _ hm)
    have hbG2 : b ∉ F2 := fun hm => hbG (List.mem_append_right _ hm)
    obtain ⟨h4, e4, r4, l4, m4⟩ := laws_markVerS (lo := lo) q1 (fun y hy => hlo y (hGF y (List.mem_append_left _ hy))) hGn.1 h0 (by omega) hsm.1
    have q2' := m4.keep rvers_ok q2 d12
    obtain ⟨h5, e5, r5, l5, m5⟩ := laws_markVerS (lo := lo) (k := k + wVers x.store) q2' (fun y hy => hlo y (hGF y (List.mem_append_right _ hy))) hGn.2.1 (by omega) (by omega) hsm.2
    have hld : ld hh b (j + i) 0 1 = some [s1] := by simp only [ld, Heap.rows?, hb, Option.bind_some, hrow]; rfl
    have hb4 : h4[b]? = some (.rows 2 (eNode false) false rs) := by rw [m4.fr' l4 b hbG1]; exact hb
    have hld4 : ld h4 b (j + i) 1 1 = some [s2] := by simp only [ld, Heap.rows?, hb4, Option.bind_some, hrow]; rfl
    have r4' := m5.keep rvers_ok r4 d21
    rw [← mkVers_len (k := k)] at r4'
    rw [← mkVers_len (k := k + wVers x.store)] at r5
    refine ⟨h5, [s1, s2], ?_, by rw [set_same hrow, m5.fr' l5 b hbG2]; exact hb4, ⟨s1, s2, F1, F2, rfl, rfl, Sli.same p1 (by rw [mkVers_len]; exact e1) r4', Sli.same p2 (by rw [mkVers_len]; exact e2) r5⟩,
      fun y _ hyG => ?_, by omega⟩
    · rw [L_laws_markNodeS_0.e, br_pos (by omega), inB_nat hi]
      simp only [eO_s, Int.toNat_natCast, hld, eC_c, eN_n, e1]
      rw [e4]
      simp only [cal_s, eI_int]
      rw [inB_nat hi, hld4]
      simp only [eO_s, eC_c, eN_n, e2]
      rw [e5]
      simp only [cal_s, eI_int, wr_succ (show i < 9223372036854775807 by omega)]
      rw [show k + (wVers x.store : Int) + (wVers x.wait : Int) = k + ((wNode x : Nat) : Int) by rw [hw]; omega]
    · rw [m5.fr' l5 y fun hm => hyG (List.mem_append_right _ hm), m4.fr' l4 y fun hm => hyG (List.mem_append_left _ hm)]) (fun k hh => by
    rw [L_laws_markNodeS_0.e, br_neg (by omega)]) hs hnd h0 hB
  exact ⟨h', E_laws_markNodeS e, r⟩
theorem mkNodes_len {k : Int} {l : List Node} : (mkNodes k l).length = l.length := marks_len
theorem mkVss_len {k : Int} {l : List (List Ver)} : (mkVss k l).length = l.length := marks_len
def wPlace (p : Place) : Nat := wNodes p.chain + wVers p.log + wVss p.got
theorem RPlace.cells {ro : Bool} {p : Place} {a1 a2 a3 : Option (Nat × Nat)} {c1 c2 c3 : Option Nat} (h1 : RPlace ro h (p.cs a1 c1 a2 c2 a3 c3) p F) :
    ∃ F1 F2 F3, F = F1 ++ (F2 ++ F3) ∧ RNodes ro h [.sl 2 a1 p.chain.length c1] p.chain F1 ∧ RVers ro h [.sl 6 a2 p.log.length c2] p.log F2 ∧ RVss ro h [.sl 1 a3 p.got.length c3] p.got F3 := by
  obtain ⟨_, _, _, F1, F2, F3, e1, rfl, r1, r2, r3⟩ := h1
  injection e1 with _ e1; injection e1 with _ e1; injection e1 with x1 e1; injection e1 with x2 e1; injection e1 with x3 e1
  subst x1; subst x2; subst x3
  exact ⟨F1, F2, F3, rfl, r1, r2, r3⟩
end
end Go.Proofs.YtfhnofppfacemaaGreat
namespace Go.Proofs.YtfhnofppfacemaaGreat
open Go T
set_option linter.unusedVariables false
set_option linter.unusedSimpArgs false
def byteOk (b : UInt8) : Bool := within b.toNat 33 126
def textOk (s : ByteArray) : Bool := s.data.toList.all byteOk && decide ((s.size : Int) ≤ 8)
def pastOk (p : List Tag) : Bool := decide (p.length = 4) && p.all fun t => tagOk t.time t.place
def under (p q : List Tag) : Bool := (p.zip q).all fun x => !less x.2.time x.2.place x.1.time x.1.place
def latest (p : List Tag) : Int := p.foldl (fun m t => if t.time > m then t.time else m) 0
def noText (s : ByteArray) : Bool := decide (s.size = 0)
def written (v : Ver) : Bool := within v.key 0 3 && textOk v.text && (!v.gone || noText v.text) && pastOk v.past
def verOk (v : Ver) : Bool := written v && tagOk v.tag.time v.tag.place && decide (latest v.past < v.tag.time)

section
variable {lo : Nat} {ro ro' : Bool} {h : Heap} {F F' : List Nat} {a a' : Option (Nat × Nat)} {c c' : Option Nat}
theorem strAt_nat {s : ByteArray} {i : Nat} (hi : i < s.data.toList.length) : strAt s (i : Nat) = some (s.data.toList[i]) := by
  unfold strAt
  have : i < s.size := by simpa using hi
  simp [this]
  rfl
theorem spec_l2TextOk {s : ByteArray} (hn : s.size ≤ 1048576) : evl lo 106 [.str s] h = some (.bool (textOk s), h) := by
  refine E_spec_l2TextOk (h' := h) ?_
  have hl : s.data.toList.length = s.size := by simp
  refine (all_loop (p := byteOk) (l := s.data.toList) (fun i => L_spec_l2TextOk_0 (List.length h) s false (i : Nat) h) (some (.bool false, h)) (some (.bool (decide ((s.size : Int) ≤ 8)), h)) (fun i hi => ?_) ?_).trans ?_
  · rw [L_spec_l2TextOk_0.e, br_pos (by omega)]
    simp only [strAt_nat hi, eO_s, wr_succ (show i < 9223372036854775807 by omega)]
    unfold byteOk within
    generalize s.data.toList[i] = b
    by_cases h1 : (b.toNat : Int) < 33
    · rw [br_pos h1, if_neg (by simp; omega)]
    · rw [br_neg h1]
      by_cases h2 : (b.toNat : Int) > 126
      · rw [br_pos h2, if_neg (by simp; omega)]
      · rw [br_neg h2, if_pos (by simp; omega)]
  · rw [L_spec_l2TextOk_0.e, br_neg (by omega)]
    by_cases h3 : (s.size : Int) ≤ 8
    · rw [br_pos h3, decide_eq_true h3]
    · rw [br_neg h3, decide_eq_false h3]
  · unfold textOk
    cases s.data.toList.all byteOk <;> simp
theorem impl_textOk {s : ByteArray} (hn : s.size ≤ 1048576) : evl lo 251 [.str s] h = some (.bool (textOk s), h) := by
  refine E_impl_textOk (h' := h) ?_
  have hl : s.data.toList.length = s.size := by simp
  refine (all_loop (p := byteOk) (l := s.data.toList) (fun i => L_impl_textOk_0 (List.length h) s false (s.size : Nat) (i : Nat) h) (some (.bool false, h)) (some (.bool (decide ((s.size : Int) ≤ 8)), h)) (fun i hi => ?_) ?_).trans ?_
  · have hb : s.data.toList[i].toNat < 256 := s.data.toList[i].toNat_lt
    rw [L_impl_textOk_0.e, br_pos (by omega)]
    simp only [strAt_nat hi, eO_s, wr_succ (show i < 9223372036854775807 by omega), impl_within, cal_s, eB_b]
    rw [wr (by omega) (by omega)]
    unfold byteOk
    cases within (s.data.toList[i].toNat : Int) 33 126 <;> simp
  · rw [L_impl_textOk_0.e, br_neg (by omega)]
    by_cases h3 : (s.size : Int) ≤ 8
    · rw [br_pos h3, decide_eq_true h3]
    · rw [br_neg h3, decide_eq_false h3]
  · unfold textOk
    cases s.data.toList.all byteOk <;> simp
theorem spec_l1PastOk {l : List Tag} (hs : RTags ro h [.sl 2 a l.length c] l F) (hn : l.length ≤ 1048576) : evl lo 107 [.agg [.sl 2 a l.length c]] h = some (.bool (pastOk l), h) := by
  refine E_spec_l1PastOk (h' := h) ?_
  refine (all_loop (p := fun t : Tag => tagOk t.time t.place) (l := l) (fun i => L_spec_l1PastOk_0 (List.length h) false (i : Nat) a l.length c h) (some (.bool false, h)) (some (.bool (decide (l.length = 4)), h)) (fun i hi => ?_) ?_).trans ?_
  · obtain ⟨o, rfl, ho⟩ := hs.get hi
    rw [L_spec_l1PastOk_0.e, br_pos (by omega), inB_nat hi]
    simp only [eO_s, Int.toNat_natCast, ho, eC_c, eI_int, eN_n, spec_l1TagOk, cal_s, eB_b, wr_succ (show i < 9223372036854775807 by omega)]
    cases tagOk l[i].time l[i].place <;> simp
  · rw [L_spec_l1PastOk_0.e, br_neg (by omega)]
    by_cases h3 : l.length = 4
    · rw [h3]; rfl
    · rw [show ((l.length : Int) == 4) = false by simp; omega, br_f, decide_eq_false h3]
  · unfold pastOk
    cases l.all (fun t : Tag => tagOk t.time t.place) <;> simp
theorem IndexFunc_Tag {l : List Tag} {g : Nat} {cl : List V} {p : Tag → Bool} (hs : RTags ro h [.sl 2 a l.length c] l F) (hn : l.length ≤ 1048576)
    (hp : ∀ lo d, d ∈ l → evl lo g (fnArgs [.agg [.int .i64 d.time, .int .i64 d.place]] cl) h = some (.bool (p d), h)) :
    evl lo 274 [.sl 2 a l.length c, .fn g cl] h = some (.int .i64 (firstAt p l 0), h) := by
  have loop : ∀ m k x, m + k = l.length → L_slices_IndexFunc_impl_Tag_impl_Tag_0 (List.length h) a l.length c g cl x (l.length : Nat) (k : Nat) h = some (.int .i64 (firstAt p (l.drop k) k), h) := by
    intro m
    induction m with
    | zero =>
      intro k x hk
      rw [L_slices_IndexFunc_impl_Tag_impl_Tag_0.e, br_neg (by omega), show k = l.length by omega]
      simp [firstAt]
    | succ m ih =>
      intro k x hk
      have hlt : k < l.length := by omega
      obtain ⟨o, rfl, ho⟩ := hs.get hlt
      rw [L_slices_IndexFunc_impl_Tag_impl_Tag_0.e, br_pos (by omega), inB_nat (by omega)]
      simp only [eO_s, Int.toNat_natCast, ho, eC_c, eI_int, eN_n]
      rw [hp (List.length h) l[k] (by simp), cal_s, eB_b, List.drop_eq_getElem_cons hlt]
      simp only [firstAt]
      cases p l[k]
      · simp only [br_f, cond_false]; rw [wr_succ (by omega)]; exact ih (k + 1) _ (by omega)
      · simp
  refine E_slices_IndexFunc_impl_Tag_impl_Tag (h' := h) ?_
  simpa using loop l.length 0 0 (by omega)
theorem impl_PastOk {l : List Tag} (hs : RTags ro h [.sl 2 a l.length c] l F) (hn : l.length ≤ 1048576) : evl lo 232 [.agg [.sl 2 a l.length c]] h = some (.bool (pastOk l), h) := by
  refine E_impl_PastOk (h' := h) ?_
  rw [E_slices_ContainsFunc_impl_Tag_impl_Tag (h' := h) (v := .bool (l.any fun t => !tagOk t.time t.place)) (by
    rw [IndexFunc_Tag hs hn (p := fun t => !tagOk t.time t.place) (fun lo d _ => E_impl_PastOk_1 (h' := h) (by rw [impl_TagOk]; simp only [cal_s, eB_b]; cases tagOk d.time d.place <;> rfl))]
    simp only [cal_s, eI_int, br_bool]; rw [firstAt_pos]; simp)]
  unfold pastOk
  by_cases h3 : l.length = 4
  · rw [show ((l.length : Int) == 4) = true by simp; omega, br_t, decide_eq_true h3]
    simp only [cal_s, eB_b]
    rw [List.any_eq_not_all_not]
    simp only [Bool.not_not, Bool.true_and]
    cases l.all (fun t : Tag => tagOk t.time t.place) <;> rfl
  · rw [show ((l.length : Int) == 4) = false by simp; omega, br_f, decide_eq_false h3]; rfl
theorem impl_latest {l : List Tag} (hs : RTags ro h [.sl 2 a l.length c] l F) (hn : l.length ≤ 1048576) : evl lo 197 [.agg [.sl 2 a l.length c]] h = some (.int .i64 (latest l), h) := by
  have loop : ∀ m k x, m + k = l.length → L_impl_Past_latest_0 (List.length h) x a l.length c (l.length : Nat) (k : Nat) h = some (.int .i64 ((l.drop k).foldl (fun m t => if t.time > m then t.time else m) x), h) := by
    intro m
    induction m with
    | zero =>
      intro k x hk
      rw [L_impl_Past_latest_0.e, br_neg (by omega), show k = l.length by omega]
      simp
    | succ m ih =>
      intro k x hk
      have hlt : k < l.length := by omega
      obtain ⟨o, rfl, ho⟩ := hs.get hlt
      rw [L_impl_Past_latest_0.e, br_pos (by omega), inB_nat (by omega)]
      simp only [eO_s, Int.toNat_natCast, ho, eC_c, eI_int, eN_n, wr_succ (show k < 9223372036854775807 by omega)]
      rw [ih (k + 1) _ (by omega), List.drop_eq_getElem_cons hlt, List.foldl_cons]
  refine E_impl_Past_latest (h' := h) ?_
  exact loop l.length 0 0 (by omega)
theorem toList_nil {s : ByteArray} : (s.toList == (ByteArray.mk #[]).toList) = noText s := by
  unfold noText
  rw [Bool.eq_iff_iff]
  rw [ByteArray.toList_eq, ByteArray.toList_eq]
  simp only [beq_iff_eq, decide_eq_true_eq]
  constructor
  · intro h
    have := congrArg List.length h
    simpa using this
  · intro h
    exact List.eq_nil_of_length_eq_zero (by simpa using h)
theorem impl_written {v : Ver} (hs : RTags ro h [.sl 2 a v.past.length c] v.past F) (hn : v.past.length ≤ 1048576 ∧ v.text.size ≤ 1048576) : evl lo 195 [.agg (v.cs a c)] h = some (.bool (written v), h) := by
  refine E_impl_Ver_written (h' := h) ?_
  simp only [impl_keyOk, impl_textOk hn.2, impl_PastOk hs hn.1, toList_nil, cal_s, eB_b]
  unfold written
  cases within v.key 0 3 <;> cases textOk v.text <;> cases v.gone <;> cases noText v.text <;> cases pastOk v.past <;> rfl
theorem impl_VerOk {v : Ver} (hs : RTags ro h [.sl 2 a v.past.length c] v.past F) (hn : v.past.length ≤ 1048576 ∧ v.text.size ≤ 1048576) : evl lo 181 [.agg (v.cs a c)] h = some (.bool (verOk v), h) := by
  refine E_impl_VerOk (h' := h) ?_
  simp only [impl_written hs hn, impl_TagOk, impl_latest hs hn.1, cal_s, eB_b, eI_int]
  unfold verOk
  by_cases hl : latest v.past < v.tag.time
  · rw [br_pos hl, decide_eq_true hl]
    cases written v <;> cases tagOk v.tag.time v.tag.place <;> rfl
  · rw [br_neg hl, decide_eq_false hl]
    cases written v <;> cases tagOk v.tag.time v.tag.place <;> rfl
theorem foldl_lt {x : Int} : ∀ {l : List Tag} {m : Int}, l.foldl (fun m t => if t.time > m then t.time else m) m < x ↔ m < x ∧ ∀ t ∈ l, t.time < x
  | [], m => by simp
  | t :: l, m => by
    rw [List.foldl_cons, foldl_lt]
    simp only [List.mem_cons, forall_eq_or_imp]
    constructor
    · rintro ⟨h1, h2⟩
      refine ⟨?_, ?_, h2⟩ <;> (split at h1 <;> omega)
    · rintro ⟨h1, h2, h3⟩
      refine ⟨?_, h3⟩
      split <;> omega
theorem latest_lt {p : List Tag} {x : Int} : latest p < x ↔ 0 < x ∧ ∀ t ∈ p, t.time < x := foldl_lt
theorem tagOk_time {t p : Int} (h : tagOk t p = true) : 0 ≤ t ∧ t ≤ 999 ∧ 0 ≤ p ∧ p ≤ 2 := by
  simp [tagOk, within] at h; omega
theorem pastOk_len {p : List Tag} (h : pastOk p = true) : p.length = 4 := by
  simp only [pastOk, Bool.and_eq_true, decide_eq_true_eq] at h; exact h.1
theorem spec_l2Ok {v : Ver} (hs : RTags ro h [.sl 2 a v.past.length c] v.past F) (hn : v.past.length ≤ 1048576 ∧ v.text.size ≤ 1048576) : evl lo 91 [.agg (v.cs a c)] h = some (.bool (verOk v), h) := by
  refine E_spec_l2Ok (h' := h) ?_
  have loop : ∀ x b, pastOk v.past = true → L_spec_l2Ok_0 (List.length h) x 0 v.key v.tag.time v.tag.place a v.past.length c v.text b h = some (.bool (v.past.all fun t => decide (t.time < v.tag.time)), h) := by
    intro x b hp
    have h4 := pastOk_len hp
    refine (all_loop (p := fun t : Tag => decide (t.time < v.tag.time)) (l := v.past) (fun i => L_spec_l2Ok_0 (List.length h) x (i : Nat) v.key v.tag.time v.tag.place a v.past.length c v.text b h) (some (.bool false, h)) (some (.bool true, h)) (fun i hi => ?_) ?_).trans ?_
    · obtain ⟨o, row, G, rfl, ho, ⟨rfl, _⟩, _⟩ := hs.read hi
      rw [L_spec_l2Ok_0.e, br_pos (by omega), inB_nat hi]
      simp only [eO_s, Int.toNat_natCast, ho, Tag.cs, cut, eC_c, eI_int, eN_n, wr_succ (show i < 9223372036854775807 by omega)]
      by_cases ht : v.past[i].time < v.tag.time
      · rw [br_neg (by omega), if_pos (by simpa using ht)]
      · rw [br_pos (by omega), if_neg (by simpa using ht)]
    · rw [L_spec_l2Ok_0.e, br_neg (by omega)]
    · cases v.past.all fun t : Tag => decide (t.time < v.tag.time) <;> rfl
  have key : ∀ x : Bool, (tagOk v.tag.time v.tag.place && x && decide (latest v.past < v.tag.time)) = (tagOk v.tag.time v.tag.place && !(v.tag.time == 0) && x && (v.past.all fun t => decide (t.time < v.tag.time))) := by
    intro x
    cases ht : tagOk v.tag.time v.tag.place with
    | false => simp
    | true =>
      have := tagOk_time ht
      have e : decide (latest v.past < v.tag.time) = (!(v.tag.time == 0) && (v.past.all fun t => decide (t.time < v.tag.time))) := by
        rw [Bool.eq_iff_iff]
        simp only [decide_eq_true_eq, latest_lt, Bool.and_eq_true, List.all_eq_true, Bool.not_eq_true', beq_eq_false_iff_ne]
        constructor
        · rintro ⟨h1, h2⟩; exact ⟨by omega, h2⟩
        · rintro ⟨h1, h2⟩; exact ⟨by omega, h2⟩
      rw [e]
      cases x <;> cases (v.tag.time == 0) <;> simp
  have e2 : verOk v = (within v.key 0 3 && textOk v.text && (!v.gone || noText v.text) && (tagOk v.tag.time v.tag.place && pastOk v.past && decide (latest v.past < v.tag.time))) := by
    unfold verOk written
    cases within v.key 0 3 <;> cases textOk v.text <;> cases v.gone <;> cases noText v.text <;> cases pastOk v.past <;> cases tagOk v.tag.time v.tag.place <;> simp
  rw [e2, key]
  simp only [spec_l1In, spec_l2TextOk hn.2, spec_l1TagOk, spec_l1PastOk hs hn.1, toList_nil, cal_s, eB_b]
  cases hp : pastOk v.past with
  | true =>
    simp only [loop _ _ hp]
    cases within v.key 0 3 <;> cases textOk v.text <;> cases v.gone <;> cases noText v.text <;> cases tagOk v.tag.time v.tag.place <;> cases (v.tag.time == 0) <;> rfl
  | false =>
    cases within v.key 0 3 <;> cases textOk v.text <;> cases v.gone <;> cases noText v.text <;> cases tagOk v.tag.time v.tag.place <;> cases (v.tag.time == 0) <;> rfl
theorem under_loop {p q : List Tag} {T : Type} (L : Nat → Option T) (no yes : Option T) (hl : p.length ≤ q.length)
    (step : ∀ i (hi : i < p.length), L i = if less q[i].time q[i].place p[i].time p[i].place = true then no else L (i + 1)) (done : L p.length = yes) : L 0 = if under p q = true then yes else no := by
  have hz : (p.zip q).length = p.length := by simp; omega
  refine all_loop (l := p.zip q) L no yes (fun i hi => ?_) (by rw [hz]; exact done)
  rw [step i (by omega)]
  simp only [List.getElem_zip]
  cases less q[i].time q[i].place p[i].time p[i].place <;> simp
theorem impl_under {p q : List Tag} (hs : RTags ro h [.sl 2 a p.length c] p F) (hs' : RTags ro' h [.sl 2 a' q.length c'] q F') (hn : p.length ≤ 1048576) (hl : p.length ≤ q.length) :
    evl lo 169 [.agg [.sl 2 a p.length c], .agg [.sl 2 a' q.length c']] h = some (.bool (under p q), h) := by
  refine E_impl_Past_under (h' := h) ?_
  refine (under_loop (p := p) (q := q) (fun i => L_impl_Past_under_0 (List.length h) false a p.length c (p.length : Nat) (i : Nat) a' q.length c' h) (some (.bool false, h)) (some (.bool true, h)) hl (fun i hi => ?_) ?_).trans ?_
  · obtain ⟨o, rfl, ho⟩ := hs.get hi
    obtain ⟨o', rfl, ho'⟩ := hs'.get (show i < q.length by omega)
    rw [L_impl_Past_under_0.e, br_pos (by omega), inB_nat hi]
    simp only [eO_s, Int.toNat_natCast, ho, ho', eC_c, eI_int, eN_n, inB_nat (show i < q.length by omega), impl_TagLess, cal_s, eB_b, wr_succ (show i < 9223372036854775807 by omega)]
    cases less q[i].time q[i].place p[i].time p[i].place <;> simp
  · rw [L_impl_Past_under_0.e, br_neg (by omega)]
  · cases under p q <;> rfl
theorem spec_l1Within {p q : List Tag} (hs : RTags ro h [.sl 2 a p.length c] p F) (hs' : RTags ro' h [.sl 2 a' q.length c'] q F') (hp : p.length = 4) (hq : q.length = 4) :
    evl lo 189 [.agg [.sl 2 a p.length c], .agg [.sl 2 a' q.length c']] h = some (.bool (under p q), h) := by
  refine E_spec_l1Within (h' := h) ?_
  refine (under_loop (p := p) (q := q) (fun i => L_spec_l1Within_0 (List.length h) false (i : Nat) a p.length c a' q.length c' h) (some (.bool false, h)) (some (.bool true, h)) (by omega) (fun i hi => ?_) ?_).trans ?_
  · obtain ⟨o, rfl, ho⟩ := hs.get hi
    obtain ⟨o', rfl, ho'⟩ := hs'.get (show i < q.length by omega)
    rw [L_spec_l1Within_0.e, br_pos (by omega), inB_nat (show i < q.length by omega)]
    simp only [eO_s, Int.toNat_natCast, ho, ho', eC_c, eI_int, eN_n, inB_nat hi, spec_l1Less, cal_s, eB_b, wr_succ (show i < 9223372036854775807 by omega)]
    cases less q[i].time q[i].place p[i].time p[i].place <;> simp
  · rw [L_spec_l1Within_0.e, br_neg (by omega)]
  · cases under p q <;> rfl
end
end Go.Proofs.YtfhnofppfacemaaGreat
namespace Go.Proofs.YtfhnofppfacemaaGreat
open Go T
set_option linter.unusedVariables false
set_option linter.unusedSimpArgs false
section
variable {lo : Nat} {ro ro' : Bool} {h : Heap} {F F' : List Nat} {a a' : Option (Nat × Nat)} {c c' : Option Nat}
theorem Sli.rows {α : Type} {El : Rel α} {R e : Nat} {l : List α} (hs : Sli false R e El h [.sl R a l.length c] l F) :
    ∃ rows Fs, (∀ {T : Type} (K : List (List V) → Option T), rowsOf R h (.sl R a l.length c) K = K rows) ∧ EAll El h rows l Fs ∧ ∀ b ∈ Fs.flatten, b ∈ F := by
  obtain ⟨R1, a1, c1, e1, g⟩ := hs
  injection e1 with e1 _; injection e1 with e0 e2 _ e3
  subst e2; subst e3
  cases a with
  | none =>
    obtain ⟨rfl, _, _⟩ := g
    exact ⟨[], [], fun K => rfl, trivial, by simp⟩
  | some p =>
    obtain ⟨b, i⟩ := p
    obtain ⟨_, rs, Fs, g1, g2, g3, g4, g5, rfl⟩ := g
    refine ⟨_, Fs, fun K => ?_, g5, fun b hb => List.mem_cons_of_mem _ hb⟩
    simp only [rowsOf, beq_of, need_t]
    cases hl : l.length with
    | zero => simp
    | succ n =>
      rw [hl] at g2
      simp only [ldRows, Heap.rows?, g1, Option.bind_some, ble_of g2, eO_s]
theorem RTags.rows {l : List Tag} (hs : RTags false h [.sl 2 a l.length c] l F) {T : Type} (K : List (List V) → Option T) : rowsOf 2 h (.sl 2 a l.length c) K = K (l.map Tag.cs) := by
  obtain ⟨rows, Fs, h1, h2, _⟩ := Sli.rows hs
  rw [h1, h2.of_flat.1]
/-- a slice without rows, that was just laid -/
theorem Sli.fresh {α : Type} {El : Rel α} {R e n : Nat} {rs : List (List V)} (hn : n ≤ rs.length) : Sli false R e El (h ++ [.rows R e false rs]) [.sl R (some (h.length, 0)) 0 (some n)] [] [h.length] :=
  ⟨R, some (h.length, 0), some n, rfl, rfl, rs, [], by simp, by simp, fun k hk => by injection hk with hk; subst hk; simpa using hn, fun h => (by cases h), by simp [EAll], by simp⟩
theorem flat_nil {l : List Tag} : (l.map fun _ => ([] : List Nat)).flatten = [] := by induction l <;> simp_all
theorem copy_tags {l : List Tag} (hl : lo ≤ h.length) (hn : l.length ≤ 1048576) : ∃ a' c' h' F', (∀ {T : Type} (K : V → Heap → Option T), app lo 31 2 16 (.sl 2 (some (h.length, 0)) 0 (some 0)) (l.map Tag.cs) (h ++ [.rows 2 31 false []]) K = K (.sl 2 a' l.length c') h') ∧
    RTags false h' [.sl 2 a' l.length c'] l F' ∧ Mv h [] h' F' := by
  have h0 : RTags false (h ++ [.rows 2 (eTag false) false []]) [.sl 2 (some (h.length, 0)) 0 (some 0)] [] [h.length] := Sli.fresh (Nat.le_refl _)
  by_cases he : l = []
  · subst he
    exact ⟨some (h.length, 0), some 0, _, _, fun K => rfl, h0, Mv.last⟩
  · obtain ⟨a', c', h', F', p1, p2, p3, p4, p5, p6⟩ := Sli.push (lo := lo) (bytes := 16) flat_fr h0 (xs := l.map Tag.cs) (ys := l) (Gs := l.map fun _ => []) EAll.flat (by decide) (by simp; omega) (by simp; omega) (by simp; omega) (by rw [flat_nil]; simp) (by rw [flat_nil]; simp) he
    simp only [List.length_nil, Nat.zero_add, List.nil_append] at p1 p2
    refine ⟨a', c', h', F', p1, p2, by simp at p3; omega, fun b hb _ => ?_, p6, fun b hb => ?_⟩
    · rw [p4 b (by simp; omega) (by simp; omega), List.getElem?_append_left hb]
    · simp at p3
      rcases p5 b hb with h1 | h1
      · rw [flat_nil] at h1; simp at h1; exact .inr (by omega)
      · simp at h1; exact .inr (by omega)
theorem spec_l2Copy {v : Ver} (hs : RTags false h [.sl 2 a v.past.length c] v.past F) (hl : lo ≤ h.length) (hn : v.past.length ≤ 1048576) :
    ∃ a' c' h' F', evl lo 72 [.agg (v.cs a c)] h = some (.agg (v.cs a' c'), h') ∧ RTags false h' [.sl 2 a' v.past.length c'] v.past F' ∧ Mv h [] h' F' := by
  obtain ⟨a', c', h', F', e, r⟩ := copy_tags (l := v.past) hl hn
  refine ⟨a', c', h', F', E_spec_l2Copy ?_, r⟩
  rw [RTags.rows (Mv.snoc.keep0 rtags_ok hs), e, eS_sl]
theorem impl_Clone {l : List Tag} (hs : RTags false h [.sl 2 a l.length c] l F) (hl : lo ≤ h.length) (hn : l.length ≤ 1048576) :
    ∃ v h' F', evl lo 243 [.sl 2 a l.length c] h = some (v, h') ∧ RTags false h' [v] l F' ∧ Mv h [] h' F' := by
  cases a with
  | none =>
    obtain ⟨R1, a1, c1, e1, g⟩ := hs
    injection e1 with e1 _; injection e1 with e0 e2 _ e3
    subst e2; subst e3
    obtain ⟨rfl, _, _⟩ := g
    exact ⟨_, h, [], E_slices_Clone_impl_Tag_impl_Tag (by rw [show (none : Option (Nat × Nat)).isNone = true from rfl, br_t]), Sli.nil, Mv.nil⟩
  | some p =>
    obtain ⟨a', c', h', F', e, r⟩ := copy_tags (l := l) hl hn
    refine ⟨_, h', F', E_slices_Clone_impl_Tag_impl_Tag ?_, r⟩
    rw [show (some p).isNone = false from rfl, br_f, RTags.rows (Mv.snoc.keep0 rtags_ok hs), e, eS_sl]
theorem impl_Past_copied {l : List Tag} (hs : RTags false h [.sl 2 a l.length c] l F) (hl : lo ≤ h.length) (hn : l.length ≤ 1048576) :
    ∃ a' c' h' F', evl lo 170 [.agg [.sl 2 a l.length c]] h = some (.agg [.sl 2 a' l.length c'], h') ∧ RTags false h' [.sl 2 a' l.length c'] l F' ∧ Mv h [] h' F' := by
  obtain ⟨v, h', F', e, r, m⟩ := impl_Clone hs hl hn
  obtain ⟨a', c', es, r2⟩ := r.form
  refine ⟨a', _, h', F', E_impl_Past_copied ?_, r2.clip, m⟩
  rw [e]; simp only [cal_s, es]
  rw [E_slices_Clip_impl_Tag_impl_Tag (r := (.sl 2 a' l.length (some l.length), h')) (by rw [reslice_clip r2])]
  simp only [cal_s, eS_sl]
theorem impl_Ver_copied {v : Ver} (hs : RTags false h [.sl 2 a v.past.length c] v.past F) (hl : lo ≤ h.length) (hn : v.past.length ≤ 1048576) :
    ∃ a' c' h' F', evl lo 78 [.agg (v.cs a c)] h = some (.agg (v.cs a' c'), h') ∧ RTags false h' [.sl 2 a' v.past.length c'] v.past F' ∧ Mv h [] h' F' := by
  obtain ⟨a', c', h', F', e, r⟩ := impl_Past_copied hs hl hn
  refine ⟨a', c', h', F', E_impl_Ver_copied ?_, r⟩
  rw [e]; simp only [cal_s, eA_a, eC_c, eS_sl, eN_n]
/-- a list of versions, copied one by one -/
theorem copy_loop {l : List Ver} {e0 : Option (Nat × Nat)} {h0 : Heap} {n0 : Option Nat} {F0 : List Nat} {T : Type} (L : Nat → Option (Nat × Nat) → Nat → Option Nat → Heap → Option T) (hs : RVers false h [.sl 6 a l.length c] l F) (hl : lo ≤ h.length) (hn : smVers l)
    (m0 : Mv h [] h0 F0) (h1 : RVers false h0 [.sl 6 e0 0 n0] [] F0)
    (step : ∀ i (hi : i < l.length) s a2 c2 a1 n1 c1 hh, (i = 0 → a1 = e0 ∧ c1 = n0) → (∀ o, a = some o → ld hh o.1 (o.2 + i) 0 6 = some [.int .i64 l[i].key, .int .i64 l[i].tag.time, .int .i64 l[i].tag.place, s, .str l[i].text, .bool l[i].gone]) → (∃ o, a = some o) →
      (∀ {R' : Type} (K : Option (Nat × Nat) → Nat → Option Nat → Option R'), eS 2 s K = K a2 l[i].past.length c2) → (∃ G, RTags false hh [.sl 2 a2 l[i].past.length c2] l[i].past G) → lo ≤ hh.length →
      ∃ a3 c3 h3 F3, RTags false h3 [.sl 2 a3 l[i].past.length c3] l[i].past F3 ∧ Mv hh [] h3 F3 ∧
        L i a1 n1 c1 hh = app lo 36 6 72 (.sl 6 a1 n1 c1) [l[i].cs a3 c3] (h3 ++ [.rows 6 36 false [l[i].cs a3 c3]]) fun v h => eS 6 v fun a n c => L (i + 1) a n c h) :
    ∃ a' c' h' F', L 0 e0 0 n0 h0 = L l.length a' l.length c' h' ∧ RVers false h' [.sl 6 a' l.length c'] l F' ∧ Mv h [] h' F' := by
  have hn1 := hn.1
  obtain ⟨a', c', h', F', e, r, m⟩ := build_loop (El := RVer false) rver_ok (h0 := h0) (l := l) (g := fun _ v => some (id v)) (lo := lo) (R := 6) (e := eVer false) (bytes := 72) (b0 := []) (F0 := F0) (a0 := e0) (c0 := n0)
    (Nat.le_trans hl m0.le) (m0.ge hl (by simp)) m0.nd (by decide) (by simp; omega) L (fun i hi a1 c1 hh F1 acc hz hacc hm hr => by
      have hm' : Mv h [] hh [] := (m0.trans hm).drop
      obtain ⟨o, s, a2, c2, G, ho, hld, es, hp, _⟩ := (hm'.keep0 rvers_ok hs).get hi
      obtain ⟨a3, c3, h3, F3, r3, m3, e3⟩ := step i hi s a2 c2 a1 acc.length c1 hh hz (fun o' ho' => by rw [ho] at ho'; injection ho' with ho'; subst ho'; exact hld) ⟨o, ho⟩ es ⟨G, hp⟩ (Nat.le_trans hl hm'.le)
      exact .inr ⟨l[i], l[i].cs a3 c3, F3, _, rfl, ⟨_, rfl, Mv.snoc.keep0 rtags_ok r3⟩, m3.trans (Mv.snoc' m3.nd), e3⟩) h1
  rw [grow_map, List.map_id, List.nil_append] at e r
  exact ⟨a', c', h', F', e, r, m0.trans m⟩
theorem impl_versCopied {l : List Ver} (hs : RVers false h [.sl 6 a l.length c] l F) (hl : lo ≤ h.length) (hn : smVers l) :
    ∃ a' c' h' F', evl lo 244 [.sl 6 a l.length c] h = some (.sl 6 a' l.length c', h') ∧ RVers false h' [.sl 6 a' l.length c'] l F' ∧ Mv h [] h' F' := by
  have hn1 := hn.1
  obtain ⟨a', c', h', F', e, r, m⟩ := copy_loop (e0 := some (h.length, 0)) (n0 := some l.length) (h0 := h ++ [.rows 6 (eVer false) false (List.replicate l.length [.int .i64 0, .int .i64 0, .int .i64 0, .sl 0 none 0 (some 0), .str ⟨⟨[]⟩⟩, .bool false])])
    (fun i a1 n1 c1 hh => L_impl_versCopied_0 lo a1 n1 c1 a l.length c (l.length : Nat) (i : Nat) hh) hs hl hn Mv.last (Sli.fresh (by simp)) (fun i hi s a2 c2 a1 n1 c1 hh hz hld ho es hp hlo => by
      obtain ⟨o, rfl⟩ := ho
      obtain ⟨G, hp⟩ := hp
      obtain ⟨a3, c3, h3, F3, e3, r3, m3⟩ := impl_Ver_copied (lo := lo) (v := l[i]) hp hlo (hn.2 _ (List.getElem_mem hi)).1
      refine ⟨a3, c3, h3, F3, r3, m3, ?_⟩
      rw [L_impl_versCopied_0.e, br_pos (by omega), inB_nat hi]
      simp only [eO_s, Int.toNat_natCast, hld o rfl, eC_c, eI_int, es, eT_s, eBv_b, eN_n]
      rw [e3]
      simp only [cal_s, eA_a, eC_c, eI_int, eS_sl, eT_s, eBv_b, eN_n, rows_one, wr_succ (show i < 9223372036854775807 by omega)])
  refine ⟨a', c', h', F', E_impl_versCopied ?_, r, m⟩
  rw [need_of (by omega)]
  refine e.trans ?_
  rw [L_impl_versCopied_0.e, br_neg (by omega)]
theorem impl_Store_copied {l : List Ver} (hs : RVers false h [.sl 6 a l.length c] l F) (hl : lo ≤ h.length) (hn : smVers l) :
    ∃ a' c' h' F', evl lo 177 [.agg [.sl 6 a l.length c]] h = some (.agg [.sl 6 a' l.length c'], h') ∧ RVers false h' [.sl 6 a' l.length c'] l F' ∧ Mv h [] h' F' := by
  obtain ⟨a', c', h', F', e, r⟩ := impl_versCopied hs hl hn
  refine ⟨a', c', h', F', E_impl_Store_copied ?_, r⟩
  rw [e]; simp only [cal_s, eS_sl]
theorem spec_l2CopyStore {l : List Ver} (hs : RVers false h [.sl 6 a l.length c] l F) (hl : lo ≤ h.length) (hn : smVers l) :
    ∃ v h' F', evl lo 174 [.agg [.sl 6 a l.length c]] h = some (.agg [v], h') ∧ RVers false h' [v] l F' ∧ Mv h [] h' F' := by
  have hn1 := hn.1
  by_cases he : l = []
  · subst he
    exact ⟨_, h, [], E_spec_l2CopyStore (by rw [L_spec_l2CopyStore_0.e, br_neg (by simp)]), Sli.nil, Mv.nil⟩
  have hpos : 0 < l.length := List.length_pos_iff.2 he
  obtain ⟨a', c', h', F', e, r, m⟩ := copy_loop (e0 := none) (n0 := some 0) (h0 := h)
    (fun i a1 n1 c1 hh => L_spec_l2CopyStore_0 lo (i : Nat) a l.length c 0 none 0 (some 0) (if i = 0 then 0 else 6) a1 n1 c1 hh) hs hl hn Mv.nil Sli.nil (fun i hi s a2 c2 a1 n1 c1 hh hz hld ho es hp hlo => by
      obtain ⟨o, rfl⟩ := ho
      obtain ⟨G, hp⟩ := hp
      obtain ⟨a3, c3, h3, F3, e3, r3, m3⟩ := spec_l2Copy (lo := lo) (v := l[i]) hp hlo (hn.2 _ (List.getElem_mem hi)).1
      refine ⟨a3, c3, h3, F3, r3, m3, ?_⟩
      rw [L_spec_l2CopyStore_0.e, br_pos (by omega), inB_nat hi]
      simp only [eO_s, Int.toNat_natCast, hld o rfl, eC_c, eI_int, es, eT_s, eBv_b, eN_n]
      rw [e3]
      simp only [cal_s, eA_a, eC_c, eI_int, eS_sl, eT_s, eBv_b, eN_n, rows_one, wr_succ (show i < 9223372036854775807 by omega), if_neg (Nat.succ_ne_zero i)]
      by_cases h0 : i = 0
      · obtain ⟨rfl, rfl⟩ := hz h0
        rw [app_q]
      · rw [if_neg h0])
  refine ⟨_, h', F', E_spec_l2CopyStore ?_, r, m⟩
  refine e.trans ?_
  rw [if_neg (by omega), L_spec_l2CopyStore_0.e, br_neg (by omega)]
end
end Go.Proofs.YtfhnofppfacemaaGreat
namespace Go.Proofs.YtfhnofppfacemaaGreat
open Go T
set_option linter.unusedVariables false
set_option linter.unusedSimpArgs false
def sameVer (v u : Ver) : Bool := v.key == u.key && (v.tag.time == u.tag.time && v.tag.place == u.tag.place) && decide (v.past = u.past) && (v.text.toList == u.text.toList) && (v.gone == u.gone)
def zeroVer (v : Ver) : Bool := v.key == 0 && (v.tag.time == 0 && v.tag.place == 0) && decide (v.past.length = 0) && noText v.text && !v.gone
def verAt (i : Nat) (v : Ver) : Bool := zeroVer v || (verOk v && v.key == i)
def storeOk (l : List Ver) : Bool := (l.zipIdx.all fun x => verAt x.2 x.1) && decide (l.length = 4)
theorem storeOk_len {l : List Ver} (h : storeOk l = true) : l.length = 4 := by
  simp only [storeOk, Bool.and_eq_true, decide_eq_true_eq] at h; exact h.2
theorem storeOk_get {l : List Ver} (h : storeOk l = true) {i : Nat} (hi : i < l.length) : verAt i l[i] = true := by
  simp only [storeOk, Bool.and_eq_true, List.all_eq_true] at h
  have := h.1 (l[i], i) (by rw [List.mem_zipIdx_iff_getElem?]; simp [hi])
  exact this
theorem verOk_time {v : Ver} (h : verOk v = true) : 0 < v.tag.time := by
  simp only [verOk, Bool.and_eq_true, decide_eq_true_eq] at h
  exact (latest_lt.1 h.2).1

section
variable {lo : Nat} {ro ro' : Bool} {h : Heap} {F F' : List Nat} {a a' : Option (Nat × Nat)} {c c' : Option Nat}
theorem all_idx {α T : Type} {p : Nat → α → Bool} {l : List α} (L : Nat → Option T) (no yes : Option T)
    (step : ∀ i (hi : i < l.length), L i = if p i l[i] = true then L (i + 1) else no) (done : L l.length = yes) : L 0 = if (l.zipIdx.all fun x => p x.2 x.1) = true then yes else no := by
  have hz : l.zipIdx.length = l.length := by simp
  refine all_loop (l := l.zipIdx) (p := fun x => p x.2 x.1) L no yes (fun i hi => ?_) (by rw [hz]; exact done)
  rw [step i (by omega)]
  simp only [List.getElem_zipIdx, Nat.zero_add]
theorem impl_Equal {p q : List Tag} (hs : RTags ro h [.sl 2 a p.length c] p F) (hs' : RTags ro' h [.sl 2 a' q.length c'] q F') (hn : p.length ≤ 1048576) :
    evl lo 259 [.sl 2 a p.length c, .sl 2 a' q.length c'] h = some (.bool (decide (p = q)), h) := by
  refine E_slices_Equal_impl_Tag_impl_Tag (h' := h) ?_
  by_cases hl : p.length = q.length
  · rw [show ((p.length : Int) == (q.length : Int)) = true by simp; omega, br_t]
    refine (all_loop (p := fun x : Tag × Tag => decide (x.1 = x.2)) (l := p.zip q) (fun i => L_slices_Equal_impl_Tag_impl_Tag_0 (List.length h) a p.length c a' q.length c' false (p.length : Nat) (i : Nat) h) (some (.bool false, h)) (some (.bool true, h)) (fun i hi => ?_) ?_).trans ?_
    · have hip : i < p.length := by simp at hi; omega
      have hiq : i < q.length := by omega
      obtain ⟨o, rfl, ho⟩ := hs.get hip
      obtain ⟨o', rfl, ho'⟩ := hs'.get hiq
      rw [L_slices_Equal_impl_Tag_impl_Tag_0.e, br_pos (by omega), inB_nat hip]
      simp only [eO_s, Int.toNat_natCast, ho, ho', eC_c, eI_int, eN_n, inB_nat hiq, List.getElem_zip, wr_succ (show i < 9223372036854775807 by omega), Bool.and_true]
      have e : (p[i].time == q[i].time && p[i].place == q[i].place) = decide (p[i] = q[i]) := by
        rw [Bool.eq_iff_iff]; cases hx : p[i]; cases hy : q[i]; simp
      rw [e]
      cases decide (p[i] = q[i]) <;> simp
    · have hz : (p.zip q).length = p.length := by simp; omega
      rw [hz, L_slices_Equal_impl_Tag_impl_Tag_0.e, br_neg (by omega)]
    · have e : ((p.zip q).all fun x => decide (x.1 = x.2)) = decide (p = q) := by
        rw [Bool.eq_iff_iff, List.all_eq_true, decide_eq_true_eq]
        constructor
        · intro hx
          apply List.ext_getElem hl
          intro i h1 h2
          have := hx (p[i], q[i]) (by rw [List.mem_iff_getElem]; exact ⟨i, by simp; omega, by simp⟩)
          simpa using this
        · rintro rfl x hx
          obtain ⟨i, hi, rfl⟩ := List.mem_iff_getElem.1 hx
          simp
      rw [e]
      cases decide (p = q) <;> simp
  · rw [show ((p.length : Int) == (q.length : Int)) = false by simp; omega, br_f, decide_eq_false (fun e => hl (by rw [e]))]
theorem impl_same {v u : Ver} (hs : RTags ro h [.sl 2 a v.past.length c] v.past F) (hs' : RTags ro' h [.sl 2 a' u.past.length c'] u.past F') (hn : v.past.length ≤ 1048576) :
    evl lo 230 [.agg (v.cs a c), .agg (u.cs a' c')] h = some (.bool (sameVer v u), h) := by
  refine E_impl_Ver_same (h' := h) ?_
  simp only [impl_Equal hs hs' hn, cal_s, eB_b, Bool.and_true]
  unfold sameVer
  cases (v.key == u.key) <;> cases (v.tag.time == u.tag.time && v.tag.place == u.tag.place) <;> cases (decide (v.past = u.past)) <;> cases (v.text.toList == u.text.toList) <;> cases (v.gone == u.gone) <;> rfl
theorem impl_same_z {v : Ver} (hs : RTags ro h [.sl 2 a v.past.length c] v.past F) (hn : v.past.length ≤ 1048576) :
    evl lo 230 [.agg (v.cs a c), .agg [.int .i64 0, .int .i64 0, .int .i64 0, .sl 0 none 0 (some 0), .str ⟨⟨[]⟩⟩, .bool false]] h = some (.bool (zeroVer v), h) := by
  refine E_impl_Ver_same_z (h' := h) ?_
  have e : evl (List.length h) 259 [.sl 2 a v.past.length c, .sl 0 none 0 (some 0)] h = some (.bool (decide (v.past.length = 0)), h) := by
    refine E_slices_Equal_impl_Tag_impl_Tag_z (h' := h) ?_
    by_cases h0 : v.past.length = 0
    · rw [h0, beqI, br_t, L_slices_Equal_impl_Tag_impl_Tag_z_0.e, br_neg (by simp)]; rfl
    · rw [show ((v.past.length : Int) == ((0 : Nat) : Int)) = false by rw [beq_eq_false_iff_ne]; omega, br_f, decide_eq_false h0]
  simp only [e, cal_s, eB_b, Bool.and_true, toList_nil]
  unfold zeroVer
  cases (v.key == 0) <;> cases (v.tag.time == 0 && v.tag.place == 0) <;> cases (decide (v.past.length = 0)) <;> cases noText v.text <;> cases v.gone <;> rfl
theorem impl_StoreOk {l : List Ver} (hs : RVers ro h [.sl 6 a l.length c] l F) (hn : smVers l) : evl lo 204 [.agg [.sl 6 a l.length c]] h = some (.bool (storeOk l), h) := by
  have hn1 := hn.1
  refine E_impl_StoreOk (h' := h) ?_
  refine (all_idx (p := verAt) (l := l) (fun i => L_impl_StoreOk_0 (List.length h) false a l.length c (l.length : Nat) (i : Nat) a l.length c h) (some (.bool false, h)) (some (.bool (decide (l.length = 4)), h)) (fun i hi => ?_) ?_).trans ?_
  · obtain ⟨o, s, b, d, G, rfl, ho, es, hp, _⟩ := hs.get hi
    have hm := hn.2 _ (List.getElem_mem hi)
    rw [L_impl_StoreOk_0.e, br_pos (by omega), inB_nat hi]
    simp only [eO_s, Int.toNat_natCast, ho, eC_c, eI_int, es, eT_s, eBv_b, eN_n]
    rw [impl_same_z hp hm.1]
    simp only [cal_s, eB_b, impl_VerOk hp hm, wr_succ (show i < 9223372036854775807 by omega)]
    unfold verAt
    cases zeroVer l[i] <;> cases verOk l[i] <;> cases (l[i].key == i) <;> simp
  · rw [L_impl_StoreOk_0.e, br_neg (by omega)]
    by_cases h3 : l.length = 4
    · rw [h3]; rfl
    · rw [show ((l.length : Int) == 4) = false by simp; omega, br_f, decide_eq_false h3]
  · unfold storeOk
    cases (l.zipIdx.all fun x => verAt x.2 x.1) <;> simp
theorem RVers.all {l : List Ver} {n : Nat} {i : Nat} (hs : RVers ro h [.sl 6 a n c] l F) (hi : i < l.length) : ∃ o s a' c' G, a = some o ∧ ld h o.1 (o.2 + i) 0 1 = some [.int .i64 l[i].key] ∧ ld h o.1 (o.2 + i) 1 1 = some [.int .i64 l[i].tag.time] ∧
    ld h o.1 (o.2 + i) 2 1 = some [.int .i64 l[i].tag.place] ∧ ld h o.1 (o.2 + i) 3 1 = some [s] ∧ ld h o.1 (o.2 + i) 4 1 = some [.str l[i].text] ∧ ld h o.1 (o.2 + i) 5 1 = some [.bool l[i].gone] ∧ ld h o.1 (o.2 + i) 1 2 = some [.int .i64 l[i].tag.time, .int .i64 l[i].tag.place] ∧
    ld h o.1 (o.2 + i) 0 6 = some [.int .i64 l[i].key, .int .i64 l[i].tag.time, .int .i64 l[i].tag.place, s, .str l[i].text, .bool l[i].gone] ∧
    (∀ {R' : Type} (K : Option (Nat × Nat) → Nat → Option Nat → Option R'), eS 2 s K = K a' l[i].past.length c') ∧ RTags ro h [.sl 2 a' l[i].past.length c'] l[i].past G ∧ (∀ b ∈ G, b ∈ F) := by
  obtain ⟨o, row, G, h1, h2, hv, hG, _⟩ := hs.read hi
  obtain ⟨s, a', c', rfl, es, hp⟩ := hv.form
  exact ⟨o, s, a', c', G, h1, by rw [h2]; rfl, by rw [h2]; rfl, by rw [h2]; rfl, by rw [h2]; rfl, by rw [h2]; rfl, by rw [h2]; rfl, by rw [h2]; rfl, by rw [h2]; rfl, es, hp, hG⟩
theorem spec_l2StoreOk {l : List Ver} (hs : RVers ro h [.sl 6 a l.length c] l F) (hn : smVers l) : evl lo 199 [.agg [.sl 6 a l.length c]] h = some (.bool (storeOk l), h) := by
  have hn1 := hn.1
  refine E_spec_l2StoreOk (h' := h) ?_
  refine (all_idx (p := verAt) (l := l) (fun i => L_spec_l2StoreOk_0 (List.length h) false (i : Nat) a l.length c h) (some (.bool false, h)) (some (.bool (decide (l.length = 4)), h)) (fun i hi => ?_) ?_).trans ?_
  · obtain ⟨o, s, b, d, G, rfl, ho0, _, _, ho3, ho4, ho5, ho12, ho, es, hp, _⟩ := hs.all hi
    have hm := hn.2 _ (List.getElem_mem hi)
    rw [L_spec_l2StoreOk_0.e, br_pos (by omega), inB_nat hi]
    simp only [eO_s, Int.toNat_natCast, ho0, ho3, ho4, ho5, ho12, ho, eC_c, eI_int, es, eT_s, eBv_b, eN_n, inB_nat hi, Bool.and_true, toList_nil, spec_l2Ok hp hm, cal_s, eB_b, wr_succ (show i < 9223372036854775807 by omega)]
    have hpl : ∀ {T : Type} (x y : Option T), br (decide ((l[i].past.length : Int) > 0)) x y = br (!decide (l[i].past.length = 0)) x y := by
      intro T x y
      by_cases h0 : l[i].past.length = 0
      · rw [br_neg (by omega), decide_eq_true h0]; rfl
      · rw [br_pos (by omega), decide_eq_false h0]; rfl
    simp only [hpl]
    unfold verAt zeroVer
    cases hz : (l[i].tag.time == 0 && l[i].tag.place == 0) with
    | true =>
      have : verOk l[i] = false := by
        cases hv : verOk l[i] with
        | false => rfl
        | true => have := verOk_time hv; simp at hz; omega
      rw [this]
      cases (l[i].key == 0) <;> cases noText l[i].text <;> cases l[i].gone <;> cases (decide (l[i].past.length = 0)) <;> rfl
    | false =>
      cases (l[i].key == 0) <;> cases noText l[i].text <;> cases l[i].gone <;> cases (decide (l[i].past.length = 0)) <;> cases verOk l[i] <;> cases (l[i].key == i) <;> rfl
  · rw [L_spec_l2StoreOk_0.e, br_neg (by omega)]
    by_cases h3 : l.length = 4
    · rw [h3]; rfl
    · rw [show ((l.length : Int) == 4) = false by simp; omega, br_f, decide_eq_false h3]
  · unfold storeOk
    cases (l.zipIdx.all fun x => verAt x.2 x.1) <;> simp
end
end Go.Proofs.YtfhnofppfacemaaGreat
namespace Go.Proofs.YtfhnofppfacemaaGreat
open Go T
set_option linter.unusedVariables false
set_option linter.unusedSimpArgs false
def hasTag (l : List Ver) (t : Tag) : Bool := l.any fun v => v.tag.time == t.time && v.tag.place == t.place
section
variable {lo : Nat} {ro ro' : Bool} {h : Heap} {F F' : List Nat} {a a' : Option (Nat × Nat)} {c c' : Option Nat}
theorem IndexFunc_Ver {l : List Ver} {g : Nat} {cl : List V} {p : Ver → Bool} (hs : RVers ro h [.sl 6 a l.length c] l F) (hn : l.length ≤ 1048576)
    (hp : ∀ lo v a c G, v ∈ l → RTags ro h [.sl 2 a v.past.length c] v.past G → evl lo g (fnArgs [.agg (v.cs a c)] cl) h = some (.bool (p v), h)) :
    evl lo 191 [.sl 6 a l.length c, .fn g cl] h = some (.int .i64 (firstAt p l 0), h) := by
  have loop : ∀ m k x, m + k = l.length → L_slices_IndexFunc_impl_Ver_impl_Ver_0 (List.length h) a l.length c g cl x (l.length : Nat) (k : Nat) h = some (.int .i64 (firstAt p (l.drop k) k), h) := by
    intro m
    induction m with
    | zero =>
      intro k x hk
      rw [L_slices_IndexFunc_impl_Ver_impl_Ver_0.e, br_neg (by omega), show k = l.length by omega]
      simp [firstAt]
    | succ m ih =>
      intro k x hk
      have hlt : k < l.length := by omega
      obtain ⟨o, s, b, d, G, rfl, ho, es, hv, _⟩ := hs.get hlt
      rw [L_slices_IndexFunc_impl_Ver_impl_Ver_0.e, br_pos (by omega), inB_nat (by omega)]
      simp only [eO_s, Int.toNat_natCast, ho, eC_c, eI_int, es, eT_s, eBv_b, eN_n]
      rw [hp (List.length h) l[k] b d G (List.getElem_mem hlt) hv, cal_s, eB_b, List.drop_eq_getElem_cons hlt]
      simp only [firstAt]
      cases p l[k]
      · simp only [br_f, cond_false]; rw [wr_succ (by omega)]; exact ih (k + 1) _ (by omega)
      · simp
  refine E_slices_IndexFunc_impl_Ver_impl_Ver (h' := h) ?_
  exact loop l.length 0 0 (by omega)
theorem ContainsFunc_Ver {l : List Ver} {g : Nat} {cl : List V} {p : Ver → Bool} (hs : RVers ro h [.sl 6 a l.length c] l F) (hn : l.length ≤ 1048576)
    (hp : ∀ lo v a c G, v ∈ l → RTags ro h [.sl 2 a v.past.length c] v.past G → evl lo g (fnArgs [.agg (v.cs a c)] cl) h = some (.bool (p v), h)) :
    evl lo 205 [.sl 6 a l.length c, .fn g cl] h = some (.bool (l.any p), h) :=
  E_slices_ContainsFunc_impl_Ver_impl_Ver (h' := h) (by rw [IndexFunc_Ver hs hn hp]; simp only [cal_s, eI_int, br_bool]; rw [firstAt_pos]; simp)
theorem impl_hasTag {l : List Ver} {t p : Int} (hs : RVers ro h [.sl 6 a l.length c] l F) (hn : l.length ≤ 1048576) :
    evl lo 182 [.sl 6 a l.length c, .agg [.int .i64 t, .int .i64 p]] h = some (.bool (hasTag l ⟨t, p⟩), h) := by
  refine E_impl_hasTag (h' := h ++ [.rows 2 31 false [[.int .i64 t, .int .i64 p]]]) ?_
  rw [ContainsFunc_Ver (p := fun v => v.tag.time == t && v.tag.place == p) (Mv.snoc.keep0 rvers_ok hs) hn (fun lo v a c G _ _ => by
    refine E_impl_hasTag_1 (h' := h ++ [.rows 2 31 false [[.int .i64 t, .int .i64 p]]]) ?_
    have : ld (h ++ [.rows 2 31 false [[.int .i64 t, .int .i64 p]]]) h.length 0 0 2 = some [.int .i64 t, .int .i64 p] := by rw [ld_last (row := [.int .i64 t, .int .i64 p]) (by rfl)]; rfl
    simp only [this, eO_s, eC_c, eI_int, eN_n, Bool.and_true]
    cases (v.tag.time == t && v.tag.place == p) <;> rfl)]
  simp only [cal_s, eB_b]
  unfold hasTag
  cases (l.any fun v => v.tag.time == t && v.tag.place == p) <;> rfl
theorem Sli.pre {α : Type} {El : Rel α} {R R' e n i : Nat} {l : List α} (hs : Sli false R e El h [.sl R' a n c] l F) (hi : i ≤ l.length) : ∃ F', Sli false R e El h [.sl R' a i c] (l.take i) F' := by
  have hn := hs.val
  subst hn
  obtain ⟨R1, a1, c1, e1, g⟩ := hs
  injection e1 with e1 _; injection e1 with e0 e2 _ e3
  subst e0; subst e2; subst e3
  have hl : (l.take i).length = i := by simp; omega
  cases a with
  | none =>
    obtain ⟨rfl, h2, _⟩ := g
    exact ⟨[], R', none, c, by rw [hl], by simp, h2, rfl⟩
  | some p =>
    obtain ⟨b, j⟩ := p
    obtain ⟨hR, rs, Fs, g1, g2, g3, g4, g5, rfl⟩ := g
    refine ⟨b :: (Fs.take i).flatten, R', some (b, j), c, by rw [hl], hR, rs, Fs.take i, g1, by rw [hl]; omega, fun k hk => ?_, g4, ?_, rfl⟩
    · have := g3 k hk
      rw [hl]; omega
    · rw [hl]
      have := g5.take i
      rw [List.take_take, Nat.min_eq_left hi] at this
      exact this
theorem reslice_pre {α : Type} {El : Rel α} {R R' e n i : Nat} {l : List α} (hs : Sli false R e El h [.sl R' a n c] l F) (hi : i ≤ l.length) {T : Type} {K : Option (Nat × Nat) → Nat → Option Nat → Option T} :
    reslice a n c none (some (.int .i64 (i : Nat))) none K = K a i c := by
  have hn := hs.val
  subst hn
  obtain ⟨R1, a', c', h1, h2⟩ := hs
  injection h1 with h1 _
  injection h1 with e0 e1 e2 e3
  subst e0; subst e1; subst e3
  have hc : ∀ k, c = some k → l.length ≤ k := fun k hk => by
    cases a with
    | none => obtain ⟨rfl, _⟩ := h2; simp
    | some p => obtain ⟨b, i⟩ := p; obtain ⟨_, _, _, _, _, g3, _⟩ := h2; exact (g3 k hk).1
  unfold reslice slMax slHi slLo
  cases c with
  | none => simp only [eI_int, Int.toNat_natCast]; rw [inS_in ⟨by omega, by omega⟩]
  | some k => have := hc k rfl; simp only [eI_int, Int.toNat_natCast]; rw [inS_in ⟨by omega, by omega⟩]
def logAt (place : Int) (l : List Ver) (i : Nat) (v : Ver) : Bool := verOk v && (v.tag.place == place) && !hasTag (l.take i) v.tag
def logOk (place : Int) (l : List Ver) : Bool := (l.zipIdx.all fun x => logAt place l x.2 x.1) && decide ((l.length : Int) ≤ 60)
theorem impl_logOk {l : List Ver} {m : Int} (hs : RVers false h [.sl 6 a l.length c] l F) (hn : smVers l) : evl lo 165 [.sl 6 a l.length c, .int .i64 m] h = some (.bool (logOk m l), h) := by
  have hn1 := hn.1
  refine E_impl_logOk (h' := h) ?_
  refine (all_idx (p := logAt m l) (l := l) (fun i => L_impl_logOk_0 (List.length h) a l.length c m false a l.length c (l.length : Nat) (i : Nat) h) (some (.bool false, h)) (some (.bool (decide ((l.length : Int) ≤ 60)), h)) (fun i hi => ?_) ?_).trans ?_
  · obtain ⟨F2, hpre⟩ := Sli.pre hs (show i ≤ l.length by omega)
    have hres := fun {T : Type} (K : Option (Nat × Nat) → Nat → Option Nat → Option T) => reslice_pre hs (show i ≤ l.length by omega) (K := K)
    obtain ⟨o, s, b, d, G, ha, ho, es, hp, _⟩ := hs.get hi
    have hm := hn.2 _ (List.getElem_mem hi)
    have hil : (l.take i).length = i := by simp; omega
    have hpre' : RVers false h [.sl 6 a (l.take i).length c] (l.take i) F2 := by rw [hil]; exact hpre
    have hht := fun lo => impl_hasTag (lo := lo) (t := l[i].tag.time) (p := l[i].tag.place) hpre' (by omega)
    rw [hil] at hht
    rw [L_impl_logOk_0.e, br_pos (by omega), inB_nat hi]
    simp only [ha, eO_s, Int.toNat_natCast, ho, eC_c, eI_int, es, eT_s, eBv_b, eN_n]
    rw [impl_VerOk hp hm]
    simp only [← ha, cal_s, eB_b, hres, hht, wr_succ (show i < 9223372036854775807 by omega)]
    unfold logAt
    cases verOk l[i] <;> cases (l[i].tag.place == m) <;> cases hasTag (l.take i) l[i].tag <;> simp
  · rw [L_impl_logOk_0.e, br_neg (by omega)]
    by_cases h3 : (l.length : Int) ≤ 60
    · rw [br_pos h3, decide_eq_true h3]
    · rw [br_neg h3, decide_eq_false h3]
  · unfold logOk
    cases (l.zipIdx.all fun x => logAt m l x.2 x.1) <;> simp
theorem spec_l4Log {l : List Ver} {m : Int} (hs : RVers ro h [.sl 6 a l.length c] l F) (hn : smVers l) : evl lo 163 [.sl 6 a l.length c, .int .i64 m] h = some (.bool (logOk m l), h) := by
  have hn1 := hn.1
  refine E_spec_l4Log (h' := h) ?_
  have inner : ∀ i (hi : i < l.length), L_spec_l4Log_2 (List.length h) a l.length c m false (i : Nat) 0 h = if hasTag (l.take i) l[i].tag = true then some (.bool false, h) else L_spec_l4Log_0 (List.length h) a l.length c m false ((i + 1 : Nat) : Int) h := by
    intro i hi
    obtain ⟨o, s, b, d, G, ha, _, _, _, _, _, _, ho12, _⟩ := hs.all hi
    have hil : (l.take i).length = i := by simp; omega
    refine (all_loop (p := fun v : Ver => !(v.tag.time == l[i].tag.time && v.tag.place == l[i].tag.place)) (l := l.take i) (fun k => L_spec_l4Log_2 (List.length h) a l.length c m false (i : Nat) (k : Nat) h) (some (.bool false, h)) (L_spec_l4Log_0 (List.length h) a l.length c m false ((i + 1 : Nat) : Int) h) (fun k hk => ?_) ?_).trans ?_
    · have hkl : k < l.length := by omega
      obtain ⟨o', s', b', d', G', ha', _, _, _, _, _, _, ho12', _⟩ := hs.all hkl
      have hoo : o' = o := by rw [ha] at ha'; injection ha' with ha'; exact ha'.symm
      subst hoo
      rw [L_spec_l4Log_2.e, br_pos (by omega), inB_nat hkl]
      simp only [ha, eO_s, Int.toNat_natCast, ho12, ho12', eC_c, eI_int, eN_n, inB_nat hi, Bool.and_true, List.getElem_take, wr_succ (show k < 9223372036854775807 by omega)]
      cases (l[k].tag.time == l[i].tag.time && l[k].tag.place == l[i].tag.place) <;> simp
    · rw [hil, L_spec_l4Log_2.e, br_neg (by omega), wr_succ (by omega)]
    · unfold hasTag
      rw [List.any_eq_not_all_not]
      cases ((l.take i).all fun v : Ver => !(v.tag.time == l[i].tag.time && v.tag.place == l[i].tag.place)) <;> simp
  refine (all_idx (p := logAt m l) (l := l) (fun i => L_spec_l4Log_0 (List.length h) a l.length c m false (i : Nat) h) (some (.bool false, h)) (some (.bool (decide ((l.length : Int) ≤ 60)), h)) (fun i hi => ?_) ?_).trans ?_
  · have hin := inner i hi
    obtain ⟨o, s, b, d, G, ha, _, _, ho2, _, _, _, _, ho, es, hp, _⟩ := hs.all hi
    have hm := hn.2 _ (List.getElem_mem hi)
    rw [L_spec_l4Log_0.e, br_pos (by omega), inB_nat hi]
    simp only [ha, eO_s, Int.toNat_natCast, ho, eC_c, eI_int, es, eT_s, eBv_b, eN_n]
    rw [spec_l2Ok hp hm]
    simp only [cal_s, eB_b, inB_nat hi, ho2, eO_s, eC_c, eN_n, eI_int]
    rw [← ha, hin]
    unfold logAt
    cases verOk l[i] <;> cases (l[i].tag.place == m) <;> cases hasTag (l.take i) l[i].tag <;> simp
  · rw [L_spec_l4Log_0.e, br_neg (by omega)]
    by_cases h3 : (l.length : Int) ≤ 60
    · rw [br_pos h3, decide_eq_true h3]
    · rw [br_neg h3, decide_eq_false h3]
  · unfold logOk
    cases (l.zipIdx.all fun x => logAt m l x.2 x.1) <;> simp
end
end Go.Proofs.YtfhnofppfacemaaGreat
namespace Go.Proofs.YtfhnofppfacemaaGreat
open Go T
set_option linter.unusedVariables false
set_option linter.unusedSimpArgs false
def tagsOf (l : List Ver) : List Tag := l.map fun v => v.tag
section
variable {lo : Nat} {ro ro' : Bool} {h : Heap} {F F' : List Nat} {a a' : Option (Nat × Nat)} {c c' : Option Nat}
theorem spec_l2Tags {l : List Ver} (hs : RVers ro h [.sl 6 a l.length c] l F) (hl : lo ≤ h.length) (hn : l.length ≤ 1048576) :
    ∃ v h' F', evl lo 250 [.agg [.sl 6 a l.length c]] h = some (.agg [v], h') ∧ RTags false h' [v] (tagsOf l) F' ∧ Mv h [] h' F' := by
  obtain ⟨q, a', c', h', F', e, r, m⟩ := map_loop_q (El := flat Tag.cs) flat_ok (h := h) (l := l) (f := fun v => v.tag) (lo := lo) (R := 2) (e := 31) (bytes := 16) hl (by decide) (by omega)
    (fun i q a1 n1 c1 hh => L_spec_l2Tags_0 lo (i : Nat) a l.length c 0 none 0 (some 0) q a1 n1 c1 hh) (fun i hi q a1 n1 c1 hh hm => by
      obtain ⟨o, s, b, d, G, ha, _, _, _, _, _, _, ho12, _⟩ := (hm.keep0 rvers_ok hs).all hi
      refine ⟨[.int .i64 l[i].tag.time, .int .i64 l[i].tag.place], [], hh ++ [.rows 2 31 false [[.int .i64 l[i].tag.time, .int .i64 l[i].tag.place]]], ⟨rfl, rfl⟩, Mv.snoc, ?_⟩
      rw [L_spec_l2Tags_0.e, br_pos (by omega), inB_nat hi]
      simp only [ha, eO_s, Int.toNat_natCast, ho12, eC_c, eI_int, eN_n, rows_one, wr_succ (show i < 9223372036854775807 by omega)])
  refine ⟨_, h', F', E_spec_l2Tags ?_, r, m⟩
  refine e.trans ?_
  rw [L_spec_l2Tags_0.e, br_neg (by omega)]
theorem impl_tags {l : List Ver} (hs : RVers ro h [.sl 6 a l.length c] l F) (hl : lo ≤ h.length) (h4 : l.length = 4) :
    ∃ v h' F', evl lo 167 [.agg [.sl 6 a l.length c]] h = some (.agg [v], h') ∧ RTags false h' [v] (tagsOf l) F' ∧ Mv h [] h' F' := by
  obtain ⟨h', F', e, r, m⟩ := fill_loop (El := flat Tag.cs) flat_ok (h0 := h) (l := l) (f := fun v => v.tag) (lo := lo) (R := 2) (e := 31) (z := [.int .i64 0, .int .i64 0]) rfl hl
    (fun i hh => L_impl_Store_tags_0 lo a l.length c (l.length : Nat) (i : Nat) 0 none 0 (some 0) (some (h.length, 0)) 4 (some 4) hh) (fun i hi hh hm => by
      obtain ⟨o, s, b, d, G, rfl, ho, es, _, _⟩ := (hm.keep0 rvers_ok hs).get hi
      refine ⟨[.int .i64 l[i].tag.time, .int .i64 l[i].tag.place], [], hh, ⟨rfl, rfl⟩, Mv.nil, rfl, ?_⟩
      rw [L_impl_Store_tags_0.e, br_pos (by omega), inB_nat hi]
      simp only [eO_s, Int.toNat_natCast, ho, eC_c, eI_int, es, eT_s, eBv_b, eN_n, inB_nat (show i < 4 by omega), Nat.zero_add, wr_succ (show i < 9223372036854775807 by omega)])
  rw [h4] at r
  refine ⟨_, h', F', E_impl_Store_tags ?_, r, m⟩
  rw [E_impl_PastNone (r := (.agg [.sl 2 (some (h.length, 0)) 4 (some 4)], h ++ [.rows 2 31 false (List.replicate l.length [.int .i64 0, .int .i64 0])])) (by rw [h4]; rfl)]
  simp only [cal_s, eA_a, eC_c, eS_sl, eN_n]
  refine e.trans ?_
  rw [L_impl_Store_tags_0.e, br_neg (by omega)]
/-- what all nodes have -/
def stable (l : List Node) : List Tag := match l.getLast? with | some x => tagsOf x.store | none => []
theorem last_get {l : List Node} (h0 : 0 < l.length) : stable l = tagsOf (l[l.length - 1]'(by omega)).store := by
  unfold stable
  rw [List.getLast?_eq_getElem?, List.getElem?_eq_getElem (by omega)]
theorem spec_l3Stable {l : List Node} (hs : RNodes ro h [.sl 2 a l.length c] l F) (hl : lo ≤ h.length) (hn : smNodes l) (h0 : 0 < l.length) :
    ∃ v h' F', evl lo 190 [.agg [.sl 2 a l.length c]] h = some (.agg [v], h') ∧ RTags false h' [v] (stable l) F' ∧ Mv h [] h' F' := by
  have hn1 := hn.1
  obtain ⟨o, s1, s2, a1, c1, a2, c2, F1, F2, ha, _, ho1, _, e1, _, p1, _⟩ := hs.get (show l.length - 1 < l.length by omega)
  obtain ⟨v, h', F', e, r, m⟩ := spec_l2Tags (lo := lo) p1 hl (hn.2 _ (List.getElem_mem _)).1.1
  obtain ⟨a', c', es, r'⟩ := r.form
  rw [last_get h0]
  refine ⟨_, h', F', E_spec_l3Stable ?_, r', m⟩
  rw [wr (by omega) (by omega), inB_in ⟨by omega, by omega⟩, ha, eO_s, show ((l.length : Int) - 1).toNat = l.length - 1 by omega, ho1]
  simp only [eO_s, eC_c, eN_n, e1]
  rw [e]
  simp only [cal_s, eA_a, eC_c, es, eN_n]
end
end Go.Proofs.YtfhnofppfacemaaGreat
namespace Go.Proofs.YtfhnofppfacemaaGreat
open Go T
set_option linter.unusedVariables false
set_option linter.unusedSimpArgs false
abbrev tx (l : List UInt8) : ByteArray := ⟨⟨l⟩⟩
theorem tx_app {a b : List UInt8} : tx a ++ tx b = tx (a ++ b) := by
  apply ByteArray.ext
  simp [tx]
theorem tx_size {a : List UInt8} : (tx a).size = a.length := rfl
theorem tx_toList {a : List UInt8} : (tx a).toList = a := by rw [ByteArray.toList_eq]
theorem tx_eta (s : ByteArray) : tx s.data.toList = s := rfl
/-- a number's figures -/
def decL (n : Nat) : List UInt8 := if n < 10 then [UInt8.ofNat (48 + n)] else decL (n / 10) ++ [UInt8.ofNat (48 + n % 10)]
termination_by n
decreasing_by omega
theorem decL_len (n : Nat) : (decL n).length ≤ n + 1 := by
  induction n using Nat.strongRecOn with
  | ind n ih =>
    unfold decL
    split
    · simp
    · have := ih (n / 10) (by omega)
      simp only [List.length_append, List.length_singleton]; omega
def valL (l : List UInt8) : Nat := l.foldl (fun a c => a * 10 + (c.toNat - 48)) 0
theorem dig_val {k : Nat} (h : k < 10) : (UInt8.ofNat (48 + k)).toNat = 48 + k := by
  rw [UInt8.toNat_ofNat']; omega
theorem decL_val (n : Nat) : valL (decL n) = n := by
  induction n using Nat.strongRecOn with
  | ind n ih =>
    unfold decL
    split
    · rename_i h; simp only [valL, List.foldl_cons, List.foldl_nil, dig_val h]; omega
    · have := ih (n / 10) (by omega)
      simp only [valL, List.foldl_append, List.foldl_cons, List.foldl_nil] at this ⊢
      rw [this, dig_val (Nat.mod_lt _ (by decide))]; omega
theorem decL_inj {n m : Nat} (h : decL n = decL m) : n = m := by rw [← decL_val n, ← decL_val m, h]
theorem decL_dig (n : Nat) : ∀ c ∈ decL n, 48 ≤ c.toNat ∧ c.toNat ≤ 57 := by
  induction n using Nat.strongRecOn with
  | ind n ih =>
    unfold decL
    split
    · rename_i h
      intro c hc
      simp only [List.mem_singleton] at hc
      subst hc
      rw [dig_val h]; omega
    · intro c hc
      rw [List.mem_append] at hc
      rcases hc with hc | hc
      · exact ih (n / 10) (by omega) c hc
      · simp only [List.mem_singleton] at hc
        subst hc
        rw [dig_val (Nat.mod_lt _ (by decide))]; omega
theorem decL_not {n : Nat} {c : UInt8} (hc : c.toNat < 48) : c ∉ decL n := fun h => by have := decL_dig n c h; omega
def putTag (t : Tag) : List UInt8 := decL t.time.toNat ++ 46 :: decL t.place.toNat
def putPast (l : List Tag) : List UInt8 := l.flatMap fun t => 32 :: putTag t
def putRest (v : Ver) : List UInt8 := bif v.gone then [45] else 61 :: v.text.data.toList
def putVer (v : Ver) : List UInt8 := decL v.key.toNat ++ 32 :: (putTag v.tag ++ putPast v.past ++ 32 :: putRest v)
theorem cut_inj {x : UInt8} : ∀ {a a' b b' : List UInt8}, a ++ x :: b = a' ++ x :: b' → x ∉ a → x ∉ a' → a = a' ∧ b = b'
  | [], [], b, b', h, _, _ => ⟨rfl, by simpa using h⟩
  | [], y :: a', b, b', h, _, h' => by simp only [List.nil_append, List.cons_append, List.cons.injEq] at h; exact absurd (by simp [h.1]) h'
  | y :: a, [], b, b', h, h', _ => by simp only [List.nil_append, List.cons_append, List.cons.injEq] at h; exact absurd (by simp [h.1]) h'
  | y :: a, z :: a', b, b', h, h1, h2 => by
    simp only [List.cons_append, List.cons.injEq] at h
    simp only [List.mem_cons, not_or] at h1 h2
    obtain ⟨e1, e2⟩ := cut_inj h.2 h1.2 h2.2
    exact ⟨by rw [h.1, e1], e2⟩
theorem putTag_not {t : Tag} : (32 : UInt8) ∉ putTag t := by
  unfold putTag
  simp only [List.mem_append, List.mem_cons, not_or]
  exact ⟨decL_not (by decide), by decide, decL_not (by decide)⟩
theorem putTag_inj {t u : Tag} (ht : tagOk t.time t.place = true) (hu : tagOk u.time u.place = true) (h : putTag t = putTag u) : t = u := by
  have h1 := tagOk_time ht
  have h2 := tagOk_time hu
  obtain ⟨e1, e2⟩ := cut_inj h (decL_not (by decide)) (decL_not (by decide))
  have e1 := decL_inj e1
  have e2 := decL_inj e2
  cases t; cases u
  simp only [Tag.mk.injEq] at *
  omega
theorem putPast_inj : ∀ {p q : List Tag} {r s : List UInt8}, p.length = q.length → (∀ t ∈ p, tagOk t.time t.place = true) → (∀ t ∈ q, tagOk t.time t.place = true) →
    putPast p ++ 32 :: r = putPast q ++ 32 :: s → p = q ∧ r = s
  | [], [], r, s, _, _, _, h => ⟨rfl, by simpa [putPast] using h⟩
  | [], _ :: _, _, _, h, _, _, _ => by simp at h
  | _ :: _, [], _, _, h, _, _, _ => by simp at h
  | t :: p, u :: q, r, s, hl, hp, hq, h => by
    have e : ∀ (x : List Tag) (z : List UInt8), ∃ w, putPast x ++ 32 :: z = 32 :: w := by
      intro x z
      cases x with
      | nil => exact ⟨z, rfl⟩
      | cons a x => exact ⟨_, by simp only [putPast, List.flatMap_cons, List.cons_append]; rfl⟩
    obtain ⟨w1, hw1⟩ := e p r
    obtain ⟨w2, hw2⟩ := e q s
    have h0 : putTag t ++ (putPast p ++ 32 :: r) = putTag u ++ (putPast q ++ 32 :: s) := by
      simpa [putPast, List.flatMap_cons] using h
    rw [hw1, hw2] at h0
    obtain ⟨e1, e2⟩ := cut_inj h0 putTag_not putTag_not
    have et := putTag_inj (hp t (by simp)) (hq u (by simp)) e1
    obtain ⟨e3, e4⟩ := putPast_inj (by simpa using hl) (fun x hx => hp x (by simp [hx])) (fun x hx => hq x (by simp [hx])) (show putPast p ++ 32 :: r = putPast q ++ 32 :: s by rw [hw1, hw2, e2])
    exact ⟨by rw [et, e3], e4⟩
theorem pastOk_all {p : List Tag} (h : pastOk p = true) : ∀ t ∈ p, tagOk t.time t.place = true := by
  simp only [pastOk, Bool.and_eq_true, List.all_eq_true] at h; exact h.2
theorem verOk_parts {v : Ver} (h : verOk v = true) : (0 ≤ v.key ∧ v.key ≤ 3) ∧ textOk v.text = true ∧ (v.gone = true → v.text.size = 0) ∧ pastOk v.past = true ∧ tagOk v.tag.time v.tag.place = true ∧ latest v.past < v.tag.time := by
  simp only [verOk, written, within, Bool.and_eq_true, decide_eq_true_eq, Bool.or_eq_true, Bool.not_eq_true', noText] at h
  obtain ⟨⟨⟨⟨⟨⟨h1, h2⟩, h3⟩, h4⟩, h5⟩, h6⟩, h7⟩ := h
  refine ⟨⟨h1, h2⟩, h3, fun hg => ?_, h5, h6, h7⟩
  rcases h4 with h4 | h4
  · rw [hg] at h4; cases h4
  · exact h4
theorem bytes_ext {s t : ByteArray} (h : s.data.toList = t.data.toList) : s = t := by
  rw [← tx_eta s, ← tx_eta t, h]
theorem bytes_nil {s : ByteArray} (h : s.size = 0) : s.data.toList = [] := List.eq_nil_of_length_eq_zero (by simpa using h)
theorem putVer_inj {v u : Ver} (hv : verOk v = true) (hu : verOk u = true) (h : putVer v = putVer u) : v = u := by
  obtain ⟨⟨k1, k2⟩, _, g1, p1, t1, _⟩ := verOk_parts hv
  obtain ⟨⟨k3, k4⟩, _, g2, p2, t2, _⟩ := verOk_parts hu
  obtain ⟨e1, e2⟩ := cut_inj h (decL_not (by decide)) (decL_not (by decide))
  have e1 := decL_inj e1
  have l1 := pastOk_len p1
  have l2 := pastOk_len p2
  have e3 : putPast (v.tag :: v.past) ++ 32 :: putRest v = putPast (u.tag :: u.past) ++ 32 :: putRest u := by
    simp only [putPast, List.flatMap_cons, List.cons_append, List.append_assoc] at e2 ⊢
    rw [e2]
  obtain ⟨e4, e5⟩ := putPast_inj (by simp [l1, l2]) (fun t ht => by
    rcases List.mem_cons.1 ht with rfl | ht
    · exact t1
    · exact pastOk_all p1 t ht) (fun t ht => by
    rcases List.mem_cons.1 ht with rfl | ht
    · exact t2
    · exact pastOk_all p2 t ht) e3
  injection e4 with e6 e7
  have e8 : v.gone = u.gone ∧ v.text = u.text := by
    unfold putRest at e5
    cases hg : v.gone <;> cases hg2 : u.gone <;> simp only [hg, hg2, cond_true, cond_false, List.cons.injEq] at e5
    · exact ⟨rfl, bytes_ext e5.2⟩
    · exact absurd e5.1 (by decide)
    · exact absurd e5.1 (by decide)
    · exact ⟨rfl, bytes_ext (by rw [bytes_nil (g1 hg), bytes_nil (g2 hg2)])⟩
  cases v; cases u
  simp only [Ver.mk.injEq] at *
  exact ⟨by omega, e6, e7, e8.2, e8.1⟩
theorem same_iff {v u : Ver} : sameVer v u = true ↔ v = u := by
  cases v with | mk k1 t1 p1 s1 g1 => cases u with | mk k2 t2 p2 s2 g2 =>
  cases t1; cases t2
  simp only [sameVer, Bool.and_eq_true, beq_iff_eq, decide_eq_true_eq, Ver.mk.injEq, Tag.mk.injEq]
  constructor
  · rintro ⟨⟨⟨⟨h1, h2⟩, h3⟩, h4⟩, h5⟩
    exact ⟨h1, h2, h3, bytes_ext (by rwa [ByteArray.toList_eq, ByteArray.toList_eq] at h4), h5⟩
  · rintro ⟨h1, h2, h3, h4, h5⟩
    exact ⟨⟨⟨⟨h1, h2⟩, h3⟩, by rw [h4]⟩, h5⟩
theorem putVer_same {v u : Ver} (hv : verOk v = true) (hu : verOk u = true) : (putVer v == putVer u) = sameVer v u := by
  rw [Bool.eq_iff_iff, beq_iff_eq, same_iff]
  exact ⟨putVer_inj hv hu, fun h => by rw [h]⟩

section
variable {lo : Nat} {ro ro' : Bool} {h : Heap} {F F' : List Nat} {a a' : Option (Nat × Nat)} {c c' : Option Nat}
theorem dig_bytes {n : Int} (h0 : 0 ≤ n) (h1 : n < 10) : bytesOf [IntKind.wrap .u8 (IntKind.wrap .i64 (48 + n))] = tx [UInt8.ofNat (48 + n.toNat)] := by
  have e : IntKind.wrap .u8 (IntKind.wrap .i64 (48 + n)) = ((48 + n.toNat : Nat) : Int) := by
    rw [wr (by omega) (by omega)]
    obtain ⟨k, rfl⟩ := Int.eq_ofNat_of_zero_le h0
    have : k < 10 := by omega
    rcases k with _ | _ | _ | _ | _ | _ | _ | _ | _ | _ | k <;> first | rfl | omega
  rw [e]
  rfl
theorem spec_l1Dec : ∀ {n : Int}, 0 ≤ n → n ≤ 1000000000 → ∀ {lo : Nat} {h : Heap}, evl lo 275 [.int .i64 n] h = some (.str (tx (decL n.toNat)), h) := by
  suffices ∀ (m : Nat) (n : Int), n.toNat = m → 0 ≤ n → n ≤ 1000000000 → ∀ {lo : Nat} {h : Heap}, evl lo 275 [.int .i64 n] h = some (.str (tx (decL n.toNat)), h) from fun {n} h0 h1 {lo} {h} => this n.toNat n rfl h0 h1
  intro m
  induction m using Nat.strongRecOn with
  | ind m ih =>
    intro n hm h0 h1 lo h
    by_cases h10 : n < 10
    · refine E_spec_l1Dec (h' := h ++ [.rows 1 5 false [[.int .u8 (IntKind.wrap .u8 (IntKind.wrap .i64 (48 + n)))]]]) ?_
      rw [br_neg (by omega), br_neg (by omega), br_pos h10]
      simp only [rows_one, byteRows, eO_s]
      rw [dig_bytes h0 h10]
      unfold decL
      rw [if_pos (by omega)]
    · have e1 : n.tdiv 10 = n / 10 := Int.tdiv_eq_ediv_of_nonneg h0
      have e2 : n.tmod 10 = n % 10 := Int.tmod_eq_emod_of_nonneg h0
      refine E_spec_l1Dec (h' := h ++ [.rows 1 5 false [[.int .u8 (IntKind.wrap .u8 (IntKind.wrap .i64 (48 + n.tmod 10)))]]]) ?_
      have hl := decL_len (n / 10).toNat
      rw [br_neg (by omega), br_neg (by omega), br_neg h10, e1, wr (by omega) (by omega), ih (n / 10).toNat (by omega) (n / 10) rfl (by omega) (by omega)]
      simp only [cal_s, eT_s, rows_one, byteRows, eO_s]
      rw [e2, dig_bytes (by omega) (by omega), cat_of (by rw [tx_size, tx_size]; simp only [List.length_singleton]; omega), tx_app]
      conv => rhs; unfold decL
      rw [if_neg (by omega), show (n / 10).toNat = n.toNat / 10 by omega, show (n % 10).toNat = n.toNat % 10 by omega]
theorem putTag_len {t : Tag} (h : tagOk t.time t.place = true) : (putTag t).length ≤ 1010 := by
  have h1 := tagOk_time h
  have h2 := decL_len t.time.toNat
  have h3 := decL_len t.place.toNat
  simp only [putTag, List.length_append, List.length_cons]; omega
theorem spec_l1Put {t : Tag} (ht : tagOk t.time t.place = true) : evl lo 276 [.agg [.int .i64 t.time, .int .i64 t.place]] h = some (.str (tx (putTag t)), h) := by
  have h1 := tagOk_time ht
  have h2 := decL_len t.time.toNat
  have h3 := decL_len t.place.toNat
  refine E_spec_l1Put (h' := h) ?_
  rw [spec_l1Dec (by omega) (by omega)]
  simp only [cal_s, eT_s]
  rw [cat_of (by rw [tx_size, tx_size]; simp only [List.length_singleton]; omega), tx_app, spec_l1Dec (by omega) (by omega)]
  simp only [cal_s, eT_s]
  rw [cat_of (by rw [tx_size, tx_size]; simp only [List.length_append, List.length_singleton]; omega), tx_app]
  simp [putTag]
theorem putPast_len {l : List Tag} (h : ∀ t ∈ l, tagOk t.time t.place = true) : (putPast l).length ≤ 1011 * l.length := by
  induction l with
  | nil => simp [putPast]
  | cons t l ih =>
    have h1 := ih fun x hx => h x (by simp [hx])
    have h2 := putTag_len (h t (by simp))
    simp only [putPast, List.flatMap_cons, List.length_append, List.length_cons] at h1 ⊢; omega
theorem spec_l2Past {l : List Tag} (hs : RTags ro h [.sl 2 a l.length c] l F) (hp : ∀ t ∈ l, tagOk t.time t.place = true) (hn : l.length ≤ 1048576) : evl lo 277 [.agg [.sl 2 a l.length c]] h = some (.str (tx (putPast l)), h) := by
  refine E_spec_l2Past (h' := h) ?_
  have loop : ∀ m i, m + i = l.length → L_spec_l2Past_0 (List.length h) (tx (putPast (l.take i))) (i : Nat) a l.length c h = some (.str (tx (putPast l)), h) := by
    intro m
    induction m with
    | zero =>
      intro i hi
      have : i = l.length := by omega
      subst this
      rw [L_spec_l2Past_0.e, br_neg (by omega), List.take_length]
    | succ m ih =>
      intro i hi
      have hlt : i < l.length := by omega
      obtain ⟨o, ha, ho⟩ := hs.get hlt
      have hl := putPast_len (l := l.take i) fun t ht => hp t (List.mem_of_mem_take ht)
      have hl2 := putTag_len (hp _ (List.getElem_mem hlt))
      simp only [List.length_take] at hl
      rw [L_spec_l2Past_0.e, br_pos (by omega), cat_of (by rw [tx_size, tx_size]; simp only [List.length_singleton]; omega), inB_nat hlt]
      simp only [ha, eO_s, Int.toNat_natCast, ho, eC_c, eI_int, eN_n]
      rw [spec_l1Put (hp _ (List.getElem_mem hlt))]
      simp only [cal_s, eT_s]
      rw [tx_app, cat_of (by rw [tx_size, tx_size]; simp only [List.length_append, List.length_singleton]; omega), tx_app, wr_succ (by omega), ← ha]
      have e9 : putPast (l.take (i + 1)) = putPast (l.take i) ++ [32] ++ putTag l[i] := by
        rw [List.take_add_one, List.getElem?_eq_getElem hlt]
        simp only [putPast, Option.toList, List.flatMap_append, List.flatMap_cons, List.flatMap_nil, List.append_nil, List.append_assoc, List.singleton_append]
      have := ih (i + 1) (by omega)
      rw [e9] at this
      exact this
  simpa [putPast] using loop l.length 0 (by omega)
theorem textOk_size {s : ByteArray} (h : textOk s = true) : s.size ≤ 8 := by
  simp only [textOk, Bool.and_eq_true, decide_eq_true_eq] at h; omega
theorem spec_l2Put {v : Ver} (hs : RTags ro h [.sl 2 a v.past.length c] v.past F) (hv : verOk v = true) : evl lo 262 [.agg (v.cs a c)] h = some (.str (tx (putVer v)), h) := by
  obtain ⟨⟨k1, k2⟩, ht, _, hp, htg, _⟩ := verOk_parts hv
  have h0 := textOk_size ht
  have h4 := pastOk_len hp
  have h1 := decL_len v.key.toNat
  have h2 := putTag_len htg
  have h3 := putPast_len (pastOk_all hp)
  rw [h4] at h3
  have e := fun lo => spec_l2Past (lo := lo) hs (pastOk_all hp) (by omega)
  have hts : (⟨⟨[61]⟩⟩ : ByteArray) ++ v.text = tx (61 :: v.text.data.toList) := by rw [← tx_eta v.text]; exact tx_app
  have key : ∀ (r : List UInt8) {T : Type} (K : ByteArray → Heap → Option T), r.length ≤ 9 → (cal (evl (List.length h) 275 [.int .i64 v.key] h) fun v_1 h_2 => eT v_1 fun s_3 => cat s_3 ⟨⟨[32]⟩⟩ fun s_4 => cal (evl (List.length h) 276 [.agg [.int .i64 v.tag.time, .int .i64 v.tag.place]] h_2) fun v_5 h_6 => eT v_5 fun s_7 => cat s_4 s_7 fun s_8 =>
      cal (evl (List.length h) 277 [.agg [.sl 2 a v.past.length c]] h_6) fun v_9 h_10 => eT v_9 fun s_11 => cat s_8 s_11 fun s_12 => cat s_12 ⟨⟨[32]⟩⟩ fun s_13 => cat s_13 (tx r) fun s_14 => K s_14 h_10) = K (tx (decL v.key.toNat ++ 32 :: (putTag v.tag ++ putPast v.past ++ 32 :: r))) h := by
    intro r T K hr
    rw [spec_l1Dec (by omega) (by omega)]
    simp only [cal_s, eT_s]
    rw [cat_of (by rw [tx_size, tx_size]; simp only [List.length_singleton]; omega)]
    rw [spec_l1Put htg]
    simp only [cal_s, eT_s]
    rw [tx_app, cat_of (by rw [tx_size, tx_size]; simp only [List.length_append, List.length_singleton]; omega)]
    rw [e]
    simp only [cal_s, eT_s]
    rw [tx_app, cat_of (by rw [tx_size, tx_size]; simp only [List.length_append, List.length_singleton]; omega)]
    rw [tx_app, cat_of (by rw [tx_size, tx_size]; simp only [List.length_append, List.length_singleton]; omega)]
    rw [tx_app, cat_of (by rw [tx_size, tx_size]; simp only [List.length_append, List.length_singleton]; omega)]
    rw [tx_app]
    simp
  refine E_spec_l2Put (h' := h) ?_
  rw [cat_of (by rw [tx_size]; simp only [List.length_singleton]; omega), hts]
  cases hg : v.gone
  · rw [br_f]
    refine (key (61 :: v.text.data.toList) (T := V × Heap) (fun s h => some (V.str s, h)) (by simp; omega)).trans ?_
    simp [putVer, putRest, hg]
  · rw [br_t]
    refine (key [45] (T := V × Heap) (fun s h => some (V.str s, h)) (by simp)).trans ?_
    simp [putVer, putRest, hg]
theorem spec_l2Same {v u : Ver} (hs : RTags ro h [.sl 2 a v.past.length c] v.past F) (hs' : RTags ro' h [.sl 2 a' u.past.length c'] u.past F') (hv : verOk v = true) (hu : verOk u = true) :
    evl lo 236 [.agg (v.cs a c), .agg (u.cs a' c')] h = some (.bool (sameVer v u), h) := by
  refine E_spec_l2Same (h' := h) ?_
  rw [spec_l2Put hs hv]; simp only [cal_s, eT_s]
  rw [spec_l2Put hs' hu]; simp only [cal_s, eT_s, tx_toList]
  rw [putVer_same hv hu]
  cases sameVer v u <;> rfl
end
end Go.Proofs.YtfhnofppfacemaaGreat
namespace Go.Proofs.YtfhnofppfacemaaGreat
open Go T
set_option linter.unusedVariables false
set_option linter.unusedSimpArgs false
/-- an element of a slice, to be changed: what it holds, or its row anew -/
theorem Sli.at {α : Type} {El : Rel α} (ok : El.Ok) {h : Heap} {R R' e n k lo : Nat} {a : Option (Nat × Nat)} {c : Option Nat} {l : List α} {F : List Nat} (hs : Sli false R e El h [.sl R' a n c] l F) (hk : k < l.length) (hnd : F.Nodup) (hlo : ∀ b ∈ F, lo ≤ b) :
    ∃ b i rs row G, a = some (b, i) ∧ b ∈ F ∧ b ∉ G ∧ h[b]? = some (.rows R e false rs) ∧ rs[i + k]? = some row ∧ El h row l[k] G ∧ (∀ y ∈ G, y ∈ F) ∧ G.Nodup ∧
      (∀ h' x' G', Mv h G h' G' → El h' row x' G' → ∃ F', Sli false R e El h' [.sl R' a n c] (l.set k x') F' ∧ Mv h F h' F') ∧
      (∀ h1 G1 j cs row' x', Mv h G h1 G1 → paste row j cs = some row' → El h1 row' x' G1 →
        ∃ h2 F', st lo h1 b (i + k) j cs = some h2 ∧ Sli false R e El h2 [.sl R' a n c] (l.set k x') F' ∧ Mv h F h2 F' ∧ h2[b]? = some (.rows R e false (rs.set (i + k) row')) ∧ (∀ y, y ≠ b → h2[y]? = h1[y]?) ∧ h2.length = h1.length) := by
  have hbd := (Sli.ok ok).bd _ _ _ _ hs
  obtain ⟨b, i, rs, row, G, ha, hbF, hbG, hb, hrow, hel, hGF, hGn, put⟩ := hs.put ok.fr hk hnd
  have hblt : b < h.length := hbd b hbF
  refine ⟨b, i, rs, row, G, ha, hbF, hbG, hb, hrow, hel, hGF, hGn, fun h' x' G' m hx => ?_, fun h1 G1 j cs row' x' m hp hx => ?_⟩
  · obtain ⟨F', p1, p2, p3, _⟩ := put h' row x' G' (by rw [set_same hrow, m.fr b hblt hbG]; exact hb) (fun y hy _ hyG => m.fr y (hbd y hy) hyG) hx m.nd (fun y hy hyF => by
      rcases m.sub y hy with h1 | h1
      · exact h1
      · have := hbd y hyF; omega)
    refine ⟨F', p1, m.le, fun y hy hyF => m.fr y hy fun hg => hyF (hGF y hg), p3, fun y hy => ?_⟩
    rcases p2 y hy with h1 | h1
    · exact .inl h1.1
    · exact (m.sub y h1).imp (hGF y) id
  · have hbG1 : b ∉ G1 := fun hm => by
      rcases m.sub b hm with h1 | h1
      · exact hbG h1
      · omega
    have hb1 : h1[b]? = some (.rows R e false rs) := by rw [m.fr b hblt hbG]; exact hb
    have hb1lt : b < h1.length := Nat.lt_of_lt_of_le hblt m.le
    have e2 := st_first hb1 (hlo b hbF) hrow hp
    have fr2 : ∀ y, y ≠ b → (h1.set b (.rows R e false (rs.set (i + k) row')))[y]? = h1[y]? := fun y hy => List.getElem?_set_ne (Ne.symm hy)
    obtain ⟨F', p1, p2, p3, _⟩ := put (h1.set b (.rows R e false (rs.set (i + k) row'))) row' x' G1 (by simp [hb1lt]) (fun y hy hyb hyG => by rw [fr2 y hyb]; exact m.fr y (hbd y hy) hyG)
      (ok.fr _ _ _ _ _ hx fun y hy => fr2 y fun e => hbG1 (e ▸ hy)) m.nd (fun y hy hyF => by
      rcases m.sub y hy with h1 | h1
      · exact h1
      · have := hbd y hyF; omega)
    refine ⟨_, F', e2, p1, ⟨by simpa using m.le, fun y hy hyF => ?_, p3, fun y hy => ?_⟩, by simp [hb1lt], fr2, by simp⟩
    · rw [fr2 y fun e => hyF (e ▸ hbF)]
      exact m.fr y hy fun hg => hyF (hGF y hg)
    · rcases p2 y hy with h1 | h1
      · exact .inl h1.1
      · refine (m.sub y h1).imp (hGF y) fun h => by simpa using h

def lessV (v u : Ver) : Bool := less v.tag.time v.tag.place u.tag.time u.tag.place
def sameVers (s t : List Ver) : Bool := decide (s.length = t.length) && (s.zip t).all fun x => sameVer x.1 x.2
theorem sameVers_iff {s t : List Ver} : sameVers s t = true ↔ s = t := by
  unfold sameVers
  rw [Bool.and_eq_true, decide_eq_true_eq, List.all_eq_true]
  constructor
  · rintro ⟨hl, hx⟩
    apply List.ext_getElem hl
    intro i h1 h2
    have := hx (s[i], t[i]) (by rw [List.mem_iff_getElem]; exact ⟨i, by simp; omega, by simp⟩)
    exact same_iff.1 this
  · rintro rfl
    refine ⟨rfl, fun x hx => ?_⟩
    obtain ⟨i, hi, rfl⟩ := List.mem_iff_getElem.1 hx
    simp [same_iff]
def addVer (l : List Ver) (v : Ver) : List Ver := match l[v.key.toNat]? with
  | some x => bif lessV x v then l.set v.key.toNat v else l
  | none => l
theorem addVer_get {l : List Ver} {v : Ver} (h : v.key.toNat < l.length) : addVer l v = bif lessV l[v.key.toNat] v then l.set v.key.toNat v else l := by
  unfold addVer; rw [List.getElem?_eq_getElem h]
theorem verAt_ok {v : Ver} (h : verOk v = true) : verAt v.key.toNat v = true := by
  have := (verOk_parts h).1
  unfold verAt
  rw [h, show (v.key == ((v.key.toNat : Nat) : Int)) = true by rw [beq_iff_eq]; omega]; simp
theorem storeOk_set {l : List Ver} {v : Ver} (hl : storeOk l = true) (hv : verOk v = true) : storeOk (l.set v.key.toNat v) = true := by
  have h4 := storeOk_len hl
  unfold storeOk
  rw [Bool.and_eq_true, List.all_eq_true, decide_eq_true_eq]
  refine ⟨fun x hx => ?_, by simpa using h4⟩
  rw [List.mem_zipIdx_iff_getElem?] at hx
  have hi := (List.getElem?_eq_some_iff.1 hx).1
  rw [List.getElem?_set] at hx
  split at hx
  · rename_i he
    split at hx
    · injection hx with hx
      rw [← hx, ← he]; exact verAt_ok hv
    · cases hx
  · rw [List.getElem?_eq_getElem (by simpa using hi)] at hx
    injection hx with hx
    rw [← hx]
    exact storeOk_get hl _
/-- what waits, laid upon a store; nothing if something is not later -/
def fitsL : List Ver → List Ver → Option (List Ver)
  | s, [] => some s
  | s, v :: r => match s[v.key.toNat]? with
    | some x => bif lessV x v then fitsL (s.set v.key.toNat v) r else none
    | none => none
def fits (x : Node) (next : List Ver) : Bool := match fitsL next x.wait with
  | some s => sameVers s x.store
  | none => false
def nodeOk (x : Node) : Bool := storeOk x.store && decide ((x.wait.length : Int) ≤ 6) && x.wait.all verOk
def linkAt (l : List Node) (k : Nat) (x : Node) : Bool := match l[k + 1]? with
  | some y => fits x y.store
  | none => decide (x.wait.length = 0)
def chainOk (l : List Node) : Bool := within l.length 1 4 && l.all nodeOk && l.zipIdx.all fun x => linkAt l x.2 x.1
theorem nodeOk_parts {x : Node} (h : nodeOk x = true) : storeOk x.store = true ∧ x.wait.length ≤ 6 ∧ ∀ v ∈ x.wait, verOk v = true := by
  simp only [nodeOk, Bool.and_eq_true, decide_eq_true_eq, List.all_eq_true] at h
  exact ⟨h.1.1, by have := h.1.2; omega, h.2⟩

section
variable {lo : Nat} {h : Heap} {F F' : List Nat} {a a' : Option (Nat × Nat)} {c c' : Option Nat}
theorem impl_later {l : List Ver} {v : Ver} {ro : Bool} {ca : Option (Nat × Nat)} {cc : Option Nat} {n : Nat} (hs : RVers ro h [.sl 6 a l.length c] l F) (hk : 0 ≤ v.key ∧ v.key < l.length) :
    evl lo 192 [.agg [.sl 6 a l.length c], .agg [.int .i64 v.key, .int .i64 v.tag.time, .int .i64 v.tag.place, .sl 2 ca n cc, .str v.text, .bool v.gone]] h = some (.bool (lessV (l[v.key.toNat]'(by omega)) v), h) := by
  refine E_impl_Store_later (h' := h) ?_
  obtain ⟨o, s, b, d, G, ha, _, _, _, _, _, _, ho12, _⟩ := hs.all (show v.key.toNat < l.length by omega)
  rw [inB_in ⟨by omega, by omega⟩, ha]
  simp only [eO_s, ho12, eC_c, eI_int, eN_n, impl_TagLess, cal_s, eB_b]
  unfold lessV
  cases less _ _ _ _ <;> rfl
theorem impl_EqualFunc {l l' : List Ver} {ro ro' : Bool} (hs : RVers ro h [.sl 6 a l.length c] l F) (hs' : RVers ro' h [.sl 6 a' l'.length c'] l' F') (hn : smVers l) :
    evl lo 229 [.sl 6 a l.length c, .sl 6 a' l'.length c', .fn 230 []] h = some (.bool (sameVers l l'), h) := by
  have hn1 := hn.1
  refine E_slices_EqualFunc_impl_Ver_impl_Ver_impl_Ver_impl_Ver (h' := h) ?_
  unfold sameVers
  by_cases hl : l.length = l'.length
  · rw [show ((l.length : Int) == (l'.length : Int)) = true by simp; omega, br_t, decide_eq_true hl]
    have hz : (l.zip l').length = l.length := by simp; omega
    refine (all_loop (p := fun x : Ver × Ver => sameVer x.1 x.2) (l := l.zip l') (fun i => L_slices_EqualFunc_impl_Ver_impl_Ver_impl_Ver_impl_Ver_0 (List.length h) a' l'.length c' 230 [] false a l.length c (l.length : Nat) (i : Nat) h) (some (.bool false, h)) (some (.bool true, h)) (fun i hi => ?_) ?_).trans ?_
    · have hil : i < l.length := by omega
      have hil' : i < l'.length := by omega
      obtain ⟨o, s, b, d, G, ha, ho, es, hp, _⟩ := hs.get hil
      obtain ⟨o', s', b', d', G', ha', ho', es', hp', _⟩ := hs'.get hil'
      rw [L_slices_EqualFunc_impl_Ver_impl_Ver_impl_Ver_impl_Ver_0.e, br_pos (by omega), inB_nat hil]
      simp only [ha, ha', eO_s, Int.toNat_natCast, ho, ho', eC_c, eI_int, es, es', eT_s, eBv_b, eN_n, inB_nat hil', fnArgs, List.append_nil]
      rw [impl_same hp hp' (hn.2 _ (List.getElem_mem hil)).1]
      simp only [cal_s, eB_b, List.getElem_zip, wr_succ (show i < 9223372036854775807 by omega)]
      cases sameVer l[i] l'[i] <;> simp
    · rw [hz, L_slices_EqualFunc_impl_Ver_impl_Ver_impl_Ver_impl_Ver_0.e, br_neg (by omega)]
    · cases (l.zip l').all fun x => sameVer x.1 x.2 <;> rfl
  · rw [show ((l.length : Int) == (l'.length : Int)) = false by simp; omega, br_f, decide_eq_false hl]; rfl
theorem impl_Store_same {l l' : List Ver} {ro ro' : Bool} (hs : RVers ro h [.sl 6 a l.length c] l F) (hs' : RVers ro' h [.sl 6 a' l'.length c'] l' F') (hn : smVers l) :
    evl lo 239 [.agg [.sl 6 a l.length c], .agg [.sl 6 a' l'.length c']] h = some (.bool (sameVers l l'), h) := by
  refine E_impl_Store_same (h' := h) ?_
  rw [impl_EqualFunc hs hs' hn]; simp only [cal_s, eB_b]
  cases sameVers l l' <;> rfl
theorem spec_l2Add {l : List Ver} {v : Ver} {av : Option (Nat × Nat)} {cv : Option Nat} {G : List Nat} (hs : RVers false h [.sl 6 a l.length c] l F) (hv : RTags false h [.sl 2 av v.past.length cv] v.past G)
    (hnd : F.Nodup) (hlo : ∀ b ∈ F, lo ≤ b) (hl : lo ≤ h.length) (hk : 0 ≤ v.key ∧ v.key < l.length) (hn : v.past.length ≤ 1048576) :
    ∃ h' F', evl lo 246 [.agg [.sl 6 a l.length c], .agg (v.cs av cv)] h = some (.agg [.sl 6 a l.length c], h') ∧ RVers false h' [.sl 6 a l.length c] (addVer l v) F' ∧ Mv h F h' F' := by
  have hkl : v.key.toNat < l.length := by omega
  obtain ⟨o, s, b, d, G1, ha, _, _, _, _, _, _, ho12, _⟩ := hs.all hkl
  suffices hk : ∃ h' F', _ = some (V.agg [.sl 6 a l.length c], h') ∧ RVers false h' [.sl 6 a l.length c] (addVer l v) F' ∧ Mv h F h' F' from hk.imp fun h' hk => hk.imp fun F' hk => ⟨E_spec_l2Add hk.1, hk.2⟩
  rw [inB_in ⟨by omega, by omega⟩]
  simp only [ha, eO_s, ho12, eC_c, eI_int, eN_n, spec_l1Less, cal_s, eB_b]
  rw [addVer_get hkl]
  show ∃ h' F', br (lessV l[v.key.toNat] v) _ _ = _ ∧ _
  cases hle : lessV l[v.key.toNat] v with
  | false => exact ⟨h, F, rfl, by rw [← ha]; exact hs, Mv.refl hnd⟩
  | true =>
    obtain ⟨b2, i2, rs, row, G2, ha2, hb2, hbG2, hbb, hrow, hel, hGF, hGn, _, wr⟩ := hs.at rver_ok hkl hnd hlo
    obtain ⟨a3, c3, h3, F3, e3, r3, m3⟩ := spec_l2Copy (lo := lo) (v := v) hv hl hn
    have hab : o = (b2, i2) := by rw [ha] at ha2; injection ha2
    subst hab
    obtain ⟨h4, F4, e4, r4, m4, _⟩ := wr h3 F3 0 (v.cs a3 c3) (v.cs a3 c3) v (m3.wide (by simp)) (paste_all (by obtain ⟨s, rfl, _⟩ := hel; rfl)) ⟨_, rfl, r3⟩
    rw [br_t, e3]
    simp only [cal_s, eA_a, eC_c, eI_int, eS_sl, eT_s, eBv_b, eN_n]
    rw [inB_in ⟨by omega, by omega⟩, e4]
    exact ⟨h4, F4, rfl, by rw [← ha]; exact r4, m4⟩
end
end Go.Proofs.YtfhnofppfacemaaGreat
