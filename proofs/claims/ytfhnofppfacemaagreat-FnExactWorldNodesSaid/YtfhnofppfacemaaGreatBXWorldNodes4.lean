/- Part 4 of what is shown for the law FnExactWorldNodes, whatever the input; no condition of its own. -/
import Derived.Test.YtfhnofppfacemaaGreatBXWorldNodes3
namespace Go.Proofs.YtfhnofppfacemaaGreat
open Go T
set_option linter.unusedVariables false
set_option linter.unusedSimpArgs false
theorem br_if {T : Type} {b : Bool} {x y : Option T} : br b x y = if b = true then x else y := by cases b <;> rfl
/-- a row laid anew, whole; its data may be another's, too -/
theorem Sli.row {α : Type} {El : Rel α} (hfr : El.Fr) {R R' e n k lo b i : Nat} (hln : El.Ln R) {h : Heap} {c : Option Nat} {l : List α} {G Gx : List Nat} {row : List V} {x : α} (hs : Sli false R e El h [.sl R' (some (b, i)) n c] l (b :: G)) (hb : b ∉ G) (hk : k < l.length) (hlo : lo ≤ b)
    (hx : El h row x Gx) (hbx : b ∉ Gx) : ∃ h' G', st lo h b (i + k) 0 row = some h' ∧ Sli false R e El h' [.sl R' (some (b, i)) n c] (l.set k x) (b :: G') ∧ b ∉ G' ∧ h'.length = h.length ∧ ∀ y, y ≠ b → h'[y]? = h[y]? := by
  have hn := hs.val
  subst hn
  obtain ⟨R1, a1, c1, e1, e2⟩ := hs
  injection e1 with e1 _; injection e1 with e0 e3 _ e4
  subst e0; subst e3; subst e4
  obtain ⟨hR, rs, Fs, g1, g2, g3, g4, g5, g6⟩ := e2
  injection g6 with _ g6
  subst g6
  obtain ⟨row0, G0, k1, k2, k3⟩ := g5.get (List.getElem?_eq_getElem hk)
  have hblt : b < h.length := (List.getElem?_eq_some_iff.1 g1).1
  have hrow : rs[i + k]? = some row0 := by rw [List.getElem?_take_of_lt hk, List.getElem?_drop] at k1; exact k1
  have hp : paste row0 0 row = some row := paste_all (by rw [hln _ _ _ _ k3, hln _ _ _ _ hx])
  have fr2 : ∀ y, y ≠ b → (h.set b (.rows R e false (rs.set (i + k) row)))[y]? = h[y]? := fun y hy => List.getElem?_set_ne (Ne.symm hy)
  have hl1 : ((rs.set (i + k) row).drop i).take l.length = ((rs.drop i).take l.length).set k row := by
    rw [List.drop_set, if_neg (by omega), show i + k - i = k by omega, List.take_set]
  refine ⟨_, (Fs.set k Gx).flatten, st_first g1 hlo hrow hp, ⟨R', some (b, i), c, by simp, hR, rs.set (i + k) row, Fs.set k Gx, by simp [hblt], by simpa using g2, fun q hq => by simpa using g3 q hq, g4, ?_, rfl⟩, fun hm => ?_, by simp, fr2⟩
  · rw [List.length_set, hl1]
    exact EAll.set (g5.fr hfr fun y hy => fr2 y fun e => hb (e ▸ hy)) (hfr _ _ _ _ _ hx fun y hy => fr2 y fun e => hbx (e ▸ hy))
  · rcases flatten_set_mem hm with h6 | h6
    · exact hb h6
    · exact hbx h6
theorem rver_ln {ro : Bool} : (RVer ro).Ln 6 := by rintro h cs x F ⟨s, rfl, _⟩; rfl
theorem zero_is {v : Ver} (h : zeroVer v = true) : v = ⟨0, ⟨0, 0⟩, [], ⟨⟨[]⟩⟩, false⟩ := by
  obtain ⟨k, ⟨t1, t2⟩, p, s, g⟩ := v
  simp only [zeroVer, noText, Bool.and_eq_true, beq_iff_eq, decide_eq_true_eq, Bool.not_eq_true'] at h
  obtain ⟨⟨⟨⟨h1, h2, h3⟩, h4⟩, h5⟩, h6⟩ := h
  simp only [Ver.mk.injEq, Tag.mk.injEq]
  exact ⟨h1, ⟨h2, h3⟩, List.eq_nil_of_length_eq_zero h4, bytes_ext (by rw [bytes_nil h5]), h6⟩
theorem verAt_case {i : Nat} {v : Ver} (h : verAt i v = true) : zeroVer v = true ∨ (verOk v = true ∧ v.key = i) := by
  simp only [verAt, Bool.or_eq_true, Bool.and_eq_true, beq_iff_eq] at h; exact h
theorem zero_time {v : Ver} (h : zeroVer v = true) : v.tag.time = 0 ∧ v.tag.place = 0 := by rw [zero_is h]; exact ⟨rfl, rfl⟩
theorem storeOk_sm {l : List Ver} (h : storeOk l = true) : smVers l := by
  refine ⟨by have := storeOk_len h; omega, fun v hv => ?_⟩
  obtain ⟨i, hi, rfl⟩ := List.mem_iff_getElem.1 hv
  rcases verAt_case (storeOk_get h hi) with h1 | ⟨h1, _⟩
  · rw [zero_is h1]; exact ⟨by simp, by show 0 ≤ _; omega⟩
  · obtain ⟨_, h2, _, h3, _⟩ := verOk_parts h1
    have := textOk_size h2
    have := pastOk_len h3
    omega

section
variable {lo : Nat} {h : Heap} {F F' : List Nat} {a a' : Option (Nat × Nat)} {c c' : Option Nat}
theorem impl_nodesOk {n : Int} : evl lo 203 [.int .i64 n] h = some (.bool (within n 1 4), h) := E_impl_nodesOk (h' := h) (by simp [impl_within])
theorem impl_last {n k : Nat} (hn : n ≤ 1048576) : evl lo 207 [.agg [.sl 2 a n c], .int .i64 (k : Nat)] h = some (.bool (decide (k + 1 = n)), h) := by
  refine E_impl_Chain_last (h' := h) ?_
  rw [wr (by omega) (by omega)]
  by_cases hk : k + 1 = n
  · rw [show ((k : Int) == (n : Int) - 1) = true by rw [beq_iff_eq]; omega, decide_eq_true hk]; rfl
  · rw [show ((k : Int) == (n : Int) - 1) = false by rw [beq_eq_false_iff_ne]; omega, decide_eq_false hk]; rfl
theorem impl_fits {x : Node} {next : List Ver} {a1 a2 a3 : Option (Nat × Nat)} {c1 c2 c3 : Option Nat} {F1 F2 F3 : List Nat} (hs1 : RVers false h [.sl 6 a1 x.store.length c1] x.store F1) (hs2 : RVers false h [.sl 6 a2 x.wait.length c2] x.wait F2)
    (hs3 : RVers false h [.sl 6 a3 next.length c3] next F3) (hx : nodeOk x = true) (hnx : storeOk next = true) :
    evl lo 208 [.agg [.sl 6 a1 x.store.length c1, .sl 6 a2 x.wait.length c2], .agg [.sl 6 a3 next.length c3]] h = some (.bool (fits x next), h) := by
  obtain ⟨hx1, hx2, hx3⟩ := nodeOk_parts hx
  obtain ⟨a5, c5, h5, F5, e5, r5, m5⟩ := impl_Store_copied (lo := h.length) hs3 (Nat.le_refl _) (storeOk_sm hnx)
  have h4 := storeOk_len hnx
  suffices hk : ∃ h', _ = some (V.bool (fits x next), h') from hk.elim fun h' hk => E_impl_Node_fits hk
  rw [e5]; simp only [cal_s, eA_a, eC_c, eS_sl, eN_n]
  have loop : ∀ m i s hh b j G, m + i = x.wait.length → storeOk s = true → RVers false hh [.sl 6 (some (b, j)) s.length c5] s (b :: G) → b ∉ G → h.length ≤ b → Mv h [] hh [] →
      ∃ h', L_impl_Node_fits_0 (List.length h) false a2 x.wait.length c2 (x.wait.length : Nat) (i : Nat) a1 x.store.length c1 a2 x.wait.length c2 (some (b, j)) s.length c5 hh = some (V.bool (match fitsL s (x.wait.drop i) with | some s => sameVers s x.store | none => false), h') := by
    intro m
    induction m with
    | zero =>
      intro i s hh b j G hi hso hs hb hbl hm
      rw [L_impl_Node_fits_0.e, br_neg (by omega), impl_Store_same hs (hm.keep0 rvers_ok hs1) (storeOk_sm hso), show i = x.wait.length by omega, List.drop_length]
      simp only [cal_s, eB_b, fitsL]
      exact ⟨hh, by cases sameVers s x.store <;> rfl⟩
    | succ m ih =>
      intro i s hh b j G hi hso hs hb hbl hm
      have hlt : i < x.wait.length := by omega
      have hvo := hx3 _ (List.getElem_mem hlt)
      have hk := (verOk_parts hvo).1
      have hs4 := storeOk_len hso
      have hkl : x.wait[i].key.toNat < s.length := by omega
      obtain ⟨o, sv, b', d', G', ha, ho, es, hp, hG'⟩ := (hm.keep0 rvers_ok hs2).get hlt
      have hbl2 := rvers_ok.bd _ _ _ _ hs2
      rw [L_impl_Node_fits_0.e, br_pos (by omega), inB_nat hlt]
      simp only [ha, eO_s, Int.toNat_natCast, ho, eC_c, eI_int, es, eT_s, eBv_b, eN_n]
      rw [impl_later (v := x.wait[i]) hs ⟨by omega, by omega⟩]
      simp only [cal_s, eB_b]
      rw [List.drop_eq_getElem_cons hlt]
      simp only [fitsL, List.getElem?_eq_getElem hkl]
      cases hle : lessV s[x.wait[i].key.toNat] x.wait[i] with
      | false => exact ⟨hh, rfl⟩
      | true =>
        obtain ⟨h6, G6, e6, r6, n6, l6, f6⟩ := Sli.row rver_ok.fr rver_ln hs hb hkl hbl (row := x.wait[i].cs b' d') (x := x.wait[i]) ⟨_, rfl, hp⟩ (fun hm' => by have := hbl2 _ (hG' _ hm'); omega)
        rw [br_t, inB_in ⟨by omega, by omega⟩, e6, cond_true]
        simp only [eO_s]
        rw [← ha, wr_succ (by omega)]
        have m6 : Mv h [] h6 [] := ⟨by rw [l6]; exact hm.le, fun y hy hF => by rw [f6 y (by omega)]; exact hm.fr y hy hF, by simp, by simp⟩
        have := ih (i + 1) (s.set x.wait[i].key.toNat x.wait[i]) h6 b j G6 (by omega) (storeOk_set hso hvo) (by rw [List.length_set]; exact r6) n6 hbl m6
        rw [List.length_set] at this
        exact this
  have : ∃ b j G, a5 = some (b, j) ∧ F5 = b :: G ∧ b ∉ G ∧ h.length ≤ b := by
    obtain ⟨b, i, rs, Fs, h1, h2, _, _, _, _, rfl⟩ := r5.data (k := 0) (by omega)
    exact ⟨b, i, _, h1, rfl, (List.nodup_cons.1 m5.nd).1, m5.new b (by simp)⟩
  obtain ⟨b, j, G, rfl, rfl, hb, hbl⟩ := this
  have := loop x.wait.length 0 next h5 b j G (by omega) hnx r5 hb hbl m5.drop
  exact this
theorem impl_ChainOk {l : List Node} (hs : RNodes false h [.sl 2 a l.length c] l F) (hn : smNodes l) : evl lo 120 [.agg [.sl 2 a l.length c]] h = some (.bool (chainOk l), h) := by
  have hn1 := hn.1
  refine E_impl_ChainOk (h' := h) ?_
  rw [impl_nodesOk]; simp only [cal_s, eB_b]
  unfold chainOk
  cases hw : within (l.length : Int) 1 4 with
  | false => rfl
  | true =>
    have hl4 : 1 ≤ l.length ∧ l.length ≤ 4 := by simp [within] at hw; omega
    rw [br_t]
    refine (all_loop (p := nodeOk) (l := l) (fun i => L_impl_ChainOk_0 (List.length h) false a l.length c (l.length : Nat) (i : Nat) a l.length c h) (some (.bool false, h)) (L_impl_ChainOk_0 (List.length h) false a l.length c (l.length : Nat) (l.length : Nat) a l.length c h) (fun i hi => ?_) rfl).trans ?_
    · obtain ⟨o, s1, s2, a1, c1, a2, c2, F1, F2, ha, ho, _, _, e1, e2, p1, p2, _⟩ := hs.get hi
      have hm := hn.2 _ (List.getElem_mem hi)
      rw [L_impl_ChainOk_0.e, br_pos (by omega), inB_nat hi]
      simp only [ha, eO_s, Int.toNat_natCast, ho, eC_c, e1, e2, eN_n]
      rw [impl_StoreOk p1 hm.1]
      simp only [cal_s, eB_b]
      rw [ContainsFunc_Ver (p := fun v => !verOk v) p2 hm.2.1 (fun lo v av cv Gv hv hvp => E_impl_ChainOk_1 (h' := h) (by rw [impl_VerOk hvp (hm.2.2 v hv)]; simp only [cal_s, eB_b]; cases verOk v <;> rfl))]
      simp only [cal_s, eB_b, wr_succ (show i < 9223372036854775807 by omega), ← ha]
      unfold nodeOk
      rw [List.any_eq_not_all_not]
      simp only [Bool.not_not]
      by_cases h6 : (l[i].wait.length : Int) ≤ 6
      · rw [br_neg (by omega), decide_eq_true h6]
        cases storeOk l[i].store <;> cases l[i].wait.all verOk <;> simp
      · rw [br_pos (by omega), decide_eq_false h6]
        cases storeOk l[i].store <;> simp
    · cases hall : l.all nodeOk with
      | false => rfl
      | true =>
        rw [if_pos rfl, L_impl_ChainOk_0.e, br_neg (by omega)]
        have hno := List.all_eq_true.1 hall
        refine (all_idx (p := linkAt l) (l := l) (fun i => L_impl_ChainOk_2 (List.length h) false a l.length c (l.length : Nat) (i : Nat) a l.length c h) (some (.bool false, h)) (some (.bool true, h)) (fun i hi => ?_) ?_).trans ?_
        · obtain ⟨o, s1, s2, a1, c1, a2, c2, F1, F2, ha, ho, _, _, e1, e2, p1, p2, _⟩ := hs.get hi
          have hm := hn.2 _ (List.getElem_mem hi)
          rw [L_impl_ChainOk_2.e, br_pos (by omega), inB_nat hi]
          simp only [ha, eO_s, Int.toNat_natCast, ho, eC_c, e1, e2, eN_n, impl_last hn1, cal_s, eB_b]
          by_cases hk : i + 1 = l.length
          · rw [decide_eq_true hk, br_t, br_t]
            unfold linkAt
            rw [List.getElem?_eq_none (by omega)]
            simp only [wr_succ (show i < 9223372036854775807 by omega)]
            by_cases h0 : l[i].wait.length = 0
            · rw [br_neg (by omega), decide_eq_true h0]; rfl
            · rw [br_pos (by omega), decide_eq_false h0]; rfl
          · have hi1 : i + 1 < l.length := by omega
            obtain ⟨o', s1', s2', a1', c1', a2', c2', F1', F2', ha', _, ho1', _, e1', _, p1', _⟩ := hs.get hi1
            have hoo : o' = o := by rw [ha] at ha'; injection ha' with ha'; exact ha'.symm
            subst hoo
            rw [decide_eq_false hk, br_f]
            unfold linkAt
            rw [List.getElem?_eq_getElem hi1]
            simp only [br_f, wr_succ (show i < 9223372036854775807 by omega)]
            rw [inB_nat hi1]
            simp only [Int.toNat_natCast, ho1', eO_s, eC_c, e1', eN_n]
            rw [impl_fits p1 p2 p1' (hno _ (List.getElem_mem hi)) (nodeOk_parts (hno _ (List.getElem_mem hi1))).1]
            simp only [cal_s, eB_b]
            exact br_if
        · rw [L_impl_ChainOk_2.e, br_neg (by omega)]
        · cases (l.zipIdx.all fun x => linkAt l x.2 x.1) <;> simp
end
end Go.Proofs.YtfhnofppfacemaaGreat
namespace Go.Proofs.YtfhnofppfacemaaGreat
open Go T
set_option linter.unusedVariables false
set_option linter.unusedSimpArgs false
theorem chainOk_all {l : List Node} (h : chainOk l = true) : (1 ≤ l.length ∧ l.length ≤ 4) ∧ ∀ x ∈ l, nodeOk x = true := by
  simp only [chainOk, within, Bool.and_eq_true, decide_eq_true_eq, List.all_eq_true] at h
  exact ⟨⟨by omega, by omega⟩, h.1.2⟩
theorem chainOk_link {l : List Node} (h : chainOk l = true) {i : Nat} (hi : i < l.length) : linkAt l i l[i] = true := by
  simp only [chainOk, Bool.and_eq_true, List.all_eq_true] at h
  exact h.2 (l[i], i) (by rw [List.mem_zipIdx_iff_getElem?]; simp [hi])
theorem all_zipIdx {α : Type} {p : Nat → α → Bool} {l : List α} : (l.zipIdx.all fun x => p x.2 x.1) = true ↔ ∀ i (hi : i < l.length), p i l[i] = true := by
  rw [List.all_eq_true]
  constructor
  · intro h i hi
    exact h (l[i], i) (by rw [List.mem_zipIdx_iff_getElem?]; simp [hi])
  · rintro h ⟨x, i⟩ hx
    rw [List.mem_zipIdx_iff_getElem?] at hx
    obtain ⟨hi, hx⟩ := List.getElem?_eq_some_iff.1 hx
    have := h i hi
    simp only at hx
    rw [hx] at this; exact this
theorem all_get {α : Type} {p : α → Bool} {l : List α} : l.all p = true ↔ ∀ i (hi : i < l.length), p l[i] = true := by
  rw [List.all_eq_true]
  exact ⟨fun h i hi => h _ (List.getElem_mem hi), fun h x hx => by obtain ⟨i, hi, rfl⟩ := List.mem_iff_getElem.1 hx; exact h i hi⟩
/-- as the reference goes along -/
def nextAt (l : List Node) (k : Nat) (x : Node) : Bool := nodeOk x && match l[k + 1]? with
  | some y => storeOk y.store && fits x y.store
  | none => true
theorem chainOk_alt {l : List Node} : chainOk l = ((l.zipIdx.all fun x => nextAt l x.2 x.1) && (within l.length 1 4 && match l.getLast? with | some x => decide (x.wait.length = 0) | none => false)) := by
  rw [Bool.eq_iff_iff]
  unfold chainOk
  simp only [Bool.and_eq_true]
  rw [all_zipIdx (p := linkAt l), all_zipIdx (p := nextAt l), all_get (l := l)]
  constructor
  · rintro ⟨⟨h1, h2⟩, h3⟩
    have hl : 1 ≤ l.length := by simp [within] at h1; omega
    refine ⟨fun i hi => ?_, h1, ?_⟩
    · have := h3 i hi
      unfold linkAt at this
      unfold nextAt
      rw [h2 i hi]
      by_cases hi1 : i + 1 < l.length
      · rw [List.getElem?_eq_getElem hi1] at this ⊢
        simp only at this
        simp only [this, (nodeOk_parts (h2 _ hi1)).1, Bool.and_self]
      · rw [List.getElem?_eq_none (by omega)]; rfl
    · have := h3 (l.length - 1) (by omega)
      unfold linkAt at this
      rw [List.getElem?_eq_none (by omega)] at this
      rw [List.getLast?_eq_getElem?, List.getElem?_eq_getElem (by omega)]
      exact this
  · rintro ⟨h1, h2, h3⟩
    have hno : ∀ i (hi : i < l.length), nodeOk l[i] = true := fun i hi => by
      have := h1 i hi
      simp only [nextAt, Bool.and_eq_true] at this; exact this.1
    refine ⟨⟨h2, hno⟩, fun i hi => ?_⟩
    have := h1 i hi
    unfold nextAt at this
    unfold linkAt
    by_cases hi1 : i + 1 < l.length
    · rw [List.getElem?_eq_getElem hi1] at this ⊢
      simp only [Bool.and_eq_true] at this
      exact this.2.2
    · rw [List.getElem?_eq_none (by omega)]
      rw [List.getLast?_eq_getElem?, List.getElem?_eq_getElem (by omega)] at h3
      have e : l.length - 1 = i := by omega
      simp only [e] at h3
      exact h3

section
variable {lo : Nat} {h : Heap} {F F' : List Nat} {a a' : Option (Nat × Nat)} {c c' : Option Nat}
theorem spec_l3SameStore {s t : List Ver} (hs : RVers false h [.sl 6 a s.length c] s F) (hs' : RVers false h [.sl 6 a' t.length c'] t F') (h1 : storeOk s = true) (h2 : storeOk t = true) :
    evl lo 148 [.agg [.sl 6 a s.length c], .agg [.sl 6 a' t.length c']] h = some (.bool (sameVers s t), h) := by
  have l1 := storeOk_len h1
  have l2 := storeOk_len h2
  have hz : (s.zip t).length = 4 := by simp; omega
  refine E_spec_l3SameStore (h' := h) ?_
  refine (all_loop (p := fun x : Ver × Ver => sameVer x.1 x.2) (l := s.zip t) (fun i => L_spec_l3SameStore_0 (List.length h) false (i : Nat) a s.length c a' t.length c' h) (some (.bool false, h)) (some (.bool true, h)) (fun i hi => ?_) ?_).trans ?_
  · have hi1 : i < s.length := by omega
    have hi2 : i < t.length := by omega
    obtain ⟨o, sv, b, d, G, ha, _, ho1, _, _, _, _, ho12, ho, es, hp, _⟩ := hs.all hi1
    obtain ⟨o', sv', b', d', G', ha', _, _, _, _, _, _, ho12', ho', es', hp', _⟩ := hs'.all hi2
    rw [L_spec_l3SameStore_0.e, br_pos (by omega), inB_nat hi1]
    simp only [ha, ha', eO_s, Int.toNat_natCast, ho12, ho12', ho1, ho, ho', eC_c, eI_int, es, es', eT_s, eBv_b, eN_n, inB_nat hi1, inB_nat hi2, Bool.and_true, List.getElem_zip, wr_succ (show i < 9223372036854775807 by omega)]
    have g1 := verAt_case (storeOk_get h1 hi1)
    have g2 := verAt_case (storeOk_get h2 hi2)
    cases htag : (s[i].tag.time == t[i].tag.time && s[i].tag.place == t[i].tag.place) with
    | false =>
      have : sameVer s[i] t[i] = false := by unfold sameVer; rw [htag]; simp
      rw [this, br_f]; rfl
    | true =>
      rw [br_t]
      by_cases htm : s[i].tag.time > 0
      · rw [br_pos htm]
        have o1 : verOk s[i] = true := by
          rcases g1 with g | g
          · have := zero_time g; omega
          · exact g.1
        have o2 : verOk t[i] = true := by
          rcases g2 with g | g
          · have := zero_time g; simp at htag; omega
          · exact g.1
        rw [spec_l2Same hp hp' o1 o2]
        simp only [cal_s, eB_b]
        exact br_if
      · rw [br_neg htm]
        have o1 : zeroVer s[i] = true := by
          rcases g1 with g | g
          · exact g
          · have := verOk_time g.1; omega
        have o2 : zeroVer t[i] = true := by
          rcases g2 with g | g
          · exact g
          · have := verOk_time g.1; simp at htag; omega
        rw [if_pos (same_iff.2 (by rw [zero_is o1, zero_is o2]))]
  · rw [hz, L_spec_l3SameStore_0.e, br_neg (by omega)]
  · unfold sameVers
    rw [decide_eq_true (by omega)]
    cases (s.zip t).all fun x => sameVer x.1 x.2 <;> rfl
theorem spec_l3Next {x y : Node} {a1 a2 a3 a4 : Option (Nat × Nat)} {c1 c2 c3 c4 : Option Nat} {F1 F2 F3 : List Nat} (hs1 : RVers false h [.sl 6 a1 x.store.length c1] x.store F1) (hs2 : RVers false h [.sl 6 a2 x.wait.length c2] x.wait F2)
    (hs3 : RVers false h [.sl 6 a3 y.store.length c3] y.store F3) (hx : nodeOk x = true) (hy : smVers y.store) {n4 : Nat} :
    evl lo 200 [.agg [.sl 6 a1 x.store.length c1, .sl 6 a2 x.wait.length c2], .agg [.sl 6 a3 y.store.length c3, .sl 6 a4 n4 c4]] h = some (.bool (storeOk y.store && fits x y.store), h) := by
  obtain ⟨hx1, hx2, hx3⟩ := nodeOk_parts hx
  suffices hk : ∃ h', _ = some (V.bool (storeOk y.store && fits x y.store), h') from hk.elim fun h' hk => E_spec_l3Next hk
  rw [spec_l2StoreOk hs3 hy]; simp only [cal_s, eB_b]
  cases hyo : storeOk y.store with
  | false => exact ⟨h, rfl⟩
  | true =>
    obtain ⟨v5, h5, F5, e5, r5, m5⟩ := spec_l2CopyStore (lo := h.length) hs3 (Nat.le_refl _) hy
    obtain ⟨a5, c5, es5, r5⟩ := r5.form
    rw [br_t, e5]; simp only [cal_s, eA_a, eC_c, es5, eN_n]
    have loop : ∀ m i s hh G, m + i = x.wait.length → storeOk s = true → RVers false hh [.sl 6 a5 s.length c5] s G → Mv h [] hh G →
        ∃ h', L_spec_l3Next_0 (List.length h) false (i : Nat) a1 x.store.length c1 a2 x.wait.length c2 a5 s.length c5 hh = some (V.bool (match fitsL s (x.wait.drop i) with | some s => sameVers s x.store | none => false), h') := by
      intro m
      induction m with
      | zero =>
        intro i s hh G hi hso hs hm
        rw [L_spec_l3Next_0.e, br_neg (by omega), spec_l3SameStore hs (hm.keep0 rvers_ok hs1) hso hx1, show i = x.wait.length by omega, List.drop_length]
        simp only [cal_s, eB_b, fitsL]
        exact ⟨hh, by cases sameVers s x.store <;> rfl⟩
      | succ m ih =>
        intro i s hh G hi hso hs hm
        have hlt : i < x.wait.length := by omega
        have hvo := hx3 _ (List.getElem_mem hlt)
        have hk := (verOk_parts hvo).1
        have hs4 := storeOk_len hso
        have hkl : x.wait[i].key.toNat < s.length := by omega
        obtain ⟨o, sv, b', d', G', ha, ho0, _, _, _, _, _, ho12, ho, es, hp, hG'⟩ := (hm.keep0 rvers_ok hs2).all hlt
        obtain ⟨o2, sv2, b2, d2, G2, ha2, _, _, _, _, _, _, ho122, _⟩ := hs.all hkl
        rw [L_spec_l3Next_0.e, br_pos (by omega), inB_nat hlt]
        simp only [ha, eO_s, Int.toNat_natCast, ho0, eC_c, eI_int, eN_n]
        rw [inB_in ⟨by omega, by omega⟩]
        simp only [ha2, eO_s, ho122, eC_c, eI_int, eN_n, inB_nat hlt, ho12, spec_l1Less, cal_s, eB_b]
        rw [List.drop_eq_getElem_cons hlt]
        simp only [fitsL, List.getElem?_eq_getElem hkl]
        show ∃ h', br (lessV s[x.wait[i].key.toNat] x.wait[i]) _ _ = _
        cases hle : lessV s[x.wait[i].key.toNat] x.wait[i] with
        | false => exact ⟨hh, rfl⟩
        | true =>
          obtain ⟨h6, F6, e6, r6, m6⟩ := spec_l2Add (lo := h.length) (v := x.wait[i]) hs hp hm.nd (hm.ge (Nat.le_refl _) (by simp)) hm.le ⟨by omega, by omega⟩ (by have := pastOk_len (verOk_parts hvo).2.2.2.1; omega)
          rw [br_t, cond_true]
          simp only [ho, eO_s, eC_c, eI_int, es, eT_s, eBv_b, eN_n]
          rw [← ha2, e6]
          simp only [cal_s, eA_a, eC_c, eS_sl, eN_n]
          rw [← ha, wr_succ (by omega)]
          have hadd : addVer s x.wait[i] = s.set x.wait[i].key.toNat x.wait[i] := by rw [addVer_get hkl, hle]; rfl
          rw [hadd] at r6
          have := ih (i + 1) (s.set x.wait[i].key.toNat x.wait[i]) h6 F6 (by omega) (storeOk_set hso hvo) (by rw [List.length_set]; exact r6) (hm.trans m6)
          rw [List.length_set] at this
          exact this
    obtain ⟨h', e⟩ := loop x.wait.length 0 y.store h5 F5 (by omega) hyo r5 m5
    exact ⟨h', e⟩
theorem spec_l3Ok {l : List Node} (hs : RNodes false h [.sl 2 a l.length c] l F) (hn : smNodes l) : evl lo 116 [.agg [.sl 2 a l.length c]] h = some (.bool (chainOk l), h) := by
  have hn1 := hn.1
  refine E_spec_l3Ok (h' := h) ?_
  rw [chainOk_alt]
  have inner : ∀ i (hi : i < l.length), storeOk l[i].store = true → (l[i].wait.length : Int) ≤ 6 → L_spec_l3Ok_2 (List.length h) false (i : Nat) 0 a l.length c h = if nextAt l i l[i] = true then L_spec_l3Ok_0 (List.length h) false ((i + 1 : Nat) : Int) a l.length c h else some (.bool false, h) := by
    intro i hi hst h6
    obtain ⟨o, s1, s2, a1, c1, a2, c2, F1, F2, ha, ho, ho1, ho2, e1, e2, p1, p2, _⟩ := hs.get hi
    have hm := hn.2 _ (List.getElem_mem hi)
    refine (all_loop (p := verOk) (l := l[i].wait) (fun k => L_spec_l3Ok_2 (List.length h) false (i : Nat) (k : Nat) a l.length c h) (some (.bool false, h)) (L_spec_l3Ok_2 (List.length h) false (i : Nat) (l[i].wait.length : Nat) a l.length c h) (fun k hk => ?_) rfl).trans ?_
    · obtain ⟨o', s, b, d, G, ha', ho', es, hp, _⟩ := p2.get hk
      rw [L_spec_l3Ok_2.e, inB_nat hi]
      simp only [ha, eO_s, Int.toNat_natCast, ho2, eC_c, e2, eN_n]
      rw [br_pos (by omega), inB_nat hi]
      simp only [e2, inB_nat hk, ha', eO_s, ho', eC_c, eI_int, es, eT_s, eBv_b, eN_n]
      rw [spec_l2Ok hp (hm.2.2 _ (List.getElem_mem hk))]
      simp only [cal_s, eB_b, wr_succ (show k < 9223372036854775807 by have := hm.2.1; omega), ← ha]
      exact br_if
    · by_cases hall : l[i].wait.all verOk = true
      · rw [if_pos hall, L_spec_l3Ok_2.e, inB_nat hi]
        simp only [ha, eO_s, Int.toNat_natCast, ho2, eC_c, e2, eN_n]
        rw [br_neg (by omega)]
        have hno : nodeOk l[i] = true := by unfold nodeOk; rw [hst, decide_eq_true h6, hall]; rfl
        rw [wr_succ (by omega)]
        unfold nextAt
        rw [hno]
        by_cases hi1 : i + 1 < l.length
        · obtain ⟨o', s1', s2', a1', c1', a2', c2', F1', F2', ha', ho', _, _, e1', e2', p1', p2', _⟩ := hs.get hi1
          have hoo : o' = o := by rw [ha] at ha'; injection ha' with ha'; exact ha'.symm
          subst hoo
          rw [br_pos (by omega), inB_nat hi]
          simp only [ho, eO_s, eC_c, e1, e2, eN_n, inB_nat hi1, Int.toNat_natCast, ho', e1', e2']
          rw [spec_l3Next p1 p2 p1' hno (hn.2 _ (List.getElem_mem hi1)).1, List.getElem?_eq_getElem hi1]
          simp only [cal_s, eB_b, Bool.true_and]
          exact br_if
        · rw [br_neg (by omega), List.getElem?_eq_none (by omega)]; rfl
      · rw [if_neg hall, if_neg]
        unfold nextAt nodeOk
        simp [hall]
  refine (all_idx (p := nextAt l) (l := l) (fun i => L_spec_l3Ok_0 (List.length h) false (i : Nat) a l.length c h) (some (.bool false, h)) (some (.bool (within l.length 1 4 && match l.getLast? with | some x => decide (x.wait.length = 0) | none => false), h)) (fun i hi => ?_) ?_).trans ?_
  · obtain ⟨o, s1, s2, a1, c1, a2, c2, F1, F2, ha, ho, ho1, ho2, e1, e2, p1, p2, _⟩ := hs.get hi
    have hm := hn.2 _ (List.getElem_mem hi)
    rw [L_spec_l3Ok_0.e, br_pos (by omega), inB_nat hi]
    simp only [ha, eO_s, Int.toNat_natCast, ho1, eC_c, e1, eN_n]
    rw [spec_l2StoreOk p1 hm.1]
    simp only [cal_s, eB_b]
    cases hst : storeOk l[i].store with
    | false =>
      rw [if_neg (by unfold nextAt nodeOk; simp [hst])]; rfl
    | true =>
      rw [br_t, inB_nat hi]
      simp only [ho2, eO_s, eC_c, e2, eN_n]
      by_cases h6 : (l[i].wait.length : Int) ≤ 6
      · rw [br_neg (by omega), ← ha]; exact inner i hi hst h6
      · rw [br_pos (by omega), if_neg]
        unfold nextAt nodeOk
        rw [decide_eq_false h6]; simp
  · rw [L_spec_l3Ok_0.e, br_neg (by omega), spec_l1In]
    simp only [cal_s, eB_b]
    cases hw : within (l.length : Int) 1 4 with
    | false => rfl
    | true =>
      have hl : 1 ≤ l.length := by simp [within] at hw; omega
      obtain ⟨o, s1, s2, a1, c1, a2, c2, F1, F2, ha, ho, ho1, ho2, e1, e2, p1, p2, _⟩ := hs.get (show l.length - 1 < l.length by omega)
      rw [br_t, wr (by omega) (by omega), inB_in ⟨by omega, by omega⟩, show ((l.length : Int) - 1).toNat = l.length - 1 by omega]
      simp only [ha, eO_s, ho2, eC_c, e2, eN_n]
      rw [List.getLast?_eq_getElem?, List.getElem?_eq_getElem (by omega)]
      simp only [Bool.true_and]
      by_cases h0 : l[l.length - 1].wait.length = 0
      · rw [h0]; rfl
      · rw [show ((l[l.length - 1].wait.length : Int) == 0) = false by rw [beq_eq_false_iff_ne]; omega, decide_eq_false h0]; rfl
  · cases (l.zipIdx.all fun x => nextAt l x.2 x.1) <;> simp
end
end Go.Proofs.YtfhnofppfacemaaGreat
namespace Go.Proofs.YtfhnofppfacemaaGreat
open Go T
set_option linter.unusedVariables false
set_option linter.unusedSimpArgs false
def nodeCauses (st : List Tag) (x : Node) : Bool := (x.store.all fun v => !decide (v.tag.time > 0) || under v.past st) && x.wait.all fun v => under v.past st
def causesOk (l : List Node) : Bool := l.all (nodeCauses (stable l))
def headOk (l : List Node) (clock : Int) : Bool := match l[0]? with
  | some x => x.store.all fun v => decide (v.tag.time ≤ clock)
  | none => false
def gotAt (me : Int) (i : Nat) (l : List Ver) : Bool := logOk i l && (!((i : Int) == me) || decide (l.length = 0))
def placeOk (p : Place) : Bool := within p.me 0 2 && within p.clock 0 999 && decide (p.got.length = 3) && chainOk p.chain && causesOk p.chain && logOk p.me p.log && (p.got.zipIdx.all fun x => gotAt p.me x.2 x.1) && headOk p.chain p.clock

theorem if_some {b : Bool} {h : Heap} : (if b = true then some (V.bool true, h) else some (V.bool false, h)) = some (V.bool b, h) := by cases b <;> rfl
theorem chainOk_sm {l : List Node} (h : chainOk l = true) : smNodes l := by
  obtain ⟨h1, h2⟩ := chainOk_all h
  refine ⟨by omega, fun x hx => ?_⟩
  obtain ⟨g1, g2, g3⟩ := nodeOk_parts (h2 x hx)
  refine ⟨storeOk_sm g1, by omega, fun v hv => ?_⟩
  obtain ⟨_, h2, _, h3, _⟩ := verOk_parts (g3 v hv)
  have := textOk_size h2
  have := pastOk_len h3
  omega
theorem stable_len {l : List Node} (h : chainOk l = true) : (stable l).length = 4 := by
  obtain ⟨h1, h2⟩ := chainOk_all h
  rw [last_get (by omega)]
  simp only [tagsOf, List.length_map]
  exact storeOk_len (nodeOk_parts (h2 _ (List.getElem_mem _))).1
theorem ld_of {h : Heap} {b i j n R e : Nat} {ro : Bool} {rs : List (List V)} {row : List V} (hb : h[b]? = some (.rows R e ro rs)) (hi : rs[i]? = some row) : ld h b i j n = cut row j n := by
  simp [ld, Heap.rows?, hb, hi]
theorem store_past {x : Node} (h : nodeOk x = true) {i : Nat} (hi : i < x.store.length) (ht : x.store[i].tag.time > 0) : x.store[i].past.length = 4 := by
  rcases verAt_case (storeOk_get (nodeOk_parts h).1 hi) with g | g
  · have := zero_time g; omega
  · exact pastOk_len (verOk_parts g.1).2.2.2.1
theorem wait_past {x : Node} (h : nodeOk x = true) {i : Nat} (hi : i < x.wait.length) : x.wait[i].past.length = 4 := pastOk_len (verOk_parts ((nodeOk_parts h).2.2 _ (List.getElem_mem hi))).2.2.2.1

section
variable {lo : Nat} {h : Heap} {F F' : List Nat} {a a' : Option (Nat × Nat)} {c c' : Option Nat}
theorem spec_l4Causes {l : List Node} (hs : RNodes false h [.sl 2 a l.length c] l F) (hc : chainOk l = true) : evl lo 162 [.agg [.sl 2 a l.length c]] h = some (.bool (causesOk l), h) := by
  obtain ⟨hl4, hno⟩ := chainOk_all hc
  have hst := stable_len hc
  obtain ⟨v1, h1, F1, e1, r1, m1⟩ := spec_l3Stable (lo := h.length) hs (Nat.le_refl _) (chainOk_sm hc) (by omega)
  obtain ⟨a3, c3, es3, r1⟩ := r1.form
  refine E_spec_l4Causes (h' := h1) ?_
  rw [e1]; simp only [cal_s, eA_a, eC_c, es3, eN_n]
  have hs1 := m1.keep0 rnodes_ok hs
  refine (all_loop (p := nodeCauses (stable l)) (l := l) (fun i => L_spec_l4Causes_0 (List.length h) false (i : Nat) a l.length c a3 (stable l).length c3 h1) (some (.bool false, h1)) (some (.bool true, h1)) (fun i hi => ?_) ?_).trans ?_
  · have hno := hno _ (List.getElem_mem hi)
    have hsl := storeOk_len (nodeOk_parts hno).1
    have hwl := (nodeOk_parts hno).2.1
    obtain ⟨o, s1, s2, b1, d1, b2, d2, G1, G2, ha, ho, ho1, ho2, e1, e2, p1, p2, _⟩ := hs1.get hi
    rw [L_spec_l4Causes_0.e, br_pos (by omega)]
    refine (all_loop (p := fun v : Ver => !decide (v.tag.time > 0) || under v.past (stable l)) (l := l[i].store) (fun k => L_spec_l4Causes_2 (List.length h) false (i : Nat) (k : Nat) a l.length c a3 (stable l).length c3 h1) (some (.bool false, h1)) (L_spec_l4Causes_4 (List.length h) false (i : Nat) 0 a l.length c a3 (stable l).length c3 h1) (fun k hk => ?_) ?_).trans ?_
    · obtain ⟨o', s, b, d, G, ha', ho', es, hp, _⟩ := p1.get hk
      rw [L_spec_l4Causes_2.e, br_pos (by omega), inB_nat hi]
      simp only [ha, eO_s, Int.toNat_natCast, ho1, eC_c, e1, eN_n, inB_nat hk, ha', ho', eI_int, es, eT_s, eBv_b, wr_succ (show k < 9223372036854775807 by omega)]
      by_cases ht : l[i].store[k].tag.time > 0
      · rw [br_pos ht, spec_l1Within hp r1 (store_past hno hk ht) hst]
        simp only [cal_s, eB_b, decide_eq_true ht, Bool.not_true, Bool.false_or, ← ha]
        exact br_if
      · rw [br_neg ht, decide_eq_false ht, ← ha]; rfl
    · rw [L_spec_l4Causes_2.e, br_neg (by omega)]
    · unfold nodeCauses
      cases hall : l[i].store.all fun v : Ver => !decide (v.tag.time > 0) || under v.past (stable l) with
      | false => rw [if_neg Bool.false_ne_true, Bool.false_and, if_neg Bool.false_ne_true]
      | true =>
        rw [if_pos rfl, Bool.true_and]
        refine all_loop (p := fun v : Ver => under v.past (stable l)) (l := l[i].wait) (fun k => L_spec_l4Causes_4 (List.length h) false (i : Nat) (k : Nat) a l.length c a3 (stable l).length c3 h1) (some (.bool false, h1)) (L_spec_l4Causes_0 (List.length h) false ((i + 1 : Nat) : Int) a l.length c a3 (stable l).length c3 h1) (fun k hk => ?_) ?_
        · obtain ⟨o', s, b, d, G, ha', _, _, _, ho3, _, _, _, _, es, hp, _⟩ := p2.all hk
          rw [L_spec_l4Causes_4.e, inB_nat hi]
          simp only [ha, eO_s, Int.toNat_natCast, ho2, eC_c, e2, eN_n]
          rw [br_pos (by omega), inB_nat hi]
          simp only [e2, inB_nat hk, ha', eO_s, ho3, eC_c, es, eN_n]
          rw [spec_l1Within hp r1 (wait_past hno hk) hst]
          simp only [cal_s, eB_b, wr_succ (show k < 9223372036854775807 by omega), ← ha]
          exact br_if
        · rw [L_spec_l4Causes_4.e, inB_nat hi]
          simp only [ha, eO_s, Int.toNat_natCast, ho2, eC_c, e2, eN_n]
          rw [br_neg (by omega), wr_succ (by omega)]
  · rw [L_spec_l4Causes_0.e, br_neg (by omega)]
  · unfold causesOk
    cases l.all (nodeCauses (stable l)) <;> rfl
theorem spec_l4Ok {p : Place} {a1 a2 a3 : Option (Nat × Nat)} {c1 c2 c3 : Option Nat} {F1 F2 F3 : List Nat} (hs1 : RNodes false h [.sl 2 a1 p.chain.length c1] p.chain F1) (hs2 : RVers false h [.sl 6 a2 p.log.length c2] p.log F2)
    (hs3 : RVss false h [.sl 1 a3 p.got.length c3] p.got F3) (hn : smPlace p) : evl lo 70 [.agg (p.cs a1 c1 a2 c2 a3 c3)] h = some (.bool (placeOk p), h) := by
  refine E_spec_l4Ok (h' := h) ?_
  simp only [spec_l1In, cal_s, eB_b]
  unfold placeOk
  cases within p.me 0 2 with
  | false => rfl
  | true =>
  cases within p.clock 0 999 with
  | false => rfl
  | true =>
  by_cases hg : ¬ p.got.length = 3
  · rw [show ((p.got.length : Int) == 3) = false by rw [beq_eq_false_iff_ne]; omega, decide_eq_false hg]; rfl
  have hg : p.got.length = 3 := by omega
  rw [show ((p.got.length : Int) == 3) = true by rw [beq_iff_eq]; omega, decide_eq_true hg]
  simp only [br_t]
  rw [spec_l3Ok hs1 hn.1]
  simp only [cal_s, eB_b]
  cases hc : chainOk p.chain with
  | false => rfl
  | true =>
  rw [br_t, spec_l4Causes hs1 hc]
  simp only [cal_s, eB_b]
  cases causesOk p.chain with
  | false => rfl
  | true =>
  rw [br_t, spec_l4Log hs2 hn.2.1]
  simp only [cal_s, eB_b]
  cases logOk p.me p.log with
  | false => rfl
  | true =>
  obtain ⟨hl4, hno⟩ := chainOk_all hc
  simp only [br_t, Bool.true_and, Bool.and_true]
  refine (all_idx (p := gotAt p.me) (l := p.got) (fun i => L_spec_l4Ok_0 (List.length h) false (i : Nat) p.me p.clock a1 p.chain.length c1 a2 p.log.length c2 a3 p.got.length c3 p.fell h) (some (.bool false, h)) (some (.bool (headOk p.chain p.clock), h)) (fun i hi => ?_) ?_).trans ?_
  · obtain ⟨o, s, b, d, G, ha, ho, es, hp, _⟩ := hs3.get hi
    rw [L_spec_l4Ok_0.e, br_pos (by omega), inB_nat hi]
    simp only [ha, eO_s, Int.toNat_natCast, ho, eC_c, es, eN_n]
    rw [spec_l4Log hp (hn.2.2.2 _ (List.getElem_mem hi))]
    simp only [cal_s, eB_b, inB_nat hi, ho, eO_s, eC_c, es, eN_n, wr_succ (show i < 9223372036854775807 by omega), ← ha]
    unfold gotAt
    by_cases h0 : p.got[i].length = 0
    · rw [br_neg (by omega), decide_eq_true h0]
      cases logOk i p.got[i] <;> cases ((i : Int) == p.me) <;> rfl
    · rw [br_pos (by omega), decide_eq_false h0]
      cases logOk i p.got[i] <;> cases ((i : Int) == p.me) <;> rfl
  · obtain ⟨o, s1, s2, b1, d1, b2, d2, G1, G2, ha, ho, ho1, ho2, e1, e2, q1, q2, _⟩ := hs1.get (show 0 < p.chain.length by omega)
    have hsl := storeOk_len (nodeOk_parts (hno _ (List.getElem_mem (show 0 < p.chain.length by omega)))).1
    rw [L_spec_l4Ok_0.e, br_neg (by omega), show (0 : Int) = ((0 : Nat) : Int) from rfl, inB_nat (by omega)]
    simp only [ha, eO_s, ho1, eC_c, e1, eN_n]
    unfold headOk
    rw [List.getElem?_eq_getElem (show 0 < p.chain.length by omega)]
    refine (all_loop (p := fun v : Ver => decide (v.tag.time ≤ p.clock)) (l := p.chain[0].store) (fun k => L_spec_l4Ok_2 (List.length h) false (k : Nat) p.me p.clock (some o) p.chain.length c1 a2 p.log.length c2 a3 p.got.length c3 p.fell b1 p.chain[0].store.length d1 h) (some (.bool false, h)) (some (.bool true, h)) (fun k hk => ?_) ?_).trans ?_
    · obtain ⟨o', s, b, d, G, ha', _, ho1', _⟩ := q1.all hk
      rw [L_spec_l4Ok_2.e, br_pos (by omega), inB_nat hk]
      simp only [ha', eO_s, Int.toNat_natCast, ho1', eC_c, eI_int, eN_n, wr_succ (show k < 9223372036854775807 by omega)]
      by_cases ht : p.chain[0].store[k].tag.time ≤ p.clock
      · rw [br_neg (by omega), decide_eq_true ht]; rfl
      · rw [br_pos (by omega), decide_eq_false ht]; rfl
    · rw [L_spec_l4Ok_2.e, br_neg (by omega)]
    · exact if_some
  · cases (p.got.zipIdx.all fun x => gotAt p.me x.2 x.1) <;> cases headOk p.chain p.clock <;> rfl
end
end Go.Proofs.YtfhnofppfacemaaGreat
namespace Go.Proofs.YtfhnofppfacemaaGreat
open Go T
set_option linter.unusedVariables false
set_option linter.unusedSimpArgs false
/-- all hold, one by one, while memory grows -/
theorem all_mv {α : Type} {p : Nat → α → Bool} {l : List α} {h0 : Heap} (L : Nat → Heap → Option (V × Heap)) (res : Bool)
    (step : ∀ i (hi : i < l.length) hh, Mv h0 [] hh [] → ∃ h2, Mv hh [] h2 [] ∧ L i hh = if p i l[i] = true then L (i + 1) h2 else some (.bool false, h2))
    (done : ∀ hh, Mv h0 [] hh [] → ∃ h2, L l.length hh = some (.bool res, h2)) : ∃ h', L 0 h0 = some (.bool ((l.zipIdx.all fun x => p x.2 x.1) && res), h') := by
  have loop : ∀ m i hh, m + i = l.length → Mv h0 [] hh [] → ∃ h', L i hh = some (.bool (((l.zipIdx.drop i).all fun x => p x.2 x.1) && res), h') := by
    intro m
    induction m with
    | zero =>
      intro i hh hi hm
      have : i = l.length := by omega
      subst this
      obtain ⟨h2, e⟩ := done hh hm
      exact ⟨h2, by rw [e, List.drop_of_length_le (by simp)]; rfl⟩
    | succ m ih =>
      intro i hh hi hm
      have hlt : i < l.length := by omega
      obtain ⟨h2, m2, e⟩ := step i hlt hh hm
      rw [e, List.drop_eq_getElem_cons (show i < l.zipIdx.length by simpa using hlt), List.all_cons]
      simp only [List.getElem_zipIdx, Nat.zero_add]
      cases hp : p i l[i] with
      | false => exact ⟨h2, by rw [if_neg Bool.false_ne_true]; rfl⟩
      | true =>
        obtain ⟨h', e'⟩ := ih (i + 1) h2 (by omega) (hm.trans m2)
        exact ⟨h', by rw [if_pos rfl, e']; rfl⟩
  exact loop l.length 0 h0 (by omega) Mv.nil
/-- a slice's own rows -/
theorem rowsOf_sli {α : Type} {El : Rel α} {R e : Nat} {h : Heap} {a : Option (Nat × Nat)} {c : Option Nat} {l : List α} {F : List Nat} (hs : Sli false R e El h [.sl R a l.length c] l F) :
    ∃ rows Fs, (∀ {T : Type} (K : List (List V) → Option T), rowsOf R h (.sl R a l.length c) K = K rows) ∧ EAll El h rows l Fs ∧ (∀ b ∈ Fs.flatten, b ∈ F) ∧ (F.Nodup → Fs.flatten.Nodup) := by
  obtain ⟨R', a', c', e1, e2⟩ := hs
  injection e1 with e1 _; injection e1 with e0 e3 _ e4
  subst e0; subst e3; subst e4
  cases a with
  | none =>
    obtain ⟨rfl, _, _⟩ := e2
    exact ⟨[], [], fun K => rfl, trivial, by simp, by simp⟩
  | some q =>
    obtain ⟨b, i⟩ := q
    obtain ⟨hR, rs, Fs, g1, g2, g3, g4, g5, rfl⟩ := e2
    refine ⟨_, Fs, fun K => ?_, g5, fun b hb => by simp only [List.mem_cons]; exact .inr hb, fun hn => (List.nodup_cons.1 hn).2⟩
    simp only [rowsOf, beq_of, need_t]
    cases hl : l.length with
    | zero => simp
    | succ n => simp only [ldRows, Heap.rows?, g1, Option.bind_some, ble_of (show i + (n + 1) ≤ rs.length by omega), eO_s]
def zeroTag (v : Ver) : Bool := v.tag.time == 0 && v.tag.place == 0
def elemOk (st : List Tag) (clock : Int) (k : Nat) (v : Ver) : Bool := (zeroTag v || under v.past st) && (!decide (k = 0) || decide (v.tag.time ≤ clock))
theorem lessV_time {v u : Ver} (h : lessV v u = true) : v.tag.time ≤ u.tag.time := by
  simp [lessV, less] at h; omega
/-- what waits is no later than what it makes -/
theorem fitsL_time : ∀ {w s t : List Ver}, fitsL s w = some t → s.length = t.length ∧ (∀ k (h1 : k < s.length) (h2 : k < t.length), s[k].tag.time ≤ t[k].tag.time) ∧ ∀ v ∈ w, ∃ h2 : v.key.toNat < t.length, v.tag.time ≤ t[v.key.toNat].tag.time
  | [], s, t, h => by injection h with h; subst h; exact ⟨rfl, fun k _ _ => Int.le_refl _, by simp⟩
  | v :: w, s, t, h => by
    simp only [fitsL] at h
    by_cases hk : v.key.toNat < s.length
    · rw [List.getElem?_eq_getElem hk] at h
      cases hl : lessV s[v.key.toNat] v with
      | false => simp [hl] at h
      | true =>
        simp only [hl, cond_true] at h
        obtain ⟨i1, i2, i3⟩ := fitsL_time h
        rw [List.length_set] at i1
        have ht := lessV_time hl
        refine ⟨i1, fun k h1 h2 => ?_, fun u hu => ?_⟩
        · have := i2 k (by simpa using h1) h2
          rw [List.getElem_set] at this
          split at this
          · rename_i he; subst he; omega
          · exact this
        · rcases List.mem_cons.1 hu with rfl | hu
          · have := i2 u.key.toNat (by simpa using hk) (by omega)
            rw [List.getElem_set_self] at this
            exact ⟨by omega, this⟩
          · exact i3 u hu
    · rw [List.getElem?_eq_none (by omega)] at h; cases h
theorem zeroTag_iff {x : Node} (h : nodeOk x = true) {v : Ver} (hv : v ∈ x.store) : zeroTag v = !decide (v.tag.time > 0) := by
  obtain ⟨i, hi, rfl⟩ := List.mem_iff_getElem.1 hv
  rcases verAt_case (storeOk_get (nodeOk_parts h).1 hi) with g | g
  · have := zero_time g
    unfold zeroTag; rw [this.1, this.2]; rfl
  · have := verOk_time g.1
    unfold zeroTag
    rw [decide_eq_true this, show (x.store[i].tag.time == 0) = false by rw [beq_eq_false_iff_ne]; omega]; rfl
theorem zeroTag_ok {v : Ver} (h : verOk v = true) : zeroTag v = false := by
  have := verOk_time h
  unfold zeroTag
  rw [show (v.tag.time == 0) = false by rw [beq_eq_false_iff_ne]; omega]; rfl
theorem causes_alt {l : List Node} {clock : Int} (hc : chainOk l = true) : (l.zipIdx.all fun x => (x.1.store ++ x.1.wait).all (elemOk (stable l) clock x.2)) = (causesOk l && headOk l clock) := by
  obtain ⟨hl4, hno⟩ := chainOk_all hc
  rw [Bool.eq_iff_iff, Bool.and_eq_true]
  rw [all_zipIdx (p := fun i (x : Node) => (x.store ++ x.wait).all (elemOk (stable l) clock i))]
  unfold causesOk headOk
  rw [List.getElem?_eq_getElem (show 0 < l.length by omega), all_get]
  simp only [List.all_append, Bool.and_eq_true, List.all_eq_true]
  constructor
  · intro hx
    refine ⟨fun i hi => ?_, fun v hv => ?_⟩
    · have hi' := hno _ (List.getElem_mem hi)
      unfold nodeCauses
      simp only [Bool.and_eq_true, List.all_eq_true]
      refine ⟨fun v hv => ?_, fun v hv => ?_⟩
      · have := (hx i hi).1 v hv
        simp only [elemOk, Bool.and_eq_true] at this
        rw [← zeroTag_iff hi' hv]; exact this.1
      · have := (hx i hi).2 v hv
        simp only [elemOk, Bool.and_eq_true, zeroTag_ok ((nodeOk_parts hi').2.2 v hv), Bool.false_or] at this
        exact this.1
    · have := (hx 0 (by omega)).1 v hv
      simp only [elemOk, Bool.and_eq_true] at this
      simpa using this.2
  · rintro ⟨h1, h2⟩ i hi
    have hi' := hno _ (List.getElem_mem hi)
    have h3 := h1 i hi
    unfold nodeCauses at h3
    simp only [Bool.and_eq_true, List.all_eq_true] at h3
    refine ⟨fun v hv => ?_, fun v hv => ?_⟩
    · unfold elemOk
      rw [zeroTag_iff hi' hv, h3.1 v hv, Bool.true_and]
      by_cases h0 : i = 0
      · subst h0; simpa using h2 v hv
      · simp [h0]
    · unfold elemOk
      rw [h3.2 v hv, Bool.or_true, Bool.true_and]
      by_cases h0 : i = 0
      · subst h0
        have hlk := chainOk_link hc hi
        unfold linkAt at hlk
        by_cases h10 : 0 + 1 < l.length
        · rw [List.getElem?_eq_getElem h10] at hlk
          simp only [fits] at hlk
          cases hf : fitsL l[0 + 1].store l[0].wait with
          | none => simp [hf] at hlk
          | some t =>
            simp only [hf] at hlk
            have e := sameVers_iff.1 hlk
            obtain ⟨_, _, g3⟩ := fitsL_time hf
            obtain ⟨g4, g5⟩ := g3 v hv
            have := h2 (l[0].store[v.key.toNat]'(by rw [← e]; exact g4)) (List.getElem_mem _)
            simp only [decide_eq_true_eq] at this
            simp only [← e] at this
            simp only [decide_true, Bool.not_true, Bool.false_or, decide_eq_true_eq]
            omega
        · rw [List.getElem?_eq_none (by omega)] at hlk
          simp only [decide_eq_true_eq] at hlk
          have : l[0].wait = [] := List.eq_nil_of_length_eq_zero hlk
          rw [this] at hv; simp at hv
      · simp [h0]

section
variable {lo : Nat} {h : Heap} {F F' : List Nat} {a a' : Option (Nat × Nat)} {c c' : Option Nat}
theorem impl_tail {b i j : Nat} {l : List Node} (hld : ld h b i j 1 = some [.sl 2 a l.length c]) (hs : RNodes false h [.sl 2 a l.length c] l F) (h0 : 0 < l.length) (hn : l.length ≤ 1048576) :
    ∃ a' c' G, evl lo 166 [.ptr (some (b, i, j))] h = some (.agg [.sl 6 a' (l[l.length - 1]'(by omega)).store.length c'], h) ∧ RVers false h [.sl 6 a' (l[l.length - 1]'(by omega)).store.length c'] (l[l.length - 1]'(by omega)).store G ∧ ∀ y ∈ G, y ∈ F := by
  obtain ⟨o, s1, s2, b1, d1, b2, d2, G1, G2, ha, ho, ho1, ho2, e1, e2, q1, q2, q3, _⟩ := hs.get (show l.length - 1 < l.length by omega)
  refine ⟨b1, d1, G1, E_impl_Chain_tail ?_, q1, q3⟩
  simp only [Nat.add_zero, hld, eO_s, eC_c, eS_sl, eN_n]
  rw [wr (by omega) (by omega), inB_in ⟨by omega, by omega⟩, show ((l.length : Int) - 1).toNat = l.length - 1 by omega]
  simp only [ha, eO_s, ho1, eC_c, e1, eN_n]
theorem app_in {T : Type} {e R bytes b i len : Nat} {rs xs : List (List V)} {K : V → Heap → Option T} (hb : h[b]? = some (.rows R e false rs)) (hl : lo ≤ b) (hf : i + len + xs.length ≤ rs.length) (h0 : 0 < bytes) (hsz : (len + xs.length) * bytes ≤ 140737488355328) :
    app lo e R bytes (.sl R (some (b, i)) len none) xs h K = K (.sl R (some (b, i)) (len + xs.length) none) (h.set b (.rows R e false (rs.take (i + len) ++ xs ++ rs.drop (i + len + xs.length)))) := by
  cases xs with
  | nil =>
    simp only [app, List.length_nil, Nat.add_zero, List.append_nil, List.take_append_drop]
    rw [set_same hb]
  | cons x xs =>
    have hbl : Nat.blt 0 bytes = true := by simpa [Nat.blt_eq] using h0
    have hsz' : decide ((len + (x :: xs).length) * bytes ≤ maxBytes) = true := decide_eq_true hsz
    have hown : Heap.own? lo e h b = some rs := by simp only [Heap.own?, hb, ble_of hl, beq_of]
    have hst : stRows lo h b (i + len) (x :: xs) = some (h.set b (.rows R e false (rs.take (i + len) ++ (x :: xs) ++ rs.drop (i + len + (x :: xs).length)))) := by
      simp only [stRows, hb, ble_of hl, ble_of hf]
    simp only [app, hbl, hsz', need_t, beq_of, hown, eO_s, ble_of hf, hst]
theorem impl_Concat {l1 l2 : List Ver} {a1 a2 : Option (Nat × Nat)} {c1 c2 : Option Nat} {F1 F2 : List Nat} (hs1 : RVers false h [.sl 6 a1 l1.length c1] l1 F1) (hs2 : RVers false h [.sl 6 a2 l2.length c2] l2 F2) (hl1 : l1.length = 4) (hl2 : l2.length ≤ 6) (hlo : lo ≤ h.length) :
    ∃ a' F' h', evl lo 168 [.sl 1 (some (h.length, 0)) 2 (some 2)] (h ++ [.rows 1 44 false [[.sl 6 a1 l1.length c1], [.sl 6 a2 l2.length c2]]]) = some (.sl 6 a' (l1 ++ l2).length none, h') ∧
      RVers false h' [.sl 6 a' (l1 ++ l2).length none] (l1 ++ l2) F' ∧ Mv h [] h' [] := by
  have m0 : Mv h [] (h ++ [.rows 1 44 false [[.sl 6 a1 l1.length c1], [.sl 6 a2 l2.length c2]]]) [] := Mv.snoc
  have hbB : (h ++ [Blk.rows 1 44 false [[.sl 6 a1 l1.length c1], [.sl 6 a2 l2.length c2]]])[h.length]? = some (.rows 1 44 false [[.sl 6 a1 l1.length c1], [.sl 6 a2 l2.length c2]]) := by simp
  have hBl : h.length < (h ++ [Blk.rows 1 44 false [[.sl 6 a1 l1.length c1], [.sl 6 a2 l2.length c2]]]).length := by simp
  generalize hB : h ++ [Blk.rows 1 44 false [[.sl 6 a1 l1.length c1], [.sl 6 a2 l2.length c2]]] = B at *
  have r1 := m0.keep0 rvers_ok hs1
  have r2 := m0.keep0 rvers_ok hs2
  obtain ⟨n, hn⟩ : ∃ n, l1.length + l2.length = n + 1 := ⟨l1.length + l2.length - 1, by omega⟩
  have m1 : Mv B [] (B ++ [.rows 6 36 false (List.replicate (n + 1) [.int .i64 0, .int .i64 0, .int .i64 0, .sl 0 none 0 (some 0), .str ⟨⟨[]⟩⟩, .bool false])]) [] := Mv.snoc
  have hC0 : (B ++ [Blk.rows 6 36 false (List.replicate (n + 1) [V.int .i64 0, .int .i64 0, .int .i64 0, .sl 0 none 0 (some 0), .str ⟨⟨[]⟩⟩, .bool false])])[B.length]? = some (.rows 6 36 false (List.replicate (n + 1) [.int .i64 0, .int .i64 0, .int .i64 0, .sl 0 none 0 (some 0), .str ⟨⟨[]⟩⟩, .bool false])) := by simp
  have grow : evl lo 241 [.sl 0 none 0 (some 0), .int .i64 ((n + 1 : Nat) : Int)] B = some (.sl 6 (some (B.length, 0)) 0 none, B ++ [.rows 6 36 false (List.replicate (n + 1) [.int .i64 0, .int .i64 0, .int .i64 0, .sl 0 none 0 (some 0), .str ⟨⟨[]⟩⟩, .bool false])]) := by
    refine E_slices_Grow_impl_Ver_impl_Ver_z ?_
    have e1 : IntKind.i64.wrap (((0 : Nat) : Int) - ((0 : Nat) : Int)) = 0 := by decide
    have e2 : IntKind.i64.wrap (((n + 1 : Nat) : Int) - 0) = ((n + 1 : Nat) : Int) := by rw [wr (by omega) (by omega)]; omega
    rw [br_neg (by omega)]
    simp only [eO_s, e1, e2]
    rw [br_pos (by omega)]
    have e3 : ∀ {T : Type} (K : Option (Nat × Nat) → Nat → Option Nat → Option T), reslice none 0 (some 0) none (some (.int .i64 0)) none K = K none 0 (some 0) := by
      intro T K
      unfold reslice slMax slHi slLo
      simp only [eI_int]
      rw [inS_in ⟨by decide, by decide⟩]; rfl
    rw [e3, need_of ⟨by omega, by omega⟩, Int.toNat_natCast, List.replicate_succ]
    simp only [app, show Nat.blt 0 72 = true from rfl, need_t]
    rw [need_of (by simp [maxBytes]; omega)]
    simp only [eS_sl]
    unfold reslice slMax slHi slLo
    simp only [eI_int]
    rw [inS_in ⟨by omega, by omega⟩]
    simp [List.replicate_succ]
  have hBle : B.length < (B ++ [Blk.rows 6 36 false (List.replicate (n + 1) [V.int .i64 0, .int .i64 0, .int .i64 0, .sl 0 none 0 (some 0), .str ⟨⟨[]⟩⟩, .bool false])]).length := by simp
  generalize hC : B ++ [Blk.rows 6 36 false (List.replicate (n + 1) [V.int .i64 0, .int .i64 0, .int .i64 0, .sl 0 none 0 (some 0), .str ⟨⟨[]⟩⟩, .bool false])] = C at *
  generalize hz : [V.int .i64 0, .int .i64 0, .int .i64 0, .sl 0 none 0 (some 0), .str ⟨⟨[]⟩⟩, .bool false] = z at hC0
  obtain ⟨rows1, Fs1, er1, ea1, sub1, _⟩ := rowsOf_sli (m1.keep0 rvers_ok r1)
  have len1 := ea1.len.1
  have bd1 := fun y hy => rvers_ok.bd _ _ _ _ r1 y (sub1 y hy)
  -- the first behind nothing
  have frD : ∀ y, y ≠ B.length → (C.set B.length (.rows 6 36 false ((List.replicate (n + 1) z).take (0 + 0) ++ rows1 ++ (List.replicate (n + 1) z).drop (0 + 0 + rows1.length))))[y]? = C[y]? := fun y hy => List.getElem?_set_ne (Ne.symm hy)
  have hD0 : (C.set B.length (.rows 6 36 false ((List.replicate (n + 1) z).take (0 + 0) ++ rows1 ++ (List.replicate (n + 1) z).drop (0 + 0 + rows1.length))))[B.length]? = some (.rows 6 36 false (rows1 ++ List.replicate l2.length z)) := by
    rw [List.getElem?_set_self hBle]
    simp only [Nat.add_zero, List.take_zero, List.nil_append, Nat.zero_add, List.drop_replicate]
    rw [show n + 1 - rows1.length = l2.length by omega]
  have hDl : (C.set B.length (.rows 6 36 false ((List.replicate (n + 1) z).take (0 + 0) ++ rows1 ++ (List.replicate (n + 1) z).drop (0 + 0 + rows1.length)))).length = C.length := by simp
  have e5 := fun {T : Type} (K : V → Heap → Option T) => app_in (lo := lo) (e := 36) (bytes := 72) (i := 0) (len := 0) (xs := rows1) (K := K) hC0 (by omega) (by simp; omega) (by decide) (by omega)
  generalize hD : C.set B.length (.rows 6 36 false ((List.replicate (n + 1) z).take (0 + 0) ++ rows1 ++ (List.replicate (n + 1) z).drop (0 + 0 + rows1.length))) = D at *
  have mD : Mv B [] D [] := ⟨by omega, fun y hy _ => by rw [frD y (by omega)]; exact m1.fr y hy (by simp), by simp, by simp⟩
  obtain ⟨rows2, Fs2, er2, ea2, sub2, _⟩ := rowsOf_sli (mD.keep0 rvers_ok r2)
  have len2 := ea2.len.1
  have bd2 := fun y hy => rvers_ok.bd _ _ _ _ r2 y (sub2 y hy)
  have e6 := fun {T : Type} (K : V → Heap → Option T) => app_in (lo := lo) (e := 36) (bytes := 72) (i := 0) (len := 4) (xs := rows2) (K := K) hD0 (by omega) (by simp; omega) (by decide) (by omega)
  have hDle : B.length < D.length := by omega
  have hE0 : (D.set B.length (.rows 6 36 false ((rows1 ++ List.replicate l2.length z).take (0 + 4) ++ rows2 ++ (rows1 ++ List.replicate l2.length z).drop (0 + 4 + rows2.length))))[B.length]? = some (.rows 6 36 false (rows1 ++ rows2)) := by
    rw [List.getElem?_set_self hDle]
    rw [List.take_append_of_le_length (by omega), List.take_of_length_le (by omega), List.drop_of_length_le (by simp; omega), List.append_nil]
  have frE : ∀ y, y ≠ B.length → (D.set B.length (.rows 6 36 false ((rows1 ++ List.replicate l2.length z).take (0 + 4) ++ rows2 ++ (rows1 ++ List.replicate l2.length z).drop (0 + 4 + rows2.length))))[y]? = D[y]? := fun y hy => List.getElem?_set_ne (Ne.symm hy)
  have hEl : (D.set B.length (.rows 6 36 false ((rows1 ++ List.replicate l2.length z).take (0 + 4) ++ rows2 ++ (rows1 ++ List.replicate l2.length z).drop (0 + 4 + rows2.length)))).length = D.length := by simp
  generalize hE : D.set B.length (.rows 6 36 false ((rows1 ++ List.replicate l2.length z).take (0 + 4) ++ rows2 ++ (rows1 ++ List.replicate l2.length z).drop (0 + 4 + rows2.length))) = E at *
  have ldB : ∀ {X : Heap} (k : Nat) {v : V}, X[h.length]? = some (.rows 1 44 false [[.sl 6 a1 l1.length c1], [.sl 6 a2 l2.length c2]]) → ([[V.sl 6 a1 l1.length c1], [.sl 6 a2 l2.length c2]] : List (List V))[k]? = some [v] → ld X h.length k 0 1 = some [v] := fun k v hb hk => by rw [ld_of hb hk]; rfl
  refine ⟨some (B.length, 0), B.length :: (Fs1 ++ Fs2).flatten, E, E_slices_Concat_impl_Ver_impl_Ver ?_, ⟨6, some (B.length, 0), none, by simp, rfl, rows1 ++ rows2, Fs1 ++ Fs2, hE0, by simp; omega, fun k hk => (by cases hk), fun _ => rfl, ?_, rfl⟩, ⟨by omega, fun y hy _ => by rw [frE y (by omega), frD y (by omega), m1.fr y (by omega) (by simp)]; exact m0.fr y hy (by simp), by simp, by simp⟩⟩
  · have hBC : C[h.length]? = some (.rows 1 44 false [[.sl 6 a1 l1.length c1], [.sl 6 a2 l2.length c2]]) := by rw [m1.fr _ hBl (by simp)]; exact hbB
    have hBD : D[h.length]? = some (.rows 1 44 false [[.sl 6 a1 l1.length c1], [.sl 6 a2 l2.length c2]]) := by rw [frD _ (by omega)]; exact hBC
    have w1 : IntKind.i64.wrap (0 + (l1.length : Int)) = (l1.length : Int) := by rw [wr (by omega) (by omega)]; omega
    have w2 : IntKind.i64.wrap ((l1.length : Int) + (l2.length : Int)) = ((n + 1 : Nat) : Int) := by rw [wr (by omega) (by omega)]; omega
    have w3 : IntKind.i64.wrap (0 + 1) = 1 := by decide
    have w4 : IntKind.i64.wrap (1 + 1) = 2 := by decide
    rw [L_slices_Concat_impl_Ver_impl_Ver_0.e, br_pos (by decide), inB_in ⟨by decide, by decide⟩]
    simp only [eO_s, Nat.zero_add, show Int.toNat 0 = 0 from rfl]
    rw [ldB 0 hbB rfl]
    simp only [eO_s, eC_c, eN_n, eS_sl, w1, w3]
    rw [br_neg (by omega), L_slices_Concat_impl_Ver_impl_Ver_0.e, br_pos (by decide), inB_in ⟨by decide, by decide⟩]
    simp only [eO_s, Nat.zero_add, show Int.toNat 1 = 1 from rfl]
    rw [ldB 1 hbB rfl]
    simp only [eO_s, eC_c, eN_n, eS_sl, w2, w4]
    rw [br_neg (by omega), L_slices_Concat_impl_Ver_impl_Ver_0.e, br_neg (by decide), grow]
    simp only [cal_s, eS_sl]
    rw [L_slices_Concat_impl_Ver_impl_Ver_2.e, br_pos (by decide), inB_in ⟨by decide, by decide⟩]
    simp only [eO_s, Nat.zero_add, show Int.toNat 0 = 0 from rfl]
    rw [ldB 0 hBC rfl]
    simp only [eO_s, eC_c, eN_n, eS_sl, w3]
    rw [er1, e5]
    simp only [eS_sl]
    rw [L_slices_Concat_impl_Ver_impl_Ver_2.e, br_pos (by decide), inB_in ⟨by decide, by decide⟩]
    simp only [eO_s, Nat.zero_add, show Int.toNat 1 = 1 from rfl]
    rw [ldB 1 hBD rfl]
    simp only [eO_s, eC_c, eN_n, eS_sl, w4]
    rw [er2, show rows1.length = 4 by omega, e6]
    simp only [eS_sl]
    rw [L_slices_Concat_impl_Ver_impl_Ver_2.e, br_neg (by decide)]
    rw [show 4 + rows2.length = (l1 ++ l2).length by simp; omega]
  · rw [List.drop_zero, List.take_of_length_le (by simp; omega)]
    refine EAll.append (ea1.fr rver_ok.fr fun y hy => ?_) (ea2.fr rver_ok.fr fun y hy => frE y ?_)
    · have := bd1 y hy
      rw [frE y (by omega), frD y (by omega)]
    · have := bd2 y hy; omega
end
end Go.Proofs.YtfhnofppfacemaaGreat
namespace Go.Proofs.YtfhnofppfacemaaGreat
open Go T
set_option linter.unusedVariables false
set_option linter.unusedSimpArgs false
section
variable {lo : Nat} {h : Heap} {F F' : List Nat} {a a' : Option (Nat × Nat)} {c c' : Option Nat}
theorem impl_PlaceOk {p : Place} {a1 a2 a3 : Option (Nat × Nat)} {c1 c2 c3 : Option Nat} {F1 F2 F3 : List Nat} (hs1 : RNodes false h [.sl 2 a1 p.chain.length c1] p.chain F1) (hs2 : RVers false h [.sl 6 a2 p.log.length c2] p.log F2)
    (hs3 : RVss false h [.sl 1 a3 p.got.length c3] p.got F3) (hn : smPlace p) : evl lo 75 [.agg (p.cs a1 c1 a2 c2 a3 c3)] h = some (.bool (placeOk p), h) := by
  suffices hk : ∃ h', _ = some (V.bool (placeOk p), h') from hk.elim fun h' hk => E_impl_PlaceOk hk
  have m0 : Mv h [] (h ++ [.rows 6 47 false [p.cs a1 c1 a2 c2 a3 c3]]) [] := Mv.snoc
  have hB0 : (h ++ [Blk.rows 6 47 false [p.cs a1 c1 a2 c2 a3 c3]])[h.length]? = some (.rows 6 47 false [p.cs a1 c1 a2 c2 a3 c3]) := by simp
  have hBl : h.length < (h ++ [Blk.rows 6 47 false [p.cs a1 c1 a2 c2 a3 c3]]).length := by simp
  generalize hB : h ++ [Blk.rows 6 47 false [p.cs a1 c1 a2 c2 a3 c3]] = B at *
  have r1 := m0.keep0 rnodes_ok hs1
  have r2 := m0.keep0 rvers_ok hs2
  have r3 := m0.keep0 rvss_ok hs3
  have ld1 : ∀ {X : Heap} (j : Nat) {v : V}, X[h.length]? = some (.rows 6 47 false [p.cs a1 c1 a2 c2 a3 c3]) → (p.cs a1 c1 a2 c2 a3 c3)[j]? = some v → ld X h.length 0 j 1 = some [v] := fun j v hb hv => by
    rw [ld_of hb rfl]; exact cut_one hv
  rw [ld1 0 hB0 rfl]; simp only [eO_s, eC_c, eN_n, eI_int]
  rw [impl_placeOk]; simp only [cal_s, eB_b]
  unfold placeOk
  cases within p.me 0 2 with
  | false => exact ⟨_, rfl⟩
  | true =>
  rw [br_t, ld1 1 hB0 rfl]; simp only [eO_s, eC_c, eN_n, eI_int]
  rw [impl_within]; simp only [cal_s, eB_b]
  cases within p.clock 0 999 with
  | false => exact ⟨_, rfl⟩
  | true =>
  rw [br_t, ld1 2 hB0 rfl]; simp only [eO_s, eC_c, eN_n, eS_sl]
  rw [impl_ChainOk r1 hn.1]; simp only [cal_s, eB_b]
  cases hc : chainOk p.chain with
  | false => exact ⟨_, by rw [Bool.and_false]; rfl⟩
  | true =>
  rw [br_t, ld1 3 hB0 rfl]; simp only [eO_s, eC_c, eN_n, eS_sl]
  rw [ld1 0 hB0 rfl]; simp only [eO_s, eC_c, eN_n, eI_int]
  rw [impl_logOk r2 hn.2.1]; simp only [cal_s, eB_b]
  cases logOk p.me p.log with
  | false => exact ⟨_, by rw [Bool.and_false]; rfl⟩
  | true =>
  rw [br_t, ld1 4 hB0 rfl]; simp only [eO_s, eC_c, eN_n, eS_sl]
  by_cases hg : ¬ p.got.length = 3
  · rw [show ((p.got.length : Int) == 3) = false by rw [beq_eq_false_iff_ne]; omega, decide_eq_false hg]
    exact ⟨_, by rw [Bool.and_false]; rfl⟩
  have hg : p.got.length = 3 := by omega
  rw [show ((p.got.length : Int) == 3) = true by rw [beq_iff_eq]; omega, decide_eq_true hg, br_t]
  obtain ⟨hl4, hno⟩ := chainOk_all hc
  obtain ⟨at', ct, Gt, et, rt, _⟩ := impl_tail (lo := h.length) (ld1 2 hB0 rfl) r1 (by omega) (by omega)
  rw [et]; simp only [cal_s, eA_a, eC_c, eS_sl, eN_n]
  have hsl := storeOk_len (nodeOk_parts (hno _ (List.getElem_mem (show p.chain.length - 1 < p.chain.length by omega)))).1
  obtain ⟨vg, hg1, Gg, eg, rg, mg⟩ := impl_tags (lo := h.length) rt m0.le hsl
  obtain ⟨ag, cg, esg, rg⟩ := rg.form
  rw [← last_get (by omega)] at rg esg
  have hst := stable_len hc
  rw [eg]; simp only [cal_s, eA_a, eC_c, esg, eN_n]
  have hG0 : hg1[h.length]? = some (.rows 6 47 false [p.cs a1 c1 a2 c2 a3 c3]) := by rw [mg.fr _ hBl (by simp)]; exact hB0
  rw [ld1 2 hG0 rfl]; simp only [eO_s, eC_c, eN_n, eS_sl]
  have r1' := mg.keep0 rnodes_ok r1
  have r3' := mg.keep0 rvss_ok r3
  have key := all_mv (p := fun i (x : Node) => (x.store ++ x.wait).all (elemOk (stable p.chain) p.clock i)) (l := p.chain) (h0 := hg1) (fun i hh => L_impl_PlaceOk_0 (List.length h) (List.length h) 0 0 false a1 p.chain.length c1 (p.chain.length : Nat) (i : Nat) ag (stable p.chain).length cg hh)
    (p.got.zipIdx.all fun x => gotAt p.me x.2 x.1) (fun i hi hh hm => by
      have hni := hno _ (List.getElem_mem hi)
      obtain ⟨g1, g2, g3⟩ := nodeOk_parts hni
      obtain ⟨o, s1, s2, b1, d1, b2, d2, G1, G2, ha, ho, _, _, e1, e2, q1, q2, _⟩ := (hm.keep0 rnodes_ok r1').get hi
      obtain ⟨a5, F5, h5, e5, r5, m5⟩ := impl_Concat (lo := h.length) q1 q2 (storeOk_len g1) g2 (Nat.le_trans (Nat.le_of_lt hBl) (Nat.le_trans mg.le hm.le))
      have hmh : Mv hg1 [] h5 [] := hm.trans m5
      have hH0 : h5[h.length]? = some (.rows 6 47 false [p.cs a1 c1 a2 c2 a3 c3]) := by rw [hmh.fr _ (Nat.lt_of_lt_of_le hBl mg.le) (by simp)]; exact hG0
      have rgs := hmh.keep0 rtags_ok rg
      refine ⟨h5, m5, ?_⟩
      rw [L_impl_PlaceOk_0.e, br_pos (by omega), inB_nat hi]
      simp only [ha, eO_s, Int.toNat_natCast, ho, eC_c, e1, e2, eN_n]
      rw [e5]
      simp only [cal_s, eS_sl]
      rw [← ha]
      have hlen : (p.chain[i].store ++ p.chain[i].wait).length ≤ 10 := by rw [List.length_append, storeOk_len g1]; omega
      refine (all_loop (p := elemOk (stable p.chain) p.clock i) (l := p.chain[i].store ++ p.chain[i].wait) (fun k => L_impl_PlaceOk_2 (List.length h) (List.length h) 0 0 false (i : Nat) a1 p.chain.length c1 (p.chain.length : Nat) (i : Nat) a5 (p.chain[i].store ++ p.chain[i].wait).length none ((p.chain[i].store ++ p.chain[i].wait).length : Nat) (k : Nat) ag (stable p.chain).length cg h5) (some (.bool false, h5)) (L_impl_PlaceOk_0 (List.length h) (List.length h) 0 0 false a1 p.chain.length c1 (p.chain.length : Nat) ((i + 1 : Nat) : Int) ag (stable p.chain).length cg h5) (fun k hk => ?_) ?_).trans ?_
      · obtain ⟨o', s, b, d, G, ha', ho', es, hp, _⟩ := r5.get hk
        rw [L_impl_PlaceOk_2.e, br_pos (by omega), inB_nat hk]
        simp only [ha', eO_s, Int.toNat_natCast, ho', eC_c, eI_int, es, eT_s, eBv_b, eN_n, Bool.and_true, wr_succ (show k < 9223372036854775807 by omega), Nat.zero_add]
        rw [ld1 1 hH0 rfl]
        simp only [eO_s, eC_c, eN_n, eI_int]
        have hk0 : ((i : Int) == 0) = decide (i = 0) := by rw [Bool.eq_iff_iff, beq_iff_eq, decide_eq_true_eq]; omega
        rw [hk0]
        have elem : elemOk (stable p.chain) p.clock i (p.chain[i].store ++ p.chain[i].wait)[k] = ((zeroTag (p.chain[i].store ++ p.chain[i].wait)[k] || under (p.chain[i].store ++ p.chain[i].wait)[k].past (stable p.chain)) && (!decide (i = 0) || decide ((p.chain[i].store ++ p.chain[i].wait)[k].tag.time ≤ p.clock))) := rfl
        have past4 : zeroTag (p.chain[i].store ++ p.chain[i].wait)[k] = false → (p.chain[i].store ++ p.chain[i].wait)[k].past.length = 4 := by
          intro hz
          have hmem : (p.chain[i].store ++ p.chain[i].wait)[k] ∈ p.chain[i].store ++ p.chain[i].wait := List.getElem_mem hk
          rw [List.mem_append] at hmem
          rcases hmem with hmem | hmem
          · obtain ⟨j, hj, ej⟩ := List.mem_iff_getElem.1 hmem
            rw [← ej] at hz ⊢
            exact store_past hni hj (by have := zeroTag_iff hni (List.getElem_mem hj); rw [hz] at this; simpa using this)
          · obtain ⟨j, hj, ej⟩ := List.mem_iff_getElem.1 hmem
            rw [← ej]; exact wait_past hni hj
        rw [elem]
        generalize (p.chain[i].store ++ p.chain[i].wait)[k] = u at *
        have htm : ∀ {T : Type} (x y : Option T), br (decide (u.tag.time > p.clock)) x y = br (!decide (u.tag.time ≤ p.clock)) x y := by
          intro T x y
          by_cases ht : u.tag.time ≤ p.clock
          · rw [br_neg (by omega), decide_eq_true ht]; rfl
          · rw [br_pos (by omega), decide_eq_false ht]; rfl
        simp only [htm]
        show br (zeroTag u) _ _ = _
        cases hz : zeroTag u with
        | true =>
          cases decide (i = 0) <;> cases decide (u.tag.time ≤ p.clock) <;> simp only [br_t, br_f, Bool.not_true, Bool.not_false, Bool.true_and, Bool.false_and, Bool.and_true, Bool.and_false, Bool.true_or, Bool.false_or, Bool.or_true, Bool.or_false, cond_true, cond_false, if_true, if_false, Bool.false_eq_true]
        | false =>
          have hu4 := past4 hz
          rw [br_f, impl_under hp rgs (by omega) (by omega)]
          simp only [cal_s, eB_b]
          rw [ld1 1 hH0 rfl]
          simp only [eO_s, eC_c, eN_n, eI_int, htm]
          cases under u.past (stable p.chain) <;> cases decide (i = 0) <;> cases decide (u.tag.time ≤ p.clock) <;> simp only [br_t, br_f, Bool.not_true, Bool.not_false, Bool.true_and, Bool.false_and, Bool.and_true, Bool.and_false, Bool.true_or, Bool.false_or, Bool.or_true, Bool.or_false, cond_true, cond_false, if_true, if_false, Bool.false_eq_true]
      · rw [L_impl_PlaceOk_2.e, br_neg (by omega), wr_succ (by omega)]
      · rfl) (fun hh hm => by
      have hH0 : hh[h.length]? = some (.rows 6 47 false [p.cs a1 c1 a2 c2 a3 c3]) := by rw [hm.fr _ (Nat.lt_of_lt_of_le hBl mg.le) (by simp)]; exact hG0
      have r3s := hm.keep0 rvss_ok r3'
      refine ⟨hh, ?_⟩
      rw [L_impl_PlaceOk_0.e, br_neg (by omega)]
      simp only [Nat.zero_add]
      rw [ld1 4 hH0 rfl]; simp only [eO_s, eC_c, eN_n, eS_sl]
      refine (all_idx (p := gotAt p.me) (l := p.got) (fun i => L_impl_PlaceOk_4 (List.length h) (List.length h) 0 0 false a3 p.got.length c3 (p.got.length : Nat) (i : Nat) hh) (some (.bool false, hh)) (some (.bool true, hh)) (fun i hi => ?_) ?_).trans if_some
      · obtain ⟨o, s, b, d, G, ha, ho, es, hp, _⟩ := r3s.get hi
        rw [L_impl_PlaceOk_4.e, br_pos (by omega), inB_nat hi]
        simp only [ha, eO_s, Int.toNat_natCast, ho, eC_c, es, eN_n, Nat.add_zero]
        rw [impl_logOk hp (hn.2.2.2 _ (List.getElem_mem hi)), ]
        simp only [cal_s, eB_b]
        rw [ld1 0 hH0 rfl]
        simp only [eO_s, eC_c, eN_n, eI_int, wr_succ (show i < 9223372036854775807 by omega)]
        unfold gotAt
        by_cases h0 : p.got[i].length = 0
        · rw [br_neg (by omega), decide_eq_true h0]
          cases logOk i p.got[i] <;> cases ((i : Int) == p.me) <;> rfl
        · rw [br_pos (by omega), decide_eq_false h0]
          cases logOk i p.got[i] <;> cases ((i : Int) == p.me) <;> rfl
      · rw [L_impl_PlaceOk_4.e, br_neg (by omega)])
  rw [causes_alt hc] at key
  obtain ⟨h', e⟩ := key
  refine ⟨h', e.trans ?_⟩
  cases causesOk p.chain <;> cases headOk p.chain p.clock <;> cases (p.got.zipIdx.all fun x => gotAt p.me x.2 x.1) <;> rfl
end
end Go.Proofs.YtfhnofppfacemaaGreat
namespace Go.Proofs.YtfhnofppfacemaaGreat
open Go T
set_option linter.unusedVariables false
set_option linter.unusedSimpArgs false
section
variable {h h' h'' : Heap} {F F' F'' G : List Nat}
/-- what lies below stays -/
theorem Mv.keepB {α : Type} {El : Rel α} {cs : List V} {x : α} (a : Mv h F h' F') (ok : El.Ok) (he : El h cs x G) {m : Nat} (hG : ∀ b ∈ G, b < m) (hF : ∀ b ∈ F, m ≤ b) : El h' cs x G :=
  a.keep ok he fun b hb hm => by have := hG b hb; have := hF b hm; omega
theorem Mv.keepA {α : Type} {El : Rel α} {cs : List V} {x : α} (a : Mv h F h' F') (ok : El.Ok) (he : El h cs x G) {m : Nat} (hG : ∀ b ∈ G, m ≤ b) (hF : ∀ b ∈ F, b < m) : El h' cs x G :=
  a.keep ok he fun b hb hm => by have := hG b hb; have := hF b hm; omega
theorem Mv.inv (a : Mv h [] h' F') : ∀ b ∈ F', h.length ≤ b ∧ b < h'.length := fun b hb => by
  rcases a.sub b hb with h1 | h1
  · simp at h1
  · exact h1
end
theorem exact_story {α β : Type} {Ra Rx : Rel α} {Rr : Rel β} (okA : Ra.Ok) (okX : Rx.Ok) (okR : Rr.Ok) {h : Heap} {a0 : List V} {x : α} {y y' : β} {F0 : List Nat} (ha : Ra h a0 x F0)
    {TO TO' : Heap → List V → Heap → Prop} {SP IM : List V → Heap → List V → Heap → Prop} {MX MR : List V → Heap → Heap → Prop}
    (hto : ∀ hh F, h.length ≤ hh.length → Ra hh a0 x F → ∃ cs h' F', TO hh cs h' ∧ Rx h' cs x F' ∧ Mv hh [] h' F')
    (hto' : ∀ hh F, h.length ≤ hh.length → Ra hh a0 x F → ∃ cs h' F', TO' hh cs h' ∧ Rx h' cs x F' ∧ Mv hh [] h' F')
    (hsp : ∀ cs hh F, h.length ≤ hh.length → Rx hh cs x F → F.Nodup → (∀ b ∈ F, h.length ≤ b) → ∃ r h' F', SP cs hh r h' ∧ Rr h' r y F' ∧ Mv hh [] h' F')
    (him : ∀ cs hh F, h.length ≤ hh.length → Rx hh cs x F → F.Nodup → (∀ b ∈ F, h.length ≤ b) → ∃ r h' F', IM cs hh r h' ∧ Rr h' r y F' ∧ Mv hh [] h' F')
    (hmx : ∀ cs hh F, Rx hh cs x F → F.Nodup → (∀ b ∈ F, h.length ≤ b) → ∃ h', MX cs hh h' ∧ Mv hh F h' F)
    (hmr : ∀ cs hh F, Rr hh cs y F → F.Nodup → (∀ b ∈ F, h.length ≤ b) → ∃ h', MR cs hh h' ∧ Rr h' cs y' F ∧ Mv hh F h' F) :
    ∃ c1 h1 w h2 c3 h3 g h4 c5 h5 h6 h7 c8 h8 g9 h9, TO h c1 h1 ∧ SP c1 h1 w h2 ∧ TO h2 c3 h3 ∧ IM c3 h3 g h4 ∧ TO' h4 c5 h5 ∧ MX c3 h5 h6 ∧ MR g h6 h7 ∧ TO h7 c8 h8 ∧ IM c8 h8 g9 h9 ∧
      ((∃ F, Rx h1 c1 x F) ∧ (∃ F, Rx h3 c3 x F) ∧ (∃ F, Rx h8 c8 x F)) ∧ ((∃ F, Rr h2 w y F) ∧ (∃ F, Rr h4 g y F) ∧ (∃ F, Rr h4 w y F)) ∧ ((∀ hm, Mv h4 [] hm [] → ∃ F, Rx hm c3 x F) ∧ (∃ F, Rx h5 c3 x F) ∧ (∃ F, Rx h5 c5 x F)) ∧ ((∃ F, Rr h6 g y F) ∧ (∃ F, Rr h6 w y F)) ∧
      (∃ F, Rr h7 g y' F) ∧ ((∃ F, Rr h9 g9 y F) ∧ (∃ F, Rr h9 w y F)) ∧ (∃ F, Rr h9 g y' F) := by
  obtain ⟨c1, h1, X1, t1, x1, m1⟩ := hto h F0 (Nat.le_refl _) ha
  have b1 := m1.inv
  obtain ⟨w, h2, W, s2, w2, m2⟩ := hsp c1 h1 X1 m1.le x1 m1.nd (fun b hb => (b1 b hb).1)
  have b2 := m2.inv
  have l1 := m1.le
  have l2 := m2.le
  have a2 := m2.keep0 okA (m1.keep0 okA ha)
  obtain ⟨c3, h3, X3, t3, x3, m3⟩ := hto h2 F0 (by omega) a2
  have b3 := m3.inv
  have l3 := m3.le
  obtain ⟨g, h4, G, i4, g4, m4⟩ := him c3 h3 X3 (by omega) x3 m3.nd (fun b hb => by have := b3 b hb; omega)
  have b4 := m4.inv
  have l4 := m4.le
  have w4 := m4.keep0 okR (m3.keep0 okR w2)
  have x4 := m4.keep0 okX x3
  have a4 := m4.keep0 okA (m3.keep0 okA a2)
  obtain ⟨c5, h5, X5, t5, x5, m5⟩ := hto' h4 F0 (by omega) a4
  have l5 := m5.le
  have w5 := m5.keep0 okR w4
  have g5 := m5.keep0 okR g4
  have x35 := m5.keep0 okX x4
  have a5 := m5.keep0 okA a4
  have bA := okA.bd _ _ _ _ ha
  obtain ⟨h6, p6, m6⟩ := hmx c3 h5 X3 x35 m3.nd (fun b hb => by have := b3 b hb; omega)
  have w6 := m6.keepB okR w5 (m := h2.length) (fun b hb => (b2 b hb).2) (fun b hb => (b3 b hb).1)
  have g6 := m6.keepA okR g5 (m := h3.length) (fun b hb => (b4 b hb).1) (fun b hb => (b3 b hb).2)
  have a6 := m6.keepB okA a5 (m := h.length) bA (fun b hb => by have := b3 b hb; omega)
  obtain ⟨h7, p7, g7, m7⟩ := hmr g h6 G g6 m4.nd (fun b hb => by have := b4 b hb; omega)
  have w7 := m7.keepB okR w6 (m := h2.length) (fun b hb => (b2 b hb).2) (fun b hb => by have := b4 b hb; omega)
  have a7 := m7.keepB okA a6 (m := h.length) bA (fun b hb => by have := b4 b hb; omega)
  have l6 := m6.le
  have l7 := m7.le
  obtain ⟨c8, h8, X8, t8, x8, m8⟩ := hto h7 F0 (by omega) a7
  have b8 := m8.inv
  have l8 := m8.le
  obtain ⟨g9, h9, G9, i9, r9, m9⟩ := him c8 h8 X8 (by omega) x8 m8.nd (fun b hb => by have := b8 b hb; omega)
  exact ⟨c1, h1, w, h2, c3, h3, g, h4, c5, h5, h6, h7, c8, h8, g9, h9, t1, s2, t3, i4, t5, p6, p7, t8, i9, ⟨⟨_, x1⟩, ⟨_, x3⟩, ⟨_, x8⟩⟩, ⟨⟨_, w2⟩, ⟨_, g4⟩, ⟨_, w4⟩⟩, ⟨fun hm mm => ⟨_, mm.keep0 okX x4⟩, ⟨_, x35⟩, ⟨_, x5⟩⟩, ⟨⟨_, g6⟩, ⟨_, w6⟩⟩, ⟨_, g7⟩,
    ⟨⟨_, r9⟩, ⟨_, m9.keep0 okR (m8.keep0 okR w7)⟩⟩, ⟨_, m9.keep0 okR (m8.keep0 okR g7)⟩⟩
end Go.Proofs.YtfhnofppfacemaaGreat
namespace Go.Proofs.YtfhnofppfacemaaGreat
open Go T
set_option linter.unusedVariables false
set_option linter.unusedSimpArgs false
set_option maxRecDepth 100000
section
variable {h : Heap}
theorem tv_struct {n t : Nat} {fs : Array Field} {xs : List V} (hu : Tryz.prog.underlying t = some (.struct fs)) (hx : TV Tryz.prog h (n + 1) t xs) : TVs Tryz.prog (TV Tryz.prog h n) fs.toList xs := by
  simp only [TV, hu] at hx; exact hx
theorem tv_int {n t : Nat} {xs : List V} (hu : Tryz.prog.underlying t = some (.int .i64)) (hx : TV Tryz.prog h (n + 1) t xs) : ∃ i : Int, xs = [.int .i64 i] ∧ -9223372036854775808 ≤ i ∧ i ≤ 9223372036854775807 := by
  simp only [TV, hu] at hx
  obtain ⟨i, h1, h2⟩ := hx
  refine ⟨i, h1, ?_⟩
  have e1 : IntKind.i64.min = -9223372036854775808 := by decide
  have e2 : IntKind.i64.max = 9223372036854775807 := by decide
  simp only [Lit.wf, Bool.and_eq_true, decide_eq_true_eq] at h2
  omega
theorem tv_str {n t : Nat} {xs : List V} (hu : Tryz.prog.underlying t = some .string) (hx : TV Tryz.prog h (n + 1) t xs) : ∃ s : ByteArray, xs = [.str s] ∧ s.size ≤ maxLen := by
  simp only [TV, hu] at hx; exact hx
theorem tv_bool {n t : Nat} {xs : List V} (hu : Tryz.prog.underlying t = some .bool) (hx : TV Tryz.prog h (n + 1) t xs) : ∃ b : Bool, xs = [.bool b] := by
  simp only [TV, hu] at hx; exact hx
theorem tv_sli {α : Type} {El : Rel α} {bd : α → Prop} {n t e ee R : Nat} {xs : List V} (hu : Tryz.prog.underlying t = some (.slice e)) (hR : Tryz.prog.cellsOf e = R) (hel : ∀ row, TV Tryz.prog h n e row → ∃ x F, El h row x F ∧ bd x) (hx : TV Tryz.prog h (n + 1) t xs) :
    ∃ l F, Sli true R ee El h xs l F ∧ l.length ≤ maxLen ∧ ∀ x ∈ l, bd x := by
  simp only [TV, hu] at hx
  obtain ⟨a, c, rs, rfl, h2, h3, h4⟩ := hx
  have all : ∀ rs : List (List V), (∀ row ∈ rs, TV Tryz.prog h n e row) → ∃ l Fs, EAll El h rs l Fs ∧ l.length = rs.length ∧ ∀ x ∈ l, bd x := by
    intro rs
    induction rs with
    | nil => intro _; exact ⟨[], [], trivial, rfl, by simp⟩
    | cons r rs ih =>
      intro hr
      obtain ⟨l, Fs, g1, g2, g3⟩ := ih fun row hrow => hr row (by simp [hrow])
      obtain ⟨x, F, g4, g5⟩ := hel r (hr r (by simp))
      exact ⟨x :: l, F :: Fs, ⟨g4, g1⟩, by simp [g2], fun y hy => by
        rcases List.mem_cons.1 hy with rfl | hy
        · exact g5
        · exact g3 y hy⟩
  obtain ⟨l, Fs, g1, g2, g3⟩ := all rs fun row hr => (h3 row hr).2
  rcases h4 with rfl | ⟨b, rfl, hb⟩
  · have : l = [] := List.eq_nil_of_length_eq_zero (by simpa using g2)
    subst this
    exact ⟨[], [], ⟨R, a, c, by rw [hR]; rfl, rfl, .inl ⟨rfl, rfl⟩⟩, Nat.zero_le _, by simp⟩
  · refine ⟨l, b :: Fs.flatten, ⟨R, some (b, 0), c, by rw [hR, g2], rfl, .inr ⟨b, 0, rs, Fs, rfl, hb, by omega, ?_, rfl⟩⟩, by omega, g3⟩
    rw [List.drop_zero, List.take_of_length_le (by omega)]; exact g1
theorem av_agg {n t : Nat} {fs : Array Field} {x : V} (hu : Tryz.prog.underlying t = some (.struct fs)) (hx : ArgV Tryz.prog h n t x) : ∃ xs, x = .agg xs ∧ TV Tryz.prog h n t xs := by
  unfold ArgV at hx
  rw [hu] at hx; exact hx
theorem av_int {n : Nat} {x : V} (hx : ArgV Tryz.prog h (n + 1) 3 x) : ∃ i : Int, x = .int .i64 i ∧ -9223372036854775808 ≤ i ∧ i ≤ 9223372036854775807 := by
  obtain ⟨i, hi, hb⟩ := tv_int Tryz.underlying3 (by unfold ArgV at hx; rw [Tryz.underlying3] at hx; exact hx)
  injection hi with hi _
  exact ⟨i, hi, hb⟩
theorem tv_Tag {n : Nat} {xs : List V} (hx : TV Tryz.prog h (n + 2) 57 xs) : ∃ t : Tag, xs = t.cs := by
  obtain ⟨y1, z1, rfl, _, g1, y2, z2, rfl, _, g2, rfl⟩ := tv_struct Tryz.underlying57 hx
  obtain ⟨i, rfl, _⟩ := tv_int Tryz.underlying3 g1
  obtain ⟨j, rfl, _⟩ := tv_int Tryz.underlying3 g2
  exact ⟨⟨i, j⟩, rfl⟩
theorem tv_TagS {n : Nat} {xs : List V} (hx : TV Tryz.prog h (n + 3) 58 xs) : ∃ l F, RTags true h xs l F ∧ l.length ≤ maxLen := by
  obtain ⟨l, F, h1, h2, _⟩ := tv_sli (El := flat Tag.cs) (bd := fun _ => True) (ee := eTag true) (R := 2) Tryz.underlying58 (by kernel_rfl) (fun row hr => by obtain ⟨t, rfl⟩ := tv_Tag (n := n) hr; exact ⟨t, [], ⟨rfl, rfl⟩, trivial⟩) hx
  exact ⟨l, F, h1, h2⟩
theorem tv_Past {n : Nat} {xs : List V} (hx : TV Tryz.prog h (n + 4) 60 xs) : ∃ l F, RTags true h xs l F ∧ l.length ≤ maxLen := by
  obtain ⟨y1, z1, rfl, _, g1, rfl⟩ := tv_struct Tryz.underlying60 hx
  rw [List.append_nil]; exact tv_TagS g1
theorem tv_Ver {n : Nat} {xs : List V} (hx : TV Tryz.prog h (n + 5) 62 xs) : ∃ v F, RVer true h xs v F ∧ bdVer v := by
  obtain ⟨y1, z1, rfl, _, g1, y2, z2, rfl, _, g2, y3, z3, rfl, _, g3, y4, z4, rfl, _, g4, y5, z5, rfl, _, g5, rfl⟩ := tv_struct Tryz.underlying62 hx
  obtain ⟨i, rfl, _⟩ := tv_int Tryz.underlying3 g1
  obtain ⟨t, rfl⟩ := tv_Tag g2
  obtain ⟨l, F, g3, g3'⟩ := tv_Past (n := n) g3
  obtain ⟨s, rfl, g4'⟩ := tv_str Tryz.underlying9 g4
  obtain ⟨b, rfl⟩ := tv_bool Tryz.underlying4 g5
  have : ∃ v, y3 = [v] := by obtain ⟨R', a, c, e, _⟩ := g3; exact ⟨_, e⟩
  obtain ⟨v, rfl⟩ := this
  exact ⟨⟨i, t, l, s, b⟩, F, ⟨v, rfl, g3⟩, g3', g4'⟩
theorem tv_VerS {n : Nat} {xs : List V} (hx : TV Tryz.prog h (n + 6) 25 xs) : ∃ l F, RVers true h xs l F ∧ bdVers l :=
  tv_sli (El := RVer true) (bd := bdVer) (ee := eVer true) (R := 6) Tryz.underlying25 (by kernel_rfl) (fun row hr => tv_Ver (n := n) hr) hx
theorem tv_VerSS {n : Nat} {xs : List V} (hx : TV Tryz.prog h (n + 7) 26 xs) : ∃ l F, RVss true h xs l F ∧ bdVss l :=
  tv_sli (El := RVers true) (bd := bdVers) (ee := eVers true) (R := 1) Tryz.underlying26 (by kernel_rfl) (fun row hr => tv_VerS (n := n) hr) hx
theorem tv_Store {n : Nat} {xs : List V} (hx : TV Tryz.prog h (n + 7) 202 xs) : ∃ l F, RVers true h xs l F ∧ bdVers l := by
  obtain ⟨y1, z1, rfl, _, g1, rfl⟩ := tv_struct Tryz.underlying202 hx
  rw [List.append_nil]; exact tv_VerS (n := n) g1
theorem sli_one {α : Type} {El : Rel α} {ro : Bool} {R e : Nat} {xs : List V} {l : List α} {F : List Nat} (hs : Sli ro R e El h xs l F) : ∃ v, xs = [v] := by
  obtain ⟨R', a, c, e, _⟩ := hs; exact ⟨_, e⟩
theorem tv_Node {n : Nat} {xs : List V} (hx : TV Tryz.prog h (n + 8) 204 xs) : ∃ x F, RNode true h xs x F ∧ bdNode x := by
  obtain ⟨y1, z1, rfl, _, g1, y2, z2, rfl, _, g2, rfl⟩ := tv_struct Tryz.underlying204 hx
  obtain ⟨l1, F1, r1, b1⟩ := tv_Store (n := n) g1
  obtain ⟨l2, F2, r2, b2⟩ := tv_VerS (n := n + 1) g2
  obtain ⟨v1, rfl⟩ := sli_one r1
  obtain ⟨v2, rfl⟩ := sli_one r2
  exact ⟨⟨l1, l2⟩, F1 ++ F2, ⟨v1, v2, F1, F2, rfl, rfl, r1, r2⟩, b1, b2⟩
theorem tv_NodeS {n : Nat} {xs : List V} (hx : TV Tryz.prog h (n + 9) 22 xs) : ∃ l F, RNodes true h xs l F ∧ bdNodes l :=
  tv_sli (El := RNode true) (bd := bdNode) (ee := eNode true) (R := 2) Tryz.underlying22 (by kernel_rfl) (fun row hr => tv_Node (n := n) hr) hx
theorem tv_Chain {n : Nat} {xs : List V} (hx : TV Tryz.prog h (n + 10) 24 xs) : ∃ l F, RNodes true h xs l F ∧ bdNodes l := by
  obtain ⟨y1, z1, rfl, _, g1, rfl⟩ := tv_struct Tryz.underlying24 hx
  rw [List.append_nil]; exact tv_NodeS (n := n) g1
theorem tv_Place {n : Nat} {xs : List V} (hx : TV Tryz.prog h (n + 11) 28 xs) : ∃ p F, RPlace true h xs p F ∧ bdPlace p := by
  obtain ⟨y1, z1, rfl, _, g1, y2, z2, rfl, _, g2, y3, z3, rfl, _, g3, y4, z4, rfl, _, g4, y5, z5, rfl, _, g5, y6, z6, rfl, _, g6, rfl⟩ := tv_struct Tryz.underlying28 hx
  obtain ⟨i, rfl, _⟩ := tv_int Tryz.underlying3 g1
  obtain ⟨j, rfl, _⟩ := tv_int Tryz.underlying3 g2
  obtain ⟨l1, F1, r1, b1⟩ := tv_Chain (n := n) g3
  obtain ⟨l2, F2, r2, b2⟩ := tv_VerS (n := n + 4) g4
  obtain ⟨l3, F3, r3, b3⟩ := tv_VerSS (n := n + 3) g5
  obtain ⟨b, rfl⟩ := tv_bool Tryz.underlying4 g6
  obtain ⟨v1, rfl⟩ := sli_one r1
  obtain ⟨v2, rfl⟩ := sli_one r2
  obtain ⟨v3, rfl⟩ := sli_one r3
  exact ⟨⟨i, j, l1, l2, l3, b⟩, F1 ++ (F2 ++ F3), ⟨v1, v2, v3, F1, F2, F3, rfl, rfl, r1, r2, r3⟩, b1, b2, b3⟩
end
end Go.Proofs.YtfhnofppfacemaaGreat
namespace Go.Proofs.YtfhnofppfacemaaGreat
open Go T
set_option linter.unusedVariables false
set_option linter.unusedSimpArgs false
theorem sli_true {α : Type} {El : Rel α} {R e : Nat} {h : Heap} {v : V} {l : List α} {F : List Nat} (hs : Sli true R e El h [v] l F) : ∃ a c, v = .sl R a l.length c := by
  obtain ⟨R', a, c, e1, rfl, _⟩ := hs
  injection e1 with e1 _
  exact ⟨a, c, e1⟩
theorem mkN_bound {α : Type} {w sz : α → Nat} {c : Nat} : ∀ {l : List α}, (∀ x ∈ l, w x ≤ c * (1 + sz x)) → mkN w l ≤ c * (l.length + (l.map sz).sum)
  | [], _ => by simp [mkN]
  | x :: l, h => by
    have h1 := mkN_bound (l := l) fun y hy => h y (by simp [hy])
    have h2 := h x (by simp)
    simp only [mkN, List.map_cons, List.sum_cons, List.length_cons] at h1 ⊢
    rw [Nat.mul_add] at h1 h2 ⊢
    rw [Nat.mul_add, Nat.mul_add]
    omega
theorem mkN_tag : ∀ {l : List Tag}, mkN wTag l = 2 * l.length
  | [] => rfl
  | t :: l => by
    have h1 := mkN_tag (l := l)
    have h2 : mkN wTag (t :: l) = 2 + mkN wTag l := by simp only [mkN, List.map_cons, List.sum_cons]
    rw [h2, h1, List.length_cons]; omega
theorem wVer_le {v : Ver} : wVer v ≤ 5 * (1 + szVer v) := by
  have := mkN_tag (l := v.past)
  simp only [wVer, szVer, this]; omega
theorem wVers_le {l : List Ver} : wVers l ≤ 5 * szVers l := mkN_bound fun v _ => wVer_le
theorem wVss_le {l : List (List Ver)} : wVss l ≤ 5 * szVss l := mkN_bound fun v _ => by have := wVers_le (l := v); omega
theorem wNodes_le {l : List Node} : wNodes l ≤ 5 * szNodes l := mkN_bound fun x _ => by
  have h1 := wVers_le (l := x.store)
  have h2 := wVers_le (l := x.wait)
  simp only [wNode, szNode]; omega
theorem wPlace_le {p : Place} : wPlace p ≤ 5 * szPlace p := by
  have h1 := wNodes_le (l := p.chain)
  have h2 := wVers_le (l := p.log)
  have h3 := wVss_le (l := p.got)
  simp only [wPlace, szPlace]; omega
theorem szN_small {s : Nat} (h : ¬ szN 1048576 s < 0) : s ≤ 1048576 := by
  unfold szN at h; split at h <;> omega
section
variable {lo : Nat} {h : Heap} {F F' : List Nat} {a a' : Option (Nat × Nat)} {c c' : Option Nat}
end
end Go.Proofs.YtfhnofppfacemaaGreat
namespace Go.Proofs.YtfhnofppfacemaaGreat
open Go T
set_option linter.unusedVariables false
set_option linter.unusedSimpArgs false
theorem Mv.swap {h h' : Heap} {A B A' B' : List Nat} (m : Mv h (A ++ B) h' (A' ++ B')) : Mv h (B ++ A) h' (B' ++ A') := by
  refine ⟨m.le, fun b hb hn => m.fr b hb fun hm => hn ?_, ?_, fun b hb => ?_⟩
  · rw [List.mem_append] at hm ⊢; exact hm.symm
  · have := m.nd
    rw [List.nodup_append] at this ⊢
    exact ⟨this.2.1, this.1, fun x hx y hy e => this.2.2 y hy x hx e.symm⟩
  · rw [List.mem_append] at hb
    refine (m.sub b (by rw [List.mem_append]; exact hb.symm)).imp (fun h => ?_) id
    rw [List.mem_append] at h ⊢; exact h.symm
section
variable {lo : Nat} {h : Heap} {F F' : List Nat} {a a' : Option (Nat × Nat)} {c c' : Option Nat}
end
end Go.Proofs.YtfhnofppfacemaaGreat
namespace Go.Proofs.YtfhnofppfacemaaGreat
open Go T
set_option linter.unusedVariables false
set_option linter.unusedSimpArgs false
theorem br_some {b : Bool} {h : Heap} : br b (some (V.bool true, h)) (some (V.bool false, h)) = some (V.bool b, h) := by cases b <;> rfl

section
variable {lo : Nat} {h : Heap} {F F' : List Nat} {a a' : Option (Nat × Nat)} {c c' : Option Nat}
end
end Go.Proofs.YtfhnofppfacemaaGreat
namespace Go.Proofs.YtfhnofppfacemaaGreat
open Go T
set_option linter.unusedVariables false
set_option linter.unusedSimpArgs false
/-- a block of one's own, written to -/
theorem Mv.store {h h' : Heap} {F F' : List Nat} {b : Nat} (m : Mv h F h' F') (hb : b < h.length) (hbF : b ∉ F) (X : Blk) :
    Mv h (b :: F) (h'.set b X) (b :: F') ∧ (h'.set b X)[b]? = some X ∧ (∀ y, y ≠ b → (h'.set b X)[y]? = h'[y]?) ∧ b ∉ F' := by
  have hbF' : b ∉ F' := fun hm => by
    rcases m.sub b hm with g | g
    · exact hbF g
    · omega
  have hb' : b < h'.length := Nat.lt_of_lt_of_le hb m.le
  refine ⟨⟨by simpa using m.le, fun y hy hF => ?_, by rw [List.nodup_cons]; exact ⟨hbF', m.nd⟩, fun y hy => ?_⟩, by simp [hb'], fun y hy => List.getElem?_set_ne (Ne.symm hy), hbF'⟩
  · rw [List.mem_cons, not_or] at hF
    rw [List.getElem?_set_ne (Ne.symm hF.1)]
    exact m.fr y hy hF.2
  · rw [List.mem_cons] at hy
    rcases hy with rfl | hy
    · exact .inl (by simp)
    · refine (m.sub y hy).imp (fun g => by simp [g]) fun g => by simpa using g

section
variable {lo : Nat} {ro : Bool} {h : Heap} {F F' : List Nat} {a a' : Option (Nat × Nat)} {c c' : Option Nat}
end
end Go.Proofs.YtfhnofppfacemaaGreat
namespace Go.Proofs.YtfhnofppfacemaaGreat
open Go T
set_option linter.unusedVariables false
set_option linter.unusedSimpArgs false
theorem log_parts {m : Int} {l : List Ver} (h : logOk m l = true) : l.length ≤ 60 ∧ ∀ i (hi : i < l.length), verOk l[i] = true ∧ l[i].tag.place = m ∧ hasTag (l.take i) l[i].tag = false := by
  unfold logOk at h
  rw [Bool.and_eq_true, all_zipIdx, decide_eq_true_eq] at h
  refine ⟨by omega, fun i hi => ?_⟩
  have := h.1 i hi
  simp only [logAt, Bool.and_eq_true, beq_iff_eq, Bool.not_eq_true'] at this
  exact ⟨this.1.1, this.1.2, this.2⟩
theorem ok_parts {p : Place} (h : placeOk p = true) : (0 ≤ p.me ∧ p.me ≤ 2) ∧ (0 ≤ p.clock ∧ p.clock ≤ 999) ∧ p.got.length = 3 ∧ chainOk p.chain = true ∧ causesOk p.chain = true ∧ logOk p.me p.log = true ∧
    (∀ i (hi : i < p.got.length), gotAt p.me i p.got[i] = true) ∧ headOk p.chain p.clock = true := by
  unfold placeOk at h
  simp only [Bool.and_eq_true, all_zipIdx, decide_eq_true_eq, within] at h
  obtain ⟨⟨⟨⟨⟨⟨⟨h1, h2⟩, h3⟩, h4⟩, h5⟩, h6⟩, h7⟩, h8⟩ := h
  exact ⟨h1, h2, h3, h4, h5, h6, h7, h8⟩
theorem got_log {p : Place} (h : placeOk p = true) {i : Nat} (hi : i < p.got.length) : logOk i p.got[i] = true := by
  have := (ok_parts h).2.2.2.2.2.2.1 i hi
  unfold gotAt at this
  rw [Bool.and_eq_true] at this
  exact this.1
theorem mkN_all {α : Type} {w : α → Nat} {c : Nat} : ∀ {l : List α}, (∀ v ∈ l, w v ≤ c) → mkN w l ≤ c * l.length
  | [], _ => by simp [mkN]
  | x :: l, h => by
    have h1 := mkN_all (w := w) (l := l) fun v hv => h v (by simp [hv])
    have h2 := h x (by simp)
    simp only [mkN, List.map_cons, List.sum_cons, List.length_cons, Nat.mul_add, Nat.mul_one] at h1 ⊢
    omega
end Go.Proofs.YtfhnofppfacemaaGreat
namespace Go.Proofs.YtfhnofppfacemaaGreat
open Go T
set_option linter.unusedVariables false
set_option linter.unusedSimpArgs false
theorem three {h h1 h2 : Heap} {b : Nat} {G1 G1' G2 G2' G3 : List Nat} (m1 : Mv h G1 h1 G1') (m2 : Mv h1 (b :: G2) h2 (b :: G2')) (hnd : (b :: (G1 ++ (G2 ++ G3))).Nodup) (hb : ∀ y ∈ b :: (G1 ++ (G2 ++ G3)), y < h.length) :
    Mv h (b :: (G1 ++ (G2 ++ G3))) h2 (b :: (G1' ++ (G2' ++ G3))) ∧ (∀ y ∈ G1', y ∉ b :: G2) ∧ (∀ y ∈ G3, y ∉ G1) ∧ ∀ y ∈ G3, y ∉ b :: G2 := by
  rw [List.nodup_cons, List.nodup_append, List.mem_append, List.mem_append, List.nodup_append] at hnd
  obtain ⟨n1, n2, ⟨n3, n4, n5⟩, n6⟩ := hnd
  simp only [not_or] at n1
  have hbb := hb b (by simp)
  have hb1 : ∀ y ∈ G1, y < h.length := fun y hy => hb y (by simp [hy])
  have hb2 : ∀ y ∈ G2, y < h.length := fun y hy => hb y (by simp [hy])
  have hb3 : ∀ y ∈ G3, y < h.length := fun y hy => hb y (by simp [hy])
  have l1 := m1.le
  have l2 := m2.le
  have d1 : ∀ y ∈ G1', y ∉ b :: G2 := fun y hy hm => by
    rcases m1.sub y hy with g | g
    · rcases List.mem_cons.1 hm with rfl | hm
      · exact n1.1 g
      · exact n6 y g y (by simp [hm]) rfl
    · rcases List.mem_cons.1 hm with rfl | hm
      · omega
      · have := hb2 y hm; omega
  have d2 : ∀ y ∈ G3, y ∉ G1 := fun y hy hm => n6 y hm y (by simp [hy]) rfl
  have d3 : ∀ y ∈ G3, y ∉ b :: G2 := fun y hy hm => by
    rcases List.mem_cons.1 hm with rfl | hm
    · exact n1.2.2 hy
    · exact n5 y hm y hy rfl
  have nd2 := m2.nd
  rw [List.nodup_cons] at nd2
  have s1 : ∀ y ∈ G1', y < h1.length := m1.lt hb1
  refine ⟨⟨by omega, fun y hy hF => ?_, ?_, fun y hy => ?_⟩, d1, d2, d3⟩
  · simp only [List.mem_cons, List.mem_append, not_or] at hF
    rw [m2.fr y (by omega) (by simp only [List.mem_cons, not_or]; exact ⟨hF.1, hF.2.2.1⟩), m1.fr y hy hF.2.1]
  · rw [List.nodup_cons, List.nodup_append, List.mem_append, List.mem_append, List.nodup_append]
    refine ⟨?_, m1.nd, ⟨nd2.2, n4, fun x hx y hy e => ?_⟩, fun x hx y hy e => ?_⟩
    · simp only [not_or]
      exact ⟨fun g => d1 b g (by simp), nd2.1, n1.2.2⟩
    · subst e
      rcases m2.sub x (by simp [hx]) with g | g
      · exact d3 x hy g
      · have := hb3 x hy; omega
    · subst e
      rcases List.mem_append.1 hy with hy | hy
      · rcases m2.sub x (by simp [hy]) with g | g
        · exact d1 x hx g
        · have := s1 x hx; omega
      · rcases m1.sub x hx with g | g
        · exact d2 x hy g
        · have := hb3 x hy; omega
  · simp only [List.mem_cons, List.mem_append] at hy ⊢
    rcases hy with hy | hy | hy | hy
    · exact .inl (.inl hy)
    · rcases m1.sub y hy with g | g
      · exact .inl (.inr (.inl g))
      · exact .inr ⟨g.1, by omega⟩
    · rcases m2.sub y (by simp [hy]) with g | g
      · rcases List.mem_cons.1 g with g | g
        · exact .inl (.inl g)
        · exact .inl (.inr (.inr (.inl g)))
      · exact .inr ⟨by omega, g.2⟩
    · exact .inl (.inr (.inr (.inr hy)))

section
variable {lo : Nat} {ro : Bool} {h : Heap} {F F' : List Nat} {a a' : Option (Nat × Nat)} {c c' : Option Nat}
end
end Go.Proofs.YtfhnofppfacemaaGreat
namespace Go.Proofs.YtfhnofppfacemaaGreat
open Go T
set_option linter.unusedVariables false
set_option linter.unusedSimpArgs false
theorem EAll.mono {α : Type} {A B : Rel α} {h : Heap} (hAB : ∀ row x F, A h row x F → B h row x F) : ∀ {rows : List (List V)} {l : List α} {Fs : List (List Nat)}, EAll A h rows l Fs → EAll B h rows l Fs
  | [], [], [], _ => trivial
  | _ :: _, _ :: _, _ :: _, ⟨h1, h2⟩ => ⟨hAB _ _ _ h1, EAll.mono hAB h2⟩
  | [], [], _ :: _, h => h.elim
  | [], _ :: _, _, h => h.elim
  | _ :: _, [], _, h => h.elim
  | _ :: _, _ :: _, [], h => h.elim
theorem Sli.mono {α : Type} {A B : Rel α} {h : Heap} {R e : Nat} {cs : List V} {l : List α} {F : List Nat} (hAB : ∀ row x F, A h row x F → B h row x F) (hs : Sli false R e A h cs l F) : Sli false R e B h cs l F := by
  obtain ⟨R', a, c, e1, g⟩ := hs
  refine ⟨R', a, c, e1, ?_⟩
  cases a with
  | none => exact g
  | some p =>
    obtain ⟨b, i⟩ := p
    obtain ⟨g0, rs, Fs, g1, g2, g3, g4, g5, g6⟩ := g
    exact ⟨g0, rs, Fs, g1, g2, g3, g4, g5.mono hAB, g6⟩
/-- a node whose waiting versions' room is known -/
def RNodeC : Rel Node := fun h row x F => RNode false h row x F ∧ ∃ s a n k, row = [s, .sl 6 a n (some k)]
abbrev RNodesC : Rel (List Node) := Sli false 2 (eNode false) RNodeC
theorem RNodesC.up {h : Heap} {cs : List V} {l : List Node} {F : List Nat} (hs : RNodesC h cs l F) : RNodes false h cs l F := Sli.mono (fun _ _ _ h => h.1) hs

section
variable {lo : Nat} {h : Heap} {F F' G : List Nat} {a a' av : Option (Nat × Nat)} {c c' cv : Option Nat}
end
end Go.Proofs.YtfhnofppfacemaaGreat
namespace Go.Proofs.YtfhnofppfacemaaGreat
open Go T
set_option linter.unusedVariables false
set_option linter.unusedSimpArgs false
def storeAtN (l : List Node) (k : Nat) : List Ver := match l[k]? with
  | some x => x.store
  | none => []
theorem storeAtN_get {l : List Node} {k : Nat} (hk : k < l.length) : storeAtN l k = l[k].store := by unfold storeAtN; rw [List.getElem?_eq_getElem hk]
section
variable {lo : Nat} {h : Heap} {F F' G : List Nat} {a a' av : Option (Nat × Nat)} {c c' cv : Option Nat}
end
end Go.Proofs.YtfhnofppfacemaaGreat
namespace Go.Proofs.YtfhnofppfacemaaGreat
open Go T
set_option linter.unusedVariables false
set_option linter.unusedSimpArgs false
set_option maxRecDepth 100000
section
variable {lo : Nat} {h : Heap} {F F' G : List Nat} {a a' av : Option (Nat × Nat)} {c c' cv : Option Nat}
theorem Mv.cons {h h' : Heap} {F F' : List Nat} {b : Nat} (m : Mv h F h' F') (hb : b < h.length) (hbF : b ∉ F) (hnd : F.Nodup) : Mv h (b :: F) h' (b :: F') :=
  (m.aside (G := [b]) (by rw [List.nodup_append]; exact ⟨hnd, by simp, fun x hx y hy e => by rw [List.mem_singleton] at hy; subst hy; subst e; exact hbF hx⟩) (by simpa using hb)).swap
end
end Go.Proofs.YtfhnofppfacemaaGreat
namespace Go.Proofs.YtfhnofppfacemaaGreat
open Go T
set_option linter.unusedVariables false
set_option linter.unusedSimpArgs false
structure Sess where
  place : Int
  past : List Tag
  wait : Tag
  key : Int
structure Done where
  sess : Int
  kind : Int
  key : Int
  tag : Tag
structure World where
  places : List Place
  sess : List Sess
  net : List Frame
  hist : List Done
abbrev ePlace (ro : Bool) : Nat := bif ro then 28 else 47
abbrev eSess (ro : Bool) : Nat := bif ro then 220 else 164
abbrev eFrame (ro : Bool) : Nat := bif ro then 223 else 38
abbrev eDone (ro : Bool) : Nat := bif ro then 232 else 227
abbrev Sess.cs (s : Sess) (a : Option (Nat × Nat)) (c : Option Nat) : List V := [.int .i64 s.place, .sl 2 a s.past.length c, .int .i64 s.wait.time, .int .i64 s.wait.place, .int .i64 s.key]
abbrev Done.cs (d : Done) : List V := [.int .i64 d.sess, .int .i64 d.kind, .int .i64 d.key, .int .i64 d.tag.time, .int .i64 d.tag.place]
abbrev World.cs (w : World) (a1 : Option (Nat × Nat)) (c1 : Option Nat) (a2 : Option (Nat × Nat)) (c2 : Option Nat) (a3 : Option (Nat × Nat)) (c3 : Option Nat) (a4 : Option (Nat × Nat)) (c4 : Option Nat) : List V :=
  [.sl 6 a1 w.places.length c1, .sl 5 a2 w.sess.length c2, .sl 9 a3 w.net.length c3, .sl 5 a4 w.hist.length c4]
abbrev RPlaces (ro : Bool) : Rel (List Place) := Sli ro 6 (ePlace ro) (RPlace ro)
def RSess (ro : Bool) : Rel Sess := fun h cs s F => ∃ v, cs = [.int .i64 s.place, v, .int .i64 s.wait.time, .int .i64 s.wait.place, .int .i64 s.key] ∧ RTags ro h [v] s.past F
abbrev RSesss (ro : Bool) : Rel (List Sess) := Sli ro 5 (eSess ro) (RSess ro)
abbrev RFrames (ro : Bool) : Rel (List Frame) := Sli ro 9 (eFrame ro) (RFrame ro)
abbrev RDones (ro : Bool) : Rel (List Done) := Sli ro 5 (eDone ro) (flat Done.cs)
def RWorld (ro : Bool) : Rel World := fun h cs w F => ∃ s1 s2 s3 s4 F1 F2 F3 F4, cs = [s1, s2, s3, s4] ∧ F = F1 ++ (F2 ++ (F3 ++ F4)) ∧ RPlaces ro h [s1] w.places F1 ∧ RSesss ro h [s2] w.sess F2 ∧ RFrames ro h [s3] w.net F3 ∧ RDones ro h [s4] w.hist F4
/-- a world with lengths in its cells -/
def RWorldN (ro : Bool) : Rel World := fun h cs w F => ∃ a1 c1 a2 c2 a3 c3 a4 c4 F1 F2 F3 F4, cs = w.cs a1 c1 a2 c2 a3 c3 a4 c4 ∧ F = F1 ++ (F2 ++ (F3 ++ F4)) ∧ RPlaces ro h [.sl 6 a1 w.places.length c1] w.places F1 ∧ RSesss ro h [.sl 5 a2 w.sess.length c2] w.sess F2 ∧ RFrames ro h [.sl 9 a3 w.net.length c3] w.net F3 ∧ RDones ro h [.sl 5 a4 w.hist.length c4] w.hist F4
theorem rplaces_ok {ro : Bool} : (RPlaces ro).Ok := Sli.ok rplace_ok
theorem rsess_ok {ro : Bool} : (RSess ro).Ok :=
  ⟨fun h h' cs x F ⟨s, h1, h2⟩ hb => ⟨s, h1, rtags_ok.fr _ _ _ _ _ h2 hb⟩, fun h cs x F ⟨s, _, h2⟩ => rtags_ok.bd _ _ _ _ h2⟩
theorem rsesss_ok {ro : Bool} : (RSesss ro).Ok := Sli.ok rsess_ok
theorem rframes_ok {ro : Bool} : (RFrames ro).Ok := Sli.ok rframe_ok
theorem rdones_ok {ro : Bool} : (RDones ro).Ok := Sli.ok flat_ok
theorem rworldN_ok {ro : Bool} : (RWorldN ro).Ok := by
  refine ⟨?_, ?_⟩
  · rintro h h' cs x F ⟨a1, c1, a2, c2, a3, c3, a4, c4, F1, F2, F3, F4, e, rfl, h1, h2, h3, h4⟩ hb
    exact ⟨a1, c1, a2, c2, a3, c3, a4, c4, F1, F2, F3, F4, e, rfl, rplaces_ok.fr _ _ _ _ _ h1 fun b hm => hb b (by simp [hm]), rsesss_ok.fr _ _ _ _ _ h2 fun b hm => hb b (by simp [hm]), rframes_ok.fr _ _ _ _ _ h3 fun b hm => hb b (by simp [hm]), rdones_ok.fr _ _ _ _ _ h4 fun b hm => hb b (by simp [hm])⟩
  · rintro h cs x F ⟨a1, c1, a2, c2, a3, c3, a4, c4, F1, F2, F3, F4, e, rfl, h1, h2, h3, h4⟩ b hb
    simp only [List.mem_append] at hb
    rcases hb with hb | hb | hb | hb
    · exact rplaces_ok.bd _ _ _ _ h1 b hb
    · exact rsesss_ok.bd _ _ _ _ h2 b hb
    · exact rframes_ok.bd _ _ _ _ h3 b hb
    · exact rdones_ok.bd _ _ _ _ h4 b hb
theorem rworld_true {h : Heap} {cs : List V} {w : World} {F : List Nat} (hp : RWorld true h cs w F) : RWorldN true h cs w F := by
  obtain ⟨s1, s2, s3, s4, F1, F2, F3, F4, rfl, rfl, h1, h2, h3, h4⟩ := hp
  obtain ⟨a1, c1, rfl⟩ := sli_true h1
  obtain ⟨a2, c2, rfl⟩ := sli_true h2
  obtain ⟨a3, c3, rfl⟩ := sli_true h3
  obtain ⟨a4, c4, rfl⟩ := sli_true h4
  exact ⟨_, _, _, _, _, _, _, _, _, _, _, _, rfl, rfl, h1, h2, h3, h4⟩

section
variable {ro : Bool} {h : Heap} {F : List Nat} {a : Option (Nat × Nat)} {c : Option Nat} {n k : Nat}
theorem RPlaces.get {l : List Place} (hs : RPlaces ro h [.sl 6 a n c] l F) (hk : k < l.length) : ∃ o s1 s2 s3 a1 c1 a2 c2 a3 c3 F1 F2 F3, a = some o ∧
    ld h o.1 (o.2 + k) 0 6 = some [.int .i64 l[k].me, .int .i64 l[k].clock, s1, s2, s3, .bool l[k].fell] ∧ ld h o.1 (o.2 + k) 0 1 = some [.int .i64 l[k].me] ∧ ld h o.1 (o.2 + k) 2 1 = some [s1] ∧ ld h o.1 (o.2 + k) 3 1 = some [s2] ∧ ld h o.1 (o.2 + k) 4 1 = some [s3] ∧
    (∀ {R' : Type} (K : Option (Nat × Nat) → Nat → Option Nat → Option R'), eS 2 s1 K = K a1 l[k].chain.length c1) ∧ (∀ {R' : Type} (K : Option (Nat × Nat) → Nat → Option Nat → Option R'), eS 6 s2 K = K a2 l[k].log.length c2) ∧
    (∀ {R' : Type} (K : Option (Nat × Nat) → Nat → Option Nat → Option R'), eS 1 s3 K = K a3 l[k].got.length c3) ∧
    RNodes ro h [.sl 2 a1 l[k].chain.length c1] l[k].chain F1 ∧ RVers ro h [.sl 6 a2 l[k].log.length c2] l[k].log F2 ∧ RVss ro h [.sl 1 a3 l[k].got.length c3] l[k].got F3 ∧ (∀ b, b ∈ F1 ∨ b ∈ F2 ∨ b ∈ F3 → b ∈ F) := by
  obtain ⟨o, row, G, h1, h2, hv, hG, _⟩ := hs.read hk
  obtain ⟨s1, s2, s3, a1, c1, a2, c2, a3, c3, F1, F2, F3, rfl, rfl, e1, e2, e3, g1, g2, g3⟩ := hv.form
  exact ⟨o, s1, s2, s3, a1, c1, a2, c2, a3, c3, F1, F2, F3, h1, by rw [h2]; rfl, by rw [h2]; rfl, by rw [h2]; rfl, by rw [h2]; rfl, by rw [h2]; rfl, e1, e2, e3, g1, g2, g3, fun b hb => hG b (by simpa using hb)⟩
theorem RSess.form {row : List V} {s : Sess} (hv : RSess ro h row s F) : ∃ v a c, row = [.int .i64 s.place, v, .int .i64 s.wait.time, .int .i64 s.wait.place, .int .i64 s.key] ∧
    (∀ {R' : Type} (K : Option (Nat × Nat) → Nat → Option Nat → Option R'), eS 2 v K = K a s.past.length c) ∧ RTags ro h [.sl 2 a s.past.length c] s.past F := by
  obtain ⟨v, rfl, hp⟩ := hv
  obtain ⟨a, c, es, hp2⟩ := hp.form
  exact ⟨v, a, c, rfl, es, hp2⟩
theorem RSesss.get {l : List Sess} (hs : RSesss ro h [.sl 5 a n c] l F) (hk : k < l.length) : ∃ o v a' c' G, a = some o ∧ ld h o.1 (o.2 + k) 0 5 = some [.int .i64 l[k].place, v, .int .i64 l[k].wait.time, .int .i64 l[k].wait.place, .int .i64 l[k].key] ∧
    ld h o.1 (o.2 + k) 0 1 = some [.int .i64 l[k].place] ∧ ld h o.1 (o.2 + k) 1 1 = some [v] ∧
    (∀ {R' : Type} (K : Option (Nat × Nat) → Nat → Option Nat → Option R'), eS 2 v K = K a' l[k].past.length c') ∧ RTags ro h [.sl 2 a' l[k].past.length c'] l[k].past G ∧ (∀ b ∈ G, b ∈ F) := by
  obtain ⟨o, row, G, h1, h2, hv, hG, _⟩ := hs.read hk
  obtain ⟨v, a', c', rfl, es, hp⟩ := hv.form
  exact ⟨o, v, a', c', G, h1, by rw [h2]; rfl, by rw [h2]; rfl, by rw [h2]; rfl, es, hp, hG⟩
theorem RFrames.get {l : List Frame} (hs : RFrames ro h [.sl 9 a n c] l F) (hk : k < l.length) : ∃ o s a' c' G, a = some o ∧
    ld h o.1 (o.2 + k) 0 9 = some [.int .i64 l[k].fro, .int .i64 l[k].to, .int .i64 l[k].at', .int .i64 l[k].ver.key, .int .i64 l[k].ver.tag.time, .int .i64 l[k].ver.tag.place, s, .str l[k].ver.text, .bool l[k].ver.gone] ∧
    (∀ {R' : Type} (K : Option (Nat × Nat) → Nat → Option Nat → Option R'), eS 2 s K = K a' l[k].ver.past.length c') ∧ RTags ro h [.sl 2 a' l[k].ver.past.length c'] l[k].ver.past G ∧ (∀ b ∈ G, b ∈ F) := by
  obtain ⟨o, row, G, h1, h2, ⟨vs, rfl, hv⟩, hG, _⟩ := hs.read hk
  obtain ⟨s, a', c', rfl, es, hp⟩ := hv.form
  exact ⟨o, s, a', c', G, h1, by rw [h2]; rfl, es, hp, hG⟩
theorem RDones.get {l : List Done} (hs : RDones ro h [.sl 5 a n c] l F) (hk : k < l.length) : ∃ o, a = some o ∧ ld h o.1 (o.2 + k) 0 5 = some l[k].cs := by
  obtain ⟨o, row, G, h1, h2, ⟨rfl, _⟩, _⟩ := hs.read hk
  exact ⟨o, h1, by rw [h2]; rfl⟩
end
def szPlaces (l : List Place) : Nat := l.length + (l.map szPlace).sum
def szSess (s : Sess) : Nat := s.past.length
def szSesss (l : List Sess) : Nat := l.length + (l.map szSess).sum
def szFrame (f : Frame) : Nat := szVer f.ver
def szFrames (l : List Frame) : Nat := l.length + (l.map szFrame).sum
def szWorld (w : World) : Nat := szPlaces w.places + szSesss w.sess + szFrames w.net + w.hist.length
def bdWorld (w : World) : Prop := (w.places.length ≤ maxLen ∧ ∀ p ∈ w.places, bdPlace p) ∧ (w.sess.length ≤ maxLen ∧ ∀ s ∈ w.sess, s.past.length ≤ maxLen) ∧ (w.net.length ≤ maxLen ∧ ∀ f ∈ w.net, bdVer f.ver) ∧ w.hist.length ≤ maxLen
def smWorld (w : World) : Prop := (w.places.length ≤ 1048576 ∧ ∀ p ∈ w.places, smPlace p) ∧ (w.sess.length ≤ 1048576 ∧ ∀ s ∈ w.sess, s.past.length ≤ 1048576) ∧ (w.net.length ≤ 1048576 ∧ ∀ f ∈ w.net, f.ver.past.length ≤ 1048576 ∧ f.ver.text.size ≤ 1048576) ∧ w.hist.length ≤ 1048576
theorem sm_world {w : World} (h : szWorld w ≤ 1048576) : smWorld w := by
  unfold szWorld szPlaces szSesss szFrames at h
  refine ⟨⟨by omega, fun p hp => sm_place ?_⟩, ⟨by omega, fun s hs => ?_⟩, ⟨by omega, fun f hf => ?_⟩, by omega⟩
  · have := le_sum (f := szPlace) hp; omega
  · have := le_sum (f := szSess) hs
    have e : szSess s = s.past.length := rfl
    omega
  · have := le_sum (f := szFrame) hf
    have e : szFrame f = f.ver.past.length + f.ver.text.size := rfl
    omega

section
variable {lo : Nat} {ro ro' : Bool} {h : Heap} {F F' : List Nat} {a a' : Option (Nat × Nat)} {c c' : Option Nat} {left : Int}
theorem laws_szPlaceS {l : List Place} (hs : RPlaces ro h [.sl 6 a l.length c] l F) (hb : l.length ≤ maxLen ∧ ∀ p ∈ l, bdPlace p) (h0 : 0 ≤ left) (h1 : left ≤ 1048576) : evl lo 127 [.sl 6 a l.length c, .int .i64 left] h = some (.int .i64 (szN left (szPlaces l)), h) := by
  refine E_laws_szPlaceS (h' := h) ?_
  unfold szPlaces
  rw [sz_sub h0 h1 hb.1, ← szN_add h0]
  by_cases hn : szN left l.length < 0
  · rw [if_pos hn, if_pos hn]
  · rw [if_neg hn, if_neg hn, szN_wrap h0 h1 hb.1 hn]
    have hle := szN_le (s := l.length) h0
    have hbig : l.length ≤ 1048576 := by unfold szN at hn; split at hn <;> omega
    refine sz_loop (sz := szPlace) (L := fun left i => L_laws_szPlaceS_0 (List.length h) a l.length c left 0 (i : Nat) h) (fun i hi left g0 g1 => ?_) (fun left => ?_) (by omega) (by omega)
    · obtain ⟨o, s1, s2, s3, a1, c1, a2, c2, a3, c3, F1, F2, F3, rfl, ho, _, _, _, _, e1, e2, e3, r1, r2, r3, _⟩ := hs.get hi
      rw [L_laws_szPlaceS_0.e, br_pos (by omega), inB_nat hi]
      simp only [eO_s, Int.toNat_natCast, ho, eC_c, eI_int, e1, e2, e3, eBv_b, eN_n]
      rw [laws_szPlace r1 r2 r3 (hb.2 _ (List.getElem_mem hi)) g0 g1]
      simp only [cal_s, eI_int, br_lt, wr_succ (show i < 9223372036854775807 by omega)]
    · rw [L_laws_szPlaceS_0.e, br_neg (by omega)]
theorem laws_szSess {s : Sess} (hb : s.past.length ≤ maxLen) (h0 : 0 ≤ left) (h1 : left ≤ 1048576) : evl lo 217 [.agg (s.cs a c), .int .i64 left] h = some (.int .i64 (szN left (szSess s)), h) := by
  refine E_laws_szSess (h' := h) ?_
  rw [laws_szPast hb h0 h1]; simp only [cal_s, eI_int, br_lt]
  exact szN_if h0
theorem laws_szSessS {l : List Sess} (hs : RSesss ro h [.sl 5 a l.length c] l F) (hb : l.length ≤ maxLen ∧ ∀ s ∈ l, s.past.length ≤ maxLen) (h0 : 0 ≤ left) (h1 : left ≤ 1048576) : evl lo 128 [.sl 5 a l.length c, .int .i64 left] h = some (.int .i64 (szN left (szSesss l)), h) := by
  refine E_laws_szSessS (h' := h) ?_
  unfold szSesss
  rw [sz_sub h0 h1 hb.1, ← szN_add h0]
  by_cases hn : szN left l.length < 0
  · rw [if_pos hn, if_pos hn]
  · rw [if_neg hn, if_neg hn, szN_wrap h0 h1 hb.1 hn]
    have hle := szN_le (s := l.length) h0
    have hbig : l.length ≤ 1048576 := by unfold szN at hn; split at hn <;> omega
    refine sz_loop (sz := szSess) (L := fun left i => L_laws_szSessS_0 (List.length h) a l.length c left 0 (i : Nat) h) (fun i hi left g0 g1 => ?_) (fun left => ?_) (by omega) (by omega)
    · obtain ⟨o, v, a1, c1, G, rfl, ho, _, _, es, r1, _⟩ := hs.get hi
      rw [L_laws_szSessS_0.e, br_pos (by omega), inB_nat hi]
      simp only [eO_s, Int.toNat_natCast, ho, eC_c, eI_int, es, eN_n]
      rw [laws_szSess (hb.2 _ (List.getElem_mem hi)) g0 g1]
      simp only [cal_s, eI_int, br_lt, wr_succ (show i < 9223372036854775807 by omega)]
    · rw [L_laws_szSessS_0.e, br_neg (by omega)]
theorem laws_szFrame {f : Frame} (hb : bdVer f.ver) (h0 : 0 ≤ left) (h1 : left ≤ 1048576) : evl lo 218 [.agg (f.cs a c), .int .i64 left] h = some (.int .i64 (szN left (szFrame f)), h) := by
  refine E_laws_szFrame (h' := h) ?_
  rw [laws_szVer (v := f.ver) hb h0 h1]; simp only [cal_s, eI_int, br_lt]
  exact szN_if h0
theorem laws_szFrameS {l : List Frame} (hs : RFrames ro h [.sl 9 a l.length c] l F) (hb : l.length ≤ maxLen ∧ ∀ f ∈ l, bdVer f.ver) (h0 : 0 ≤ left) (h1 : left ≤ 1048576) : evl lo 129 [.sl 9 a l.length c, .int .i64 left] h = some (.int .i64 (szN left (szFrames l)), h) := by
  refine E_laws_szFrameS (h' := h) ?_
  unfold szFrames
  rw [sz_sub h0 h1 hb.1, ← szN_add h0]
  by_cases hn : szN left l.length < 0
  · rw [if_pos hn, if_pos hn]
  · rw [if_neg hn, if_neg hn, szN_wrap h0 h1 hb.1 hn]
    have hle := szN_le (s := l.length) h0
    have hbig : l.length ≤ 1048576 := by unfold szN at hn; split at hn <;> omega
    refine sz_loop (sz := szFrame) (L := fun left i => L_laws_szFrameS_0 (List.length h) a l.length c left 0 (i : Nat) h) (fun i hi left g0 g1 => ?_) (fun left => ?_) (by omega) (by omega)
    · obtain ⟨o, s, a1, c1, G, rfl, ho, es, r1, _⟩ := hs.get hi
      rw [L_laws_szFrameS_0.e, br_pos (by omega), inB_nat hi]
      simp only [eO_s, Int.toNat_natCast, ho, eC_c, eI_int, es, eT_s, eBv_b, eN_n]
      rw [laws_szFrame (hb.2 _ (List.getElem_mem hi)) g0 g1]
      simp only [cal_s, eI_int, br_lt, wr_succ (show i < 9223372036854775807 by omega)]
    · rw [L_laws_szFrameS_0.e, br_neg (by omega)]
theorem laws_szDoneS {n : Nat} (hn : n ≤ maxLen) (h0 : 0 ≤ left) (h1 : left ≤ 1048576) : evl lo 130 [.sl 5 a n c, .int .i64 left] h = some (.int .i64 (szN left n), h) := by
  refine E_laws_szDoneS (h' := h) ?_
  rw [sz_sub h0 h1 hn]
  by_cases hh : szN left n < 0
  · rw [if_pos hh]; unfold szN at hh ⊢; split <;> simp_all; omega
  · rw [if_neg hh, szN_wrap h0 h1 hn hh]
theorem sz_world {w : World} {cs : List V} (hs : RWorldN ro h cs w F) (hb : bdWorld w) : evl lo 51 [.agg cs, .int .i64 1048576] h = some (.int .i64 (szN 1048576 (szWorld w)), h) := by
  obtain ⟨a1, c1, a2, c2, a3, c3, a4, c4, F1, F2, F3, F4, rfl, rfl, r1, r2, r3, r4⟩ := hs
  obtain ⟨b1, b2, b3, b4⟩ := hb
  refine E_laws_szWorld (h' := h) ?_
  unfold szWorld
  rw [laws_szPlaceS r1 b1 (by decide) (by decide)]; simp only [cal_s, eI_int, br_lt]
  rw [← szN_add (by decide), ← szN_add (by decide), ← szN_add (by decide)]
  generalize hp : szN 1048576 (szPlaces w.places) = l1
  have hle1 : l1 ≤ 1048576 := by rw [← hp]; exact szN_le (by decide)
  by_cases hn1 : l1 < 0
  · simp [hn1]
  · rw [if_neg hn1, if_neg hn1, laws_szSessS r2 b2 (by omega) (by omega)]; simp only [cal_s, eI_int, br_lt]
    generalize hp2 : szN l1 (szSesss w.sess) = l2
    have hle2 : l2 ≤ l1 := by rw [← hp2]; exact szN_le (by omega)
    by_cases hn2 : l2 < 0
    · rw [if_pos hn2, if_pos hn2, if_pos (by decide)]
    · rw [if_neg hn2, if_neg hn2, laws_szFrameS r3 b3 (by omega) (by omega)]; simp only [cal_s, eI_int, br_lt]
      generalize hp3 : szN l2 (szFrames w.net) = l3
      have hle3 : l3 ≤ l2 := by rw [← hp3]; exact szN_le (by omega)
      by_cases hn3 : l3 < 0
      · rw [if_pos hn3, if_pos hn3]
      · rw [if_neg hn3, if_neg hn3, laws_szDoneS b4 (by omega) (by omega)]; simp only [cal_s, eI_int, br_lt]
        exact szN_if (by omega)

theorem laws_toPlaceS {l : List Place} (hs : RPlaces true h [.sl 6 a l.length c] l F) (hl : lo ≤ h.length) (hn : l.length ≤ 1048576 ∧ ∀ p ∈ l, smPlace p) :
    ∃ a' h' F', evl lo 132 [.sl 6 a l.length c] h = some (.sl 6 a' l.length (some l.length), h') ∧ RPlaces false h' [.sl 6 a' l.length (some l.length)] l F' ∧ Mv h [] h' F' := by
  have hn1 := hn.1
  obtain ⟨h', F', e, r, m⟩ := fill_loop (El := RPlace false) rplace_ok (h0 := h) (l := l) (f := id) (lo := lo) (R := 6) (e := ePlace false) (z := [.int .i64 0, .int .i64 0, .sl 0 none 0 (some 0), .sl 0 none 0 (some 0), .sl 0 none 0 (some 0), .bool false]) rfl hl
    (fun i hh => L_laws_toPlaceS_0 lo a l.length c (some (h.length, 0)) l.length (some l.length) (i : Nat) hh) (fun i hi hh m => by
      obtain ⟨o, s1, s2, s3, a1, c1, a2, c2, a3, c3, F1, F2, F3, rfl, ho, _, _, _, _, e1, e2, e3, r1, r2, r3, _⟩ := (m.keep0 rplaces_ok hs).get hi
      obtain ⟨a4, c4, a5, c5, a6, c6, h3, F3, e4, r4, m4⟩ := laws_toPlace (lo := lo) r1 r2 r3 (Nat.le_trans hl m.le) (hn.2 _ (List.getElem_mem hi))
      refine ⟨l[i].cs a4 c4 a5 c5 a6 c6, F3, h3, r4, m4, rfl, ?_⟩
      rw [L_laws_toPlaceS_0.e, br_pos (by omega), inB_nat hi]
      simp only [eO_s, Int.toNat_natCast, ho, eC_c, eI_int, e1, e2, e3, eBv_b, eN_n]
      rw [e4]
      simp only [eO_s, Int.toNat_natCast, eC_c, eI_int, eS_sl, eBv_b, eN_n, cal_s, eA_a, inB_nat hi, Nat.zero_add, wr_succ (show i < 9223372036854775807 by omega)])
  refine ⟨some (h.length, 0), h', F', E_laws_toPlaceS ?_, by rw [List.map_id] at r; exact r, m⟩
  rw [need_of (by omega)]
  refine e.trans ?_
  rw [L_laws_toPlaceS_0.e, br_neg (by omega)]
theorem laws_toSess {s : Sess} (hs : RTags true h [.sl 2 a s.past.length c] s.past F) (hl : lo ≤ h.length) (hn : s.past.length ≤ 1048576) :
    ∃ a' c' h' F', evl lo 223 [.agg (s.cs a c)] h = some (.agg (s.cs a' c'), h') ∧ RTags false h' [.sl 2 a' s.past.length c'] s.past F' ∧ Mv h [] h' F' := by
  obtain ⟨a', h', F', e, r⟩ := laws_toPast hs hl hn
  refine ⟨a', _, h', F', E_laws_toSess ?_, r⟩
  rw [e]; simp only [cal_s, eA_a, eC_c, eS_sl, eI_int, eN_n, laws_toTag]
theorem laws_toSessS {l : List Sess} (hs : RSesss true h [.sl 5 a l.length c] l F) (hl : lo ≤ h.length) (hn : l.length ≤ 1048576 ∧ ∀ s ∈ l, s.past.length ≤ 1048576) :
    ∃ a' h' F', evl lo 133 [.sl 5 a l.length c] h = some (.sl 5 a' l.length (some l.length), h') ∧ RSesss false h' [.sl 5 a' l.length (some l.length)] l F' ∧ Mv h [] h' F' := by
  have hn1 := hn.1
  obtain ⟨h', F', e, r, m⟩ := fill_loop (El := RSess false) rsess_ok (h0 := h) (l := l) (f := id) (lo := lo) (R := 5) (e := eSess false) (z := [.int .i64 0, .sl 0 none 0 (some 0), .int .i64 0, .int .i64 0, .int .i64 0]) rfl hl
    (fun i hh => L_laws_toSessS_0 lo a l.length c (some (h.length, 0)) l.length (some l.length) (i : Nat) hh) (fun i hi hh m => by
      obtain ⟨o, v, a1, c1, G, rfl, ho, _, _, es, r1, _⟩ := (m.keep0 rsesss_ok hs).get hi
      obtain ⟨a3, c3, h3, F3, e3, r3, m3⟩ := laws_toSess (lo := lo) (s := l[i]) r1 (Nat.le_trans hl m.le) (hn.2 _ (List.getElem_mem hi))
      refine ⟨l[i].cs a3 c3, F3, h3, ⟨_, rfl, r3⟩, m3, rfl, ?_⟩
      rw [L_laws_toSessS_0.e, br_pos (by omega), inB_nat hi]
      simp only [eO_s, Int.toNat_natCast, ho, eC_c, eI_int, es, eN_n]
      rw [e3]
      simp only [eO_s, Int.toNat_natCast, eC_c, eI_int, eS_sl, eN_n, cal_s, eA_a, inB_nat hi, Nat.zero_add, wr_succ (show i < 9223372036854775807 by omega)])
  refine ⟨some (h.length, 0), h', F', E_laws_toSessS ?_, by rw [List.map_id] at r; exact r, m⟩
  rw [need_of (by omega)]
  refine e.trans ?_
  rw [L_laws_toSessS_0.e, br_neg (by omega)]
theorem laws_toFrame {f : Frame} (hs : RTags true h [.sl 2 a f.ver.past.length c] f.ver.past F) (hl : lo ≤ h.length) (hn : f.ver.past.length ≤ 1048576) :
    ∃ a' c' h' F', evl lo 224 [.agg (f.cs a c)] h = some (.agg (f.cs a' c'), h') ∧ RTags false h' [.sl 2 a' f.ver.past.length c'] f.ver.past F' ∧ Mv h [] h' F' := by
  obtain ⟨a', c', h', F', e, r⟩ := laws_toVer (v := f.ver) hs hl hn
  refine ⟨a', c', h', F', E_laws_toFrame ?_, r⟩
  rw [e]; simp only [cal_s, eA_a, eC_c, eS_sl, eI_int, eT_s, eBv_b, eN_n]
theorem laws_toFrameS {l : List Frame} (hs : RFrames true h [.sl 9 a l.length c] l F) (hl : lo ≤ h.length) (hn : l.length ≤ 1048576 ∧ ∀ f ∈ l, f.ver.past.length ≤ 1048576 ∧ f.ver.text.size ≤ 1048576) :
    ∃ a' h' F', evl lo 134 [.sl 9 a l.length c] h = some (.sl 9 a' l.length (some l.length), h') ∧ RFrames false h' [.sl 9 a' l.length (some l.length)] l F' ∧ Mv h [] h' F' := by
  have hn1 := hn.1
  obtain ⟨h', F', e, r, m⟩ := fill_loop (El := RFrame false) rframe_ok (h0 := h) (l := l) (f := id) (lo := lo) (R := 9) (e := eFrame false) (z := [.int .i64 0, .int .i64 0, .int .i64 0, .int .i64 0, .int .i64 0, .int .i64 0, .sl 0 none 0 (some 0), .str ⟨⟨[]⟩⟩, .bool false]) rfl hl
    (fun i hh => L_laws_toFrameS_0 lo a l.length c (some (h.length, 0)) l.length (some l.length) (i : Nat) hh) (fun i hi hh m => by
      obtain ⟨o, s, a1, c1, G, rfl, ho, es, r1, _⟩ := (m.keep0 rframes_ok hs).get hi
      obtain ⟨a3, c3, h3, F3, e3, r3, m3⟩ := laws_toFrame (lo := lo) (f := l[i]) r1 (Nat.le_trans hl m.le) (hn.2 _ (List.getElem_mem hi)).1
      refine ⟨l[i].cs a3 c3, F3, h3, ⟨_, rfl, _, rfl, r3⟩, m3, rfl, ?_⟩
      rw [L_laws_toFrameS_0.e, br_pos (by omega), inB_nat hi]
      simp only [eO_s, Int.toNat_natCast, ho, eC_c, eI_int, es, eT_s, eBv_b, eN_n]
      rw [e3]
      simp only [eO_s, Int.toNat_natCast, eC_c, eI_int, eS_sl, eT_s, eBv_b, eN_n, cal_s, eA_a, inB_nat hi, Nat.zero_add, wr_succ (show i < 9223372036854775807 by omega)])
  refine ⟨some (h.length, 0), h', F', E_laws_toFrameS ?_, by rw [List.map_id] at r; exact r, m⟩
  rw [need_of (by omega)]
  refine e.trans ?_
  rw [L_laws_toFrameS_0.e, br_neg (by omega)]
theorem laws_toDone {d : Done} : evl lo 225 [.agg d.cs] h = some (.agg d.cs, h) := E_laws_toDone (h' := h) (by simp only [laws_toTag, cal_s, eA_a, eC_c, eI_int, eN_n])
theorem laws_toDoneS {l : List Done} (hs : RDones true h [.sl 5 a l.length c] l F) (hl : lo ≤ h.length) (hn : l.length ≤ 1048576) :
    ∃ a' h' F', evl lo 135 [.sl 5 a l.length c] h = some (.sl 5 a' l.length (some l.length), h') ∧ RDones false h' [.sl 5 a' l.length (some l.length)] l F' ∧ Mv h [] h' F' := by
  obtain ⟨h', F', e, r, m⟩ := fill_loop (El := flat Done.cs) flat_ok (h0 := h) (l := l) (f := id) (lo := lo) (R := 5) (e := eDone false) (z := [.int .i64 0, .int .i64 0, .int .i64 0, .int .i64 0, .int .i64 0]) rfl hl
    (fun i hh => L_laws_toDoneS_0 lo a l.length c (some (h.length, 0)) l.length (some l.length) (i : Nat) hh) (fun i hi hh m => by
      obtain ⟨o, rfl, ho⟩ := (m.keep0 rdones_ok hs).get hi
      refine ⟨l[i].cs, [], hh, ⟨rfl, rfl⟩, Mv.nil, rfl, ?_⟩
      rw [L_laws_toDoneS_0.e, br_pos (by omega), inB_nat hi]
      simp only [eO_s, Int.toNat_natCast, ho, eC_c, eI_int, eN_n]
      rw [laws_toDone]
      simp only [eO_s, Int.toNat_natCast, eC_c, eI_int, eN_n, cal_s, eA_a, inB_nat hi, Nat.zero_add, wr_succ (show i < 9223372036854775807 by omega)])
  refine ⟨some (h.length, 0), h', F', E_laws_toDoneS ?_, by rw [List.map_id] at r; exact r, m⟩
  rw [need_of (by omega)]
  refine e.trans ?_
  rw [L_laws_toDoneS_0.e, br_neg (by omega)]
theorem to_world {w : World} {cs : List V} (hs : RWorldN true h cs w F) (hl : lo ≤ h.length) (hn : smWorld w) : ∃ cs' h' F', evl lo 53 [.agg cs] h = some (.agg cs', h') ∧ RWorldN false h' cs' w F' ∧ Mv h [] h' F' := by
  obtain ⟨a1, c1, a2, c2, a3, c3, a4, c4, F1, F2, F3, F4, rfl, rfl, r1, r2, r3, r4⟩ := hs
  obtain ⟨b1, b2, b3, b4⟩ := hn
  obtain ⟨x1, h1, G1, e1, q1, m1⟩ := laws_toPlaceS r1 hl b1
  obtain ⟨x2, h2, G2, e2, q2, m2⟩ := laws_toSessS (lo := lo) (m1.keep0 rsesss_ok r2) (Nat.le_trans hl m1.le) b2
  have m12 := m1.join m2 (rplaces_ok.bd _ _ _ _ q1)
  obtain ⟨x3, h3, G3, e3, q3, m3⟩ := laws_toFrameS (lo := lo) (m2.keep0 rframes_ok (m1.keep0 rframes_ok r3)) (Nat.le_trans hl m12.le) b3
  have q1' := m2.keep0 rplaces_ok q1
  have m13 := m12.join m3 (fun b hb => by
    rw [List.mem_append] at hb
    exact hb.elim (rplaces_ok.bd _ _ _ _ q1' b) (rsesss_ok.bd _ _ _ _ q2 b))
  have q1'' := m3.keep0 rplaces_ok q1'
  have q2'' := m3.keep0 rsesss_ok q2
  obtain ⟨x4, h4, G4, e4, q4, m4⟩ := laws_toDoneS (lo := lo) (m3.keep0 rdones_ok (m2.keep0 rdones_ok (m1.keep0 rdones_ok r4))) (Nat.le_trans hl m13.le) b4
  have m14 := m13.join m4 (fun b hb => by
    simp only [List.mem_append] at hb
    rcases hb with (hb | hb) | hb
    · exact rplaces_ok.bd _ _ _ _ q1'' b hb
    · exact rsesss_ok.bd _ _ _ _ q2'' b hb
    · exact rframes_ok.bd _ _ _ _ q3 b hb)
  refine ⟨w.cs x1 _ x2 _ x3 _ x4 _, h4, G1 ++ (G2 ++ (G3 ++ G4)), E_laws_toWorld ?_, ⟨_, _, _, _, _, _, _, _, G1, G2, G3, G4, rfl, rfl, m4.keep0 rplaces_ok q1'', m4.keep0 rsesss_ok q2'', m4.keep0 rframes_ok q3, q4⟩, by
    rw [List.append_assoc, List.append_assoc] at m14; exact m14⟩
  rw [e1, cal_s, eS_sl, e2, cal_s, eS_sl, e3, cal_s, eS_sl, e4, cal_s, eS_sl]

theorem eqPlaceS {l : List Place} (h1 : RPlaces ro h [.sl 6 a l.length c] l F) (h2 : RPlaces ro' h [.sl 6 a' l.length c'] l F') (hn : l.length ≤ 1048576 ∧ ∀ p ∈ l, smPlace p) : evl lo 144 [.sl 6 a l.length c, .sl 6 a' l.length c'] h = some (.bool true, h) := by
  have hn1 := hn.1
  refine E_laws_eqPlaceS (h' := h) ?_
  rw [beqI, br_t]
  refine (go_loop (n := l.length) (fun i => L_laws_eqPlaceS_0 (List.length h) a l.length c a' l.length c' false (i : Nat) h) fun i hi => ?_).trans ?_
  · obtain ⟨o, s1, s2, s3, a1, c1, a2, c2, a3, c3, F1, F2, F3, rfl, ho, _, _, _, _, e1, e2, e3, r1, r2, r3, _⟩ := h1.get hi
    obtain ⟨o', s1', s2', s3', a1', c1', a2', c2', a3', c3', F1', F2', F3', rfl, ho', _, _, _, _, e1', e2', e3', r1', r2', r3', _⟩ := h2.get hi
    rw [L_laws_eqPlaceS_0.e, br_pos (by omega), inB_nat hi]
    simp only [eO_s, Int.toNat_natCast, ho, ho', eC_c, eI_int, e1, e2, e3, e1', e2', e3', eBv_b, eN_n, inB_nat hi]
    have he := eqPlace (lo := List.length h) (p := l[i]) (h := h) (F := F1 ++ (F2 ++ F3)) (F' := F1' ++ (F2' ++ F3')) (a1 := a1) (c1 := c1) (a2 := a2) (c2 := c2) (a3 := a3) (c3 := c3) (a1' := a1') (c1' := c1') (a2' := a2') (c2' := c2') (a3' := a3') (c3' := c3') ⟨_, _, _, _, _, _, rfl, rfl, r1, r2, r3⟩ ⟨_, _, _, _, _, _, rfl, rfl, r1', r2', r3'⟩ (hn.2 _ (List.getElem_mem hi))
    rw [he]
    simp only [cal_s, eB_b, br_t, wr_succ (show i < 9223372036854775807 by omega)]
  · rw [L_laws_eqPlaceS_0.e, br_neg (by omega)]
theorem eqSess {s : Sess} (h1 : RTags ro h [.sl 2 a s.past.length c] s.past F) (h2 : RTags ro' h [.sl 2 a' s.past.length c'] s.past F') (hn : s.past.length ≤ 1048576) : evl lo 234 [.agg (s.cs a c), .agg (s.cs a' c')] h = some (.bool true, h) :=
  E_laws_eqSess (h' := h) (by simp only [eqPast h1 h2 hn, cal_s, eB_b, br_t, beqI, laws_eqTag, Bool.and_self])
theorem eqSessS {l : List Sess} (h1 : RSesss ro h [.sl 5 a l.length c] l F) (h2 : RSesss ro' h [.sl 5 a' l.length c'] l F') (hn : l.length ≤ 1048576 ∧ ∀ s ∈ l, s.past.length ≤ 1048576) : evl lo 145 [.sl 5 a l.length c, .sl 5 a' l.length c'] h = some (.bool true, h) := by
  have hn1 := hn.1
  refine E_laws_eqSessS (h' := h) ?_
  rw [beqI, br_t]
  refine (go_loop (n := l.length) (fun i => L_laws_eqSessS_0 (List.length h) a l.length c a' l.length c' false (i : Nat) h) fun i hi => ?_).trans ?_
  · obtain ⟨o, v, a1, c1, G, rfl, ho, _, _, es, r1, _⟩ := h1.get hi
    obtain ⟨o', v', a1', c1', G', rfl, ho', _, _, es', r1', _⟩ := h2.get hi
    rw [L_laws_eqSessS_0.e, br_pos (by omega), inB_nat hi]
    simp only [eO_s, Int.toNat_natCast, ho, ho', eC_c, eI_int, es, es', eN_n, inB_nat hi]
    rw [eqSess r1 r1' (hn.2 _ (List.getElem_mem hi))]
    simp only [cal_s, eB_b, br_t, wr_succ (show i < 9223372036854775807 by omega)]
  · rw [L_laws_eqSessS_0.e, br_neg (by omega)]
theorem eqFrameS {l : List Frame} (h1 : RFrames ro h [.sl 9 a l.length c] l F) (h2 : RFrames ro' h [.sl 9 a' l.length c'] l F') (hn : l.length ≤ 1048576 ∧ ∀ f ∈ l, f.ver.past.length ≤ 1048576 ∧ f.ver.text.size ≤ 1048576) : evl lo 146 [.sl 9 a l.length c, .sl 9 a' l.length c'] h = some (.bool true, h) := by
  have hn1 := hn.1
  refine E_laws_eqFrameS (h' := h) ?_
  rw [beqI, br_t]
  refine (go_loop (n := l.length) (fun i => L_laws_eqFrameS_0 (List.length h) a l.length c a' l.length c' false (i : Nat) h) fun i hi => ?_).trans ?_
  · obtain ⟨o, s, a1, c1, G, rfl, ho, es, r1, _⟩ := h1.get hi
    obtain ⟨o', s', a1', c1', G', rfl, ho', es', r1', _⟩ := h2.get hi
    rw [L_laws_eqFrameS_0.e, br_pos (by omega), inB_nat hi]
    simp only [eO_s, Int.toNat_natCast, ho, ho', eC_c, eI_int, es, es', eT_s, eBv_b, eN_n, inB_nat hi]
    rw [eqFrame (f := l[i]) r1 r1' (hn.2 _ (List.getElem_mem hi)).1]
    simp only [cal_s, eB_b, br_t, wr_succ (show i < 9223372036854775807 by omega)]
  · rw [L_laws_eqFrameS_0.e, br_neg (by omega)]
theorem eqDone {d : Done} : evl lo 235 [.agg d.cs, .agg d.cs] h = some (.bool true, h) :=
  E_laws_eqDone (h' := h) (by simp only [cal_s, eB_b, br_t, beqI, laws_eqTag, Bool.and_self])
theorem eqDoneS {l : List Done} (h1 : RDones ro h [.sl 5 a l.length c] l F) (h2 : RDones ro' h [.sl 5 a' l.length c'] l F') (hn1 : l.length ≤ 1048576) : evl lo 147 [.sl 5 a l.length c, .sl 5 a' l.length c'] h = some (.bool true, h) := by
  refine E_laws_eqDoneS (h' := h) ?_
  rw [beqI, br_t]
  refine (go_loop (n := l.length) (fun i => L_laws_eqDoneS_0 (List.length h) a l.length c a' l.length c' false (i : Nat) h) fun i hi => ?_).trans ?_
  · obtain ⟨o, rfl, ho⟩ := h1.get hi
    obtain ⟨o', rfl, ho'⟩ := h2.get hi
    rw [L_laws_eqDoneS_0.e, br_pos (by omega), inB_nat hi]
    simp only [eO_s, Int.toNat_natCast, ho, ho', eC_c, eI_int, eN_n, inB_nat hi]
    rw [eqDone]
    simp only [cal_s, eB_b, br_t, wr_succ (show i < 9223372036854775807 by omega)]
  · rw [L_laws_eqDoneS_0.e, br_neg (by omega)]
theorem eq_world {w : World} {cs cs' : List V} (h1 : RWorldN ro h cs w F) (h2 : RWorldN ro' h cs' w F') (hn : smWorld w) : evl lo 55 [.agg cs, .agg cs'] h = some (.bool true, h) := by
  obtain ⟨a1, c1, a2, c2, a3, c3, a4, c4, F1, F2, F3, F4, rfl, rfl, r1, r2, r3, r4⟩ := h1
  obtain ⟨a1', c1', a2', c2', a3', c3', a4', c4', F1', F2', F3', F4', rfl, rfl, q1, q2, q3, q4⟩ := h2
  refine E_laws_eqWorld (h' := h) ?_
  rw [eqPlaceS r1 q1 hn.1, cal_s, eB_b, br_t, eqSessS r2 q2 hn.2.1, cal_s, eB_b, br_t, eqFrameS r3 q3 hn.2.2.1, cal_s, eB_b, br_t, eqDoneS r4 q4 hn.2.2.2, cal_s, eB_b, br_t]
end
end Go.Proofs.YtfhnofppfacemaaGreat
namespace Go.Proofs.YtfhnofppfacemaaGreat
open Go T
set_option linter.unusedVariables false
set_option linter.unusedSimpArgs false
section
variable {lo : Nat} {h : Heap} {F F' : List Nat} {a a' : Option (Nat × Nat)} {c c' : Option Nat}
theorem impl_apart {x y : Int} : evl lo 76 [.int .i64 x, .int .i64 y] h = some (.bool (within x 0 2 && within y 0 2 && !(x == y)), h) :=
  E_impl_apart (h' := h) (by
    simp only [impl_placeOk, cal_s, eB_b]
    cases within x 0 2 <;> cases within y 0 2 <;> cases (x == y) <;> rfl)
end
end Go.Proofs.YtfhnofppfacemaaGreat
namespace Go.Proofs.YtfhnofppfacemaaGreat
open Go T
set_option linter.unusedVariables false
set_option linter.unusedSimpArgs false
def sessOk (s : Sess) : Bool := within s.place 0 2 && pastOk s.past && tagOk s.wait.time s.wait.place && within s.key 0 3 && (decide (s.wait.time > 0) || s.key == 0) && (s.wait.time == 0 || s.wait.place == s.place)
def doneOk (d : Done) : Bool := within d.sess 0 3 && within d.kind 1 3 && within d.key 0 3 && tagOk d.tag.time d.tag.place && (d.kind == 2 || decide (d.tag.time > 0))
def logOf (l : List Place) (k : Nat) : List Ver := match l[k]? with
  | some p => p.log
  | none => []
theorem logOf_get {l : List Place} {k : Nat} (hk : k < l.length) : logOf l k = l[k].log := by unfold logOf; rw [List.getElem?_eq_getElem hk]
def frameOk (l : List Place) (f : Frame) : Bool := within f.fro 0 2 && within f.to 0 2 && !(f.fro == f.to) && within f.at' 0 (((logOf l f.fro.toNat).length : Int) - 1) && (match (logOf l f.fro.toNat)[f.at'.toNat]? with | some v => sameVer v f.ver | none => false)
def begins (log head : List Ver) : Bool := decide (head.length ≤ log.length) && sameVers (log.take head.length) head
theorem sess_eq {s : Sess} : (within s.place 0 2 && (pastOk s.past && (tagOk s.wait.time s.wait.place && (bif ((s.wait.time == 0) && ((s.wait.place == 0) && true)) then s.key == 0 else (s.wait.place == s.place && within s.key 0 3))))) = sessOk s := by
  unfold sessOk
  cases within s.place 0 2 with
  | false => rfl
  | true =>
  cases pastOk s.past with
  | false => rfl
  | true =>
  cases ht : tagOk s.wait.time s.wait.place with
  | false => simp
  | true =>
    simp [tagOk, within] at ht
    by_cases h0 : s.wait.time = 0
    · have hp : s.wait.place = 0 := by omega
      rw [Bool.eq_iff_iff]
      simp [h0, hp, within]
      omega
    · have h1 : 0 < s.wait.time := by omega
      rw [Bool.eq_iff_iff]
      simp [h0, h1, within, and_comm]

section
variable {lo : Nat} {ro ro' : Bool} {h : Heap} {F F' : List Nat} {a a' : Option (Nat × Nat)} {c c' : Option Nat}
theorem ContainsFunc_Sess {l : List Sess} {g : Nat} {cl : List V} {p : Sess → Bool} (hs : RSesss ro h [.sl 5 a l.length c] l F) (hn : l.length ≤ 1048576)
    (hp : ∀ lo x a1 c1 G, x ∈ l → RTags ro h [.sl 2 a1 x.past.length c1] x.past G → evl lo g (fnArgs [.agg (x.cs a1 c1)] cl) h = some (.bool (p x), h)) :
    evl lo 138 [.sl 5 a l.length c, .fn g cl] h = some (.bool (l.any p), h) := by
  have loop : ∀ m k x, m + k = l.length → L_slices_IndexFunc_impl_Sess_impl_Sess_0 (List.length h) a l.length c g cl x (l.length : Nat) (k : Nat) h = some (.int .i64 (firstAt p (l.drop k) k), h) := by
    intro m
    induction m with
    | zero =>
      intro k x hk
      rw [L_slices_IndexFunc_impl_Sess_impl_Sess_0.e, br_neg (by omega), show k = l.length by omega]
      simp [firstAt]
    | succ m ih =>
      intro k x hk
      have hlt : k < l.length := by omega
      obtain ⟨o, v, b1, d1, G, rfl, ho, _, _, es, hpp, _⟩ := hs.get hlt
      rw [L_slices_IndexFunc_impl_Sess_impl_Sess_0.e, br_pos (by omega), inB_nat (by omega)]
      simp only [eO_s, Int.toNat_natCast, ho, eC_c, eI_int, eN_n, es]
      rw [hp (List.length h) l[k] b1 d1 G (List.getElem_mem hlt) hpp, cal_s, eB_b, List.drop_eq_getElem_cons hlt]
      simp only [firstAt]
      cases p l[k]
      · simp only [br_f, cond_false]; rw [wr_succ (by omega)]; exact ih (k + 1) _ (by omega)
      · simp
  exact E_slices_ContainsFunc_impl_Sess_impl_Sess (h' := h) (by rw [E_slices_IndexFunc_impl_Sess_impl_Sess (loop l.length 0 0 (by omega))]; simp only [cal_s, eI_int, br_bool]; rw [firstAt_pos]; simp)
theorem ContainsFunc_Frame {l : List Frame} {g : Nat} {cl : List V} {p : Frame → Bool} (hs : RFrames ro h [.sl 9 a l.length c] l F) (hn : l.length ≤ 1048576)
    (hp : ∀ lo x a1 c1 G, x ∈ l → RTags ro h [.sl 2 a1 x.ver.past.length c1] x.ver.past G → evl lo g (fnArgs [.agg (x.cs a1 c1)] cl) h = some (.bool (p x), h)) :
    evl lo 141 [.sl 9 a l.length c, .fn g cl] h = some (.bool (l.any p), h) := by
  have loop : ∀ m k x, m + k = l.length → L_slices_IndexFunc_impl_Frame_impl_Frame_0 (List.length h) a l.length c g cl x (l.length : Nat) (k : Nat) h = some (.int .i64 (firstAt p (l.drop k) k), h) := by
    intro m
    induction m with
    | zero =>
      intro k x hk
      rw [L_slices_IndexFunc_impl_Frame_impl_Frame_0.e, br_neg (by omega), show k = l.length by omega]
      simp [firstAt]
    | succ m ih =>
      intro k x hk
      have hlt : k < l.length := by omega
      obtain ⟨o, s, b1, d1, G, rfl, ho, es, hpp, _⟩ := hs.get hlt
      rw [L_slices_IndexFunc_impl_Frame_impl_Frame_0.e, br_pos (by omega), inB_nat (by omega)]
      simp only [eO_s, Int.toNat_natCast, ho, eC_c, eI_int, eN_n, es, eT_s, eBv_b]
      rw [hp (List.length h) l[k] b1 d1 G (List.getElem_mem hlt) hpp, cal_s, eB_b, List.drop_eq_getElem_cons hlt]
      simp only [firstAt]
      cases p l[k]
      · simp only [br_f, cond_false]; rw [wr_succ (by omega)]; exact ih (k + 1) _ (by omega)
      · simp
  exact E_slices_ContainsFunc_impl_Frame_impl_Frame (h' := h) (by rw [E_slices_IndexFunc_impl_Frame_impl_Frame (loop l.length 0 0 (by omega))]; simp only [cal_s, eI_int, br_bool]; rw [firstAt_pos]; simp)
theorem ContainsFunc_Done {l : List Done} {g : Nat} {cl : List V} {p : Done → Bool} (hs : RDones ro h [.sl 5 a l.length c] l F) (hn : l.length ≤ 1048576)
    (hp : ∀ lo x, x ∈ l → evl lo g (fnArgs [.agg (x.cs)] cl) h = some (.bool (p x), h)) :
    evl lo 226 [.sl 5 a l.length c, .fn g cl] h = some (.bool (l.any p), h) := by
  have loop : ∀ m k x, m + k = l.length → L_slices_IndexFunc_impl_Done_impl_Done_0 (List.length h) a l.length c g cl x (l.length : Nat) (k : Nat) h = some (.int .i64 (firstAt p (l.drop k) k), h) := by
    intro m
    induction m with
    | zero =>
      intro k x hk
      rw [L_slices_IndexFunc_impl_Done_impl_Done_0.e, br_neg (by omega), show k = l.length by omega]
      simp [firstAt]
    | succ m ih =>
      intro k x hk
      have hlt : k < l.length := by omega
      obtain ⟨o, rfl, ho⟩ := hs.get hlt
      rw [L_slices_IndexFunc_impl_Done_impl_Done_0.e, br_pos (by omega), inB_nat (by omega)]
      simp only [eO_s, Int.toNat_natCast, ho, eC_c, eI_int, eN_n]
      rw [hp (List.length h) l[k] (List.getElem_mem hlt), cal_s, eB_b, List.drop_eq_getElem_cons hlt]
      simp only [firstAt]
      cases p l[k]
      · simp only [br_f, cond_false]; rw [wr_succ (by omega)]; exact ih (k + 1) _ (by omega)
      · simp
  exact E_slices_ContainsFunc_impl_Done_impl_Done (h' := h) (by rw [E_slices_IndexFunc_impl_Done_impl_Done (loop l.length 0 0 (by omega))]; simp only [cal_s, eI_int, br_bool]; rw [firstAt_pos]; simp)

theorem spec_SessOk {s : Sess} (hs : RTags ro h [.sl 2 a s.past.length c] s.past F) (hn : s.past.length ≤ 1048576) : evl lo 219 [.agg (s.cs a c)] h = some (.bool (sessOk s), h) := by
  refine E_spec_l5SessOk (h' := h) ?_
  rw [spec_l1In, cal_s, eB_b, spec_l1PastOk hs hn, cal_s, eB_b, spec_l1TagOk, cal_s, eB_b, spec_l1In, cal_s, eB_b]
  unfold sessOk
  cases within s.place 0 2 <;> cases pastOk s.past <;> cases tagOk s.wait.time s.wait.place <;> cases within s.key 0 3 <;> cases decide (s.wait.time > 0) <;> cases (s.key == 0) <;> cases (s.wait.time == 0) <;> cases (s.wait.place == s.place) <;> rfl
theorem impl_SessOk {s : Sess} (hs : RTags ro h [.sl 2 a s.past.length c] s.past F) (hn : s.past.length ≤ 1048576) : evl lo 140 [.agg (s.cs a c)] h = some (.bool (sessOk s), h) := by
  refine E_impl_Sess_valid (h' := h) ?_
  rw [impl_placeOk, cal_s, eB_b, impl_PastOk hs hn, cal_s, eB_b, impl_TagOk, cal_s, eB_b, impl_keyOk, cal_s, eB_b, ← sess_eq]
  cases within s.place 0 2 <;> cases pastOk s.past <;> cases tagOk s.wait.time s.wait.place <;> cases within s.key 0 3 <;> cases ((s.wait.time == 0) && ((s.wait.place == 0) && true)) <;> cases (s.key == 0) <;> cases (s.wait.place == s.place) <;> rfl
theorem spec_OpOk {d : Done} : evl lo 221 [.agg d.cs] h = some (.bool (doneOk d), h) := by
  refine E_spec_l5OpOk (h' := h) ?_
  rw [spec_l1In, cal_s, eB_b, spec_l1In, cal_s, eB_b, spec_l1In, cal_s, eB_b, spec_l1TagOk, cal_s, eB_b]
  unfold doneOk
  cases within d.sess 0 3 <;> cases within d.kind 1 3 <;> cases within d.key 0 3 <;> cases tagOk d.tag.time d.tag.place <;> cases (d.kind == 2) <;> cases decide (d.tag.time > 0) <;> rfl
theorem done_eq {d : Done} : (within d.sess 0 3 && (within d.kind 1 3 && (within d.key 0 3 && (tagOk d.tag.time d.tag.place && (bif ((d.tag.time == 0) && ((d.tag.place == 0) && true)) then d.kind == 2 else true))))) = doneOk d := by
  unfold doneOk
  cases within d.sess 0 3 with
  | false => rfl
  | true =>
  cases within d.kind 1 3 with
  | false => rfl
  | true =>
  cases within d.key 0 3 with
  | false => rfl
  | true =>
  cases ht : tagOk d.tag.time d.tag.place with
  | false => rfl
  | true =>
    simp [tagOk, within] at ht
    by_cases h0 : d.tag.time = 0
    · have hp : d.tag.place = 0 := by omega
      rw [Bool.eq_iff_iff]
      simp [h0, hp]
    · have h1 : 0 < d.tag.time := by omega
      rw [Bool.eq_iff_iff]
      simp [h0, h1]
theorem impl_formed {l : List Done} (hs : RDones ro h [.sl 5 a l.length c] l F) (hn : l.length ≤ 1048576) : evl lo 136 [.sl 5 a l.length c] h = some (.bool (decide (l.length ≤ 80) && l.all doneOk), h) := by
  refine E_impl_formed (h' := h) ?_
  by_cases h8 : l.length ≤ 80
  · rw [br_pos (by omega), decide_eq_true h8, ContainsFunc_Done hs hn (p := fun d => !doneOk d) (fun lo d _ => by
      rw [show ∀ x : List V, fnArgs x [] = x from fun x => by simp [fnArgs]]
      refine E_impl_formed_1 (h' := h) ?_
      rw [impl_within, cal_s, eB_b, impl_within, cal_s, eB_b, impl_keyOk, cal_s, eB_b, impl_TagOk, cal_s, eB_b, ← done_eq]
      cases within d.sess 0 3 <;> cases within d.kind 1 3 <;> cases within d.key 0 3 <;> cases tagOk d.tag.time d.tag.place <;> cases ((d.tag.time == 0) && ((d.tag.place == 0) && true)) <;> cases (d.kind == 2) <;> rfl), cal_s, eB_b]
    rw [List.any_eq_not_all_not]
    simp only [Bool.not_not, Bool.true_and]
    cases l.all doneOk <;> rfl
  · rw [br_neg (by omega), decide_eq_false h8]; rfl
theorem impl_beginsWith {l l' : List Ver} (hs : RVers false h [.sl 6 a l.length c] l F) (hs' : RVers false h [.sl 6 a' l'.length c'] l' F') (hn : smVers l) : evl lo 137 [.sl 6 a l.length c, .sl 6 a' l'.length c'] h = some (.bool (begins l l'), h) := by
  refine E_impl_beginsWith (h' := h) ?_
  unfold begins
  by_cases hl : l'.length ≤ l.length
  · obtain ⟨G, hp⟩ := Sli.pre hs hl
    have htl : (l.take l'.length).length = l'.length := by rw [List.length_take]; omega
    rw [br_pos (by omega), reslice_pre hs hl, decide_eq_true hl]
    have hp' : RVers false h [.sl 6 a (l.take l'.length).length c] (l.take l'.length) G := by rw [htl]; exact hp
    have hsm : smVers (l.take l'.length) := ⟨by rw [htl]; have := hn.1; omega, fun v hv => hn.2 v (List.mem_of_mem_take hv)⟩
    have e := impl_EqualFunc (lo := List.length h) hp' hs' hsm
    rw [htl] at e
    rw [e, cal_s, eB_b, Bool.true_and]
    exact br_some
  · rw [br_neg (by omega), decide_eq_false hl]; rfl
end
end Go.Proofs.YtfhnofppfacemaaGreat
namespace Go.Proofs.YtfhnofppfacemaaGreat
open Go T
set_option linter.unusedVariables false
set_option linter.unusedSimpArgs false
def placesOk (l : List Place) : Bool := l.zipIdx.all fun x => x.1.me == (x.2 : Int) && placeOk x.1
def heardAt (l : List Place) (p : Place) : Bool := p.got.zipIdx.all fun x => begins (logOf l x.2) x.1
def heardOk (l : List Place) : Bool := l.all (heardAt l)
def worldOk (w : World) : Bool := decide (w.places.length = 3) && decide (w.sess.length ≤ 4) && decide (w.net.length ≤ 12) && decide (w.hist.length ≤ 80) && placesOk w.places && w.sess.all sessOk && w.net.all (frameOk w.places) && w.hist.all doneOk && heardOk w.places
theorem placesOk_at {l : List Place} (h : placesOk l = true) : ∀ i (hi : i < l.length), l[i].me = (i : Int) ∧ placeOk l[i] = true := fun i hi => by
  have := (all_zipIdx (p := fun (i : Nat) (x : Place) => x.me == (i : Int) && placeOk x) (l := l)).1 h i hi
  simpa using this
theorem sameVer_sym {v u : Ver} : sameVer v u = sameVer u v := by
  rw [Bool.eq_iff_iff, same_iff, same_iff]; exact eq_comm
theorem sameVers_sym {v u : List Ver} : sameVers v u = sameVers u v := by
  rw [Bool.eq_iff_iff, sameVers_iff, sameVers_iff]; exact eq_comm
theorem zip_same {s t : List Ver} (h : s.length = t.length) : ((s.zip t).all fun x => sameVer x.1 x.2) = sameVers s t := by
  unfold sameVers; rw [decide_eq_true h, Bool.true_and]

section
variable {lo : Nat} {ro ro' : Bool} {h : Heap} {F F' F1 : List Nat} {a a' a1 a2 a3 a4 : Option (Nat × Nat)} {c c' c1 c2 c3 c4 : Option Nat}
theorem spec_FrameOk {w : World} {f : Frame} (r1 : RPlaces false h [.sl 6 a1 w.places.length c1] w.places F1) (h3 : w.places.length = 3) (hok : placesOk w.places = true) (hs : RTags ro h [.sl 2 a f.ver.past.length c] f.ver.past F) (hn : f.ver.past.length ≤ 1048576 ∧ f.ver.text.size ≤ 1048576) :
    evl lo 220 [.agg (w.cs a1 c1 a2 c2 a3 c3 a4 c4), .agg (f.cs a c)] h = some (.bool (frameOk w.places f), h) := by
  refine E_spec_l5FrameOk (h' := h) ?_
  unfold frameOk
  rw [spec_l1In, cal_s, eB_b, spec_l1In, cal_s, eB_b]
  cases hw : within f.fro 0 2 with
  | false => rw [br_f]; rfl
  | true =>
  cases hw2 : within f.to 0 2 with
  | false => rw [br_t, br_f]; rfl
  | true =>
  rw [br_t, br_t]
  cases hft : (f.fro == f.to) with
  | true => rw [br_t]; rfl
  | false =>
  simp only [within, Bool.and_eq_true, decide_eq_true_eq] at hw
  have hk : f.fro.toNat < w.places.length := by omega
  obtain ⟨o, s1, s2, s3, b1, d1, b2, d2, b3, d3, G1, G2, G3, ha, _, _, _, ho3, _, _, e2, _, _, g2, _, _⟩ := r1.get hk
  have hlog : ∀ i (hi : i < w.places[f.fro.toNat].log.length), verOk w.places[f.fro.toNat].log[i] = true := fun i hi => ((log_parts (ok_parts (placesOk_at hok _ hk).2).2.2.2.2.2.1).2 i hi).1
  have hll : w.places[f.fro.toNat].log.length ≤ 60 := (log_parts (ok_parts (placesOk_at hok _ hk).2).2.2.2.2.2.1).1
  rw [logOf_get hk]
  generalize w.places[f.fro.toNat].log = lg at hlog hll g2 e2 ⊢
  rw [br_f, inB_in ⟨by omega, by omega⟩, ha, eO_s, ho3, eO_s, eC_c, eN_n, e2, spec_l1In, cal_s, eB_b, wr (n := ((lg.length : Nat) : Int) - 1) (by omega) (by omega)]
  cases hw3 : within f.at' 0 ((lg.length : Int) - 1) with
  | false => rw [br_f]; rfl
  | true =>
  simp only [within, Bool.and_eq_true, decide_eq_true_eq] at hw3
  have hk3 : f.at'.toNat < lg.length := by omega
  rw [br_t, spec_l2Ok (v := f.ver) hs hn, cal_s, eB_b, List.getElem?_eq_getElem hk3]
  cases hv : verOk f.ver with
  | false =>
    rw [br_f]
    have : sameVer lg[f.at'.toNat] f.ver = false := by
      rw [Bool.eq_false_iff]
      intro hsame
      rw [same_iff] at hsame
      have := hlog _ hk3
      rw [hsame, hv] at this
      cases this
    simp [this]
  | true =>
    obtain ⟨o4, s4, b4, d4, G4, ha4, ho4, es4, hp4, _⟩ := g2.get hk3
    have e := spec_l2Same (lo := List.length h) (h := h) (v := f.ver) (u := lg[f.at'.toNat]) hs hp4 hv (hlog _ hk3)
    simp only [Frame.cs, Ver.cs] at e
    rw [br_t, inB_in ⟨by omega, by omega⟩, eO_s, ho3, eO_s, eC_c, eN_n, e2, inB_in ⟨by omega, by omega⟩, ha4, eO_s, ho4, eO_s, eC_c, eI_int, eC_c, eI_int, eC_c, eI_int, eC_c, es4, eC_c, eT_s, eC_c, eBv_b, eN_n, e, cal_s, eB_b, sameVer_sym]
    show br _ _ _ = some (V.bool (sameVer lg[f.at'.toNat] f.ver), h)
    exact br_some
theorem impl_frameOk {w : World} {f : Frame} {b : Nat} (hb : h[b]? = some (.rows 4 99 false [w.cs a1 c1 a2 c2 a3 c3 a4 c4])) (r1 : RPlaces false h [.sl 6 a1 w.places.length c1] w.places F1) (h3 : w.places.length = 3) (hok : placesOk w.places = true) (hs : RTags ro h [.sl 2 a f.ver.past.length c] f.ver.past F) :
    evl lo 143 [.ptr (some (b, (0, 0))), .agg (f.cs a c)] h = some (.bool (frameOk w.places f), h) := by
  refine E_impl_World_frameOk (h' := h) ?_
  unfold frameOk
  have l1 : ld h b 0 (0 + 0) 1 = some [.sl 6 a1 w.places.length c1] := by rw [ld_of hb rfl]; rfl
  rw [impl_apart, cal_s, eB_b]
  cases hw : within f.fro 0 2 with
  | false => simp only [Bool.false_and]; rw [br_f]
  | true =>
  cases hw2 : within f.to 0 2 with
  | false => simp only [Bool.true_and, Bool.false_and]; rw [br_f]
  | true =>
  cases hft : (f.fro == f.to) with
  | true => simp only [Bool.true_and, Bool.not_true, Bool.false_and]; rw [br_f]
  | false =>
  simp only [Bool.true_and, Bool.not_false]
  simp only [within, Bool.and_eq_true, decide_eq_true_eq] at hw
  have hk : f.fro.toNat < w.places.length := by omega
  obtain ⟨o, s1, s2, s3, b1, d1, b2, d2, b3, d3, G1, G2, G3, ha, _, _, _, ho3, _, _, e2, _, _, g2, _, _⟩ := r1.get hk
  have hll : w.places[f.fro.toNat].log.length ≤ 60 := (log_parts (ok_parts (placesOk_at hok _ hk).2).2.2.2.2.2.1).1
  have hlog : ∀ i (hi : i < w.places[f.fro.toNat].log.length), verOk w.places[f.fro.toNat].log[i] = true := fun i hi => ((log_parts (ok_parts (placesOk_at hok _ hk).2).2.2.2.2.2.1).2 i hi).1
  rw [logOf_get hk]
  generalize w.places[f.fro.toNat].log = lg at hlog hll g2 e2 ⊢
  rw [br_t, l1, eO_s, eC_c, eN_n, eS_sl, inB_in ⟨by omega, by omega⟩, ha, eO_s, ho3, eO_s, eC_c, eN_n, e2, impl_within, cal_s, eB_b, wr (n := ((lg.length : Nat) : Int) - 1) (by omega) (by omega)]
  cases hw3 : within f.at' 0 ((lg.length : Int) - 1) with
  | false => rw [br_f]; rfl
  | true =>
  simp only [within, Bool.and_eq_true, decide_eq_true_eq] at hw3
  have hk3 : f.at'.toNat < lg.length := by omega
  obtain ⟨o4, s4, b4, d4, G4, ha4, ho4, es4, hp4, _⟩ := g2.get hk3
  have e := impl_same (lo := List.length h) (h := h) (v := lg[f.at'.toNat]) (u := f.ver) hp4 hs (by have := pastOk_len (verOk_parts (hlog _ hk3)).2.2.2.1; omega)
  simp only [Frame.cs, Ver.cs] at e
  rw [br_t, l1, eO_s, eC_c, eN_n, ha, eS_sl, inB_in ⟨by omega, by omega⟩, eO_s, ho3, eO_s, eC_c, eN_n, e2, inB_in ⟨by omega, by omega⟩, ha4, eO_s, ho4, eO_s, eC_c, eI_int, eC_c, eI_int, eC_c, eI_int, eC_c, es4, eC_c, eT_s, eC_c, eBv_b, eN_n, e, cal_s, eB_b, List.getElem?_eq_getElem hk3]
  show br _ _ _ = some (V.bool (sameVer lg[f.at'.toNat] f.ver), h)
  exact br_some
theorem spec_Heard {w : World} (r1 : RPlaces false h [.sl 6 a1 w.places.length c1] w.places F1) (h3 : w.places.length = 3) (hok : placesOk w.places = true) :
    evl lo 222 [.agg (w.cs a1 c1 a2 c2 a3 c3 a4 c4)] h = some (.bool (heardOk w.places), h) := by
  refine E_spec_l5Heard (h' := h) ?_
  unfold heardOk
  refine (all_loop (p := heardAt w.places) (l := w.places) (fun i => L_spec_l5Heard_0 (List.length h) false (i : Nat) a1 w.places.length c1 a2 w.sess.length c2 a3 w.net.length c3 a4 w.hist.length c4 h) (some (.bool false, h)) (some (.bool true, h)) (fun i hi => ?_) ?_).trans ?_
  · have hpo := (placesOk_at hok i hi).2
    have hgl : w.places[i].got.length = 3 := (ok_parts hpo).2.2.1
    rw [L_spec_l5Heard_0.e, br_pos (by omega)]
    unfold heardAt
    refine (all_loop (p := fun x : List Ver × Nat => begins (logOf w.places x.2) x.1) (l := w.places[i].got.zipIdx) (fun k => L_spec_l5Heard_2 (List.length h) false (i : Nat) (k : Nat) a1 w.places.length c1 a2 w.sess.length c2 a3 w.net.length c3 a4 w.hist.length c4 h) (some (.bool false, h)) (L_spec_l5Heard_0 (List.length h) false ((i + 1 : Nat) : Int) a1 w.places.length c1 a2 w.sess.length c2 a3 w.net.length c3 a4 w.hist.length c4 h) (fun k hk => ?_) ?_).trans ?_
    · rw [List.length_zipIdx] at hk
      simp only [List.getElem_zipIdx, Nat.zero_add]
      have hk3 : k < w.places.length := by omega
      obtain ⟨o, s1, s2, s3, b1, d1, b2, d2, b3, d3, G1, G2, G3, ha, _, _, _, _, ho4, _, _, e3, _, _, g3, _⟩ := r1.get hi
      obtain ⟨o', s1', s2', s3', b1', d1', b2', d2', b3', d3', G1', G2', G3', ha', _, _, _, ho3', _, _, e2', _, _, g2', _, _⟩ := r1.get hk3
      have hoo : o = o' := by rw [ha] at ha'; injection ha'
      subst hoo
      obtain ⟨og, sg, bg, dg, Gg, hag, hog, eg, gg, _⟩ := g3.get hk
      have hlogs := log_parts (ok_parts (placesOk_at hok k hk3).2).2.2.2.2.2.1
      have hgots := log_parts (got_log hpo hk)
      rw [logOf_get hk3]
      generalize w.places[i].got[k] = gt at eg gg hgots ⊢
      generalize w.places[k].log = lg at e2' g2' hlogs ⊢
      rw [L_spec_l5Heard_2.e, br_pos (by omega), inB_nat hi, ha, eO_s, Int.toNat_natCast, ho4, eO_s, eC_c, eN_n, e3, inB_nat hk, hag, eO_s, Int.toNat_natCast, hog, eO_s, eC_c, eN_n, eg, inB_nat hk3, eO_s, ho3', eO_s, eC_c, eN_n, e2']
      unfold begins
      by_cases hle : gt.length ≤ lg.length
      · rw [br_neg (by omega), decide_eq_true hle, Bool.true_and]
        have htl : gt.length = (lg.take gt.length).length := by rw [List.length_take]; omega
        have hzl : (gt.zip (lg.take gt.length)).length = gt.length := by rw [List.length_zip, ← htl]; omega
        refine (all_loop (p := fun x : Ver × Ver => sameVer x.1 x.2) (l := gt.zip (lg.take gt.length)) (fun n => L_spec_l5Heard_4 (List.length h) false (i : Nat) (k : Nat) bg gt.length dg (n : Nat) (some o) w.places.length c1 a2 w.sess.length c2 a3 w.net.length c3 a4 w.hist.length c4 h) (some (.bool false, h)) (L_spec_l5Heard_2 (List.length h) false (i : Nat) ((k + 1 : Nat) : Int) (some o) w.places.length c1 a2 w.sess.length c2 a3 w.net.length c3 a4 w.hist.length c4 h) (fun n hn => ?_) ?_).trans ?_
        · have hn1 : n < gt.length := by omega
          have hn2 : n < lg.length := by omega
          obtain ⟨q1, t1, x1, y1, H1, z1, ld1, es1, p1, _⟩ := gg.get hn1
          obtain ⟨q2, t2, x2, y2, H2, z2, ld2, es2, p2, _⟩ := g2'.get hn2
          have e := spec_l2Same (lo := List.length h) (h := h) (v := gt[n]) (u := lg[n]) p1 p2 (hgots.2 n hn1).1 (hlogs.2 n hn2).1
          simp only [Ver.cs] at e
          rw [L_spec_l5Heard_4.e, br_pos (by omega), inB_nat hn1, z1, eO_s, Int.toNat_natCast, ld1, eO_s, eC_c, eI_int, eC_c, eI_int, eC_c, eI_int, eC_c, es1, eC_c, eT_s, eC_c, eBv_b, eN_n, inB_nat hk3, eO_s, Int.toNat_natCast, ho3', eO_s, eC_c, eN_n, e2', inB_nat hn2, z2, eO_s, ld2, eO_s, eC_c, eI_int, eC_c, eI_int, eC_c, eI_int, eC_c, es2, eC_c, eT_s, eC_c, eBv_b, eN_n, e, cal_s, eB_b, wr_succ (by omega)]
          simp only [List.getElem_zip, List.getElem_take]
          cases sameVer gt[n] lg[n] <;> rfl
        · rw [hzl, L_spec_l5Heard_4.e, br_neg (by omega), wr_succ (by omega)]
        · rw [zip_same htl, sameVers_sym]
      · rw [br_pos (by omega), decide_eq_false hle, Bool.false_and]; rfl
    · rw [List.length_zipIdx, L_spec_l5Heard_2.e, br_neg (by omega), wr_succ (by omega)]
    · rfl
  · rw [L_spec_l5Heard_0.e, br_neg (by omega)]
  · cases w.places.all (heardAt w.places) <;> rfl
theorem spec_worldOk {w : World} {cs : List V} (hs : RWorldN false h cs w F) (hn : smWorld w) : evl lo 131 [.agg cs] h = some (.bool (worldOk w), h) := by
  obtain ⟨a1, c1, a2, c2, a3, c3, a4, c4, F1, F2, F3, F4, rfl, rfl, r1, r2, r3, r4⟩ := hs
  obtain ⟨n1, n2, n3, n4⟩ := hn
  refine E_spec_l5Ok ?_
  unfold worldOk
  by_cases h3 : w.places.length = 3
  · rw [show (((w.places.length : Nat) : Int) == 3) = true by rw [beq_iff_eq]; omega, br_t, decide_eq_true h3, Bool.true_and]
    by_cases hs4 : w.sess.length ≤ 4
    · rw [br_neg (by omega), decide_eq_true hs4, Bool.true_and]
      by_cases hn12 : w.net.length ≤ 12
      · rw [br_neg (by omega), decide_eq_true hn12, Bool.true_and]
        by_cases hh80 : w.hist.length ≤ 80
        · rw [br_neg (by omega), decide_eq_true hh80, Bool.true_and]
          have e0 := all_loop (p := fun x : Place × Nat => x.1.me == (x.2 : Int) && placeOk x.1) (l := w.places.zipIdx) (fun i => L_spec_l5Ok_0 lo false (i : Nat) a1 w.places.length c1 a2 w.sess.length c2 a3 w.net.length c3 a4 w.hist.length c4 h) (some (.bool false, h)) (L_spec_l5Ok_2 lo false 0 a1 w.places.length c1 a2 w.sess.length c2 a3 w.net.length c3 a4 w.hist.length c4 h) (fun i hi => by
              rw [List.length_zipIdx] at hi
              simp only [List.getElem_zipIdx, Nat.zero_add]
              obtain ⟨o, s1, s2, s3, b1, d1, b2, d2, b3, d3, G1, G2, G3, ha, ho, ho0, _, _, _, e1, e2, e3, g1, g2, g3, _⟩ := r1.get hi
              have e := spec_l4Ok (lo := lo) g1 g2 g3 (n1.2 _ (List.getElem_mem hi))
              simp only [Place.cs] at e
              rw [L_spec_l5Ok_0.e, br_pos (by omega), inB_nat hi, ha, eO_s, Int.toNat_natCast, ho0, eO_s, eC_c, eN_n, eI_int]
              cases hme : (w.places[i].me == ((i : Nat) : Int)) with
              | false => rw [br_f]; rfl
              | true =>
                rw [br_t, inB_nat hi, eO_s, ho, eO_s, eC_c, eI_int, eC_c, eI_int, eC_c, e1, eC_c, e2, eC_c, e3, eC_c, eBv_b, eN_n, e, cal_s, eB_b, wr_succ (by omega), Bool.true_and]
                cases placeOk w.places[i] <;> rfl) (by rw [List.length_zipIdx, L_spec_l5Ok_0.e, br_neg (by omega)])
          refine e0.trans ?_
          show (if placesOk w.places = true then _ else _) = _
          cases hok : placesOk w.places with
          | false => rfl
          | true =>
          rw [if_pos rfl, Bool.true_and]
          refine (all_loop (p := sessOk) (l := w.sess) (fun i => L_spec_l5Ok_2 lo false (i : Nat) a1 w.places.length c1 a2 w.sess.length c2 a3 w.net.length c3 a4 w.hist.length c4 h) (some (.bool false, h)) (L_spec_l5Ok_4 lo false 0 a1 w.places.length c1 a2 w.sess.length c2 a3 w.net.length c3 a4 w.hist.length c4 h) (fun i hi => by
              obtain ⟨o, v, b1, d1, G, ha, ho, _, _, es, hpp, _⟩ := r2.get hi
              have e := spec_SessOk (lo := lo) (s := w.sess[i]) hpp (n2.2 _ (List.getElem_mem hi))
              rw [L_spec_l5Ok_2.e, br_pos (by omega), inB_nat hi, ha, eO_s, Int.toNat_natCast, ho, eO_s, eC_c, eI_int, eC_c, es, eC_c, eI_int, eC_c, eI_int, eC_c, eI_int, eN_n, e, cal_s, eB_b, wr_succ (by omega)]
              cases sessOk w.sess[i] <;> rfl) (by rw [L_spec_l5Ok_2.e, br_neg (by omega)])).trans ?_
          cases hse : w.sess.all sessOk with
          | false => rfl
          | true =>
          rw [if_pos rfl, Bool.true_and]
          refine (all_loop (p := frameOk w.places) (l := w.net) (fun i => L_spec_l5Ok_4 lo false (i : Nat) a1 w.places.length c1 a2 w.sess.length c2 a3 w.net.length c3 a4 w.hist.length c4 h) (some (.bool false, h)) (L_spec_l5Ok_6 lo false 0 a1 w.places.length c1 a2 w.sess.length c2 a3 w.net.length c3 a4 w.hist.length c4 h) (fun i hi => by
              obtain ⟨o, s, b1, d1, G, ha, ho, es, hpp, _⟩ := r3.get hi
              have e := spec_FrameOk (lo := lo) (w := w) (a2 := a2) (c2 := c2) (a3 := a3) (c3 := c3) (a4 := a4) (c4 := c4) (f := w.net[i]) r1 h3 hok hpp (n3.2 _ (List.getElem_mem hi))
              simp only [World.cs, Frame.cs, Ver.cs] at e
              rw [L_spec_l5Ok_4.e, br_pos (by omega), inB_nat hi]
              rw [ha] at e ⊢
              rw [eO_s, Int.toNat_natCast, ho, eO_s, eC_c, eI_int, eC_c, eI_int, eC_c, eI_int, eC_c, eI_int, eC_c, eI_int, eC_c, eI_int, eC_c, es, eC_c, eT_s, eC_c, eBv_b, eN_n, e, cal_s, eB_b, wr_succ (by omega)]
              cases frameOk w.places w.net[i] <;> rfl) (by rw [L_spec_l5Ok_4.e, br_neg (by omega)])).trans ?_
          cases hfr : w.net.all (frameOk w.places) with
          | false => rfl
          | true =>
          rw [if_pos rfl, Bool.true_and]
          refine (all_loop (p := doneOk) (l := w.hist) (fun i => L_spec_l5Ok_6 lo false (i : Nat) a1 w.places.length c1 a2 w.sess.length c2 a3 w.net.length c3 a4 w.hist.length c4 h) (some (.bool false, h)) (some (.bool (heardOk w.places), h)) (fun i hi => by
              obtain ⟨o, ha, ho⟩ := r4.get hi
              rw [L_spec_l5Ok_6.e, br_pos (by omega), inB_nat hi, ha, eO_s, Int.toNat_natCast, ho, eO_s, eC_c, eI_int, eC_c, eI_int, eC_c, eI_int, eC_c, eI_int, eC_c, eI_int, eN_n, spec_OpOk, cal_s, eB_b, wr_succ (by omega)]
              cases doneOk w.hist[i] <;> rfl) (by
              have e := spec_Heard (lo := lo) (w := w) (a2 := a2) (c2 := c2) (a3 := a3) (c3 := c3) (a4 := a4) (c4 := c4) r1 h3 hok
              rw [L_spec_l5Ok_6.e, br_neg (by omega), e, cal_s, eB_b]
              exact br_some)).trans ?_
          cases w.hist.all doneOk <;> rfl
        · rw [br_pos (by omega), decide_eq_false hh80]; rfl
      · rw [br_pos (by omega), decide_eq_false hn12]; rfl
    · rw [br_pos (by omega), decide_eq_false hs4]; rfl
  · rw [show (((w.places.length : Nat) : Int) == 3) = false by rw [beq_eq_false_iff_ne]; omega, br_f, decide_eq_false h3]; rfl
theorem impl_worldOk {w : World} {cs : List V} (hs : RWorldN false h cs w F) (hl : lo ≤ h.length) (hn : smWorld w) : ∃ h', evl lo 54 [.agg cs] h = some (.bool (worldOk w), h') ∧ Mv h [] h' [] := by
  obtain ⟨a1, c1, a2, c2, a3, c3, a4, c4, F1, F2, F3, F4, rfl, rfl, r1, r2, r3, r4⟩ := hs
  obtain ⟨n1, n2, n3, n4⟩ := hn
  have m0 : Mv h [] (h ++ [.rows 4 99 false [w.cs a1 c1 a2 c2 a3 c3 a4 c4]]) [] := Mv.snoc
  have hb : (h ++ [Blk.rows 4 99 false [w.cs a1 c1 a2 c2 a3 c3 a4 c4]])[h.length]? = some (.rows 4 99 false [w.cs a1 c1 a2 c2 a3 c3 a4 c4]) := by simp
  refine ⟨_, E_impl_WorldOk ?_, m0⟩
  have r1 := m0.keep0 rplaces_ok r1
  have r2 := m0.keep0 rsesss_ok r2
  have r3 := m0.keep0 rframes_ok r3
  have r4 := m0.keep0 rdones_ok r4
  have l0 : ld (h ++ [Blk.rows 4 99 false [w.cs a1 c1 a2 c2 a3 c3 a4 c4]]) h.length 0 0 1 = some [.sl 6 a1 w.places.length c1] := by rw [ld_of hb rfl]; rfl
  have l1 : ld (h ++ [Blk.rows 4 99 false [w.cs a1 c1 a2 c2 a3 c3 a4 c4]]) h.length 0 1 1 = some [.sl 5 a2 w.sess.length c2] := by rw [ld_of hb rfl]; rfl
  have l2 : ld (h ++ [Blk.rows 4 99 false [w.cs a1 c1 a2 c2 a3 c3 a4 c4]]) h.length 0 2 1 = some [.sl 9 a3 w.net.length c3] := by rw [ld_of hb rfl]; rfl
  have l3 : ld (h ++ [Blk.rows 4 99 false [w.cs a1 c1 a2 c2 a3 c3 a4 c4]]) h.length 0 3 1 = some [.sl 5 a4 w.hist.length c4] := by rw [ld_of hb rfl]; rfl
  have e4 := impl_formed (lo := lo) r4 n4
  simp only [World.cs] at hb r1 r2 r3 r4 l0 l1 l2 l3 e4 ⊢
  generalize (h ++ [Blk.rows 4 99 false [[V.sl 6 a1 w.places.length c1, .sl 5 a2 w.sess.length c2, .sl 9 a3 w.net.length c3, .sl 5 a4 w.hist.length c4]]]) = hh at hb r1 r2 r3 r4 l0 l1 l2 l3 e4 ⊢
  generalize h.length = b at hb l0 l1 l2 l3 ⊢
  have hwo : worldOk w = (decide (w.places.length = 3) && (decide (w.sess.length ≤ 4) && (decide (w.net.length ≤ 12) && ((decide (w.hist.length ≤ 80) && w.hist.all doneOk) && (placesOk w.places && (heardOk w.places && (w.sess.all sessOk && w.net.all (frameOk w.places)))))))) := by
    unfold worldOk
    cases decide (w.places.length = 3) <;> cases decide (w.sess.length ≤ 4) <;> cases decide (w.net.length ≤ 12) <;> cases decide (w.hist.length ≤ 80) <;> cases placesOk w.places <;> cases heardOk w.places <;> cases w.sess.all sessOk <;> cases w.net.all (frameOk w.places) <;> cases w.hist.all doneOk <;> rfl
  rw [hwo, l0, eO_s, eC_c, eN_n, eS_sl]
  by_cases h3 : w.places.length = 3
  · rw [show (((w.places.length : Nat) : Int) == 3) = true by rw [beq_iff_eq]; omega, br_t, decide_eq_true h3, Bool.true_and, l1, eO_s, eC_c, eN_n, eS_sl]
    by_cases hs4 : w.sess.length ≤ 4
    · rw [br_neg (by omega), decide_eq_true hs4, Bool.true_and, l2, eO_s, eC_c, eN_n, eS_sl]
      by_cases hn12 : w.net.length ≤ 12
      · rw [br_neg (by omega), decide_eq_true hn12, Bool.true_and, l3, eO_s, eC_c, eN_n, eS_sl, e4, cal_s, eB_b]
        cases (decide (w.hist.length ≤ 80) && w.hist.all doneOk) with
        | false => rw [br_f]; rfl
        | true =>
          rw [br_t, Bool.true_and, l0, eO_s, eC_c, eN_n, eS_sl]
          have e0 := all_loop (p := fun x : Place × Nat => x.1.me == (x.2 : Int) && placeOk x.1) (l := w.places.zipIdx) (fun i => L_impl_WorldOk_0 lo b 0 0 false a1 w.places.length c1 (w.places.length : Nat) (i : Nat) hh) (some (.bool false, hh)) (L_impl_WorldOk_2 lo b 0 0 false a1 w.places.length c1 (w.places.length : Nat) 0 hh) (fun i hi => by
              rw [List.length_zipIdx] at hi
              simp only [List.getElem_zipIdx, Nat.zero_add]
              obtain ⟨o, s1, s2, s3, b1, d1, b2, d2, b3, d3, G1, G2, G3, ha, ho, ho0, _, _, _, e1, e2, e3, g1, g2, g3, _⟩ := r1.get hi
              have e := impl_PlaceOk (lo := lo) g1 g2 g3 (n1.2 _ (List.getElem_mem hi))
              simp only [Place.cs] at e
              rw [L_impl_WorldOk_0.e, br_pos (by omega), inB_nat hi, ha, eO_s, Int.toNat_natCast, ho, eO_s, eC_c, eI_int, eC_c, eI_int, eC_c, e1, eC_c, e2, eC_c, e3, eC_c, eBv_b, eN_n, e, cal_s, eB_b, wr_succ (by omega)]
              cases placeOk w.places[i] <;> cases (w.places[i].me == ((i : Nat) : Int)) <;> rfl) (by rw [List.length_zipIdx, L_impl_WorldOk_0.e, br_neg (by omega), l0, eO_s, eC_c, eN_n, eS_sl])
          refine e0.trans ?_
          show (if placesOk w.places = true then _ else _) = _
          cases hok : placesOk w.places with
          | false => rfl
          | true =>
          rw [if_pos rfl, Bool.true_and]
          have e5 := all_loop (p := heardAt w.places) (l := w.places) (fun i => L_impl_WorldOk_2 lo b 0 0 false a1 w.places.length c1 (w.places.length : Nat) (i : Nat) hh) (some (.bool false, hh)) (L_impl_WorldOk_2 lo b 0 0 false a1 w.places.length c1 (w.places.length : Nat) (w.places.length : Nat) hh) (fun i hi => by
              have hpo := (placesOk_at hok i hi).2
              have hgl : w.places[i].got.length = 3 := (ok_parts hpo).2.2.1
              obtain ⟨o, s1, s2, s3, b1, d1, b2, d2, b3, d3, G1, G2, G3, ha, ho, _, _, _, _, e1, e2, e3, g1, g2, g3, _⟩ := r1.get hi
              rw [L_impl_WorldOk_2.e, br_pos (by omega), inB_nat hi, ha, eO_s, Int.toNat_natCast, ho, eO_s, eC_c, eI_int, eC_c, eI_int, eC_c, e1, eC_c, e2, eC_c, e3, eC_c, eBv_b, eN_n]
              unfold heardAt
              refine (all_loop (p := fun x : List Ver × Nat => begins (logOf w.places x.2) x.1) (l := w.places[i].got.zipIdx) (fun k => L_impl_WorldOk_4 lo b 0 0 false (some o) w.places.length c1 (w.places.length : Nat) (i : Nat) b3 w.places[i].got.length d3 (w.places[i].got.length : Nat) (k : Nat) hh) (some (.bool false, hh)) (L_impl_WorldOk_2 lo b 0 0 false (some o) w.places.length c1 (w.places.length : Nat) ((i + 1 : Nat) : Int) hh) (fun k hk => ?_) ?_)
              · rw [List.length_zipIdx] at hk
                simp only [List.getElem_zipIdx, Nat.zero_add]
                have hk3 : k < w.places.length := by omega
                obtain ⟨o', s1', s2', s3', b1', d1', b2', d2', b3', d3', G1', G2', G3', ha', _, _, _, ho3', _, _, e2', _, _, g2', _, _⟩ := r1.get hk3
                obtain ⟨og, sg, bg, dg, Gg, hag, hog, eg, gg, _⟩ := g3.get hk
                have hoo : o = o' := by rw [ha] at ha'; injection ha'
                subst hoo
                have e6 := impl_beginsWith (lo := lo) g2' gg (n1.2 _ (List.getElem_mem hk3)).2.1
                rw [logOf_get hk3, L_impl_WorldOk_4.e, br_pos (by omega), inB_nat hk, hag, eO_s, Int.toNat_natCast, hog, eO_s, eC_c, eN_n, eg, Nat.add_zero, l0, eO_s, eC_c, eN_n, ha, eS_sl, inB_nat hk3, eO_s, ho3', eO_s, eC_c, eN_n, e2', e6, cal_s, eB_b, wr_succ (by omega)]
                cases begins w.places[k].log w.places[i].got[k] <;> rfl
              · rw [List.length_zipIdx, L_impl_WorldOk_4.e, br_neg (by omega), wr_succ (by omega)]) rfl
          refine e5.trans ?_
          unfold heardOk
          cases w.places.all (heardAt w.places) with
          | false => rfl
          | true =>
          rw [if_pos rfl, Bool.true_and, L_impl_WorldOk_2.e, br_neg (by omega), Nat.zero_add, l1, eO_s, eC_c, eN_n, eS_sl, ContainsFunc_Sess r2 n2.1 (p := fun s => !sessOk s) (fun lo x b1 d1 G hx hp => E_impl_WorldOk_1 (h' := hh) (by
            rw [impl_SessOk hp (n2.2 x hx), cal_s, eB_b]; cases sessOk x <;> rfl)), cal_s, eB_b, List.any_eq_not_all_not]
          simp only [Bool.not_not]
          cases w.sess.all sessOk with
          | false => rfl
          | true =>
          rw [Bool.not_true, br_f, Nat.zero_add, l2, eO_s, eC_c, eN_n, eS_sl, ContainsFunc_Frame r3 n3.1 (p := fun f => !frameOk w.places f) (fun lo x b1 d1 G hx hp => E_impl_WorldOk_2 (h' := hh) (by
            rw [impl_frameOk (w := w) hb r1 h3 hok hp, cal_s, eB_b]; cases frameOk w.places x <;> rfl)), cal_s, eB_b, List.any_eq_not_all_not]
          simp only [Bool.not_not]
          cases w.net.all (frameOk w.places) <;> rfl
      · rw [br_pos (by omega), decide_eq_false hn12]; rfl
    · rw [br_pos (by omega), decide_eq_false hs4]; rfl
  · rw [show (((w.places.length : Nat) : Int) == 3) = false by rw [beq_eq_false_iff_ne]; omega, br_f, decide_eq_false h3]; rfl
end
end Go.Proofs.YtfhnofppfacemaaGreat
namespace Go.Proofs.YtfhnofppfacemaaGreat
open Go T
set_option linter.unusedVariables false
set_option linter.unusedSimpArgs false
theorem worldOk_parts {w : World} (h : worldOk w = true) : w.places.length = 3 ∧ w.sess.length ≤ 4 ∧ w.net.length ≤ 12 ∧ w.hist.length ≤ 80 ∧ placesOk w.places = true ∧ w.sess.all sessOk = true ∧ w.net.all (frameOk w.places) = true ∧ w.hist.all doneOk = true ∧ heardOk w.places = true := by
  unfold worldOk at h
  simp only [Bool.and_eq_true, decide_eq_true_eq] at h
  obtain ⟨⟨⟨⟨⟨⟨⟨⟨h1, h2⟩, h3⟩, h4⟩, h5⟩, h6⟩, h7⟩, h8⟩, h9⟩ := h
  exact ⟨h1, h2, h3, h4, h5, h6, h7, h8, h9⟩
section
variable {lo : Nat} {ro ro' : Bool} {h : Heap} {F F' F1 : List Nat} {a a' a1 a2 a3 a4 : Option (Nat × Nat)} {c c' c1 c2 c3 c4 : Option Nat}
end
end Go.Proofs.YtfhnofppfacemaaGreat
namespace Go.Proofs.YtfhnofppfacemaaGreat
open Go T
set_option linter.unusedVariables false
set_option linter.unusedSimpArgs false
def mkDone (k : Int) (_ : Done) : Done := ⟨k, k + 1, k + 1 + 1, ⟨k + 1 + 1 + 1, k + 1 + 1 + 1 + 1⟩⟩
def wDone (_ : Done) : Nat := 5
def mkSess (k : Int) (s : Sess) : Sess := ⟨k, marks mkTag wTag s.past (k + 1), ⟨k + 1 + mkN wTag s.past, k + 1 + mkN wTag s.past + 1⟩, k + 1 + mkN wTag s.past + 1 + 1⟩
def wSess (s : Sess) : Nat := 4 + mkN wTag s.past
noncomputable def mkFrame (k : Int) (f : Frame) : Frame := ⟨k, k + 1, k + 1 + 1, mkVer (k + 3) f.ver⟩
def wFrame (f : Frame) : Nat := 3 + wVer f.ver
noncomputable def mkPlaceS (k : Int) (p : Place) : Place := ⟨k, k + 1, mkNodes (k + 2) p.chain, mkVers (k + 2 + wNodes p.chain) p.log, mkVss (k + 2 + wNodes p.chain + wVers p.log) p.got, (k + 2 + wNodes p.chain + wVers p.log + wVss p.got).tmod 3 == 0⟩
def wPlaceS (p : Place) : Nat := 3 + wPlace p
def wWorld (w : World) : Nat := mkN wPlaceS w.places + mkN wSess w.sess + mkN wFrame w.net + mkN wDone w.hist
theorem wWorld_le {w : World} : wWorld w ≤ 8 * szWorld w := by
  have h1 : mkN wPlaceS w.places ≤ 8 * (w.places.length + (w.places.map szPlace).sum) := mkN_bound fun p _ => by have := wPlace_le (p := p); unfold wPlaceS; omega
  have h2 : mkN wSess w.sess ≤ 8 * (w.sess.length + (w.sess.map szSess).sum) := mkN_bound fun s _ => by have := mkN_tag (l := s.past); unfold wSess szSess; omega
  have h3 : mkN wFrame w.net ≤ 8 * (w.net.length + (w.net.map szFrame).sum) := mkN_bound fun f _ => by have := wVer_le (v := f.ver); unfold wFrame szFrame; omega
  have h4 : mkN wDone w.hist ≤ 5 * w.hist.length := mkN_all fun d _ => Nat.le_refl _
  unfold wWorld szWorld szPlaces szSesss szFrames
  omega
section
variable {lo : Nat} {h : Heap} {F : List Nat} {a : Option (Nat × Nat)} {c : Option Nat} {k : Int}
theorem laws_markDoneS {l : List Done} (hs : RDones false h [.sl 5 a l.length c] l F) (hlo : ∀ b ∈ F, lo ≤ b) (hnd : F.Nodup) (h0 : 0 ≤ k) (hB : k + mkN wDone l ≤ big) (hn : l.length ≤ 1048576) :
    ∃ h', evl lo 153 [.sl 5 a l.length c, .int .i64 k] h = some (.int .i64 (k + mkN wDone l), h') ∧ h'.length = h.length ∧ Mv h F h' F := by
  obtain ⟨h', e, _, r⟩ := mark_loop (El := flat Done.cs) flat_ok (f := mkDone) (w := wDone) (B := big) (fun k i hh => L_laws_markDoneS_0 lo a l.length c k (i : Nat) hh) (fun i k hh x b j rs row G ha hbF hbG hGn hGF hb hrow hel hx hi h0 hB => by
    obtain ⟨rfl, rfl⟩ := hel
    subst ha
    have hrl : j + i < rs.length := (List.getElem?_eq_some_iff.1 hrow).1
    have hbl : b < hh.length := (List.getElem?_eq_some_iff.1 hb).1
    have hlob := hlo b hbF
    have hw : ((wDone x : Nat) : Int) = 5 := rfl
    rw [hw] at hB ⊢
    refine ⟨hh.set b (.rows 5 (eDone false) false (rs.set (j + i) (mkDone k x).cs)), (mkDone k x).cs, ?_, by simp [hbl], ⟨rfl, rfl⟩, fun y hy _ => List.getElem?_set_ne (Ne.symm hy), by simp⟩
    simp only [big] at hB
    rw [L_laws_markDoneS_0.e, br_pos (by omega), inB_nat hi]
    simp only [eO_s, Int.toNat_natCast]
    rw [st_first hb hlob hrow (row' := [.int .i64 k, .int .i64 x.kind, .int .i64 x.key, .int .i64 x.tag.time, .int .i64 x.tag.place]) (by rfl), eO_s, inB_nat hi, wr (n := k + 1) (by omega) (by omega)]
    rw [st_next hbl hlob hrl (row' := [.int .i64 k, .int .i64 (k + 1), .int .i64 x.key, .int .i64 x.tag.time, .int .i64 x.tag.place]) (by rfl), eO_s, inB_nat hi, wr (n := k + 1 + 1) (by omega) (by omega)]
    rw [st_next hbl hlob hrl (row' := [.int .i64 k, .int .i64 (k + 1), .int .i64 (k + 1 + 1), .int .i64 x.tag.time, .int .i64 x.tag.place]) (by rfl), eO_s, inB_nat hi, wr (n := k + 1 + 1 + 1) (by omega) (by omega)]
    rw [st_next hbl hlob hrl (row' := [.int .i64 k, .int .i64 (k + 1), .int .i64 (k + 1 + 1), .int .i64 (k + 1 + 1 + 1), .int .i64 x.tag.place]) (by rfl), eO_s, inB_nat hi, wr (n := k + 1 + 1 + 1 + 1) (by omega) (by omega)]
    rw [st_next hbl hlob hrl (row' := (mkDone k x).cs) (by rfl), eO_s, wr (n := k + 1 + 1 + 1 + 1 + 1) (by omega) (by omega), wr_succ (by omega), show k + 1 + 1 + 1 + 1 + 1 = k + 5 by omega]) (fun k hh => by
    rw [L_laws_markDoneS_0.e, br_neg (by omega)]) hs hnd h0 hB
  exact ⟨h', E_laws_markDoneS e, r⟩
theorem laws_markSessS {l : List Sess} (hs : RSesss false h [.sl 5 a l.length c] l F) (hlo : ∀ b ∈ F, lo ≤ b) (hnd : F.Nodup) (h0 : 0 ≤ k) (hB : k + mkN wSess l ≤ big) (hn : l.length ≤ 1048576 ∧ ∀ s ∈ l, s.past.length ≤ 1048576) :
    ∃ h', evl lo 151 [.sl 5 a l.length c, .int .i64 k] h = some (.int .i64 (k + mkN wSess l), h') ∧ h'.length = h.length ∧ Mv h F h' F := by
  have hn1 := hn.1
  obtain ⟨h', e, _, r⟩ := mark_loop (El := RSess false) rsess_ok (f := mkSess) (w := wSess) (B := big) (fun k i hh => L_laws_markSessS_0 lo a l.length c k (i : Nat) hh) (fun i k hh x b j rs row G ha hbF hbG hGn hGF hb hrow hel hx hi h0 hB => by
    obtain ⟨s, rfl, hp0⟩ := hel
    obtain ⟨a2, c2, es, hp⟩ := hp0.form
    subst ha
    have hrl : j + i < rs.length := (List.getElem?_eq_some_iff.1 hrow).1
    have hbl : b < hh.length := (List.getElem?_eq_some_iff.1 hb).1
    have hlob := hlo b hbF
    have hw : wSess x = 4 + mkN wTag x.past := rfl
    rw [hw] at hB
    simp only [big] at hB
    have hb3 : (hh.set b (.rows 5 (eSess false) false (rs.set (j + i) [.int .i64 k, s, .int .i64 x.wait.time, .int .i64 x.wait.place, .int .i64 x.key])))[b]? = some (.rows 5 (eSess false) false (rs.set (j + i) [.int .i64 k, s, .int .i64 x.wait.time, .int .i64 x.wait.place, .int .i64 x.key])) := by simp [hbl]
    have hp3 : RTags false (hh.set b (.rows 5 (eSess false) false (rs.set (j + i) [.int .i64 k, s, .int .i64 x.wait.time, .int .i64 x.wait.place, .int .i64 x.key]))) [.sl 2 a2 x.past.length c2] x.past G := rtags_ok.fr _ _ _ _ _ hp (fun y hy => List.getElem?_set_ne (by rintro rfl; exact hbG hy))
    obtain ⟨h4, e4, r4, l4, m4⟩ := laws_markTagS (lo := lo) (k := k + 1) hp3 (fun y hy => hlo y (hGF y hy)) hGn (by omega) (by simp only [big]; omega) (hn.2 x hx)
    have hb4 : h4[b]? = some (.rows 5 (eSess false) false (rs.set (j + i) [.int .i64 k, s, .int .i64 x.wait.time, .int .i64 x.wait.place, .int .i64 x.key])) := by rw [m4.fr b (by simpa using hbl) hbG]; exact hb3
    have hbl4 : b < h4.length := (List.getElem?_eq_some_iff.1 hb4).1
    have hrow4 : (rs.set (j + i) [.int .i64 k, s, .int .i64 x.wait.time, .int .i64 x.wait.place, .int .i64 x.key])[j + i]? = some [.int .i64 k, s, .int .i64 x.wait.time, .int .i64 x.wait.place, .int .i64 x.key] := by simp [hrl]
    generalize hN : k + 1 + (mkN wTag x.past : Int) = N at e4
    refine ⟨h4.set b (.rows 5 (eSess false) false (rs.set (j + i) [.int .i64 k, s, .int .i64 N, .int .i64 (N + 1), .int .i64 (N + 1 + 1)])), [.int .i64 k, s, .int .i64 N, .int .i64 (N + 1), .int .i64 (N + 1 + 1)], ?_, by simp [hbl4], ?_, fun y hy hyG => ?_, by simpa using l4⟩
    · rw [L_laws_markSessS_0.e, br_pos (by omega), inB_nat hi]
      simp only [eO_s, Int.toNat_natCast]
      rw [st_first hb hlob hrow (row' := [.int .i64 k, s, .int .i64 x.wait.time, .int .i64 x.wait.place, .int .i64 x.key]) (by rfl), eO_s, inB_nat hi, wr (n := k + 1) (by omega) (by omega)]
      have hld : ld (hh.set b (.rows 5 (eSess false) false (rs.set (j + i) [.int .i64 k, s, .int .i64 x.wait.time, .int .i64 x.wait.place, .int .i64 x.key]))) b (j + i) 1 1 = some [s] := by
        simp only [ld, Heap.rows?, hb3, Option.bind_some, hrow4]; rfl
      rw [hld]
      simp only [eO_s, eC_c, eN_n, es]
      rw [e4]
      simp only [cal_s, eI_int]
      rw [inB_nat hi, st_first hb4 hlob hrow4 (row' := [.int .i64 k, s, .int .i64 N, .int .i64 x.wait.place, .int .i64 x.key]) (by rfl), eO_s, List.set_set, inB_nat hi, wr (n := N + 1) (by omega) (by omega)]
      rw [st_next hbl4 hlob hrl (row' := [.int .i64 k, s, .int .i64 N, .int .i64 (N + 1), .int .i64 x.key]) (by rfl), eO_s, inB_nat hi, wr (n := N + 1 + 1) (by omega) (by omega)]
      rw [st_next hbl4 hlob hrl (row' := [.int .i64 k, s, .int .i64 N, .int .i64 (N + 1), .int .i64 (N + 1 + 1)]) (by rfl), eO_s, wr (n := N + 1 + 1 + 1) (by omega) (by omega), wr_succ (by omega), show N + 1 + 1 + 1 = k + ((wSess x : Nat) : Int) by rw [hw]; omega]
    · refine ⟨s, by simp only [mkSess, hN], ?_⟩
      exact Sli.same hp0 es (rtags_ok.fr _ _ _ _ _ r4 (fun y hy => List.getElem?_set_ne (by rintro rfl; exact hbG hy)))
    · rw [List.getElem?_set_ne (Ne.symm hy), m4.fr' l4 y hyG, List.getElem?_set_ne (Ne.symm hy)]) (fun k hh => by
    rw [L_laws_markSessS_0.e, br_neg (by omega)]) hs hnd h0 hB
  exact ⟨h', E_laws_markSessS e, r⟩
theorem laws_markFrameS {l : List Frame} (hs : RFrames false h [.sl 9 a l.length c] l F) (hlo : ∀ b ∈ F, lo ≤ b) (hnd : F.Nodup) (h0 : 0 ≤ k) (hB : k + mkN wFrame l ≤ big) (hn : l.length ≤ 1048576 ∧ ∀ f ∈ l, f.ver.past.length ≤ 1048576 ∧ f.ver.text.size ≤ 1048576) :
    ∃ h', evl lo 152 [.sl 9 a l.length c, .int .i64 k] h = some (.int .i64 (k + mkN wFrame l), h') ∧ h'.length = h.length ∧ Mv h F h' F := by
  have hn1 := hn.1
  obtain ⟨h', e, _, r⟩ := mark_loop (El := RFrame false) rframe_ok (f := mkFrame) (w := wFrame) (B := big) (fun k i hh => L_laws_markFrameS_0 lo a l.length c k (i : Nat) hh) (fun i k hh x b j rs row G ha hbF hbG hGn hGF hb hrow hel hx hi h0 hB => by
    obtain ⟨vs, rfl, s, rfl, hp0⟩ := hel
    obtain ⟨a2, c2, es, hp⟩ := hp0.form
    subst ha
    have hrl : j + i < rs.length := (List.getElem?_eq_some_iff.1 hrow).1
    have hbl : b < hh.length := (List.getElem?_eq_some_iff.1 hb).1
    have hlob := hlo b hbF
    have hw : wFrame x = 3 + (5 + mkN wTag x.ver.past) := rfl
    rw [hw] at hB
    simp only [big] at hB
    generalize hrow3 : [V.int .i64 k, .int .i64 (k + 1), .int .i64 (k + 1 + 1), .int .i64 (k + 1 + 1 + 1), .int .i64 (k + 1 + 1 + 1 + 1), .int .i64 (k + 1 + 1 + 1 + 1 + 1), s, .str x.ver.text, .bool x.ver.gone] = row3
    have hb3 : (hh.set b (.rows 9 (eFrame false) false (rs.set (j + i) row3)))[b]? = some (.rows 9 (eFrame false) false (rs.set (j + i) row3)) := by simp [hbl]
    have hp3 : RTags false (hh.set b (.rows 9 (eFrame false) false (rs.set (j + i) row3))) [.sl 2 a2 x.ver.past.length c2] x.ver.past G := rtags_ok.fr _ _ _ _ _ hp (fun y hy => List.getElem?_set_ne (by rintro rfl; exact hbG hy))
    obtain ⟨h4, e4, r4, l4, m4⟩ := laws_markTagS (lo := lo) (k := k + 6) hp3 (fun y hy => hlo y (hGF y hy)) hGn (by omega) (by simp only [big]; omega) (hn.2 x hx).1
    have hb4 : h4[b]? = some (.rows 9 (eFrame false) false (rs.set (j + i) row3)) := by rw [m4.fr b (by simpa using hbl) hbG]; exact hb3
    have hbl4 : b < h4.length := (List.getElem?_eq_some_iff.1 hb4).1
    have hrow4 : (rs.set (j + i) row3)[j + i]? = some row3 := by simp [hrl]
    generalize hN : k + 6 + (mkN wTag x.ver.past : Int) = N at e4
    refine ⟨h4.set b (.rows 9 (eFrame false) false (rs.set (j + i) [.int .i64 k, .int .i64 (k + 1), .int .i64 (k + 1 + 1), .int .i64 (k + 1 + 1 + 1), .int .i64 (k + 1 + 1 + 1 + 1), .int .i64 (k + 1 + 1 + 1 + 1 + 1), s, .str (mtext N), .bool ((N + 1).tmod 3 == 0)])),
      [.int .i64 k, .int .i64 (k + 1), .int .i64 (k + 1 + 1), .int .i64 (k + 1 + 1 + 1), .int .i64 (k + 1 + 1 + 1 + 1), .int .i64 (k + 1 + 1 + 1 + 1 + 1), s, .str (mtext N), .bool ((N + 1).tmod 3 == 0)], ?_, by simp [hbl4], ?_, fun y hy hyG => ?_, by simpa using l4⟩
    · rw [L_laws_markFrameS_0.e, br_pos (by omega), inB_nat hi]
      simp only [eO_s, Int.toNat_natCast]
      rw [st_first hb hlob hrow (row' := [.int .i64 k, .int .i64 x.to, .int .i64 x.at', .int .i64 x.ver.key, .int .i64 x.ver.tag.time, .int .i64 x.ver.tag.place, s, .str x.ver.text, .bool x.ver.gone]) (by rfl), eO_s, inB_nat hi, wr (n := k + 1) (by omega) (by omega)]
      rw [st_next hbl hlob hrl (row' := [.int .i64 k, .int .i64 (k + 1), .int .i64 x.at', .int .i64 x.ver.key, .int .i64 x.ver.tag.time, .int .i64 x.ver.tag.place, s, .str x.ver.text, .bool x.ver.gone]) (by rfl), eO_s, inB_nat hi, wr (n := k + 1 + 1) (by omega) (by omega)]
      rw [st_next hbl hlob hrl (row' := [.int .i64 k, .int .i64 (k + 1), .int .i64 (k + 1 + 1), .int .i64 x.ver.key, .int .i64 x.ver.tag.time, .int .i64 x.ver.tag.place, s, .str x.ver.text, .bool x.ver.gone]) (by rfl), eO_s, inB_nat hi, wr (n := k + 1 + 1 + 1) (by omega) (by omega)]
      rw [st_next hbl hlob hrl (row' := [.int .i64 k, .int .i64 (k + 1), .int .i64 (k + 1 + 1), .int .i64 (k + 1 + 1 + 1), .int .i64 x.ver.tag.time, .int .i64 x.ver.tag.place, s, .str x.ver.text, .bool x.ver.gone]) (by rfl), eO_s, inB_nat hi, wr (n := k + 1 + 1 + 1 + 1) (by omega) (by omega)]
      rw [st_next hbl hlob hrl (row' := [.int .i64 k, .int .i64 (k + 1), .int .i64 (k + 1 + 1), .int .i64 (k + 1 + 1 + 1), .int .i64 (k + 1 + 1 + 1 + 1), .int .i64 x.ver.tag.place, s, .str x.ver.text, .bool x.ver.gone]) (by rfl), eO_s, inB_nat hi, wr (n := k + 1 + 1 + 1 + 1 + 1) (by omega) (by omega)]
      rw [st_next hbl hlob hrl (row' := row3) (by rw [← hrow3]; rfl), eO_s, inB_nat hi]
      have hld : ld (hh.set b (.rows 9 (eFrame false) false (rs.set (j + i) row3))) b (j + i) 6 1 = some [s] := by
        simp only [ld, Heap.rows?, hb3, Option.bind_some, hrow4]; rw [← hrow3]; rfl
      rw [hld, wr (n := k + 1 + 1 + 1 + 1 + 1 + 1) (by omega) (by omega), show k + 1 + 1 + 1 + 1 + 1 + 1 = k + 6 by omega]
      simp only [eO_s, eC_c, eN_n, es]
      rw [e4]
      simp only [cal_s, eI_int]
      rw [laws_markText (by omega) (by simp only [big]; omega)]
      simp only [cal_s, eT_s]
      rw [inB_nat hi, st_first hb4 hlob hrow4 (row' := [.int .i64 k, .int .i64 (k + 1), .int .i64 (k + 1 + 1), .int .i64 (k + 1 + 1 + 1), .int .i64 (k + 1 + 1 + 1 + 1), .int .i64 (k + 1 + 1 + 1 + 1 + 1), s, .str (mtext N), .bool x.ver.gone]) (by rw [← hrow3]; rfl), eO_s, List.set_set]
      rw [wr (n := N + 1) (by omega) (by omega), wr (n := N + 1 + 1) (by omega) (by omega), wr_succ (by omega), inB_nat hi]
      rw [show k + ((wFrame x : Nat) : Int) = N + 1 + 1 by rw [hw]; omega]
      cases hg : ((N + 1).tmod 3 == 0)
      · rw [br_f, inB_nat hi, st_next hbl4 hlob hrl (row' := [.int .i64 k, .int .i64 (k + 1), .int .i64 (k + 1 + 1), .int .i64 (k + 1 + 1 + 1), .int .i64 (k + 1 + 1 + 1 + 1), .int .i64 (k + 1 + 1 + 1 + 1 + 1), s, .str (mtext N), .bool false]) (by rfl), eO_s]
      · rw [br_t, st_next hbl4 hlob hrl (row' := [.int .i64 k, .int .i64 (k + 1), .int .i64 (k + 1 + 1), .int .i64 (k + 1 + 1 + 1), .int .i64 (k + 1 + 1 + 1 + 1), .int .i64 (k + 1 + 1 + 1 + 1 + 1), s, .str (mtext N), .bool true]) (by rfl), eO_s]
    · have e6 : k + 3 + 3 = k + 6 := by omega
      refine ⟨[.int .i64 (k + 1 + 1 + 1), .int .i64 (k + 1 + 1 + 1 + 1), .int .i64 (k + 1 + 1 + 1 + 1 + 1), s, .str (mtext N), .bool ((N + 1).tmod 3 == 0)], rfl, s, ?_, ?_⟩
      · simp only [mkFrame, mkVer, e6, hN]
        rw [show k + 1 + 1 + 1 = k + 3 by omega, show k + 3 + 1 + 1 = k + 3 + 2 by omega]
      · simp only [mkFrame, mkVer, e6]
        exact Sli.same hp0 es (rtags_ok.fr _ _ _ _ _ r4 (fun y hy => List.getElem?_set_ne (by rintro rfl; exact hbG hy)))
    · rw [List.getElem?_set_ne (Ne.symm hy), m4.fr' l4 y hyG, List.getElem?_set_ne (Ne.symm hy)]) (fun k hh => by
    rw [L_laws_markFrameS_0.e, br_neg (by omega)]) hs hnd h0 hB
  exact ⟨h', E_laws_markFrameS e, r⟩
theorem laws_markPlaceS {l : List Place} (hs : RPlaces false h [.sl 6 a l.length c] l F) (hlo : ∀ b ∈ F, lo ≤ b) (hnd : F.Nodup) (h0 : 0 ≤ k) (hB : k + mkN wPlaceS l ≤ big) (hn : l.length ≤ 1048576 ∧ ∀ p ∈ l, smPlace p) :
    ∃ h', evl lo 150 [.sl 6 a l.length c, .int .i64 k] h = some (.int .i64 (k + mkN wPlaceS l), h') ∧ h'.length = h.length ∧ Mv h F h' F := by
  have hn1 := hn.1
  obtain ⟨h', e, _, r⟩ := mark_loop (El := RPlace false) rplace_ok (f := mkPlaceS) (w := wPlaceS) (B := big) (fun k i hh => L_laws_markPlaceS_0 lo a l.length c k (i : Nat) hh) (fun i k hh x b j rs row G ha hbF hbG hGn hGF hb hrow hel hx hi h0 hB => by
    obtain ⟨s1, s2, s3, F1, F2, F3, rfl, rfl, p1, p2, p3⟩ := hel
    obtain ⟨a1, c1, e1, q1⟩ := p1.form
    obtain ⟨a2, c2, e2, q2⟩ := p2.form
    obtain ⟨a3, c3, e3, q3⟩ := p3.form
    subst ha
    have hsm := hn.2 x hx
    have hrl : j + i < rs.length := (List.getElem?_eq_some_iff.1 hrow).1
    have hbl : b < hh.length := (List.getElem?_eq_some_iff.1 hb).1
    have hlob := hlo b hbF
    have hw : wPlaceS x = 3 + (wNodes x.chain + wVers x.log + wVss x.got) := rfl
    rw [hw] at hB
    simp only [big] at hB
    simp only [List.mem_append, not_or] at hbG
    rw [List.nodup_append, List.nodup_append] at hGn
    obtain ⟨n1, ⟨n2, n3, d23⟩, d1⟩ := hGn
    have d12 : ∀ y ∈ F2, y ∉ F1 := fun y h2 h1 => d1 y h1 y (List.mem_append_left _ h2) rfl
    have d13 : ∀ y ∈ F3, y ∉ F1 := fun y h2 h1 => d1 y h1 y (List.mem_append_right _ h2) rfl
    have d32 : ∀ y ∈ F3, y ∉ F2 := fun y h3 h2 => d23 y h2 y h3 rfl
    have row3 : (rs.set (j + i) [V.int .i64 k, .int .i64 (k + 1), s1, s2, s3, .bool x.fell])[j + i]? = some [.int .i64 k, .int .i64 (k + 1), s1, s2, s3, .bool x.fell] := by simp [hrl]
    have hb3 : (hh.set b (.rows 6 (ePlace false) false (rs.set (j + i) [V.int .i64 k, .int .i64 (k + 1), s1, s2, s3, .bool x.fell])))[b]? = some (.rows 6 (ePlace false) false (rs.set (j + i) [V.int .i64 k, .int .i64 (k + 1), s1, s2, s3, .bool x.fell])) := by simp [hbl]
    have fr3 : ∀ y, y ≠ b → (hh.set b (.rows 6 (ePlace false) false (rs.set (j + i) [V.int .i64 k, .int .i64 (k + 1), s1, s2, s3, .bool x.fell])))[y]? = hh[y]? := fun y hy => List.getElem?_set_ne (Ne.symm hy)
    have l3 : (hh.set b (.rows 6 (ePlace false) false (rs.set (j + i) [V.int .i64 k, .int .i64 (k + 1), s1, s2, s3, .bool x.fell]))).length = hh.length := by simp
    have st1 := st_first (j := 0) (cs := [.int .i64 k]) hb hlob hrow (row' := [.int .i64 k, .int .i64 x.clock, s1, s2, s3, .bool x.fell]) (by rfl)
    have st2 := st_next (e := ePlace false) (R := 6) (rs := rs) (j := 1) (cs := [.int .i64 (k + 1)]) hbl hlob hrl (row := [.int .i64 k, .int .i64 x.clock, s1, s2, s3, .bool x.fell]) (row' := [.int .i64 k, .int .i64 (k + 1), s1, s2, s3, .bool x.fell]) (by rfl)
    generalize hh.set b (.rows 6 (ePlace false) false (rs.set (j + i) [V.int .i64 k, .int .i64 (k + 1), s1, s2, s3, .bool x.fell])) = h3 at hb3 fr3 l3 st2
    have q1 := rnodes_ok.fr _ _ _ _ _ q1 (fun y hy => fr3 y (by rintro rfl; exact hbG.1 hy))
    have q2 := rvers_ok.fr _ _ _ _ _ q2 (fun y hy => fr3 y (by rintro rfl; exact hbG.2.1 hy))
    have q3 := rvss_ok.fr _ _ _ _ _ q3 (fun y hy => fr3 y (by rintro rfl; exact hbG.2.2 hy))
    obtain ⟨h4, e4, r4, l4, m4⟩ := laws_markNodeS (lo := lo) (k := k + 2) q1 (fun y hy => hlo y (hGF y (by simp [hy]))) n1 (by omega) (by simp only [big]; omega) hsm.1
    obtain ⟨h5, e5, r5, l5, m5⟩ := laws_markVerS (lo := lo) (k := k + 2 + wNodes x.chain) (m4.keep rvers_ok q2 d12) (fun y hy => hlo y (hGF y (by simp [hy]))) n2 (by omega) (by simp only [big]; omega) hsm.2.1
    obtain ⟨h6, e6, r6, l6, m6⟩ := laws_markVerSS (lo := lo) (k := k + 2 + wNodes x.chain + wVers x.log) (m5.keep rvss_ok (m4.keep rvss_ok q3 d13) d32) (fun y hy => hlo y (hGF y (by simp [hy]))) n3 (by omega) (by simp only [big]; omega) hsm.2.2
    have hb4 : h4[b]? = some (.rows 6 (ePlace false) false (rs.set (j + i) [V.int .i64 k, .int .i64 (k + 1), s1, s2, s3, .bool x.fell])) := by rw [m4.fr' l4 b hbG.1]; exact hb3
    have hb5 : h5[b]? = some (.rows 6 (ePlace false) false (rs.set (j + i) [V.int .i64 k, .int .i64 (k + 1), s1, s2, s3, .bool x.fell])) := by rw [m5.fr' l5 b hbG.2.1]; exact hb4
    have hb6 : h6[b]? = some (.rows 6 (ePlace false) false (rs.set (j + i) [V.int .i64 k, .int .i64 (k + 1), s1, s2, s3, .bool x.fell])) := by rw [m6.fr' l6 b hbG.2.2]; exact hb5
    have hbl6 : b < h6.length := (List.getElem?_eq_some_iff.1 hb6).1
    have ld3 : ld h3 b (j + i) 2 1 = some [s1] := by rw [ld_of hb3 row3]; rfl
    have ld4 : ld h4 b (j + i) 3 1 = some [s2] := by rw [ld_of hb4 row3]; rfl
    have ld5 : ld h5 b (j + i) 4 1 = some [s3] := by rw [ld_of hb5 row3]; rfl
    have r4' := m6.keep rnodes_ok (m5.keep rnodes_ok r4 fun y h1 h2 => d12 y h2 h1) fun y h1 h2 => d13 y h2 h1
    have r5' := m6.keep rvers_ok r5 fun y h1 h2 => d32 y h2 h1
    rw [← mkNodes_len (k := k + 2)] at r4'
    rw [← mkVers_len (k := k + 2 + wNodes x.chain)] at r5'
    rw [← mkVss_len (k := k + 2 + wNodes x.chain + wVers x.log)] at r6
    generalize hN : k + 2 + (wNodes x.chain : Int) + (wVers x.log : Int) + (wVss x.got : Int) = N at e6
    have fr6 : ∀ y, y ≠ b → (h6.set b (.rows 6 (ePlace false) false (rs.set (j + i) [.int .i64 k, .int .i64 (k + 1), s1, s2, s3, .bool (N.tmod 3 == 0)])))[y]? = h6[y]? := fun y hy => List.getElem?_set_ne (Ne.symm hy)
    refine ⟨h6.set b (.rows 6 (ePlace false) false (rs.set (j + i) [.int .i64 k, .int .i64 (k + 1), s1, s2, s3, .bool (N.tmod 3 == 0)])), [.int .i64 k, .int .i64 (k + 1), s1, s2, s3, .bool (N.tmod 3 == 0)], ?_, by simp [hbl6],
      ⟨s1, s2, s3, F1, F2, F3, by simp only [mkPlaceS, hN], rfl, Sli.same p1 (by rw [mkNodes_len]; exact e1) (rnodes_ok.fr _ _ _ _ _ r4' fun y hy => fr6 y (by rintro rfl; exact hbG.1 hy)), Sli.same p2 (by rw [mkVers_len]; exact e2) (rvers_ok.fr _ _ _ _ _ r5' fun y hy => fr6 y (by rintro rfl; exact hbG.2.1 hy)), Sli.same p3 (by rw [mkVss_len]; exact e3) (rvss_ok.fr _ _ _ _ _ r6 fun y hy => fr6 y (by rintro rfl; exact hbG.2.2 hy))⟩, fun y hy hyG => ?_, by rw [List.length_set]; omega⟩
    · rw [L_laws_markPlaceS_0.e, br_pos (by omega), inB_nat hi]
      simp only [eO_s, Int.toNat_natCast]
      rw [st1, eO_s, inB_nat hi, wr (n := k + 1) (by omega) (by omega), st2, eO_s, inB_nat hi, ld3, wr (n := k + 1 + 1) (by omega) (by omega), show k + 1 + 1 = k + 2 by omega]
      simp only [eO_s, eC_c, eN_n, e1]
      rw [e4]
      simp only [cal_s, eI_int]
      rw [inB_nat hi, ld4]
      simp only [eO_s, eC_c, eN_n, e2]
      rw [e5]
      simp only [cal_s, eI_int]
      rw [inB_nat hi, ld5]
      simp only [eO_s, eC_c, eN_n, e3]
      rw [e6]
      simp only [cal_s, eI_int]
      rw [wr (n := N + 1) (by omega) (by omega), wr_succ (by omega), inB_nat hi]
      rw [show k + ((wPlaceS x : Nat) : Int) = N + 1 by rw [hw]; omega]
      cases hg : (N.tmod 3 == 0)
      · rw [br_f, inB_nat hi, st_first hb6 hlob row3 (row' := [.int .i64 k, .int .i64 (k + 1), s1, s2, s3, .bool false]) (by rfl), eO_s, List.set_set]
      · rw [br_t, st_first hb6 hlob row3 (row' := [.int .i64 k, .int .i64 (k + 1), s1, s2, s3, .bool true]) (by rfl), eO_s, List.set_set]
    · simp only [List.mem_append, not_or] at hyG
      rw [fr6 y hy, m6.fr' l6 y hyG.2.2, m5.fr' l5 y hyG.2.1, m4.fr' l4 y hyG.1, fr3 y hy]) (fun k hh => by
    rw [L_laws_markPlaceS_0.e, br_neg (by omega)]) hs hnd h0 hB
  exact ⟨h', E_laws_markPlaceS e, r⟩
theorem mark_world {w : World} {cs : List V} (hs : RWorldN false h cs w F) (hlo : ∀ b ∈ F, lo ≤ b) (hnd : F.Nodup) (hB : (1 : Int) + wWorld w ≤ big) (hn : smWorld w) :
    ∃ h', evl lo 61 [.agg cs, .int .i64 1] h = some (.int .i64 (1 + wWorld w), h') ∧ Mv h F h' F := by
  obtain ⟨a1, c1, a2, c2, a3, c3, a4, c4, F1, F2, F3, F4, rfl, rfl, r1, r2, r3, r4⟩ := hs
  obtain ⟨b1, b2, b3, b4⟩ := hn
  have hnd' := hnd
  rw [List.nodup_append, List.nodup_append, List.nodup_append] at hnd
  obtain ⟨n1, ⟨n2, ⟨n3, n4, d34⟩, d2⟩, d1⟩ := hnd
  have hw : wWorld w = mkN wPlaceS w.places + mkN wSess w.sess + mkN wFrame w.net + mkN wDone w.hist := rfl
  rw [hw] at hB ⊢
  obtain ⟨h1, e1, l1, m1⟩ := laws_markPlaceS (lo := lo) (k := 1) r1 (fun y hy => hlo y (by simp [hy])) n1 (by omega) (by omega) b1
  have r2 := m1.keep rsesss_ok r2 fun y hy hm => d1 y hm y (by simp [hy]) rfl
  have r3 := m1.keep rframes_ok r3 fun y hy hm => d1 y hm y (by simp [hy]) rfl
  have r4 := m1.keep rdones_ok r4 fun y hy hm => d1 y hm y (by simp [hy]) rfl
  obtain ⟨h2, e2, l2, m2⟩ := laws_markSessS (lo := lo) (k := 1 + mkN wPlaceS w.places) r2 (fun y hy => hlo y (by simp [hy])) n2 (by omega) (by omega) b2
  have r3 := m2.keep rframes_ok r3 fun y hy hm => d2 y hm y (by simp [hy]) rfl
  have r4 := m2.keep rdones_ok r4 fun y hy hm => d2 y hm y (by simp [hy]) rfl
  obtain ⟨h3, e3, l3, m3⟩ := laws_markFrameS (lo := lo) (k := 1 + mkN wPlaceS w.places + mkN wSess w.sess) r3 (fun y hy => hlo y (by simp [hy])) n3 (by omega) (by omega) b3
  have r4 := m3.keep rdones_ok r4 fun y hy hm => d34 y hm y hy rfl
  obtain ⟨h4, e4, l4, m4⟩ := laws_markDoneS (lo := lo) (k := 1 + mkN wPlaceS w.places + mkN wSess w.sess + mkN wFrame w.net) r4 (fun y hy => hlo y (by simp [hy])) n4 (by omega) (by omega) b4
  refine ⟨h4, E_laws_markWorld ?_, ?_⟩
  · rw [e1, cal_s, eI_int, e2, cal_s, eI_int, e3, cal_s, eI_int, e4, cal_s, eI_int, show (1 : Int) + (mkN wPlaceS w.places : Int) + (mkN wSess w.sess : Int) + (mkN wFrame w.net : Int) + (mkN wDone w.hist : Int) = 1 + ((mkN wPlaceS w.places + mkN wSess w.sess + mkN wFrame w.net + mkN wDone w.hist : Nat) : Int) by omega]
  · refine ⟨by omega, fun y _ hy => ?_, hnd', fun y hy => .inl hy⟩
    simp only [List.mem_append, not_or] at hy
    rw [m4.fr' l4 y hy.2.2.2, m3.fr' l3 y hy.2.2.1, m2.fr' l2 y hy.2.1, m1.fr' l1 y hy.1]
end
end Go.Proofs.YtfhnofppfacemaaGreat
namespace Go.Proofs.YtfhnofppfacemaaGreat
open Go T
set_option linter.unusedVariables false
set_option linter.unusedSimpArgs false
abbrev intCs (n : Int) : List V := [.int .i64 n]
abbrev RInts : Rel (List Int) := Sli false 1 3 (flat intCs)
theorem rints_ok : RInts.Ok := Sli.ok flat_ok
def RIntsN : Rel (List Int) := fun h cs l F => ∃ a c, cs = [.sl 1 a l.length c] ∧ RInts h cs l F
theorem rintsN_ok : RIntsN.Ok := ⟨fun h h' cs l F ⟨a, c, e, hp⟩ hb => ⟨a, c, e, rints_ok.fr _ _ _ _ _ hp hb⟩, fun h cs l F ⟨_, _, _, hp⟩ => rints_ok.bd _ _ _ _ hp⟩
def NInts (v : V) (l : List Int) (r : List V) : Prop := ∃ a c, (∀ {T : Type} (K : Option (Nat × Nat) → Nat → Option Nat → Option T), eS 1 v K = K a l.length c) ∧ r = [.sl 1 a l.length c]
def mkInt (k : Int) (_ : Int) : Int := k
def wInt (_ : Int) : Nat := 1
theorem mkN_int {l : List Int} : mkN wInt l = l.length := by
  induction l with
  | nil => rfl
  | cons x l ih =>
    have h2 : mkN wInt (x :: l) = 1 + mkN wInt l := by simp only [mkN, List.map_cons, List.sum_cons]; rfl
    rw [h2, ih, List.length_cons]; omega
section
variable {lo : Nat} {h : Heap} {F F' F1 : List Nat} {a a' a1 a2 a3 a4 : Option (Nat × Nat)} {c c' c1 c2 c3 c4 : Option Nat} {k : Int}
theorem RInts.get {l : List Int} {n i : Nat} (hs : RInts h [.sl 1 a n c] l F) (hi : i < l.length) : ∃ o, a = some o ∧ ld h o.1 (o.2 + i) 0 1 = some [.int .i64 l[i]] := by
  obtain ⟨o, row, G, h1, h2, ⟨rfl, _⟩, _⟩ := hs.read hi
  exact ⟨o, h1, by rw [h2]; rfl⟩
theorem eq_ints {l : List Int} {cs cs' : List V} (h1 : RIntsN h cs l F) (h2 : RIntsN h cs' l F') (hn : l.length ≤ 1048576) : ∃ v v', cs = [v] ∧ cs' = [v'] ∧ evl lo 60 [v, v'] h = some (.bool true, h) := by
  obtain ⟨a, c, rfl, r1⟩ := h1
  obtain ⟨a', c', rfl, r2⟩ := h2
  refine ⟨_, _, rfl, rfl, E_laws_eqIntS (h' := h) ?_⟩
  rw [beqI, br_t]
  refine (go_loop (n := l.length) (fun i => L_laws_eqIntS_0 (List.length h) a l.length c a' l.length c' false (i : Nat) h) fun i hi => ?_).trans ?_
  · obtain ⟨o, rfl, ho⟩ := RInts.get r1 hi
    obtain ⟨o', rfl, ho'⟩ := RInts.get r2 hi
    rw [L_laws_eqIntS_0.e, br_pos (by omega), inB_nat hi]
    simp only [eO_s, Int.toNat_natCast, ho, ho', eC_c, eI_int, eN_n, inB_nat hi, beqI, br_t, wr_succ (show i < 9223372036854775807 by omega)]
  · rw [L_laws_eqIntS_0.e, br_neg (by omega)]
theorem mark_ints {l : List Int} {v : V} (hs : RIntsN h [v] l F) (hlo : ∀ b ∈ F, lo ≤ b) (hnd : F.Nodup) (hn : l.length ≤ 1048576) :
    ∃ h', evl lo 62 [v, .int .i64 1] h = some (.int .i64 (1 + mkN wInt l), h') ∧ RIntsN h' [v] (marks mkInt wInt l 1) F ∧ Mv h F h' F := by
  obtain ⟨a, c, hv, hs⟩ := hs
  injection hv with hv _
  subst hv
  have hB : (1 : Int) + mkN wInt l ≤ big := by rw [mkN_int]; simp only [big]; omega
  obtain ⟨h', e, r, _, m⟩ := mark_loop (El := flat intCs) flat_ok (f := mkInt) (w := wInt) (B := big) (fun k i hh => L_laws_markIntS_0 lo a l.length c k (i : Nat) hh) (fun i k hh x b j rs row G ha hbF hbG hGn hGF hb hrow hel hx hi h0 hB => by
    obtain ⟨rfl, rfl⟩ := hel
    subst ha
    have hbl : b < hh.length := (List.getElem?_eq_some_iff.1 hb).1
    have hw : ((wInt x : Nat) : Int) = 1 := rfl
    rw [hw] at hB ⊢
    simp only [big] at hB
    refine ⟨hh.set b (.rows 1 3 false (rs.set (j + i) [.int .i64 k])), [.int .i64 k], ?_, by simp [hbl], ⟨rfl, rfl⟩, fun y hy _ => List.getElem?_set_ne (Ne.symm hy), by simp⟩
    rw [L_laws_markIntS_0.e, br_pos (by omega), inB_nat hi]
    simp only [eO_s, Int.toNat_natCast]
    rw [st_first hb (hlo b hbF) hrow (row' := [.int .i64 k]) (by rfl), eO_s, wr (n := k + 1) (by omega) (by omega), wr_succ (by omega)]) (fun k hh => by
    rw [L_laws_markIntS_0.e, br_neg (by omega)]) hs hnd (k := 1) (by omega) hB
  exact ⟨h', E_laws_markIntS e, ⟨a, c, by rw [marks_len], r⟩, m⟩
theorem held_ints {l : List Int} {v : V} (hs : RIntsN h [v] (marks mkInt wInt l 1) F) (hn : l.length ≤ 1048576) : evl lo 63 [v, .int .i64 1] h = some (.int .i64 (1 + mkN wInt l), h) := by
  obtain ⟨a, c, hv, hs⟩ := hs
  injection hv with hv _
  rw [marks_len] at hv
  subst hv
  refine E_laws_heldIntS (h' := h) ?_
  refine (held_loop (w := wInt) (l := l) (k := 1) (fun k i => L_laws_heldIntS_0 (List.length h) a l.length c k 0 (i : Nat) h) fun i hi => ?_).trans ?_
  · have hi' : i < (marks mkInt wInt l 1).length := by rw [marks_len]; exact hi
    obtain ⟨o, rfl, ho⟩ := RInts.get hs hi'
    rw [marks_get hi] at ho
    have hle := mkN_le (w := wInt) (l := l) (i := i)
    rw [mkN_int (l := l)] at hle
    have hw : ((wInt l[i] : Nat) : Int) = 1 := rfl
    rw [hw, L_laws_heldIntS_0.e, br_pos (by omega), inB_nat hi]
    simp only [eO_s, Int.toNat_natCast, ho, eC_c, eN_n, eI_int]
    unfold mkInt
    rw [beqI, br_t, wr (n := 1 + (mkN wInt (l.take i) : Int) + 1) (by omega) (by omega), wr_succ (by omega)]
  · rw [L_laws_heldIntS_0.e, br_neg (by omega)]
end
end Go.Proofs.YtfhnofppfacemaaGreat
namespace Go.Proofs.YtfhnofppfacemaaGreat
open Go T
set_option linter.unusedVariables false
set_option linter.unusedSimpArgs false
/-- the node whose version is shown -/
def showAt (l : List Node) (k : Nat) : Nat := if k = 0 ∧ 1 < l.length then 1 else k
def shown (l : List Node) (k key : Nat) : Option Ver := (storeAtN l (showAt l k))[key]?
def fitsAt (l : List Node) (key : Nat) (t : Tag) (k : Nat) : Bool := match shown l k key with
  | some v => !less v.tag.time v.tag.place t.time t.place
  | none => false
def nodesOf (l : List Node) (key : Nat) (t : Tag) : List Int := l.zipIdx.filterMap fun x => bif fitsAt l key t x.2 then some (x.2 : Int) else none
def chainOf (l : List Place) (k : Nat) : List Node := match l[k]? with
  | some p => p.chain
  | none => []
def tagOf (l : List Tag) (k : Nat) : Tag := match l[k]? with
  | some t => t
  | none => ⟨0, 0⟩
theorem chainOf_get {l : List Place} {k : Nat} (hk : k < l.length) : chainOf l k = l[k].chain := by unfold chainOf; rw [List.getElem?_eq_getElem hk]
theorem tagOf_get {l : List Tag} {k : Nat} (hk : k < l.length) : tagOf l k = l[k] := by unfold tagOf; rw [List.getElem?_eq_getElem hk]
def askNodes (l : List Place) (s : Option Sess) (k : Int) : List Int := match s with
  | some x => bif decide (x.wait.time > 0) then [] else nodesOf (chainOf l x.place.toNat) k.toNat (tagOf x.past k.toNat)
  | none => []
def worldNodes (w : World) (s k : Int) : List Int := bif worldOk w && (within s 0 ((w.sess.length : Int) - 1) && within k 0 3) then askNodes w.places w.sess[s.toNat]? k else []
theorem worldNodes_len {w : World} {s k : Int} : (worldNodes w s k).length ≤ 4 := by
  unfold worldNodes
  cases hw : worldOk w with
  | false => simp
  | true =>
    cases (within s 0 ((w.sess.length : Int) - 1) && within k 0 3) with
    | false => simp
    | true =>
      simp only [Bool.and_self, cond_true]
      unfold askNodes
      split
      · rename_i x hx
        cases decide (x.wait.time > 0) with
        | true => simp
        | false =>
          rw [cond_false]
          unfold nodesOf
          have h1 := List.length_filterMap_le (fun y : Node × Nat => bif fitsAt (chainOf w.places x.place.toNat) k.toNat (tagOf x.past k.toNat) y.2 then some (y.2 : Int) else none) (chainOf w.places x.place.toNat).zipIdx
          rw [List.length_zipIdx] at h1
          obtain ⟨h3, _, _, _, hok, _⟩ := worldOk_parts hw
          have h4 : (chainOf w.places x.place.toNat).length ≤ 4 := by
            unfold chainOf
            split
            · rename_i p hp
              obtain ⟨hi, rfl⟩ := List.getElem?_eq_some_iff.1 hp
              exact (chainOk_all (ok_parts (placesOk_at hok _ hi).2).2.2.2.1).1.2
            · simp
          omega
      · simp

section
variable {lo : Nat} {ro : Bool} {h : Heap} {F F' F1 : List Nat} {a a' a1 a2 a3 a4 : Option (Nat × Nat)} {c c' c1 c2 c3 c4 : Option Nat}
theorem spec_l3Shows {l : List Node} {k key : Nat} (hs : RNodes false h [.sl 2 a l.length c] l F) (hk : k < l.length) (hst : ∀ x ∈ l, storeOk x.store = true) (hkey : key < 4) (hl : lo ≤ h.length) (hn1 : l.length ≤ 1048576) :
    ∃ v a' c' h', evl lo 155 [.agg [.sl 2 a l.length c], .int .i64 (k : Nat), .int .i64 (key : Nat)] h = some (.agg (Ver.cs v a' c'), h') ∧ shown l k key = some v ∧ Mv h [] h' [] := by
  suffices hq : ∃ v a' c' h', _ = some (V.agg (Ver.cs v a' c'), h') ∧ shown l k key = some v ∧ Mv h [] h' [] from by
    obtain ⟨v, a', c', h', e, hr⟩ := hq
    exact ⟨v, a', c', h', E_spec_l3Shows e, hr⟩
  have hql : showAt l k < l.length := by unfold showAt; split <;> omega
  obtain ⟨o, s1, s2, b1, d1, b2, d2, H1, H2, ha, _, ho1, _, q1, _, p1, _⟩ := hs.get hql
  have hs4 := hst _ (List.getElem_mem hql)
  have hkl : key < l[showAt l k].store.length := by rw [storeOk_len hs4]; exact hkey
  obtain ⟨o2, t, b3, d3, G, ha2, ho2, es2, pv, _⟩ := p1.get hkl
  obtain ⟨a5, c5, h5, F5, e5, r5, m5⟩ := spec_l2Copy (lo := lo) (v := l[showAt l k].store[key]) pv hl ((storeOk_sm hs4).2 _ (List.getElem_mem hkl)).1
  have hsh : shown l k key = some l[showAt l k].store[key] := by
    unfold shown
    rw [storeAtN_get hql, List.getElem?_eq_getElem hkl]
  generalize l[showAt l k].store[key] = v at ho2 es2 pv e5 r5 hsh
  generalize l[showAt l k].store.length = n1 at q1 hkl ha2
  refine ⟨v, a5, c5, h5, ?_, hsh, m5.drop⟩
  simp only [Ver.cs] at e5
  by_cases hk0 : k = 0
  · rw [show (((k : Nat) : Int) == 0) = true by rw [beq_iff_eq]; omega, br_t]
    by_cases h1 : 1 < l.length
    · have hsa : showAt l k = 1 := by unfold showAt; rw [if_pos ⟨hk0, h1⟩]
      rw [hsa] at ho1
      rw [br_pos (by omega), inB_in ⟨by omega, by omega⟩, ha, eO_s, ho1, eO_s, eC_c, eN_n, q1, inB_nat hkl, ha2, eO_s, Int.toNat_natCast, ho2, eO_s, eC_c, eI_int, eC_c, eI_int, eC_c, eI_int, eC_c, es2, eC_c, eT_s, eC_c, eBv_b, eN_n, e5, cal_s, eA_a, eC_c, eI_int, eC_c, eI_int, eC_c, eI_int, eC_c, eS_sl, eC_c, eT_s, eC_c, eBv_b, eN_n]
    · have hsa : showAt l k = k := by unfold showAt; rw [if_neg (by omega)]
      rw [hsa] at ho1
      rw [br_neg (by omega), inB_nat hk, ha, eO_s, Int.toNat_natCast, ho1, eO_s, eC_c, eN_n, q1, inB_nat hkl, ha2, eO_s, Int.toNat_natCast, ho2, eO_s, eC_c, eI_int, eC_c, eI_int, eC_c, eI_int, eC_c, es2, eC_c, eT_s, eC_c, eBv_b, eN_n, e5, cal_s, eA_a, eC_c, eI_int, eC_c, eI_int, eC_c, eI_int, eC_c, eS_sl, eC_c, eT_s, eC_c, eBv_b, eN_n]
  · have hsa : showAt l k = k := by unfold showAt; rw [if_neg (by omega)]
    rw [hsa] at ho1
    rw [show (((k : Nat) : Int) == 0) = false by rw [beq_eq_false_iff_ne]; omega, br_f, inB_nat hk, ha, eO_s, Int.toNat_natCast, ho1, eO_s, eC_c, eN_n, q1, inB_nat hkl, ha2, eO_s, Int.toNat_natCast, ho2, eO_s, eC_c, eI_int, eC_c, eI_int, eC_c, eI_int, eC_c, es2, eC_c, eT_s, eC_c, eBv_b, eN_n, e5, cal_s, eA_a, eC_c, eI_int, eC_c, eI_int, eC_c, eI_int, eC_c, eS_sl, eC_c, eT_s, eC_c, eBv_b, eN_n]
theorem impl_shows {l : List Node} {k key b i j : Nat} {s0 : V} (hld : ld h b i (j + 0) 1 = some [s0]) (es0 : ∀ {T : Type} (K : Option (Nat × Nat) → Nat → Option Nat → Option T), eS 2 s0 K = K a l.length c) (hs : RNodes false h [.sl 2 a l.length c] l F) (hk : k < l.length) (hst : ∀ x ∈ l, storeOk x.store = true) (hkey : key < 4) (hl : lo ≤ h.length) (hn1 : l.length ≤ 1048576) :
    ∃ v a' c' h', evl lo 157 [.ptr (some (b, (i, j))), .int .i64 (k : Nat), .int .i64 (key : Nat)] h = some (.tup [.agg (Ver.cs v a' c'), .bool true], h') ∧ shown l k key = some v ∧ Mv h [] h' [] := by
  suffices hq : ∃ v a' c' h', _ = some (V.tup [.agg (Ver.cs v a' c'), .bool true], h') ∧ shown l k key = some v ∧ Mv h [] h' [] from by
    obtain ⟨v, a', c', h', e, hr⟩ := hq
    exact ⟨v, a', c', h', E_impl_Chain_shows e, hr⟩
  have hql : showAt l k < l.length := by unfold showAt; split <;> omega
  obtain ⟨o, s1, s2, b1, d1, b2, d2, H1, H2, ha, _, ho1, _, q1, _, p1, _⟩ := hs.get hql
  have hs4 := hst _ (List.getElem_mem hql)
  have hkl : key < l[showAt l k].store.length := by rw [storeOk_len hs4]; exact hkey
  obtain ⟨o2, t, b3, d3, G, ha2, ho2, es2, pv, _⟩ := p1.get hkl
  obtain ⟨a5, c5, h5, F5, e5, r5, m5⟩ := impl_Ver_copied (lo := lo) (v := l[showAt l k].store[key]) pv hl ((storeOk_sm hs4).2 _ (List.getElem_mem hkl)).1
  have hsh : shown l k key = some l[showAt l k].store[key] := by
    unfold shown
    rw [storeAtN_get hql, List.getElem?_eq_getElem hkl]
  generalize l[showAt l k].store[key] = v at ho2 es2 pv e5 r5 hsh
  generalize l[showAt l k].store.length = n1 at q1 hkl ha2
  refine ⟨v, a5, c5, h5, ?_, hsh, m5.drop⟩
  simp only [Ver.cs] at e5
  have hw1 : within ((k : Nat) : Int) 0 ((l.length : Int) - 1) = true := by simp only [within, Bool.and_eq_true, decide_eq_true_eq]; omega
  have hw2 : within ((key : Nat) : Int) 0 3 = true := by simp only [within, Bool.and_eq_true, decide_eq_true_eq]; omega
  rw [hld, eO_s, eC_c, eN_n, es0, wr (n := ((l.length : Nat) : Int) - 1) (by omega) (by omega), impl_within, cal_s, eB_b, hw1, br_t, impl_keyOk, cal_s, eB_b, hw2, br_t]
  by_cases hk0 : k = 0
  · rw [show (((k : Nat) : Int) == 0) = true by rw [beq_iff_eq]; omega, br_t, hld, eO_s, eC_c, eN_n, es0, eO_s, eC_c, eN_n, es0, wr (n := ((l.length : Nat) : Int) - 1) (by omega) (by omega)]
    have hif : (if ((l.length : Nat) : Int) - 1 < 1 then ((l.length : Nat) : Int) - 1 else 1) = ((showAt l k : Nat) : Int) := by
      unfold showAt
      by_cases h1 : 1 < l.length
      · rw [if_neg (by omega), if_pos ⟨hk0, h1⟩]; rfl
      · rw [if_pos (by omega), if_neg (by omega)]; omega
    rw [hif, inB_nat hql, ha, eO_s, Int.toNat_natCast, ho1, eO_s, eC_c, eN_n, q1, inB_nat hkl, ha2, eO_s, Int.toNat_natCast, ho2, eO_s, eC_c, eI_int, eC_c, eI_int, eC_c, eI_int, eC_c, es2, eC_c, eT_s, eC_c, eBv_b, eN_n, e5, cal_s, eA_a, eC_c, eI_int, eC_c, eI_int, eC_c, eI_int, eC_c, eS_sl, eC_c, eT_s, eC_c, eBv_b, eN_n]
  · have hsa : showAt l k = k := by unfold showAt; rw [if_neg (by omega)]
    rw [hsa] at ho1
    rw [show (((k : Nat) : Int) == 0) = false by rw [beq_eq_false_iff_ne]; omega, br_f, hld, eO_s, eC_c, eN_n, es0, inB_nat hk, ha, eO_s, Int.toNat_natCast, ho1, eO_s, eC_c, eN_n, q1, inB_nat hkl, ha2, eO_s, Int.toNat_natCast, ho2, eO_s, eC_c, eI_int, eC_c, eI_int, eC_c, eI_int, eC_c, es2, eC_c, eT_s, eC_c, eBv_b, eN_n, e5, cal_s, eA_a, eC_c, eI_int, eC_c, eI_int, eC_c, eI_int, eC_c, eS_sl, eC_c, eT_s, eC_c, eBv_b, eN_n]
theorem sess_at {l : List Sess} (h : l.all sessOk = true) {i : Nat} (hi : i < l.length) : (0 ≤ l[i].place ∧ l[i].place ≤ 2) ∧ l[i].past.length = 4 ∧ tagOk l[i].wait.time l[i].wait.place = true := by
  have := List.all_eq_true.1 h _ (List.getElem_mem hi)
  unfold sessOk at this
  simp only [Bool.and_eq_true] at this
  obtain ⟨⟨⟨⟨⟨h1, h2⟩, h3⟩, _⟩, _⟩, _⟩ := this
  simp only [within, Bool.and_eq_true, decide_eq_true_eq] at h1
  unfold pastOk at h2
  simp only [Bool.and_eq_true, decide_eq_true_eq] at h2
  exact ⟨h1, h2.1, h3⟩
theorem sess_wait {l : List Sess} {n i : Nat} (hs : RSesss false h [.sl 5 a n c] l F) (hi : i < l.length) : ∃ o, a = some o ∧ ld h o.1 (o.2 + i) 2 1 = some [.int .i64 l[i].wait.time] ∧ ld h o.1 (o.2 + i) 2 2 = some [.int .i64 l[i].wait.time, .int .i64 l[i].wait.place] := by
  obtain ⟨o, row, G, q1, q2, ⟨v, rfl, _⟩, _⟩ := Sli.read hs hi
  exact ⟨o, q1, by rw [q2]; rfl, by rw [q2]; rfl⟩
theorem spec_WorldNodes {w : World} {cs : List V} {s k : Int} (hs : RWorldN false h cs w F) (hl : lo ≤ h.length) (hn : smWorld w) :
    ∃ v r h' F', evl lo 64 [.agg cs, .int .i64 s, .int .i64 k] h = some (v, h') ∧ NInts v (worldNodes w s k) r ∧ RIntsN h' r (worldNodes w s k) F' ∧ Mv h [] h' F' := by
  have m0 : Mv h [] (h ++ [.rows 1 3 false []]) [h.length] := Mv.last
  have e := spec_worldOk (lo := lo) (m0.keep0 rworldN_ok hs) hn
  obtain ⟨a1, c1, a2, c2, a3, c3, a4, c4, F1, F2, F3, F4, rfl, rfl, r1, r2, r3, r4⟩ := hs
  have bd1 : ∀ y ∈ F1, y < h.length := rplaces_ok.bd _ _ _ _ r1
  have bd2 : ∀ y ∈ F2, y < h.length := rsesss_ok.bd _ _ _ _ r2
  have r1 := m0.keep0 rplaces_ok r1
  have r2 := m0.keep0 rsesss_ok r2
  suffices hk : ∃ v r h' F', _ = some (v, h') ∧ NInts v (worldNodes w s k) r ∧ RIntsN h' r (worldNodes w s k) F' ∧ Mv h [] h' F' from by
    obtain ⟨v, r, h', F', e, hr⟩ := hk
    exact ⟨v, r, h', F', E_spec_WorldNodes e, hr⟩
  have none' : worldNodes w s k = [] → ∃ v r h' F', some (V.sl 1 (some (h.length, 0)) 0 (some 0), h ++ [.rows 1 3 false []]) = some (v, h') ∧ NInts v (worldNodes w s k) r ∧ RIntsN h' r (worldNodes w s k) F' ∧ Mv h [] h' F' := fun he => by
    rw [he]
    exact ⟨_, _, _, _, rfl, ⟨some (h.length, 0), some 0, fun K => eS_sl _ _ _ _ _, rfl⟩, ⟨_, _, rfl, Sli.fresh (Nat.le_refl _)⟩, m0⟩
  have hsl := hn.2.1.1
  rw [e, cal_s, eB_b]
  cases hw : worldOk w with
  | false => rw [br_f]; exact none' (by unfold worldNodes; rw [hw]; rfl)
  | true =>
  rw [br_t, spec_l1In, cal_s, eB_b, wr (n := ((w.sess.length : Nat) : Int) - 1) (by omega) (by omega)]
  cases hws : within s 0 ((w.sess.length : Int) - 1) with
  | false => rw [br_f]; exact none' (by unfold worldNodes; rw [hw, hws]; rfl)
  | true =>
  rw [br_t, spec_l1In, cal_s, eB_b]
  cases hwk : within k 0 3 with
  | false => rw [br_f]; exact none' (by unfold worldNodes; rw [hw, hws, hwk]; rfl)
  | true =>
  have hans : worldNodes w s k = askNodes w.places w.sess[s.toNat]? k := by unfold worldNodes; rw [hw, hws, hwk]; rfl
  obtain ⟨h3, _, _, _, hok, hses, _⟩ := worldOk_parts hw
  simp only [within, Bool.and_eq_true, decide_eq_true_eq] at hws hwk
  obtain ⟨si, rfl⟩ : ∃ si : Nat, s = (si : Int) := ⟨s.toNat, by omega⟩
  obtain ⟨ki, rfl⟩ : ∃ ki : Nat, k = (ki : Int) := ⟨k.toNat, by omega⟩
  have hsi : si < w.sess.length := by omega
  obtain ⟨⟨hp0, hp2⟩, hpl, htg⟩ := sess_at hses hsi
  obtain ⟨o, v, x1, y1, G, ha, _, hop, hov, es, pp, _⟩ := r2.get hsi
  obtain ⟨o9, ha9, how, _⟩ := sess_wait r2 hsi
  have : o = o9 := by rw [ha] at ha9; injection ha9
  subst this
  have hans2 : worldNodes w si ki = bif decide (w.sess[si].wait.time > 0) then [] else nodesOf (chainOf w.places w.sess[si].place.toNat) ki (tagOf w.sess[si].past ki) := by rw [hans, Int.toNat_natCast, List.getElem?_eq_getElem hsi]; rfl
  rw [br_t, inB_nat hsi, ha, eO_s, Int.toNat_natCast, how, eO_s, eC_c, eN_n, eI_int]
  by_cases hwt : w.sess[si].wait.time > 0
  · rw [br_pos hwt]; exact none' (by rw [hans2, decide_eq_true hwt]; rfl)
  · rw [decide_eq_false hwt, cond_false] at hans2
    have hpi : w.sess[si].place.toNat < w.places.length := by omega
    obtain ⟨po, s1, s2, s3, b1, d1, b2, d2, b3, d3, G1, G2, G3, hpa, _, _, hpo2, _, _, e1, _, _, g1, _, _, sub1⟩ := r1.get hpi
    rw [br_neg hwt, inB_nat hsi, eO_s, hop, eO_s, eC_c, eN_n, eI_int, inB_in ⟨by omega, by omega⟩, hpa, eO_s, hpo2, eO_s, eC_c, e1, eN_n]
    have hkp : ki < w.sess[si].past.length := by omega
    rw [chainOf_get hpi, tagOf_get hkp] at hans2
    rw [hans2]
    have hco := (ok_parts (placesOk_at hok _ hpi).2).2.2.2.1
    generalize w.places[w.sess[si].place.toNat].chain = ch at g1 e1 hco ⊢
    have hcl := (chainOk_all hco).1.2
    have hst : ∀ x ∈ ch, storeOk x.store = true := fun x hx => (nodeOk_parts ((chainOk_all hco).2 x hx)).1
    obtain ⟨a', c', h', F', e5, r5, m5⟩ := build_loop (El := flat intCs) flat_ok (h0 := h ++ [.rows 1 3 false []]) (l := ch.zipIdx) (g := fun _ x => bif fitsAt ch ki w.sess[si].past[ki] x.2 then some (x.2 : Int) else none) (lo := lo) (R := 1) (e := 3) (bytes := 8) (b0 := []) (F0 := [h.length]) (a0 := some (h.length, 0)) (c0 := some 0)
      (Nat.le_trans hl m0.le) (m0.ge hl (by simp)) m0.nd (by decide) (by rw [List.length_zipIdx, List.length_nil]; omega) (fun i a n c hh => L_spec_WorldNodes_0 lo (si : Nat) (ki : Nat) a n c (i : Nat) (some po) w.places.length c1 (some o) w.sess.length c2 a3 w.net.length c3 a4 w.hist.length c4 b1 ch.length d1 hh) (fun i hi q1 q2 hh F1 acc hz hacc hm hr => by
        rw [List.length_zipIdx] at hi
        have g1' := hm.keep rnodes_ok g1 fun y hy hyF => by rw [List.mem_singleton] at hyF; have := bd1 y (sub1 y (.inl hy)); omega
        have r2' := hm.keep rsesss_ok r2 fun y hy hyF => by rw [List.mem_singleton] at hyF; have := bd2 y hy; omega
        obtain ⟨u, x5, y5, h5, e6, hsh, m6⟩ := spec_l3Shows (lo := hh.length) (key := ki) g1' hi hst (by omega) (Nat.le_refl _) (by omega)
        obtain ⟨o7, v7, x7, y7, G7, ha7, _, _, hov7, es7, pp7, _⟩ := (m6.keep0 rsesss_ok r2').get hsi
        have : o = o7 := by rw [ha] at ha7; injection ha7
        subst this
        obtain ⟨o8, ha8, ho8⟩ := pp7.get hkp
        have hf : fitsAt ch ki w.sess[si].past[ki] i = !less u.tag.time u.tag.place w.sess[si].past[ki].time w.sess[si].past[ki].place := by unfold fitsAt; rw [hsh]
        simp only [Ver.cs] at e6
        have eL : L_spec_WorldNodes_0 lo (si : Nat) (ki : Nat) q1 acc.length q2 (i : Nat) (some po) w.places.length c1 (some o) w.sess.length c2 a3 w.net.length c3 a4 w.hist.length c4 b1 ch.length d1 hh =
            br (less u.tag.time u.tag.place w.sess[si].past[ki].time w.sess[si].past[ki].place) (L_spec_WorldNodes_0 lo (si : Nat) (ki : Nat) q1 acc.length q2 ((i + 1 : Nat) : Int) (some po) w.places.length c1 (some o) w.sess.length c2 a3 w.net.length c3 a4 w.hist.length c4 b1 ch.length d1 h5)
              (app lo 3 1 8 (.sl 1 q1 acc.length q2) [[.int .i64 (i : Nat)]] (h5 ++ [.rows 1 3 false [[.int .i64 (i : Nat)]]]) fun v h => eS 1 v fun a n c => L_spec_WorldNodes_0 lo (si : Nat) (ki : Nat) a n c ((i + 1 : Nat) : Int) (some po) w.places.length c1 (some o) w.sess.length c2 a3 w.net.length c3 a4 w.hist.length c4 b1 ch.length d1 h) := by
          rw [L_spec_WorldNodes_0.e, br_pos (by omega), e6, cal_s, eA_a, eC_c, eI_int, eC_c, eI_int, eC_c, eI_int, eC_c, eS_sl, eC_c, eT_s, eC_c, eBv_b, eN_n, inB_nat hsi, eO_s, Int.toNat_natCast, hov7, eO_s, eC_c, eN_n, es7, inB_nat hkp, ha8, eO_s, Int.toNat_natCast, ho8, eO_s, eC_c, eI_int, eC_c, eI_int, eN_n, spec_l1Less, cal_s, eB_b, wr_succ (by omega), rows_one]
        rw [List.getElem_zipIdx, Nat.zero_add, eL, hf]
        cases less u.tag.time u.tag.place w.sess[si].past[ki].time w.sess[si].past[ki].place with
        | true => exact .inl ⟨rfl, h5, m6, br_t _ _⟩
        | false => exact .inr ⟨(i : Int), [.int .i64 (i : Nat)], [], h5 ++ [.rows 1 3 false [[.int .i64 (i : Nat)]]], rfl, ⟨rfl, rfl⟩, m6.trans Mv.snoc, br_f _ _⟩) (Sli.fresh (by simp))
    rw [grow_filterMap, List.nil_append] at e5 r5
    refine ⟨.sl 1 a' (nodesOf ch ki w.sess[si].past[ki]).length c', _, h', F', ?_, ⟨a', c', fun K => eS_sl _ _ _ _ _, rfl⟩, ⟨a', c', rfl, r5⟩, m0.trans m5⟩
    refine e5.trans ?_
    rw [L_spec_WorldNodes_0.e, br_neg (by rw [List.length_zipIdx]; omega)]
    rfl
theorem impl_WorldNodes {w : World} {cs : List V} {s k : Int} (hs : RWorldN false h cs w F) (hl : lo ≤ h.length) (hn : smWorld w) :
    ∃ v r h' F', evl lo 65 [.agg cs, .int .i64 s, .int .i64 k] h = some (v, h') ∧ NInts v (worldNodes w s k) r ∧ RIntsN h' r (worldNodes w s k) F' ∧ Mv h [] h' F' := by
  obtain ⟨h1, e, m1⟩ := impl_worldOk (lo := lo) hs hl hn
  have hl1 : lo ≤ h1.length := Nat.le_trans hl m1.le
  obtain ⟨a1, c1, a2, c2, a3, c3, a4, c4, F1, F2, F3, F4, rfl, rfl, r1, r2, r3, r4⟩ := m1.keep0 rworldN_ok hs
  have m0 : Mv h1 [] (h1 ++ [.rows 1 3 false [[.int .i64 0], [.int .i64 0], [.int .i64 0], [.int .i64 0]]]) [h1.length] := Mv.last
  have bd1 : ∀ y ∈ F1, y < h1.length := rplaces_ok.bd _ _ _ _ r1
  have bd2 : ∀ y ∈ F2, y < h1.length := rsesss_ok.bd _ _ _ _ r2
  suffices hk : ∃ v r h' F', _ = some (v, h') ∧ NInts v (worldNodes w s k) r ∧ RIntsN h' r (worldNodes w s k) F' ∧ Mv h [] h' F' from by
    obtain ⟨v, r, h', F', e, hr⟩ := hk
    exact ⟨v, r, h', F', E_impl_WorldNodes e, hr⟩
  have none' : worldNodes w s k = [] → ∃ v r h' F', some (V.sl 0 none 0 (some 0), h1) = some (v, h') ∧ NInts v (worldNodes w s k) r ∧ RIntsN h' r (worldNodes w s k) F' ∧ Mv h [] h' F' := fun he => by
    rw [he]
    exact ⟨_, _, _, _, rfl, ⟨none, some 0, fun K => rfl, rfl⟩, ⟨_, _, rfl, Sli.nil⟩, m1⟩
  have hsl := hn.2.1.1
  rw [e, cal_s, eB_b]
  cases hw : worldOk w with
  | false => rw [br_f]; exact none' (by unfold worldNodes; rw [hw]; rfl)
  | true =>
  rw [br_t, impl_within, cal_s, eB_b, wr (n := ((w.sess.length : Nat) : Int) - 1) (by omega) (by omega)]
  cases hws : within s 0 ((w.sess.length : Int) - 1) with
  | false => rw [br_f]; exact none' (by unfold worldNodes; rw [hw, hws]; rfl)
  | true =>
  rw [br_t, impl_keyOk, cal_s, eB_b]
  cases hwk : within k 0 3 with
  | false => rw [br_f]; exact none' (by unfold worldNodes; rw [hw, hws, hwk]; rfl)
  | true =>
  have hans : worldNodes w s k = askNodes w.places w.sess[s.toNat]? k := by unfold worldNodes; rw [hw, hws, hwk]; rfl
  obtain ⟨h3, _, _, _, hok, hses, _⟩ := worldOk_parts hw
  simp only [within, Bool.and_eq_true, decide_eq_true_eq] at hws hwk
  obtain ⟨si, rfl⟩ : ∃ si : Nat, s = (si : Int) := ⟨s.toNat, by omega⟩
  obtain ⟨ki, rfl⟩ : ∃ ki : Nat, k = (ki : Int) := ⟨k.toNat, by omega⟩
  have hsi : si < w.sess.length := by omega
  obtain ⟨⟨hp0, hp2⟩, hpl, htg⟩ := sess_at hses hsi
  obtain ⟨o, v, x1, y1, G, ha, horow, _, _, es, pp, subG⟩ := r2.get hsi
  obtain ⟨o9, ha9, _, how⟩ := sess_wait r2 hsi
  have : o = o9 := by rw [ha] at ha9; injection ha9
  subst this
  have hans2 : worldNodes w si ki = bif decide (w.sess[si].wait.time > 0) then [] else nodesOf (chainOf w.places w.sess[si].place.toNat) ki (tagOf w.sess[si].past ki) := by rw [hans, Int.toNat_natCast, List.getElem?_eq_getElem hsi]; rfl
  rw [br_t, inB_nat hsi, ha, eO_s, Int.toNat_natCast, how, eO_s, eC_c, eI_int, eC_c, eI_int, eN_n]
  have hz : ((w.sess[si].wait.time == 0) && ((w.sess[si].wait.place == 0) && true)) = !decide (w.sess[si].wait.time > 0) := by
    simp [tagOk, within] at htg
    rw [Bool.eq_iff_iff]
    simp
    omega
  rw [hz]
  by_cases hwt : w.sess[si].wait.time > 0
  · rw [decide_eq_true hwt, Bool.not_true, br_f]; exact none' (by rw [hans2, decide_eq_true hwt]; rfl)
  · rw [decide_eq_false hwt, cond_false] at hans2
    have hpi : w.sess[si].place.toNat < w.places.length := by omega
    have r1b := m0.keep0 rplaces_ok r1
    obtain ⟨po, s1, s2, s3, b1, d1, b2, d2, b3, d3, G1, G2, G3, hpa, _, _, hpo2, _, _, e1, _, _, g1, _, _, sub1⟩ := r1b.get hpi
    rw [decide_eq_false hwt, Bool.not_false, br_t, inB_nat hsi, eO_s, horow, eO_s, eC_c, eI_int, eC_c, es, eC_c, eI_int, eC_c, eI_int, eC_c, eI_int, eN_n, inB_in ⟨by omega, by omega⟩, hpa, eO_s, hpo2, eO_s, eC_c, eN_n, e1]
    have hkp : ki < w.sess[si].past.length := by omega
    rw [chainOf_get hpi, tagOf_get hkp] at hans2
    rw [hans2]
    have hco := (ok_parts (placesOk_at hok _ hpi).2).2.2.2.1
    have hcl := (chainOk_all hco).1.2
    have hst : ∀ x ∈ w.places[w.sess[si].place.toNat].chain, storeOk x.store = true := fun x hx => (nodeOk_parts ((chainOk_all hco).2 x hx)).1
    obtain ⟨a', c', h', F', e5, r5, m5⟩ := build_loop (El := flat intCs) flat_ok (h0 := h1 ++ [.rows 1 3 false [[.int .i64 0], [.int .i64 0], [.int .i64 0], [.int .i64 0]]]) (l := w.places[w.sess[si].place.toNat].chain.zipIdx) (g := fun _ x => bif fitsAt w.places[w.sess[si].place.toNat].chain ki w.sess[si].past[ki] x.2 then some (x.2 : Int) else none) (lo := lo) (R := 1) (e := 3) (bytes := 8) (b0 := []) (F0 := [h1.length]) (a0 := some (h1.length, 0)) (c0 := some 4)
      (Nat.le_trans hl1 m0.le) (m0.ge hl1 (by simp)) m0.nd (by decide) (by rw [List.length_zipIdx, List.length_nil]; omega) (fun i a n c hh => L_impl_WorldNodes_0 lo (ki : Nat) po.1 (po.2 + w.sess[si].place.toNat) 2 a n c (w.places[w.sess[si].place.toNat].chain.length : Nat) (i : Nat) w.sess[si].place x1 w.sess[si].past.length y1 w.sess[si].wait.time w.sess[si].wait.place w.sess[si].key hh) (fun i hi q1 q2 hh F1 acc hz hacc hm hr => by
        rw [List.length_zipIdx] at hi
        have r1' := hm.keep rplaces_ok r1b fun y hy hyF => by rw [List.mem_singleton] at hyF; have := bd1 y hy; omega
        have pp' := hm.keep rtags_ok (m0.keep0 rtags_ok pp) fun y hy hyF => by rw [List.mem_singleton] at hyF; have := bd2 y (subG y hy); omega
        obtain ⟨po', s1', s2', s3', b1', d1', b2', d2', b3', d3', G1', G2', G3', hpa', _, _, hpo2', _, _, e1', _, _, g1', _, _, _⟩ := r1'.get hpi
        have : po = po' := by rw [hpa] at hpa'; injection hpa'
        subst this
        obtain ⟨u, x5, y5, h5, e6, hsh, m6⟩ := impl_shows (lo := lo) (key := ki) (j := 2) hpo2' (fun K => e1' K) g1' hi hst (by omega) (Nat.le_trans (Nat.le_trans hl1 m0.le) hm.le) (by omega)
        obtain ⟨o8, ha8, ho8⟩ := (m6.keep0 rtags_ok pp').get hkp
        have hf : fitsAt w.places[w.sess[si].place.toNat].chain ki w.sess[si].past[ki] i = !less u.tag.time u.tag.place w.sess[si].past[ki].time w.sess[si].past[ki].place := by unfold fitsAt; rw [hsh]
        simp only [Ver.cs] at e6
        have eL : L_impl_WorldNodes_0 lo (ki : Nat) po.1 (po.2 + w.sess[si].place.toNat) 2 q1 acc.length q2 (w.places[w.sess[si].place.toNat].chain.length : Nat) (i : Nat) w.sess[si].place x1 w.sess[si].past.length y1 w.sess[si].wait.time w.sess[si].wait.place w.sess[si].key hh =
            br (less u.tag.time u.tag.place w.sess[si].past[ki].time w.sess[si].past[ki].place) (L_impl_WorldNodes_0 lo (ki : Nat) po.1 (po.2 + w.sess[si].place.toNat) 2 q1 acc.length q2 (w.places[w.sess[si].place.toNat].chain.length : Nat) ((i + 1 : Nat) : Int) w.sess[si].place x1 w.sess[si].past.length y1 w.sess[si].wait.time w.sess[si].wait.place w.sess[si].key h5)
              (app lo 3 1 8 (.sl 1 q1 acc.length q2) [[.int .i64 (i : Nat)]] (h5 ++ [.rows 1 3 false [[.int .i64 (i : Nat)]]]) fun v h => eS 1 v fun a n c => L_impl_WorldNodes_0 lo (ki : Nat) po.1 (po.2 + w.sess[si].place.toNat) 2 a n c (w.places[w.sess[si].place.toNat].chain.length : Nat) ((i + 1 : Nat) : Int) w.sess[si].place x1 w.sess[si].past.length y1 w.sess[si].wait.time w.sess[si].wait.place w.sess[si].key h) := by
          rw [L_impl_WorldNodes_0.e, br_pos (by omega), e6, cal_s, eU_t, eC_c, eA_a, eC_c, eI_int, eC_c, eI_int, eC_c, eI_int, eC_c, eS_sl, eC_c, eT_s, eC_c, eBv_b, eN_n, eC_c, eB_b, br_t, eN_n, inB_nat hkp, ha8, eO_s, Int.toNat_natCast, ho8, eO_s, eC_c, eI_int, eC_c, eI_int, eN_n, impl_TagLess, cal_s, eB_b, wr_succ (by omega), rows_one]
        rw [List.getElem_zipIdx, Nat.zero_add, eL, hf]
        cases less u.tag.time u.tag.place w.sess[si].past[ki].time w.sess[si].past[ki].place with
        | true => exact .inl ⟨rfl, h5, m6, br_t _ _⟩
        | false => exact .inr ⟨(i : Int), [.int .i64 (i : Nat)], [], h5 ++ [.rows 1 3 false [[.int .i64 (i : Nat)]]], rfl, ⟨rfl, rfl⟩, m6.trans Mv.snoc, br_f _ _⟩) (Sli.fresh (by simp))
    rw [grow_filterMap, List.nil_append] at e5 r5
    refine ⟨.sl 1 a' (nodesOf w.places[w.sess[si].place.toNat].chain ki w.sess[si].past[ki]).length (some (nodesOf w.places[w.sess[si].place.toNat].chain ki w.sess[si].past[ki]).length), _, h', F', ?_, ⟨a', _, fun K => eS_sl _ _ _ _ _, rfl⟩, ⟨a', _, rfl, Sli.clip r5⟩, (m1.trans m0).trans m5⟩
    refine e5.trans ?_
    rw [L_impl_WorldNodes_0.e, br_neg (by rw [List.length_zipIdx]; omega), reslice_clip r5]
    rfl
end
end Go.Proofs.YtfhnofppfacemaaGreat
namespace Go.Proofs.YtfhnofppfacemaaGreat
open Go T
set_option linter.unusedVariables false
set_option linter.unusedSimpArgs false
set_option maxRecDepth 100000
section
variable {h : Heap}
theorem tv_PlaceS {n : Nat} {xs : List V} (hx : TV Tryz.prog h (n + 12) 86 xs) : ∃ l F, RPlaces true h xs l F ∧ l.length ≤ maxLen ∧ ∀ x ∈ l, bdPlace x :=
  tv_sli (El := RPlace true) (bd := bdPlace) (ee := ePlace true) (R := 6) Tryz.underlying86 (by kernel_rfl) (fun row hr => tv_Place (n := n) hr) hx
theorem tv_Sess {n : Nat} {xs : List V} (hx : TV Tryz.prog h (n + 5) 220 xs) : ∃ v F, RSess true h xs v F ∧ v.past.length ≤ maxLen := by
  obtain ⟨y1, z1, rfl, _, g1, y2, z2, rfl, _, g2, y3, z3, rfl, _, g3, y4, z4, rfl, _, g4, rfl⟩ := tv_struct Tryz.underlying220 hx
  obtain ⟨i, rfl, _⟩ := tv_int Tryz.underlying3 g1
  obtain ⟨l, F, g2, g2'⟩ := tv_Past (n := n) g2
  obtain ⟨t, rfl⟩ := tv_Tag g3
  obtain ⟨k, rfl, _⟩ := tv_int Tryz.underlying3 g4
  obtain ⟨v, rfl⟩ := sli_one g2
  exact ⟨⟨i, l, t, k⟩, F, ⟨v, rfl, g2⟩, g2'⟩
theorem tv_SessS {n : Nat} {xs : List V} (hx : TV Tryz.prog h (n + 6) 87 xs) : ∃ l F, RSesss true h xs l F ∧ l.length ≤ maxLen ∧ ∀ x ∈ l, x.past.length ≤ maxLen :=
  tv_sli (El := RSess true) (bd := fun s : Sess => s.past.length ≤ maxLen) (ee := eSess true) (R := 5) Tryz.underlying87 (by kernel_rfl) (fun row hr => tv_Sess (n := n) hr) hx
theorem tv_Frame {n : Nat} {xs : List V} (hx : TV Tryz.prog h (n + 6) 223 xs) : ∃ v F, RFrame true h xs v F ∧ bdVer v.ver := by
  obtain ⟨y1, z1, rfl, _, g1, y2, z2, rfl, _, g2, y3, z3, rfl, _, g3, y4, z4, rfl, _, g4, rfl⟩ := tv_struct Tryz.underlying223 hx
  obtain ⟨i, rfl, _⟩ := tv_int Tryz.underlying3 g1
  obtain ⟨j, rfl, _⟩ := tv_int Tryz.underlying3 g2
  obtain ⟨k, rfl, _⟩ := tv_int Tryz.underlying3 g3
  obtain ⟨v, F, g4, g4'⟩ := tv_Ver (n := n) g4
  exact ⟨⟨i, j, k, v⟩, F, ⟨y4, by rw [List.append_nil]; rfl, g4⟩, g4'⟩
theorem tv_FrameS {n : Nat} {xs : List V} (hx : TV Tryz.prog h (n + 7) 88 xs) : ∃ l F, RFrames true h xs l F ∧ l.length ≤ maxLen ∧ ∀ x ∈ l, bdVer x.ver :=
  tv_sli (El := RFrame true) (bd := fun f : Frame => bdVer f.ver) (ee := eFrame true) (R := 9) Tryz.underlying88 (by kernel_rfl) (fun row hr => tv_Frame (n := n) hr) hx
theorem tv_Done {n : Nat} {xs : List V} (hx : TV Tryz.prog h (n + 3) 232 xs) : ∃ d : Done, xs = d.cs := by
  obtain ⟨y1, z1, rfl, _, g1, y2, z2, rfl, _, g2, y3, z3, rfl, _, g3, y4, z4, rfl, _, g4, rfl⟩ := tv_struct Tryz.underlying232 hx
  obtain ⟨i, rfl, _⟩ := tv_int Tryz.underlying3 g1
  obtain ⟨j, rfl, _⟩ := tv_int Tryz.underlying3 g2
  obtain ⟨k, rfl, _⟩ := tv_int Tryz.underlying3 g3
  obtain ⟨t, rfl⟩ := tv_Tag g4
  exact ⟨⟨i, j, k, t⟩, rfl⟩
theorem tv_DoneS {n : Nat} {xs : List V} (hx : TV Tryz.prog h (n + 4) 89 xs) : ∃ l F, RDones true h xs l F ∧ l.length ≤ maxLen := by
  obtain ⟨l, F, h1, h2, _⟩ := tv_sli (El := flat Done.cs) (bd := fun _ => True) (ee := eDone true) (R := 5) Tryz.underlying89 (by kernel_rfl) (fun row hr => by obtain ⟨t, rfl⟩ := tv_Done (n := n) hr; exact ⟨t, [], ⟨rfl, rfl⟩, trivial⟩) hx
  exact ⟨l, F, h1, h2⟩
theorem tv_World {n : Nat} {xs : List V} (hx : TV Tryz.prog h (n + 13) 91 xs) : ∃ w F, RWorld true h xs w F ∧ bdWorld w := by
  obtain ⟨y1, z1, rfl, _, g1, y2, z2, rfl, _, g2, y3, z3, rfl, _, g3, y4, z4, rfl, _, g4, rfl⟩ := tv_struct Tryz.underlying91 hx
  obtain ⟨l1, F1, r1, b1⟩ := tv_PlaceS (n := n) g1
  obtain ⟨l2, F2, r2, b2⟩ := tv_SessS (n := n + 6) g2
  obtain ⟨l3, F3, r3, b3⟩ := tv_FrameS (n := n + 5) g3
  obtain ⟨l4, F4, r4, b4⟩ := tv_DoneS (n := n + 8) g4
  obtain ⟨v1, rfl⟩ := sli_one r1
  obtain ⟨v2, rfl⟩ := sli_one r2
  obtain ⟨v3, rfl⟩ := sli_one r3
  obtain ⟨v4, rfl⟩ := sli_one r4
  exact ⟨⟨l1, l2, l3, l4⟩, F1 ++ (F2 ++ (F3 ++ F4)), ⟨v1, v2, v3, v4, F1, F2, F3, F4, rfl, rfl, r1, r2, r3, r4⟩, b1, b2, b3, b4⟩
theorem av_World {n : Nat} {x : V} (hx : ArgV Tryz.prog h (n + 13) 91 x) : ∃ cs w F, x = .agg cs ∧ RWorldN true h cs w F ∧ bdWorld w := by
  obtain ⟨xs, rfl, hx2⟩ := av_agg Tryz.underlying91 hx
  obtain ⟨w, F, h1, h2⟩ := tv_World (n := n) hx2
  exact ⟨xs, w, F, rfl, rworld_true h1, h2⟩
end
end Go.Proofs.YtfhnofppfacemaaGreat
namespace Go.Proofs.YtfhnofppfacemaaGreat
open Go T
set_option linter.unusedVariables false
set_option linter.unusedSimpArgs false
section
variable {lo : Nat} {h : Heap} {F F' : List Nat}
set_option maxRecDepth 100000 in
theorem law_FnExactWorldNodes {w : World} {cs : List V} {s k : Int} (hs : RWorldN true h cs w F) (hb : bdWorld w) :
    ∃ h', evl h.length 13 [.agg cs, .int .i64 s, .int .i64 k] h = some (.bool true, h') := by
  have hsz := sz_world (lo := h.length) hs hb
  obtain ⟨b1, d1, b2, d2, b3, d3, b4, d4, _, _, _, _, rfl, _⟩ := id hs
  suffices hk : ∃ h', _ = some (V.bool true, h') from hk.imp fun h' hh => E_laws_FnExactWorldNodes hh
  rw [hsz, cal_s, eI_int]
  by_cases hneg : szN 1048576 (szWorld w) < 0
  · rw [br_pos hneg]; exact ⟨_, rfl⟩
  · rw [br_neg hneg]
    have hsm := szN_small hneg
    have hn := sm_world hsm
    have hw : (1 : Int) + wWorld w ≤ big := by have := wWorld_le (w := w); simp only [big]; omega
    have hq : (worldNodes w s k).length ≤ 1048576 := by have := worldNodes_len (w := w) (s := s) (k := k); omega
    have hS := fun (x : List V) (hh : Heap) (F : List Nat) (hl : h.length ≤ hh.length) (hr : RWorldN false hh x w F) => spec_WorldNodes (lo := h.length) (s := s) (k := k) hr hl hn
    have hI := fun (x : List V) (hh : Heap) (F : List Nat) (hl : h.length ≤ hh.length) (hr : RWorldN false hh x w F) => impl_WorldNodes (lo := h.length) (s := s) (k := k) hr hl hn
    generalize worldNodes w s k = q at hq hS hI
    obtain ⟨c1, h1, w1, h2, c3, h3, g, h4, c5, h5, h6, h7, c8, h8, g9, h9, t1, s2, t3, i4, t5, p6, p7, t8, i9, ⟨⟨X1, x1⟩, ⟨X3, x3⟩, ⟨X8, x8⟩⟩, ⟨⟨W2, w2⟩, ⟨G4, g4⟩, ⟨W4, w4⟩⟩, ⟨_, ⟨X35, x35⟩, ⟨X5, x5⟩⟩, ⟨⟨G6, g6⟩, ⟨W6, w6⟩⟩, ⟨G7, g7⟩, ⟨⟨G9, r9⟩, ⟨W9, w9⟩⟩, ⟨G79, g79⟩⟩ :=
      exact_story (Ra := RWorldN true) (Rx := RWorldN false) (Rr := RIntsN) rworldN_ok rworldN_ok rintsN_ok (y := q) (y' := marks mkInt wInt q 1) hs
        (TO := fun hh r h' => evl h.length 53 [.agg (w.cs b1 d1 b2 d2 b3 d3 b4 d4)] hh = some (.agg r, h'))
        (TO' := fun hh r h' => evl h.length 53 [.agg (w.cs b1 d1 b2 d2 b3 d3 b4 d4)] hh = some (.agg r, h'))
        (SP := fun x hh r h' => ∃ v, evl h.length 64 [.agg x, .int .i64 s, .int .i64 k] hh = some (v, h') ∧ NInts v q r)
        (IM := fun x hh r h' => ∃ v, evl h.length 65 [.agg x, .int .i64 s, .int .i64 k] hh = some (v, h') ∧ NInts v q r)
        (MX := fun x hh h' => evl h.length 61 [.agg x, .int .i64 1] hh = some (.int .i64 (1 + wWorld w), h'))
        (MR := fun r hh h' => ∃ v, r = [v] ∧ evl h.length 62 [v, .int .i64 1] hh = some (.int .i64 (1 + mkN wInt q), h'))
        (fun hh F hl hr => to_world hr hl hn)
        (fun hh F hl hr => to_world hr hl hn)
        (fun x hh F hl hr _ _ => by obtain ⟨v, r, h', F', e1, e2, e3, e4⟩ := hS x hh F hl hr; exact ⟨r, h', F', ⟨v, e1, e2⟩, e3, e4⟩)
        (fun x hh F hl hr _ _ => by obtain ⟨v, r, h', F', e1, e2, e3, e4⟩ := hI x hh F hl hr; exact ⟨r, h', F', ⟨v, e1, e2⟩, e3, e4⟩)
        (fun x hh F hr hnd hlo => by obtain ⟨h', e, m⟩ := mark_world (lo := h.length) hr hlo hnd hw hn; exact ⟨h', e, m⟩)
        (fun r hh F hr hnd hlo => by
          obtain ⟨v, rfl⟩ : ∃ v, r = [v] := by obtain ⟨a, c, e, _⟩ := hr; exact ⟨_, e⟩
          obtain ⟨h', e, rr, m⟩ := mark_ints (lo := h.length) hr hlo hnd hq; exact ⟨h', ⟨v, rfl, e⟩, rr, m⟩)
    have e35 := eq_world (lo := h.length) x35 x5 hn
    obtain ⟨_, _, _, _, _, _, _, _, _, _, _, _, rfl, _⟩ := x1
    obtain ⟨_, _, _, _, _, _, _, _, _, _, _, _, rfl, _⟩ := x3
    obtain ⟨_, _, _, _, _, _, _, _, _, _, _, _, rfl, _⟩ := x5
    obtain ⟨_, _, _, _, _, _, _, _, _, _, _, _, rfl, _⟩ := x8
    obtain ⟨v2, s2, y1, z1, sv2, rfl⟩ := s2
    obtain ⟨v4, i4, y2, z2, sv4, rfl⟩ := i4
    obtain ⟨v9, i9, y3, z3, sv9, rfl⟩ := i9
    obtain ⟨v7, hv7, p7⟩ := p7
    injection hv7 with hv7 _
    subst hv7
    obtain ⟨_, _, u1, u2, e4⟩ := eq_ints (lo := h.length) g4 w4 hq
    injection u1 with u1 _; injection u2 with u2 _; subst u1; subst u2
    obtain ⟨_, _, u1, u2, e6⟩ := eq_ints (lo := h.length) g6 w6 hq
    injection u1 with u1 _; injection u2 with u2 _; subst u1; subst u2
    obtain ⟨_, _, u1, u2, e9⟩ := eq_ints (lo := h.length) r9 w9 hq
    injection u1 with u1 _; injection u2 with u2 _; subst u1; subst u2
    have k7 := held_ints (lo := h.length) g7 hq
    have k9 := held_ints (lo := h.length) g79 hq
    have z1 : decide ((1 : Int) + wWorld w < 0) = false := decide_eq_false (by omega)
    have z2 : decide ((1 : Int) + mkN wInt q < 0) = false := decide_eq_false (by omega)
    have bq : ∀ {T : Type} (x : Int) (y z : Option T), br (x == x) y z = y := fun x y z => by rw [beqI, br_t]
    rw [t1, cal_s, eA_a, eC_c, eS_sl, eC_c, eS_sl, eC_c, eS_sl, eC_c, eS_sl, eN_n, s2, cal_s, sv2, t3, cal_s, eA_a, eC_c, eS_sl, eC_c, eS_sl, eC_c, eS_sl, eC_c, eS_sl, eN_n, i4, cal_s, sv4, e4, cal_s, eB_b, br_t, t5, cal_s, eA_a, eC_c, eS_sl, eC_c, eS_sl, eC_c, eS_sl, eC_c, eS_sl, eN_n, e35, cal_s, eB_b, br_t, p6, cal_s, eI_int, z1, br_f, e6, cal_s, eB_b, br_t, p7, cal_s, eI_int, k7, cal_s, eI_int, z2, br_f, bq, t8, cal_s, eA_a, eC_c, eS_sl, eC_c, eS_sl, eC_c, eS_sl, eC_c, eS_sl, eN_n, i9, cal_s, sv9, e9, cal_s, eB_b, br_t, k9, cal_s, eI_int, z2, br_f, bq]
    exact ⟨h9, rfl⟩
end
set_option maxRecDepth 100000 in
theorem main_FnExactWorldNodes {h : Heap} {x y0 y1 : V} (hx : ArgV Tryz.prog h 13 91 x) (hy0 : ArgV Tryz.prog h 13 3 y0) (hy1 : ArgV Tryz.prog h 13 3 y1) : ∃ h', evl h.length 13 [x, y0, y1] h = some (.bool true, h') := by
  obtain ⟨cs, w, F, rfl, hp, hb⟩ := av_World (n := 0) hx
  obtain ⟨i0, rfl, _⟩ := av_int (n := 12) hy0
  obtain ⟨i1, rfl, _⟩ := av_int (n := 12) hy1
  exact law_FnExactWorldNodes hp hb
end Go.Proofs.YtfhnofppfacemaaGreat
