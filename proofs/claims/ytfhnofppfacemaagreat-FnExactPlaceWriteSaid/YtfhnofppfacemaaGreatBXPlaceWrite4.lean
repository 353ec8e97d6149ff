/- Part 4 of what is shown for the law FnExactPlaceWrite, whatever the input; no condition of its own. -/
import Derived.Test.YtfhnofppfacemaaGreatBXPlaceWrite3
namespace Go.Proofs.YtfhnofppfacemaaGreat
open Go T
set_option linter.unusedVariables false
set_option linter.unusedSimpArgs false
/-- an element of a slice, to be changed: what it holds, or its row anew -/
theorem Sli.at {α : Type} {El : Rel α} (ok : El.Ok) {h : Heap} {R R' e n k lo : Nat} {a : Option (Nat × Nat)} {c : Option Nat} {l : List α} {F : List Nat} (hs : Sli false R e El h [.sl R' a n c] l F) (hk : k < l.length) (hnd : F.Nodup) (hlo : ∀ b ∈ F, lo ≤ b) :
    ∃ b i rs row G, a = some (b, i) ∧ b ∈ F ∧ b ∉ G ∧ h[b]? = some (.rows R e false rs) ∧ rs[i + k]? = some row ∧ El h row l[k] G ∧ (∀ y ∈ G, y ∈ F) ∧ G.Nodup ∧
      (∀ h' x' G', Mv h G h' G' → El h' row x' G' → ∃ F', Sli false R e El h' [.sl R' a n c] (l.set k x') F' ∧ Mv h F h' F') ∧
      (∀ h1 G1 j cs row' x', Mv h G h1 G1 → paste row j cs = some row' → El h1 row' x' G1 →
        ∃ h2 F', st lo h1 b (i + k) j cs = some h2 ∧ Sli false R e El h2 [.sl R' a n c] (l.set k x') F' ∧ Mv h F h2 F' ∧ h2[b]? = some (.rows R e false (rs.set (i + k) row')) ∧ (∀ y, y ≠ b → h2[y]? = h1[y]?) ∧ h2.length = h1.length) := by
  have hbd := (Sli.ok ok).bd _ _ _ _ hs
  obtain ⟨b, i, rs, row, G, ha, hbF, hbG, hb, hrow, hel, hGF, hGn, put⟩ := hs.put ok.fr hk hnd
  have hblt : b < h.length := hbd b hbF
  refine ⟨b, i, rs, row, G, ha, hbF, hbG, hb, hrow, hel, hGF, hGn, fun h' x' G' m hx => ?_, fun h1 G1 j cs row' x' m hp hx => ?_⟩
  · obtain ⟨F', p1, p2, p3, _⟩ := put h' row x' G' (by rw [set_same hrow, m.fr b hblt hbG]; exact hb) (fun y hy _ hyG => m.fr y (hbd y hy) hyG) hx m.nd (fun y hy hyF => by
      rcases m.sub y hy with h1 | h1
      · exact h1
      · have := hbd y hyF; omega)
    refine ⟨F', p1, m.le, fun y hy hyF => m.fr y hy fun hg => hyF (hGF y hg), p3, fun y hy => ?_⟩
    rcases p2 y hy with h1 | h1
    · exact .inl h1.1
    · exact (m.sub y h1).imp (hGF y) id
  · have hbG1 : b ∉ G1 := fun hm => by
      rcases m.sub b hm with h1 | h1
      · exact hbG h1
      · omega
    have hb1 : h1[b]? = some (.rows R e false rs) := by rw [m.fr b hblt hbG]; exact hb
    have hb1lt : b < h1.length := Nat.lt_of_lt_of_le hblt m.le
    have e2 := st_first hb1 (hlo b hbF) hrow hp
    have fr2 : ∀ y, y ≠ b → (h1.set b (.rows R e false (rs.set (i + k) row')))[y]? = h1[y]? := fun y hy => List.getElem?_set_ne (Ne.symm hy)
    obtain ⟨F', p1, p2, p3, _⟩ := put (h1.set b (.rows R e false (rs.set (i + k) row'))) row' x' G1 (by simp [hb1lt]) (fun y hy hyb hyG => by rw [fr2 y hyb]; exact m.fr y (hbd y hy) hyG)
      (ok.fr _ _ _ _ _ hx fun y hy => fr2 y fun e => hbG1 (e ▸ hy)) m.nd (fun y hy hyF => by
      rcases m.sub y hy with h1 | h1
      · exact h1
      · have := hbd y hyF; omega)
    refine ⟨_, F', e2, p1, ⟨by simpa using m.le, fun y hy hyF => ?_, p3, fun y hy => ?_⟩, by simp [hb1lt], fr2, by simp⟩
    · rw [fr2 y fun e => hyF (e ▸ hbF)]
      exact m.fr y hy fun hg => hyF (hGF y hg)
    · rcases p2 y hy with h1 | h1
      · exact .inl h1.1
      · refine (m.sub y h1).imp (hGF y) fun h => by simpa using h

def lessV (v u : Ver) : Bool := less v.tag.time v.tag.place u.tag.time u.tag.place
def sameVers (s t : List Ver) : Bool := decide (s.length = t.length) && (s.zip t).all fun x => sameVer x.1 x.2
theorem sameVers_iff {s t : List Ver} : sameVers s t = true ↔ s = t := by
  unfold sameVers
  rw [Bool.and_eq_true, decide_eq_true_eq, List.all_eq_true]
  constructor
  · rintro ⟨hl, hx⟩
    apply List.ext_getElem hl
    intro i h1 h2
    have := hx (s[i], t[i]) (by rw [List.mem_iff_getElem]; exact ⟨i, by simp; omega, by simp⟩)
    exact same_iff.1 this
  · rintro rfl
    refine ⟨rfl, fun x hx => ?_⟩
    obtain ⟨i, hi, rfl⟩ := List.mem_iff_getElem.1 hx
    simp [same_iff]
def addVer (l : List Ver) (v : Ver) : List Ver := match l[v.key.toNat]? with
  | some x => bif lessV x v then l.set v.key.toNat v else l
  | none => l
theorem addVer_get {l : List Ver} {v : Ver} (h : v.key.toNat < l.length) : addVer l v = bif lessV l[v.key.toNat] v then l.set v.key.toNat v else l := by
  unfold addVer; rw [List.getElem?_eq_getElem h]
theorem addVer_len {l : List Ver} {v : Ver} : (addVer l v).length = l.length := by
  unfold addVer
  split
  · cases lessV _ v <;> simp
  · rfl
theorem verAt_ok {v : Ver} (h : verOk v = true) : verAt v.key.toNat v = true := by
  have := (verOk_parts h).1
  unfold verAt
  rw [h, show (v.key == ((v.key.toNat : Nat) : Int)) = true by rw [beq_iff_eq]; omega]; simp
theorem storeOk_set {l : List Ver} {v : Ver} (hl : storeOk l = true) (hv : verOk v = true) : storeOk (l.set v.key.toNat v) = true := by
  have h4 := storeOk_len hl
  unfold storeOk
  rw [Bool.and_eq_true, List.all_eq_true, decide_eq_true_eq]
  refine ⟨fun x hx => ?_, by simpa using h4⟩
  rw [List.mem_zipIdx_iff_getElem?] at hx
  have hi := (List.getElem?_eq_some_iff.1 hx).1
  rw [List.getElem?_set] at hx
  split at hx
  · rename_i he
    split at hx
    · injection hx with hx
      rw [← hx, ← he]; exact verAt_ok hv
    · cases hx
  · rw [List.getElem?_eq_getElem (by simpa using hi)] at hx
    injection hx with hx
    rw [← hx]
    exact storeOk_get hl _
/-- what waits, laid upon a store; nothing if something is not later -/
def fitsL : List Ver → List Ver → Option (List Ver)
  | s, [] => some s
  | s, v :: r => match s[v.key.toNat]? with
    | some x => bif lessV x v then fitsL (s.set v.key.toNat v) r else none
    | none => none
def fits (x : Node) (next : List Ver) : Bool := match fitsL next x.wait with
  | some s => sameVers s x.store
  | none => false
def nodeOk (x : Node) : Bool := storeOk x.store && decide ((x.wait.length : Int) ≤ 6) && x.wait.all verOk
def linkAt (l : List Node) (k : Nat) (x : Node) : Bool := match l[k + 1]? with
  | some y => fits x y.store
  | none => decide (x.wait.length = 0)
def chainOk (l : List Node) : Bool := within l.length 1 4 && l.all nodeOk && l.zipIdx.all fun x => linkAt l x.2 x.1
theorem nodeOk_parts {x : Node} (h : nodeOk x = true) : storeOk x.store = true ∧ x.wait.length ≤ 6 ∧ ∀ v ∈ x.wait, verOk v = true := by
  simp only [nodeOk, Bool.and_eq_true, decide_eq_true_eq, List.all_eq_true] at h
  exact ⟨h.1.1, by have := h.1.2; omega, h.2⟩

section
variable {lo : Nat} {h : Heap} {F F' : List Nat} {a a' : Option (Nat × Nat)} {c c' : Option Nat}
theorem impl_later {l : List Ver} {v : Ver} {ro : Bool} {ca : Option (Nat × Nat)} {cc : Option Nat} {n : Nat} (hs : RVers ro h [.sl 6 a l.length c] l F) (hk : 0 ≤ v.key ∧ v.key < l.length) :
    evl lo 192 [.agg [.sl 6 a l.length c], .agg [.int .i64 v.key, .int .i64 v.tag.time, .int .i64 v.tag.place, .sl 2 ca n cc, .str v.text, .bool v.gone]] h = some (.bool (lessV (l[v.key.toNat]'(by omega)) v), h) := by
  refine E_impl_Store_later (h' := h) ?_
  obtain ⟨o, s, b, d, G, ha, _, _, _, _, _, _, ho12, _⟩ := hs.all (show v.key.toNat < l.length by omega)
  rw [inB_in ⟨by omega, by omega⟩, ha]
  simp only [eO_s, ho12, eC_c, eI_int, eN_n, impl_TagLess, cal_s, eB_b]
  unfold lessV
  cases less _ _ _ _ <;> rfl
theorem impl_EqualFunc {l l' : List Ver} {ro ro' : Bool} (hs : RVers ro h [.sl 6 a l.length c] l F) (hs' : RVers ro' h [.sl 6 a' l'.length c'] l' F') (hn : smVers l) :
    evl lo 229 [.sl 6 a l.length c, .sl 6 a' l'.length c', .fn 230 []] h = some (.bool (sameVers l l'), h) := by
  have hn1 := hn.1
  refine E_slices_EqualFunc_impl_Ver_impl_Ver_impl_Ver_impl_Ver (h' := h) ?_
  unfold sameVers
  by_cases hl : l.length = l'.length
  · rw [show ((l.length : Int) == (l'.length : Int)) = true by simp; omega, br_t, decide_eq_true hl]
    have hz : (l.zip l').length = l.length := by simp; omega
    refine (all_loop (p := fun x : Ver × Ver => sameVer x.1 x.2) (l := l.zip l') (fun i => L_slices_EqualFunc_impl_Ver_impl_Ver_impl_Ver_impl_Ver_0 (List.length h) a' l'.length c' 230 [] false a l.length c (l.length : Nat) (i : Nat) h) (some (.bool false, h)) (some (.bool true, h)) (fun i hi => ?_) ?_).trans ?_
    · have hil : i < l.length := by omega
      have hil' : i < l'.length := by omega
      obtain ⟨o, s, b, d, G, ha, ho, es, hp, _⟩ := hs.get hil
      obtain ⟨o', s', b', d', G', ha', ho', es', hp', _⟩ := hs'.get hil'
      rw [L_slices_EqualFunc_impl_Ver_impl_Ver_impl_Ver_impl_Ver_0.e, br_pos (by omega), inB_nat hil]
      simp only [ha, ha', eO_s, Int.toNat_natCast, ho, ho', eC_c, eI_int, es, es', eT_s, eBv_b, eN_n, inB_nat hil', fnArgs, List.append_nil]
      rw [impl_same hp hp' (hn.2 _ (List.getElem_mem hil)).1]
      simp only [cal_s, eB_b, List.getElem_zip, wr_succ (show i < 9223372036854775807 by omega)]
      cases sameVer l[i] l'[i] <;> simp
    · rw [hz, L_slices_EqualFunc_impl_Ver_impl_Ver_impl_Ver_impl_Ver_0.e, br_neg (by omega)]
    · cases (l.zip l').all fun x => sameVer x.1 x.2 <;> rfl
  · rw [show ((l.length : Int) == (l'.length : Int)) = false by simp; omega, br_f, decide_eq_false hl]; rfl
theorem impl_Store_same {l l' : List Ver} {ro ro' : Bool} (hs : RVers ro h [.sl 6 a l.length c] l F) (hs' : RVers ro' h [.sl 6 a' l'.length c'] l' F') (hn : smVers l) :
    evl lo 239 [.agg [.sl 6 a l.length c], .agg [.sl 6 a' l'.length c']] h = some (.bool (sameVers l l'), h) := by
  refine E_impl_Store_same (h' := h) ?_
  rw [impl_EqualFunc hs hs' hn]; simp only [cal_s, eB_b]
  cases sameVers l l' <;> rfl
theorem spec_l2Add {l : List Ver} {v : Ver} {av : Option (Nat × Nat)} {cv : Option Nat} {G : List Nat} (hs : RVers false h [.sl 6 a l.length c] l F) (hv : RTags false h [.sl 2 av v.past.length cv] v.past G)
    (hnd : F.Nodup) (hlo : ∀ b ∈ F, lo ≤ b) (hl : lo ≤ h.length) (hk : 0 ≤ v.key ∧ v.key < l.length) (hn : v.past.length ≤ 1048576) :
    ∃ h' F', evl lo 246 [.agg [.sl 6 a l.length c], .agg (v.cs av cv)] h = some (.agg [.sl 6 a l.length c], h') ∧ RVers false h' [.sl 6 a l.length c] (addVer l v) F' ∧ Mv h F h' F' := by
  have hkl : v.key.toNat < l.length := by omega
  obtain ⟨o, s, b, d, G1, ha, _, _, _, _, _, _, ho12, _⟩ := hs.all hkl
  suffices hk : ∃ h' F', _ = some (V.agg [.sl 6 a l.length c], h') ∧ RVers false h' [.sl 6 a l.length c] (addVer l v) F' ∧ Mv h F h' F' from hk.imp fun h' hk => hk.imp fun F' hk => ⟨E_spec_l2Add hk.1, hk.2⟩
  rw [inB_in ⟨by omega, by omega⟩]
  simp only [ha, eO_s, ho12, eC_c, eI_int, eN_n, spec_l1Less, cal_s, eB_b]
  rw [addVer_get hkl]
  show ∃ h' F', br (lessV l[v.key.toNat] v) _ _ = _ ∧ _
  cases hle : lessV l[v.key.toNat] v with
  | false => exact ⟨h, F, rfl, by rw [← ha]; exact hs, Mv.refl hnd⟩
  | true =>
    obtain ⟨b2, i2, rs, row, G2, ha2, hb2, hbG2, hbb, hrow, hel, hGF, hGn, _, wr⟩ := hs.at rver_ok hkl hnd hlo
    obtain ⟨a3, c3, h3, F3, e3, r3, m3⟩ := spec_l2Copy (lo := lo) (v := v) hv hl hn
    have hab : o = (b2, i2) := by rw [ha] at ha2; injection ha2
    subst hab
    obtain ⟨h4, F4, e4, r4, m4, _⟩ := wr h3 F3 0 (v.cs a3 c3) (v.cs a3 c3) v (m3.wide (by simp)) (paste_all (by obtain ⟨s, rfl, _⟩ := hel; rfl)) ⟨_, rfl, r3⟩
    rw [br_t, e3]
    simp only [cal_s, eA_a, eC_c, eI_int, eS_sl, eT_s, eBv_b, eN_n]
    rw [inB_in ⟨by omega, by omega⟩, e4]
    exact ⟨h4, F4, rfl, by rw [← ha]; exact r4, m4⟩
end
end Go.Proofs.YtfhnofppfacemaaGreat
namespace Go.Proofs.YtfhnofppfacemaaGreat
open Go T
set_option linter.unusedVariables false
set_option linter.unusedSimpArgs false
theorem br_if {T : Type} {b : Bool} {x y : Option T} : br b x y = if b = true then x else y := by cases b <;> rfl
/-- a row laid anew, whole; its data may be another's, too -/
theorem Sli.row {α : Type} {El : Rel α} (hfr : El.Fr) {R R' e n k lo b i : Nat} (hln : El.Ln R) {h : Heap} {c : Option Nat} {l : List α} {G Gx : List Nat} {row : List V} {x : α} (hs : Sli false R e El h [.sl R' (some (b, i)) n c] l (b :: G)) (hb : b ∉ G) (hk : k < l.length) (hlo : lo ≤ b)
    (hx : El h row x Gx) (hbx : b ∉ Gx) : ∃ h' G', st lo h b (i + k) 0 row = some h' ∧ Sli false R e El h' [.sl R' (some (b, i)) n c] (l.set k x) (b :: G') ∧ b ∉ G' ∧ h'.length = h.length ∧ ∀ y, y ≠ b → h'[y]? = h[y]? := by
  have hn := hs.val
  subst hn
  obtain ⟨R1, a1, c1, e1, e2⟩ := hs
  injection e1 with e1 _; injection e1 with e0 e3 _ e4
  subst e0; subst e3; subst e4
  obtain ⟨hR, rs, Fs, g1, g2, g3, g4, g5, g6⟩ := e2
  injection g6 with _ g6
  subst g6
  obtain ⟨row0, G0, k1, k2, k3⟩ := g5.get (List.getElem?_eq_getElem hk)
  have hblt : b < h.length := (List.getElem?_eq_some_iff.1 g1).1
  have hrow : rs[i + k]? = some row0 := by rw [List.getElem?_take_of_lt hk, List.getElem?_drop] at k1; exact k1
  have hp : paste row0 0 row = some row := paste_all (by rw [hln _ _ _ _ k3, hln _ _ _ _ hx])
  have fr2 : ∀ y, y ≠ b → (h.set b (.rows R e false (rs.set (i + k) row)))[y]? = h[y]? := fun y hy => List.getElem?_set_ne (Ne.symm hy)
  have hl1 : ((rs.set (i + k) row).drop i).take l.length = ((rs.drop i).take l.length).set k row := by
    rw [List.drop_set, if_neg (by omega), show i + k - i = k by omega, List.take_set]
  refine ⟨_, (Fs.set k Gx).flatten, st_first g1 hlo hrow hp, ⟨R', some (b, i), c, by simp, hR, rs.set (i + k) row, Fs.set k Gx, by simp [hblt], by simpa using g2, fun q hq => by simpa using g3 q hq, g4, ?_, rfl⟩, fun hm => ?_, by simp, fr2⟩
  · rw [List.length_set, hl1]
    exact EAll.set (g5.fr hfr fun y hy => fr2 y fun e => hb (e ▸ hy)) (hfr _ _ _ _ _ hx fun y hy => fr2 y fun e => hbx (e ▸ hy))
  · rcases flatten_set_mem hm with h6 | h6
    · exact hb h6
    · exact hbx h6
theorem rver_ln {ro : Bool} : (RVer ro).Ln 6 := by rintro h cs x F ⟨s, rfl, _⟩; rfl
theorem zero_is {v : Ver} (h : zeroVer v = true) : v = ⟨0, ⟨0, 0⟩, [], ⟨⟨[]⟩⟩, false⟩ := by
  obtain ⟨k, ⟨t1, t2⟩, p, s, g⟩ := v
  simp only [zeroVer, noText, Bool.and_eq_true, beq_iff_eq, decide_eq_true_eq, Bool.not_eq_true'] at h
  obtain ⟨⟨⟨⟨h1, h2, h3⟩, h4⟩, h5⟩, h6⟩ := h
  simp only [Ver.mk.injEq, Tag.mk.injEq]
  exact ⟨h1, ⟨h2, h3⟩, List.eq_nil_of_length_eq_zero h4, bytes_ext (by rw [bytes_nil h5]), h6⟩
theorem verAt_case {i : Nat} {v : Ver} (h : verAt i v = true) : zeroVer v = true ∨ (verOk v = true ∧ v.key = i) := by
  simp only [verAt, Bool.or_eq_true, Bool.and_eq_true, beq_iff_eq] at h; exact h
theorem zero_time {v : Ver} (h : zeroVer v = true) : v.tag.time = 0 ∧ v.tag.place = 0 := by rw [zero_is h]; exact ⟨rfl, rfl⟩
theorem storeOk_sm {l : List Ver} (h : storeOk l = true) : smVers l := by
  refine ⟨by have := storeOk_len h; omega, fun v hv => ?_⟩
  obtain ⟨i, hi, rfl⟩ := List.mem_iff_getElem.1 hv
  rcases verAt_case (storeOk_get h hi) with h1 | ⟨h1, _⟩
  · rw [zero_is h1]; exact ⟨by simp, by show 0 ≤ _; omega⟩
  · obtain ⟨_, h2, _, h3, _⟩ := verOk_parts h1
    have := textOk_size h2
    have := pastOk_len h3
    omega

section
variable {lo : Nat} {h : Heap} {F F' : List Nat} {a a' : Option (Nat × Nat)} {c c' : Option Nat}
theorem impl_nodesOk {n : Int} : evl lo 203 [.int .i64 n] h = some (.bool (within n 1 4), h) := E_impl_nodesOk (h' := h) (by simp [impl_within])
theorem impl_last {n k : Nat} (hn : n ≤ 1048576) : evl lo 207 [.agg [.sl 2 a n c], .int .i64 (k : Nat)] h = some (.bool (decide (k + 1 = n)), h) := by
  refine E_impl_Chain_last (h' := h) ?_
  rw [wr (by omega) (by omega)]
  by_cases hk : k + 1 = n
  · rw [show ((k : Int) == (n : Int) - 1) = true by rw [beq_iff_eq]; omega, decide_eq_true hk]; rfl
  · rw [show ((k : Int) == (n : Int) - 1) = false by rw [beq_eq_false_iff_ne]; omega, decide_eq_false hk]; rfl
theorem impl_fits {x : Node} {next : List Ver} {a1 a2 a3 : Option (Nat × Nat)} {c1 c2 c3 : Option Nat} {F1 F2 F3 : List Nat} (hs1 : RVers false h [.sl 6 a1 x.store.length c1] x.store F1) (hs2 : RVers false h [.sl 6 a2 x.wait.length c2] x.wait F2)
    (hs3 : RVers false h [.sl 6 a3 next.length c3] next F3) (hx : nodeOk x = true) (hnx : storeOk next = true) :
    evl lo 208 [.agg [.sl 6 a1 x.store.length c1, .sl 6 a2 x.wait.length c2], .agg [.sl 6 a3 next.length c3]] h = some (.bool (fits x next), h) := by
  obtain ⟨hx1, hx2, hx3⟩ := nodeOk_parts hx
  obtain ⟨a5, c5, h5, F5, e5, r5, m5⟩ := impl_Store_copied (lo := h.length) hs3 (Nat.le_refl _) (storeOk_sm hnx)
  have h4 := storeOk_len hnx
  suffices hk : ∃ h', _ = some (V.bool (fits x next), h') from hk.elim fun h' hk => E_impl_Node_fits hk
  rw [e5]; simp only [cal_s, eA_a, eC_c, eS_sl, eN_n]
  have loop : ∀ m i s hh b j G, m + i = x.wait.length → storeOk s = true → RVers false hh [.sl 6 (some (b, j)) s.length c5] s (b :: G) → b ∉ G → h.length ≤ b → Mv h [] hh [] →
      ∃ h', L_impl_Node_fits_0 (List.length h) false a2 x.wait.length c2 (x.wait.length : Nat) (i : Nat) a1 x.store.length c1 a2 x.wait.length c2 (some (b, j)) s.length c5 hh = some (V.bool (match fitsL s (x.wait.drop i) with | some s => sameVers s x.store | none => false), h') := by
    intro m
    induction m with
    | zero =>
      intro i s hh b j G hi hso hs hb hbl hm
      rw [L_impl_Node_fits_0.e, br_neg (by omega), impl_Store_same hs (hm.keep0 rvers_ok hs1) (storeOk_sm hso), show i = x.wait.length by omega, List.drop_length]
      simp only [cal_s, eB_b, fitsL]
      exact ⟨hh, by cases sameVers s x.store <;> rfl⟩
    | succ m ih =>
      intro i s hh b j G hi hso hs hb hbl hm
      have hlt : i < x.wait.length := by omega
      have hvo := hx3 _ (List.getElem_mem hlt)
      have hk := (verOk_parts hvo).1
      have hs4 := storeOk_len hso
      have hkl : x.wait[i].key.toNat < s.length := by omega
      obtain ⟨o, sv, b', d', G', ha, ho, es, hp, hG'⟩ := (hm.keep0 rvers_ok hs2).get hlt
      have hbl2 := rvers_ok.bd _ _ _ _ hs2
      rw [L_impl_Node_fits_0.e, br_pos (by omega), inB_nat hlt]
      simp only [ha, eO_s, Int.toNat_natCast, ho, eC_c, eI_int, es, eT_s, eBv_b, eN_n]
      rw [impl_later (v := x.wait[i]) hs ⟨by omega, by omega⟩]
      simp only [cal_s, eB_b]
      rw [List.drop_eq_getElem_cons hlt]
      simp only [fitsL, List.getElem?_eq_getElem hkl]
      cases hle : lessV s[x.wait[i].key.toNat] x.wait[i] with
      | false => exact ⟨hh, rfl⟩
      | true =>
        obtain ⟨h6, G6, e6, r6, n6, l6, f6⟩ := Sli.row rver_ok.fr rver_ln hs hb hkl hbl (row := x.wait[i].cs b' d') (x := x.wait[i]) ⟨_, rfl, hp⟩ (fun hm' => by have := hbl2 _ (hG' _ hm'); omega)
        rw [br_t, inB_in ⟨by omega, by omega⟩, e6, cond_true]
        simp only [eO_s]
        rw [← ha, wr_succ (by omega)]
        have m6 : Mv h [] h6 [] := ⟨by rw [l6]; exact hm.le, fun y hy hF => by rw [f6 y (by omega)]; exact hm.fr y hy hF, by simp, by simp⟩
        have := ih (i + 1) (s.set x.wait[i].key.toNat x.wait[i]) h6 b j G6 (by omega) (storeOk_set hso hvo) (by rw [List.length_set]; exact r6) n6 hbl m6
        rw [List.length_set] at this
        exact this
  have : ∃ b j G, a5 = some (b, j) ∧ F5 = b :: G ∧ b ∉ G ∧ h.length ≤ b := by
    obtain ⟨b, i, rs, Fs, h1, h2, _, _, _, _, rfl⟩ := r5.data (k := 0) (by omega)
    exact ⟨b, i, _, h1, rfl, (List.nodup_cons.1 m5.nd).1, m5.new b (by simp)⟩
  obtain ⟨b, j, G, rfl, rfl, hb, hbl⟩ := this
  have := loop x.wait.length 0 next h5 b j G (by omega) hnx r5 hb hbl m5.drop
  exact this
theorem impl_ChainOk {l : List Node} (hs : RNodes false h [.sl 2 a l.length c] l F) (hn : smNodes l) : evl lo 120 [.agg [.sl 2 a l.length c]] h = some (.bool (chainOk l), h) := by
  have hn1 := hn.1
  refine E_impl_ChainOk (h' := h) ?_
  rw [impl_nodesOk]; simp only [cal_s, eB_b]
  unfold chainOk
  cases hw : within (l.length : Int) 1 4 with
  | false => rfl
  | true =>
    have hl4 : 1 ≤ l.length ∧ l.length ≤ 4 := by simp [within] at hw; omega
    rw [br_t]
    refine (all_loop (p := nodeOk) (l := l) (fun i => L_impl_ChainOk_0 (List.length h) false a l.length c (l.length : Nat) (i : Nat) a l.length c h) (some (.bool false, h)) (L_impl_ChainOk_0 (List.length h) false a l.length c (l.length : Nat) (l.length : Nat) a l.length c h) (fun i hi => ?_) rfl).trans ?_
    · obtain ⟨o, s1, s2, a1, c1, a2, c2, F1, F2, ha, ho, _, _, e1, e2, p1, p2, _⟩ := hs.get hi
      have hm := hn.2 _ (List.getElem_mem hi)
      rw [L_impl_ChainOk_0.e, br_pos (by omega), inB_nat hi]
      simp only [ha, eO_s, Int.toNat_natCast, ho, eC_c, e1, e2, eN_n]
      rw [impl_StoreOk p1 hm.1]
      simp only [cal_s, eB_b]
      rw [ContainsFunc_Ver (p := fun v => !verOk v) p2 hm.2.1 (fun lo v av cv Gv hv hvp => E_impl_ChainOk_1 (h' := h) (by rw [impl_VerOk hvp (hm.2.2 v hv)]; simp only [cal_s, eB_b]; cases verOk v <;> rfl))]
      simp only [cal_s, eB_b, wr_succ (show i < 9223372036854775807 by omega), ← ha]
      unfold nodeOk
      rw [List.any_eq_not_all_not]
      simp only [Bool.not_not]
      by_cases h6 : (l[i].wait.length : Int) ≤ 6
      · rw [br_neg (by omega), decide_eq_true h6]
        cases storeOk l[i].store <;> cases l[i].wait.all verOk <;> simp
      · rw [br_pos (by omega), decide_eq_false h6]
        cases storeOk l[i].store <;> simp
    · cases hall : l.all nodeOk with
      | false => rfl
      | true =>
        rw [if_pos rfl, L_impl_ChainOk_0.e, br_neg (by omega)]
        have hno := List.all_eq_true.1 hall
        refine (all_idx (p := linkAt l) (l := l) (fun i => L_impl_ChainOk_2 (List.length h) false a l.length c (l.length : Nat) (i : Nat) a l.length c h) (some (.bool false, h)) (some (.bool true, h)) (fun i hi => ?_) ?_).trans ?_
        · obtain ⟨o, s1, s2, a1, c1, a2, c2, F1, F2, ha, ho, _, _, e1, e2, p1, p2, _⟩ := hs.get hi
          have hm := hn.2 _ (List.getElem_mem hi)
          rw [L_impl_ChainOk_2.e, br_pos (by omega), inB_nat hi]
          simp only [ha, eO_s, Int.toNat_natCast, ho, eC_c, e1, e2, eN_n, impl_last hn1, cal_s, eB_b]
          by_cases hk : i + 1 = l.length
          · rw [decide_eq_true hk, br_t, br_t]
            unfold linkAt
            rw [List.getElem?_eq_none (by omega)]
            simp only [wr_succ (show i < 9223372036854775807 by omega)]
            by_cases h0 : l[i].wait.length = 0
            · rw [br_neg (by omega), decide_eq_true h0]; rfl
            · rw [br_pos (by omega), decide_eq_false h0]; rfl
          · have hi1 : i + 1 < l.length := by omega
            obtain ⟨o', s1', s2', a1', c1', a2', c2', F1', F2', ha', _, ho1', _, e1', _, p1', _⟩ := hs.get hi1
            have hoo : o' = o := by rw [ha] at ha'; injection ha' with ha'; exact ha'.symm
            subst hoo
            rw [decide_eq_false hk, br_f]
            unfold linkAt
            rw [List.getElem?_eq_getElem hi1]
            simp only [br_f, wr_succ (show i < 9223372036854775807 by omega)]
            rw [inB_nat hi1]
            simp only [Int.toNat_natCast, ho1', eO_s, eC_c, e1', eN_n]
            rw [impl_fits p1 p2 p1' (hno _ (List.getElem_mem hi)) (nodeOk_parts (hno _ (List.getElem_mem hi1))).1]
            simp only [cal_s, eB_b]
            exact br_if
        · rw [L_impl_ChainOk_2.e, br_neg (by omega)]
        · cases (l.zipIdx.all fun x => linkAt l x.2 x.1) <;> simp
end
end Go.Proofs.YtfhnofppfacemaaGreat
namespace Go.Proofs.YtfhnofppfacemaaGreat
open Go T
set_option linter.unusedVariables false
set_option linter.unusedSimpArgs false
theorem chainOk_all {l : List Node} (h : chainOk l = true) : (1 ≤ l.length ∧ l.length ≤ 4) ∧ ∀ x ∈ l, nodeOk x = true := by
  simp only [chainOk, within, Bool.and_eq_true, decide_eq_true_eq, List.all_eq_true] at h
  exact ⟨⟨by omega, by omega⟩, h.1.2⟩
theorem chainOk_link {l : List Node} (h : chainOk l = true) {i : Nat} (hi : i < l.length) : linkAt l i l[i] = true := by
  simp only [chainOk, Bool.and_eq_true, List.all_eq_true] at h
  exact h.2 (l[i], i) (by rw [List.mem_zipIdx_iff_getElem?]; simp [hi])
theorem all_zipIdx {α : Type} {p : Nat → α → Bool} {l : List α} : (l.zipIdx.all fun x => p x.2 x.1) = true ↔ ∀ i (hi : i < l.length), p i l[i] = true := by
  rw [List.all_eq_true]
  constructor
  · intro h i hi
    exact h (l[i], i) (by rw [List.mem_zipIdx_iff_getElem?]; simp [hi])
  · rintro h ⟨x, i⟩ hx
    rw [List.mem_zipIdx_iff_getElem?] at hx
    obtain ⟨hi, hx⟩ := List.getElem?_eq_some_iff.1 hx
    have := h i hi
    simp only at hx
    rw [hx] at this; exact this
theorem all_get {α : Type} {p : α → Bool} {l : List α} : l.all p = true ↔ ∀ i (hi : i < l.length), p l[i] = true := by
  rw [List.all_eq_true]
  exact ⟨fun h i hi => h _ (List.getElem_mem hi), fun h x hx => by obtain ⟨i, hi, rfl⟩ := List.mem_iff_getElem.1 hx; exact h i hi⟩
/-- as the reference goes along -/
def nextAt (l : List Node) (k : Nat) (x : Node) : Bool := nodeOk x && match l[k + 1]? with
  | some y => storeOk y.store && fits x y.store
  | none => true
theorem chainOk_alt {l : List Node} : chainOk l = ((l.zipIdx.all fun x => nextAt l x.2 x.1) && (within l.length 1 4 && match l.getLast? with | some x => decide (x.wait.length = 0) | none => false)) := by
  rw [Bool.eq_iff_iff]
  unfold chainOk
  simp only [Bool.and_eq_true]
  rw [all_zipIdx (p := linkAt l), all_zipIdx (p := nextAt l), all_get (l := l)]
  constructor
  · rintro ⟨⟨h1, h2⟩, h3⟩
    have hl : 1 ≤ l.length := by simp [within] at h1; omega
    refine ⟨fun i hi => ?_, h1, ?_⟩
    · have := h3 i hi
      unfold linkAt at this
      unfold nextAt
      rw [h2 i hi]
      by_cases hi1 : i + 1 < l.length
      · rw [List.getElem?_eq_getElem hi1] at this ⊢
        simp only at this
        simp only [this, (nodeOk_parts (h2 _ hi1)).1, Bool.and_self]
      · rw [List.getElem?_eq_none (by omega)]; rfl
    · have := h3 (l.length - 1) (by omega)
      unfold linkAt at this
      rw [List.getElem?_eq_none (by omega)] at this
      rw [List.getLast?_eq_getElem?, List.getElem?_eq_getElem (by omega)]
      exact this
  · rintro ⟨h1, h2, h3⟩
    have hno : ∀ i (hi : i < l.length), nodeOk l[i] = true := fun i hi => by
      have := h1 i hi
      simp only [nextAt, Bool.and_eq_true] at this; exact this.1
    refine ⟨⟨h2, hno⟩, fun i hi => ?_⟩
    have := h1 i hi
    unfold nextAt at this
    unfold linkAt
    by_cases hi1 : i + 1 < l.length
    · rw [List.getElem?_eq_getElem hi1] at this ⊢
      simp only [Bool.and_eq_true] at this
      exact this.2.2
    · rw [List.getElem?_eq_none (by omega)]
      rw [List.getLast?_eq_getElem?, List.getElem?_eq_getElem (by omega)] at h3
      have e : l.length - 1 = i := by omega
      simp only [e] at h3
      exact h3

section
variable {lo : Nat} {h : Heap} {F F' : List Nat} {a a' : Option (Nat × Nat)} {c c' : Option Nat}
theorem spec_l3SameStore {s t : List Ver} (hs : RVers false h [.sl 6 a s.length c] s F) (hs' : RVers false h [.sl 6 a' t.length c'] t F') (h1 : storeOk s = true) (h2 : storeOk t = true) :
    evl lo 148 [.agg [.sl 6 a s.length c], .agg [.sl 6 a' t.length c']] h = some (.bool (sameVers s t), h) := by
  have l1 := storeOk_len h1
  have l2 := storeOk_len h2
  have hz : (s.zip t).length = 4 := by simp; omega
  refine E_spec_l3SameStore (h' := h) ?_
  refine (all_loop (p := fun x : Ver × Ver => sameVer x.1 x.2) (l := s.zip t) (fun i => L_spec_l3SameStore_0 (List.length h) false (i : Nat) a s.length c a' t.length c' h) (some (.bool false, h)) (some (.bool true, h)) (fun i hi => ?_) ?_).trans ?_
  · have hi1 : i < s.length := by omega
    have hi2 : i < t.length := by omega
    obtain ⟨o, sv, b, d, G, ha, _, ho1, _, _, _, _, ho12, ho, es, hp, _⟩ := hs.all hi1
    obtain ⟨o', sv', b', d', G', ha', _, _, _, _, _, _, ho12', ho', es', hp', _⟩ := hs'.all hi2
    rw [L_spec_l3SameStore_0.e, br_pos (by omega), inB_nat hi1]
    simp only [ha, ha', eO_s, Int.toNat_natCast, ho12, ho12', ho1, ho, ho', eC_c, eI_int, es, es', eT_s, eBv_b, eN_n, inB_nat hi1, inB_nat hi2, Bool.and_true, List.getElem_zip, wr_succ (show i < 9223372036854775807 by omega)]
    have g1 := verAt_case (storeOk_get h1 hi1)
    have g2 := verAt_case (storeOk_get h2 hi2)
    cases htag : (s[i].tag.time == t[i].tag.time && s[i].tag.place == t[i].tag.place) with
    | false =>
      have : sameVer s[i] t[i] = false := by unfold sameVer; rw [htag]; simp
      rw [this, br_f]; rfl
    | true =>
      rw [br_t]
      by_cases htm : s[i].tag.time > 0
      · rw [br_pos htm]
        have o1 : verOk s[i] = true := by
          rcases g1 with g | g
          · have := zero_time g; omega
          · exact g.1
        have o2 : verOk t[i] = true := by
          rcases g2 with g | g
          · have := zero_time g; simp at htag; omega
          · exact g.1
        rw [spec_l2Same hp hp' o1 o2]
        simp only [cal_s, eB_b]
        exact br_if
      · rw [br_neg htm]
        have o1 : zeroVer s[i] = true := by
          rcases g1 with g | g
          · exact g
          · have := verOk_time g.1; omega
        have o2 : zeroVer t[i] = true := by
          rcases g2 with g | g
          · exact g
          · have := verOk_time g.1; simp at htag; omega
        rw [if_pos (same_iff.2 (by rw [zero_is o1, zero_is o2]))]
  · rw [hz, L_spec_l3SameStore_0.e, br_neg (by omega)]
  · unfold sameVers
    rw [decide_eq_true (by omega)]
    cases (s.zip t).all fun x => sameVer x.1 x.2 <;> rfl
theorem spec_l3Next {x y : Node} {a1 a2 a3 a4 : Option (Nat × Nat)} {c1 c2 c3 c4 : Option Nat} {F1 F2 F3 : List Nat} (hs1 : RVers false h [.sl 6 a1 x.store.length c1] x.store F1) (hs2 : RVers false h [.sl 6 a2 x.wait.length c2] x.wait F2)
    (hs3 : RVers false h [.sl 6 a3 y.store.length c3] y.store F3) (hx : nodeOk x = true) (hy : smVers y.store) {n4 : Nat} :
    evl lo 200 [.agg [.sl 6 a1 x.store.length c1, .sl 6 a2 x.wait.length c2], .agg [.sl 6 a3 y.store.length c3, .sl 6 a4 n4 c4]] h = some (.bool (storeOk y.store && fits x y.store), h) := by
  obtain ⟨hx1, hx2, hx3⟩ := nodeOk_parts hx
  suffices hk : ∃ h', _ = some (V.bool (storeOk y.store && fits x y.store), h') from hk.elim fun h' hk => E_spec_l3Next hk
  rw [spec_l2StoreOk hs3 hy]; simp only [cal_s, eB_b]
  cases hyo : storeOk y.store with
  | false => exact ⟨h, rfl⟩
  | true =>
    obtain ⟨v5, h5, F5, e5, r5, m5⟩ := spec_l2CopyStore (lo := h.length) hs3 (Nat.le_refl _) hy
    obtain ⟨a5, c5, es5, r5⟩ := r5.form
    rw [br_t, e5]; simp only [cal_s, eA_a, eC_c, es5, eN_n]
    have loop : ∀ m i s hh G, m + i = x.wait.length → storeOk s = true → RVers false hh [.sl 6 a5 s.length c5] s G → Mv h [] hh G →
        ∃ h', L_spec_l3Next_0 (List.length h) false (i : Nat) a1 x.store.length c1 a2 x.wait.length c2 a5 s.length c5 hh = some (V.bool (match fitsL s (x.wait.drop i) with | some s => sameVers s x.store | none => false), h') := by
      intro m
      induction m with
      | zero =>
        intro i s hh G hi hso hs hm
        rw [L_spec_l3Next_0.e, br_neg (by omega), spec_l3SameStore hs (hm.keep0 rvers_ok hs1) hso hx1, show i = x.wait.length by omega, List.drop_length]
        simp only [cal_s, eB_b, fitsL]
        exact ⟨hh, by cases sameVers s x.store <;> rfl⟩
      | succ m ih =>
        intro i s hh G hi hso hs hm
        have hlt : i < x.wait.length := by omega
        have hvo := hx3 _ (List.getElem_mem hlt)
        have hk := (verOk_parts hvo).1
        have hs4 := storeOk_len hso
        have hkl : x.wait[i].key.toNat < s.length := by omega
        obtain ⟨o, sv, b', d', G', ha, ho0, _, _, _, _, _, ho12, ho, es, hp, hG'⟩ := (hm.keep0 rvers_ok hs2).all hlt
        obtain ⟨o2, sv2, b2, d2, G2, ha2, _, _, _, _, _, _, ho122, _⟩ := hs.all hkl
        rw [L_spec_l3Next_0.e, br_pos (by omega), inB_nat hlt]
        simp only [ha, eO_s, Int.toNat_natCast, ho0, eC_c, eI_int, eN_n]
        rw [inB_in ⟨by omega, by omega⟩]
        simp only [ha2, eO_s, ho122, eC_c, eI_int, eN_n, inB_nat hlt, ho12, spec_l1Less, cal_s, eB_b]
        rw [List.drop_eq_getElem_cons hlt]
        simp only [fitsL, List.getElem?_eq_getElem hkl]
        show ∃ h', br (lessV s[x.wait[i].key.toNat] x.wait[i]) _ _ = _
        cases hle : lessV s[x.wait[i].key.toNat] x.wait[i] with
        | false => exact ⟨hh, rfl⟩
        | true =>
          obtain ⟨h6, F6, e6, r6, m6⟩ := spec_l2Add (lo := h.length) (v := x.wait[i]) hs hp hm.nd (hm.ge (Nat.le_refl _) (by simp)) hm.le ⟨by omega, by omega⟩ (by have := pastOk_len (verOk_parts hvo).2.2.2.1; omega)
          rw [br_t, cond_true]
          simp only [ho, eO_s, eC_c, eI_int, es, eT_s, eBv_b, eN_n]
          rw [← ha2, e6]
          simp only [cal_s, eA_a, eC_c, eS_sl, eN_n]
          rw [← ha, wr_succ (by omega)]
          have hadd : addVer s x.wait[i] = s.set x.wait[i].key.toNat x.wait[i] := by rw [addVer_get hkl, hle]; rfl
          rw [hadd] at r6
          have := ih (i + 1) (s.set x.wait[i].key.toNat x.wait[i]) h6 F6 (by omega) (storeOk_set hso hvo) (by rw [List.length_set]; exact r6) (hm.trans m6)
          rw [List.length_set] at this
          exact this
    obtain ⟨h', e⟩ := loop x.wait.length 0 y.store h5 F5 (by omega) hyo r5 m5
    exact ⟨h', e⟩
theorem spec_l3Ok {l : List Node} (hs : RNodes false h [.sl 2 a l.length c] l F) (hn : smNodes l) : evl lo 116 [.agg [.sl 2 a l.length c]] h = some (.bool (chainOk l), h) := by
  have hn1 := hn.1
  refine E_spec_l3Ok (h' := h) ?_
  rw [chainOk_alt]
  have inner : ∀ i (hi : i < l.length), storeOk l[i].store = true → (l[i].wait.length : Int) ≤ 6 → L_spec_l3Ok_2 (List.length h) false (i : Nat) 0 a l.length c h = if nextAt l i l[i] = true then L_spec_l3Ok_0 (List.length h) false ((i + 1 : Nat) : Int) a l.length c h else some (.bool false, h) := by
    intro i hi hst h6
    obtain ⟨o, s1, s2, a1, c1, a2, c2, F1, F2, ha, ho, ho1, ho2, e1, e2, p1, p2, _⟩ := hs.get hi
    have hm := hn.2 _ (List.getElem_mem hi)
    refine (all_loop (p := verOk) (l := l[i].wait) (fun k => L_spec_l3Ok_2 (List.length h) false (i : Nat) (k : Nat) a l.length c h) (some (.bool false, h)) (L_spec_l3Ok_2 (List.length h) false (i : Nat) (l[i].wait.length : Nat) a l.length c h) (fun k hk => ?_) rfl).trans ?_
    · obtain ⟨o', s, b, d, G, ha', ho', es, hp, _⟩ := p2.get hk
      rw [L_spec_l3Ok_2.e, inB_nat hi]
      simp only [ha, eO_s, Int.toNat_natCast, ho2, eC_c, e2, eN_n]
      rw [br_pos (by omega), inB_nat hi]
      simp only [e2, inB_nat hk, ha', eO_s, ho', eC_c, eI_int, es, eT_s, eBv_b, eN_n]
      rw [spec_l2Ok hp (hm.2.2 _ (List.getElem_mem hk))]
      simp only [cal_s, eB_b, wr_succ (show k < 9223372036854775807 by have := hm.2.1; omega), ← ha]
      exact br_if
    · by_cases hall : l[i].wait.all verOk = true
      · rw [if_pos hall, L_spec_l3Ok_2.e, inB_nat hi]
        simp only [ha, eO_s, Int.toNat_natCast, ho2, eC_c, e2, eN_n]
        rw [br_neg (by omega)]
        have hno : nodeOk l[i] = true := by unfold nodeOk; rw [hst, decide_eq_true h6, hall]; rfl
        rw [wr_succ (by omega)]
        unfold nextAt
        rw [hno]
        by_cases hi1 : i + 1 < l.length
        · obtain ⟨o', s1', s2', a1', c1', a2', c2', F1', F2', ha', ho', _, _, e1', e2', p1', p2', _⟩ := hs.get hi1
          have hoo : o' = o := by rw [ha] at ha'; injection ha' with ha'; exact ha'.symm
          subst hoo
          rw [br_pos (by omega), inB_nat hi]
          simp only [ho, eO_s, eC_c, e1, e2, eN_n, inB_nat hi1, Int.toNat_natCast, ho', e1', e2']
          rw [spec_l3Next p1 p2 p1' hno (hn.2 _ (List.getElem_mem hi1)).1, List.getElem?_eq_getElem hi1]
          simp only [cal_s, eB_b, Bool.true_and]
          exact br_if
        · rw [br_neg (by omega), List.getElem?_eq_none (by omega)]; rfl
      · rw [if_neg hall, if_neg]
        unfold nextAt nodeOk
        simp [hall]
  refine (all_idx (p := nextAt l) (l := l) (fun i => L_spec_l3Ok_0 (List.length h) false (i : Nat) a l.length c h) (some (.bool false, h)) (some (.bool (within l.length 1 4 && match l.getLast? with | some x => decide (x.wait.length = 0) | none => false), h)) (fun i hi => ?_) ?_).trans ?_
  · obtain ⟨o, s1, s2, a1, c1, a2, c2, F1, F2, ha, ho, ho1, ho2, e1, e2, p1, p2, _⟩ := hs.get hi
    have hm := hn.2 _ (List.getElem_mem hi)
    rw [L_spec_l3Ok_0.e, br_pos (by omega), inB_nat hi]
    simp only [ha, eO_s, Int.toNat_natCast, ho1, eC_c, e1, eN_n]
    rw [spec_l2StoreOk p1 hm.1]
    simp only [cal_s, eB_b]
    cases hst : storeOk l[i].store with
    | false =>
      rw [if_neg (by unfold nextAt nodeOk; simp [hst])]; rfl
    | true =>
      rw [br_t, inB_nat hi]
      simp only [ho2, eO_s, eC_c, e2, eN_n]
      by_cases h6 : (l[i].wait.length : Int) ≤ 6
      · rw [br_neg (by omega), ← ha]; exact inner i hi hst h6
      · rw [br_pos (by omega), if_neg]
        unfold nextAt nodeOk
        rw [decide_eq_false h6]; simp
  · rw [L_spec_l3Ok_0.e, br_neg (by omega), spec_l1In]
    simp only [cal_s, eB_b]
    cases hw : within (l.length : Int) 1 4 with
    | false => rfl
    | true =>
      have hl : 1 ≤ l.length := by simp [within] at hw; omega
      obtain ⟨o, s1, s2, a1, c1, a2, c2, F1, F2, ha, ho, ho1, ho2, e1, e2, p1, p2, _⟩ := hs.get (show l.length - 1 < l.length by omega)
      rw [br_t, wr (by omega) (by omega), inB_in ⟨by omega, by omega⟩, show ((l.length : Int) - 1).toNat = l.length - 1 by omega]
      simp only [ha, eO_s, ho2, eC_c, e2, eN_n]
      rw [List.getLast?_eq_getElem?, List.getElem?_eq_getElem (by omega)]
      simp only [Bool.true_and]
      by_cases h0 : l[l.length - 1].wait.length = 0
      · rw [h0]; rfl
      · rw [show ((l[l.length - 1].wait.length : Int) == 0) = false by rw [beq_eq_false_iff_ne]; omega, decide_eq_false h0]; rfl
  · cases (l.zipIdx.all fun x => nextAt l x.2 x.1) <;> simp
end
end Go.Proofs.YtfhnofppfacemaaGreat
namespace Go.Proofs.YtfhnofppfacemaaGreat
open Go T
set_option linter.unusedVariables false
set_option linter.unusedSimpArgs false
def nodeCauses (st : List Tag) (x : Node) : Bool := (x.store.all fun v => !decide (v.tag.time > 0) || under v.past st) && x.wait.all fun v => under v.past st
def causesOk (l : List Node) : Bool := l.all (nodeCauses (stable l))
def headOk (l : List Node) (clock : Int) : Bool := match l[0]? with
  | some x => x.store.all fun v => decide (v.tag.time ≤ clock)
  | none => false
def gotAt (me : Int) (i : Nat) (l : List Ver) : Bool := logOk i l && (!((i : Int) == me) || decide (l.length = 0))
def placeOk (p : Place) : Bool := within p.me 0 2 && within p.clock 0 999 && decide (p.got.length = 3) && chainOk p.chain && causesOk p.chain && logOk p.me p.log && (p.got.zipIdx.all fun x => gotAt p.me x.2 x.1) && headOk p.chain p.clock

theorem if_some {b : Bool} {h : Heap} : (if b = true then some (V.bool true, h) else some (V.bool false, h)) = some (V.bool b, h) := by cases b <;> rfl
theorem chainOk_sm {l : List Node} (h : chainOk l = true) : smNodes l := by
  obtain ⟨h1, h2⟩ := chainOk_all h
  refine ⟨by omega, fun x hx => ?_⟩
  obtain ⟨g1, g2, g3⟩ := nodeOk_parts (h2 x hx)
  refine ⟨storeOk_sm g1, by omega, fun v hv => ?_⟩
  obtain ⟨_, h2, _, h3, _⟩ := verOk_parts (g3 v hv)
  have := textOk_size h2
  have := pastOk_len h3
  omega
theorem stable_len {l : List Node} (h : chainOk l = true) : (stable l).length = 4 := by
  obtain ⟨h1, h2⟩ := chainOk_all h
  rw [last_get (by omega)]
  simp only [tagsOf, List.length_map]
  exact storeOk_len (nodeOk_parts (h2 _ (List.getElem_mem _))).1
theorem ld_of {h : Heap} {b i j n R e : Nat} {ro : Bool} {rs : List (List V)} {row : List V} (hb : h[b]? = some (.rows R e ro rs)) (hi : rs[i]? = some row) : ld h b i j n = cut row j n := by
  simp [ld, Heap.rows?, hb, hi]
theorem store_past {x : Node} (h : nodeOk x = true) {i : Nat} (hi : i < x.store.length) (ht : x.store[i].tag.time > 0) : x.store[i].past.length = 4 := by
  rcases verAt_case (storeOk_get (nodeOk_parts h).1 hi) with g | g
  · have := zero_time g; omega
  · exact pastOk_len (verOk_parts g.1).2.2.2.1
theorem wait_past {x : Node} (h : nodeOk x = true) {i : Nat} (hi : i < x.wait.length) : x.wait[i].past.length = 4 := pastOk_len (verOk_parts ((nodeOk_parts h).2.2 _ (List.getElem_mem hi))).2.2.2.1

section
variable {lo : Nat} {h : Heap} {F F' : List Nat} {a a' : Option (Nat × Nat)} {c c' : Option Nat}
theorem spec_l4Causes {l : List Node} (hs : RNodes false h [.sl 2 a l.length c] l F) (hc : chainOk l = true) : evl lo 162 [.agg [.sl 2 a l.length c]] h = some (.bool (causesOk l), h) := by
  obtain ⟨hl4, hno⟩ := chainOk_all hc
  have hst := stable_len hc
  obtain ⟨v1, h1, F1, e1, r1, m1⟩ := spec_l3Stable (lo := h.length) hs (Nat.le_refl _) (chainOk_sm hc) (by omega)
  obtain ⟨a3, c3, es3, r1⟩ := r1.form
  refine E_spec_l4Causes (h' := h1) ?_
  rw [e1]; simp only [cal_s, eA_a, eC_c, es3, eN_n]
  have hs1 := m1.keep0 rnodes_ok hs
  refine (all_loop (p := nodeCauses (stable l)) (l := l) (fun i => L_spec_l4Causes_0 (List.length h) false (i : Nat) a l.length c a3 (stable l).length c3 h1) (some (.bool false, h1)) (some (.bool true, h1)) (fun i hi => ?_) ?_).trans ?_
  · have hno := hno _ (List.getElem_mem hi)
    have hsl := storeOk_len (nodeOk_parts hno).1
    have hwl := (nodeOk_parts hno).2.1
    obtain ⟨o, s1, s2, b1, d1, b2, d2, G1, G2, ha, ho, ho1, ho2, e1, e2, p1, p2, _⟩ := hs1.get hi
    rw [L_spec_l4Causes_0.e, br_pos (by omega)]
    refine (all_loop (p := fun v : Ver => !decide (v.tag.time > 0) || under v.past (stable l)) (l := l[i].store) (fun k => L_spec_l4Causes_2 (List.length h) false (i : Nat) (k : Nat) a l.length c a3 (stable l).length c3 h1) (some (.bool false, h1)) (L_spec_l4Causes_4 (List.length h) false (i : Nat) 0 a l.length c a3 (stable l).length c3 h1) (fun k hk => ?_) ?_).trans ?_
    · obtain ⟨o', s, b, d, G, ha', ho', es, hp, _⟩ := p1.get hk
      rw [L_spec_l4Causes_2.e, br_pos (by omega), inB_nat hi]
      simp only [ha, eO_s, Int.toNat_natCast, ho1, eC_c, e1, eN_n, inB_nat hk, ha', ho', eI_int, es, eT_s, eBv_b, wr_succ (show k < 9223372036854775807 by omega)]
      by_cases ht : l[i].store[k].tag.time > 0
      · rw [br_pos ht, spec_l1Within hp r1 (store_past hno hk ht) hst]
        simp only [cal_s, eB_b, decide_eq_true ht, Bool.not_true, Bool.false_or, ← ha]
        exact br_if
      · rw [br_neg ht, decide_eq_false ht, ← ha]; rfl
    · rw [L_spec_l4Causes_2.e, br_neg (by omega)]
    · unfold nodeCauses
      cases hall : l[i].store.all fun v : Ver => !decide (v.tag.time > 0) || under v.past (stable l) with
      | false => rw [if_neg Bool.false_ne_true, Bool.false_and, if_neg Bool.false_ne_true]
      | true =>
        rw [if_pos rfl, Bool.true_and]
        refine all_loop (p := fun v : Ver => under v.past (stable l)) (l := l[i].wait) (fun k => L_spec_l4Causes_4 (List.length h) false (i : Nat) (k : Nat) a l.length c a3 (stable l).length c3 h1) (some (.bool false, h1)) (L_spec_l4Causes_0 (List.length h) false ((i + 1 : Nat) : Int) a l.length c a3 (stable l).length c3 h1) (fun k hk => ?_) ?_
        · obtain ⟨o', s, b, d, G, ha', _, _, _, ho3, _, _, _, _, es, hp, _⟩ := p2.all hk
          rw [L_spec_l4Causes_4.e, inB_nat hi]
          simp only [ha, eO_s, Int.toNat_natCast, ho2, eC_c, e2, eN_n]
          rw [br_pos (by omega), inB_nat hi]
          simp only [e2, inB_nat hk, ha', eO_s, ho3, eC_c, es, eN_n]
          rw [spec_l1Within hp r1 (wait_past hno hk) hst]
          simp only [cal_s, eB_b, wr_succ (show k < 9223372036854775807 by omega), ← ha]
          exact br_if
        · rw [L_spec_l4Causes_4.e, inB_nat hi]
          simp only [ha, eO_s, Int.toNat_natCast, ho2, eC_c, e2, eN_n]
          rw [br_neg (by omega), wr_succ (by omega)]
  · rw [L_spec_l4Causes_0.e, br_neg (by omega)]
  · unfold causesOk
    cases l.all (nodeCauses (stable l)) <;> rfl
theorem spec_l4Ok {p : Place} {a1 a2 a3 : Option (Nat × Nat)} {c1 c2 c3 : Option Nat} {F1 F2 F3 : List Nat} (hs1 : RNodes false h [.sl 2 a1 p.chain.length c1] p.chain F1) (hs2 : RVers false h [.sl 6 a2 p.log.length c2] p.log F2)
    (hs3 : RVss false h [.sl 1 a3 p.got.length c3] p.got F3) (hn : smPlace p) : evl lo 70 [.agg (p.cs a1 c1 a2 c2 a3 c3)] h = some (.bool (placeOk p), h) := by
  refine E_spec_l4Ok (h' := h) ?_
  simp only [spec_l1In, cal_s, eB_b]
  unfold placeOk
  cases within p.me 0 2 with
  | false => rfl
  | true =>
  cases within p.clock 0 999 with
  | false => rfl
  | true =>
  by_cases hg : ¬ p.got.length = 3
  · rw [show ((p.got.length : Int) == 3) = false by rw [beq_eq_false_iff_ne]; omega, decide_eq_false hg]; rfl
  have hg : p.got.length = 3 := by omega
  rw [show ((p.got.length : Int) == 3) = true by rw [beq_iff_eq]; omega, decide_eq_true hg]
  simp only [br_t]
  rw [spec_l3Ok hs1 hn.1]
  simp only [cal_s, eB_b]
  cases hc : chainOk p.chain with
  | false => rfl
  | true =>
  rw [br_t, spec_l4Causes hs1 hc]
  simp only [cal_s, eB_b]
  cases causesOk p.chain with
  | false => rfl
  | true =>
  rw [br_t, spec_l4Log hs2 hn.2.1]
  simp only [cal_s, eB_b]
  cases logOk p.me p.log with
  | false => rfl
  | true =>
  obtain ⟨hl4, hno⟩ := chainOk_all hc
  simp only [br_t, Bool.true_and, Bool.and_true]
  refine (all_idx (p := gotAt p.me) (l := p.got) (fun i => L_spec_l4Ok_0 (List.length h) false (i : Nat) p.me p.clock a1 p.chain.length c1 a2 p.log.length c2 a3 p.got.length c3 p.fell h) (some (.bool false, h)) (some (.bool (headOk p.chain p.clock), h)) (fun i hi => ?_) ?_).trans ?_
  · obtain ⟨o, s, b, d, G, ha, ho, es, hp, _⟩ := hs3.get hi
    rw [L_spec_l4Ok_0.e, br_pos (by omega), inB_nat hi]
    simp only [ha, eO_s, Int.toNat_natCast, ho, eC_c, es, eN_n]
    rw [spec_l4Log hp (hn.2.2.2 _ (List.getElem_mem hi))]
    simp only [cal_s, eB_b, inB_nat hi, ho, eO_s, eC_c, es, eN_n, wr_succ (show i < 9223372036854775807 by omega), ← ha]
    unfold gotAt
    by_cases h0 : p.got[i].length = 0
    · rw [br_neg (by omega), decide_eq_true h0]
      cases logOk i p.got[i] <;> cases ((i : Int) == p.me) <;> rfl
    · rw [br_pos (by omega), decide_eq_false h0]
      cases logOk i p.got[i] <;> cases ((i : Int) == p.me) <;> rfl
  · obtain ⟨o, s1, s2, b1, d1, b2, d2, G1, G2, ha, ho, ho1, ho2, e1, e2, q1, q2, _⟩ := hs1.get (show 0 < p.chain.length by omega)
    have hsl := storeOk_len (nodeOk_parts (hno _ (List.getElem_mem (show 0 < p.chain.length by omega)))).1
    rw [L_spec_l4Ok_0.e, br_neg (by omega), show (0 : Int) = ((0 : Nat) : Int) from rfl, inB_nat (by omega)]
    simp only [ha, eO_s, ho1, eC_c, e1, eN_n]
    unfold headOk
    rw [List.getElem?_eq_getElem (show 0 < p.chain.length by omega)]
    refine (all_loop (p := fun v : Ver => decide (v.tag.time ≤ p.clock)) (l := p.chain[0].store) (fun k => L_spec_l4Ok_2 (List.length h) false (k : Nat) p.me p.clock (some o) p.chain.length c1 a2 p.log.length c2 a3 p.got.length c3 p.fell b1 p.chain[0].store.length d1 h) (some (.bool false, h)) (some (.bool true, h)) (fun k hk => ?_) ?_).trans ?_
    · obtain ⟨o', s, b, d, G, ha', _, ho1', _⟩ := q1.all hk
      rw [L_spec_l4Ok_2.e, br_pos (by omega), inB_nat hk]
      simp only [ha', eO_s, Int.toNat_natCast, ho1', eC_c, eI_int, eN_n, wr_succ (show k < 9223372036854775807 by omega)]
      by_cases ht : p.chain[0].store[k].tag.time ≤ p.clock
      · rw [br_neg (by omega), decide_eq_true ht]; rfl
      · rw [br_pos (by omega), decide_eq_false ht]; rfl
    · rw [L_spec_l4Ok_2.e, br_neg (by omega)]
    · exact if_some
  · cases (p.got.zipIdx.all fun x => gotAt p.me x.2 x.1) <;> cases headOk p.chain p.clock <;> rfl
end
end Go.Proofs.YtfhnofppfacemaaGreat
namespace Go.Proofs.YtfhnofppfacemaaGreat
open Go T
set_option linter.unusedVariables false
set_option linter.unusedSimpArgs false
/-- all hold, one by one, while memory grows -/
theorem all_mv {α : Type} {p : Nat → α → Bool} {l : List α} {h0 : Heap} (L : Nat → Heap → Option (V × Heap)) (res : Bool)
    (step : ∀ i (hi : i < l.length) hh, Mv h0 [] hh [] → ∃ h2, Mv hh [] h2 [] ∧ L i hh = if p i l[i] = true then L (i + 1) h2 else some (.bool false, h2))
    (done : ∀ hh, Mv h0 [] hh [] → ∃ h2, L l.length hh = some (.bool res, h2)) : ∃ h', L 0 h0 = some (.bool ((l.zipIdx.all fun x => p x.2 x.1) && res), h') := by
  have loop : ∀ m i hh, m + i = l.length → Mv h0 [] hh [] → ∃ h', L i hh = some (.bool (((l.zipIdx.drop i).all fun x => p x.2 x.1) && res), h') := by
    intro m
    induction m with
    | zero =>
      intro i hh hi hm
      have : i = l.length := by omega
      subst this
      obtain ⟨h2, e⟩ := done hh hm
      exact ⟨h2, by rw [e, List.drop_of_length_le (by simp)]; rfl⟩
    | succ m ih =>
      intro i hh hi hm
      have hlt : i < l.length := by omega
      obtain ⟨h2, m2, e⟩ := step i hlt hh hm
      rw [e, List.drop_eq_getElem_cons (show i < l.zipIdx.length by simpa using hlt), List.all_cons]
      simp only [List.getElem_zipIdx, Nat.zero_add]
      cases hp : p i l[i] with
      | false => exact ⟨h2, by rw [if_neg Bool.false_ne_true]; rfl⟩
      | true =>
        obtain ⟨h', e'⟩ := ih (i + 1) h2 (by omega) (hm.trans m2)
        exact ⟨h', by rw [if_pos rfl, e']; rfl⟩
  exact loop l.length 0 h0 (by omega) Mv.nil
/-- a slice's own rows -/
theorem rowsOf_sli {α : Type} {El : Rel α} {R e : Nat} {h : Heap} {a : Option (Nat × Nat)} {c : Option Nat} {l : List α} {F : List Nat} (hs : Sli false R e El h [.sl R a l.length c] l F) :
    ∃ rows Fs, (∀ {T : Type} (K : List (List V) → Option T), rowsOf R h (.sl R a l.length c) K = K rows) ∧ EAll El h rows l Fs ∧ (∀ b ∈ Fs.flatten, b ∈ F) ∧ (F.Nodup → Fs.flatten.Nodup) := by
  obtain ⟨R', a', c', e1, e2⟩ := hs
  injection e1 with e1 _; injection e1 with e0 e3 _ e4
  subst e0; subst e3; subst e4
  cases a with
  | none =>
    obtain ⟨rfl, _, _⟩ := e2
    exact ⟨[], [], fun K => rfl, trivial, by simp, by simp⟩
  | some q =>
    obtain ⟨b, i⟩ := q
    obtain ⟨hR, rs, Fs, g1, g2, g3, g4, g5, rfl⟩ := e2
    refine ⟨_, Fs, fun K => ?_, g5, fun b hb => by simp only [List.mem_cons]; exact .inr hb, fun hn => (List.nodup_cons.1 hn).2⟩
    simp only [rowsOf, beq_of, need_t]
    cases hl : l.length with
    | zero => simp
    | succ n => simp only [ldRows, Heap.rows?, g1, Option.bind_some, ble_of (show i + (n + 1) ≤ rs.length by omega), eO_s]
def zeroTag (v : Ver) : Bool := v.tag.time == 0 && v.tag.place == 0
def elemOk (st : List Tag) (clock : Int) (k : Nat) (v : Ver) : Bool := (zeroTag v || under v.past st) && (!decide (k = 0) || decide (v.tag.time ≤ clock))
theorem lessV_time {v u : Ver} (h : lessV v u = true) : v.tag.time ≤ u.tag.time := by
  simp [lessV, less] at h; omega
/-- what waits is no later than what it makes -/
theorem fitsL_time : ∀ {w s t : List Ver}, fitsL s w = some t → s.length = t.length ∧ (∀ k (h1 : k < s.length) (h2 : k < t.length), s[k].tag.time ≤ t[k].tag.time) ∧ ∀ v ∈ w, ∃ h2 : v.key.toNat < t.length, v.tag.time ≤ t[v.key.toNat].tag.time
  | [], s, t, h => by injection h with h; subst h; exact ⟨rfl, fun k _ _ => Int.le_refl _, by simp⟩
  | v :: w, s, t, h => by
    simp only [fitsL] at h
    by_cases hk : v.key.toNat < s.length
    · rw [List.getElem?_eq_getElem hk] at h
      cases hl : lessV s[v.key.toNat] v with
      | false => simp [hl] at h
      | true =>
        simp only [hl, cond_true] at h
        obtain ⟨i1, i2, i3⟩ := fitsL_time h
        rw [List.length_set] at i1
        have ht := lessV_time hl
        refine ⟨i1, fun k h1 h2 => ?_, fun u hu => ?_⟩
        · have := i2 k (by simpa using h1) h2
          rw [List.getElem_set] at this
          split at this
          · rename_i he; subst he; omega
          · exact this
        · rcases List.mem_cons.1 hu with rfl | hu
          · have := i2 u.key.toNat (by simpa using hk) (by omega)
            rw [List.getElem_set_self] at this
            exact ⟨by omega, this⟩
          · exact i3 u hu
    · rw [List.getElem?_eq_none (by omega)] at h; cases h
theorem zeroTag_iff {x : Node} (h : nodeOk x = true) {v : Ver} (hv : v ∈ x.store) : zeroTag v = !decide (v.tag.time > 0) := by
  obtain ⟨i, hi, rfl⟩ := List.mem_iff_getElem.1 hv
  rcases verAt_case (storeOk_get (nodeOk_parts h).1 hi) with g | g
  · have := zero_time g
    unfold zeroTag; rw [this.1, this.2]; rfl
  · have := verOk_time g.1
    unfold zeroTag
    rw [decide_eq_true this, show (x.store[i].tag.time == 0) = false by rw [beq_eq_false_iff_ne]; omega]; rfl
theorem zeroTag_ok {v : Ver} (h : verOk v = true) : zeroTag v = false := by
  have := verOk_time h
  unfold zeroTag
  rw [show (v.tag.time == 0) = false by rw [beq_eq_false_iff_ne]; omega]; rfl
theorem causes_alt {l : List Node} {clock : Int} (hc : chainOk l = true) : (l.zipIdx.all fun x => (x.1.store ++ x.1.wait).all (elemOk (stable l) clock x.2)) = (causesOk l && headOk l clock) := by
  obtain ⟨hl4, hno⟩ := chainOk_all hc
  rw [Bool.eq_iff_iff, Bool.and_eq_true]
  rw [all_zipIdx (p := fun i (x : Node) => (x.store ++ x.wait).all (elemOk (stable l) clock i))]
  unfold causesOk headOk
  rw [List.getElem?_eq_getElem (show 0 < l.length by omega), all_get]
  simp only [List.all_append, Bool.and_eq_true, List.all_eq_true]
  constructor
  · intro hx
    refine ⟨fun i hi => ?_, fun v hv => ?_⟩
    · have hi' := hno _ (List.getElem_mem hi)
      unfold nodeCauses
      simp only [Bool.and_eq_true, List.all_eq_true]
      refine ⟨fun v hv => ?_, fun v hv => ?_⟩
      · have := (hx i hi).1 v hv
        simp only [elemOk, Bool.and_eq_true] at this
        rw [← zeroTag_iff hi' hv]; exact this.1
      · have := (hx i hi).2 v hv
        simp only [elemOk, Bool.and_eq_true, zeroTag_ok ((nodeOk_parts hi').2.2 v hv), Bool.false_or] at this
        exact this.1
    · have := (hx 0 (by omega)).1 v hv
      simp only [elemOk, Bool.and_eq_true] at this
      simpa using this.2
  · rintro ⟨h1, h2⟩ i hi
    have hi' := hno _ (List.getElem_mem hi)
    have h3 := h1 i hi
    unfold nodeCauses at h3
    simp only [Bool.and_eq_true, List.all_eq_true] at h3
    refine ⟨fun v hv => ?_, fun v hv => ?_⟩
    · unfold elemOk
      rw [zeroTag_iff hi' hv, h3.1 v hv, Bool.true_and]
      by_cases h0 : i = 0
      · subst h0; simpa using h2 v hv
      · simp [h0]
    · unfold elemOk
      rw [h3.2 v hv, Bool.or_true, Bool.true_and]
      by_cases h0 : i = 0
      · subst h0
        have hlk := chainOk_link hc hi
        unfold linkAt at hlk
        by_cases h10 : 0 + 1 < l.length
        · rw [List.getElem?_eq_getElem h10] at hlk
          simp only [fits] at hlk
          cases hf : fitsL l[0 + 1].store l[0].wait with
          | none => simp [hf] at hlk
          | some t =>
            simp only [hf] at hlk
            have e := sameVers_iff.1 hlk
            obtain ⟨_, _, g3⟩ := fitsL_time hf
            obtain ⟨g4, g5⟩ := g3 v hv
            have := h2 (l[0].store[v.key.toNat]'(by rw [← e]; exact g4)) (List.getElem_mem _)
            simp only [decide_eq_true_eq] at this
            simp only [← e] at this
            simp only [decide_true, Bool.not_true, Bool.false_or, decide_eq_true_eq]
            omega
        · rw [List.getElem?_eq_none (by omega)] at hlk
          simp only [decide_eq_true_eq] at hlk
          have : l[0].wait = [] := List.eq_nil_of_length_eq_zero hlk
          rw [this] at hv; simp at hv
      · simp [h0]

section
variable {lo : Nat} {h : Heap} {F F' : List Nat} {a a' : Option (Nat × Nat)} {c c' : Option Nat}
theorem impl_tail {b i j : Nat} {l : List Node} (hld : ld h b i j 1 = some [.sl 2 a l.length c]) (hs : RNodes false h [.sl 2 a l.length c] l F) (h0 : 0 < l.length) (hn : l.length ≤ 1048576) :
    ∃ a' c' G, evl lo 166 [.ptr (some (b, i, j))] h = some (.agg [.sl 6 a' (l[l.length - 1]'(by omega)).store.length c'], h) ∧ RVers false h [.sl 6 a' (l[l.length - 1]'(by omega)).store.length c'] (l[l.length - 1]'(by omega)).store G ∧ ∀ y ∈ G, y ∈ F := by
  obtain ⟨o, s1, s2, b1, d1, b2, d2, G1, G2, ha, ho, ho1, ho2, e1, e2, q1, q2, q3, _⟩ := hs.get (show l.length - 1 < l.length by omega)
  refine ⟨b1, d1, G1, E_impl_Chain_tail ?_, q1, q3⟩
  simp only [Nat.add_zero, hld, eO_s, eC_c, eS_sl, eN_n]
  rw [wr (by omega) (by omega), inB_in ⟨by omega, by omega⟩, show ((l.length : Int) - 1).toNat = l.length - 1 by omega]
  simp only [ha, eO_s, ho1, eC_c, e1, eN_n]
theorem app_in {T : Type} {e R bytes b i len : Nat} {rs xs : List (List V)} {K : V → Heap → Option T} (hb : h[b]? = some (.rows R e false rs)) (hl : lo ≤ b) (hf : i + len + xs.length ≤ rs.length) (h0 : 0 < bytes) (hsz : (len + xs.length) * bytes ≤ 140737488355328) :
    app lo e R bytes (.sl R (some (b, i)) len none) xs h K = K (.sl R (some (b, i)) (len + xs.length) none) (h.set b (.rows R e false (rs.take (i + len) ++ xs ++ rs.drop (i + len + xs.length)))) := by
  cases xs with
  | nil =>
    simp only [app, List.length_nil, Nat.add_zero, List.append_nil, List.take_append_drop]
    rw [set_same hb]
  | cons x xs =>
    have hbl : Nat.blt 0 bytes = true := by simpa [Nat.blt_eq] using h0
    have hsz' : decide ((len + (x :: xs).length) * bytes ≤ maxBytes) = true := decide_eq_true hsz
    have hown : Heap.own? lo e h b = some rs := by simp only [Heap.own?, hb, ble_of hl, beq_of]
    have hst : stRows lo h b (i + len) (x :: xs) = some (h.set b (.rows R e false (rs.take (i + len) ++ (x :: xs) ++ rs.drop (i + len + (x :: xs).length)))) := by
      simp only [stRows, hb, ble_of hl, ble_of hf]
    simp only [app, hbl, hsz', need_t, beq_of, hown, eO_s, ble_of hf, hst]
theorem impl_Concat {l1 l2 : List Ver} {a1 a2 : Option (Nat × Nat)} {c1 c2 : Option Nat} {F1 F2 : List Nat} (hs1 : RVers false h [.sl 6 a1 l1.length c1] l1 F1) (hs2 : RVers false h [.sl 6 a2 l2.length c2] l2 F2) (hl1 : l1.length = 4) (hl2 : l2.length ≤ 6) (hlo : lo ≤ h.length) :
    ∃ a' F' h', evl lo 168 [.sl 1 (some (h.length, 0)) 2 (some 2)] (h ++ [.rows 1 44 false [[.sl 6 a1 l1.length c1], [.sl 6 a2 l2.length c2]]]) = some (.sl 6 a' (l1 ++ l2).length none, h') ∧
      RVers false h' [.sl 6 a' (l1 ++ l2).length none] (l1 ++ l2) F' ∧ Mv h [] h' [] := by
  have m0 : Mv h [] (h ++ [.rows 1 44 false [[.sl 6 a1 l1.length c1], [.sl 6 a2 l2.length c2]]]) [] := Mv.snoc
  have hbB : (h ++ [Blk.rows 1 44 false [[.sl 6 a1 l1.length c1], [.sl 6 a2 l2.length c2]]])[h.length]? = some (.rows 1 44 false [[.sl 6 a1 l1.length c1], [.sl 6 a2 l2.length c2]]) := by simp
  have hBl : h.length < (h ++ [Blk.rows 1 44 false [[.sl 6 a1 l1.length c1], [.sl 6 a2 l2.length c2]]]).length := by simp
  generalize hB : h ++ [Blk.rows 1 44 false [[.sl 6 a1 l1.length c1], [.sl 6 a2 l2.length c2]]] = B at *
  have r1 := m0.keep0 rvers_ok hs1
  have r2 := m0.keep0 rvers_ok hs2
  obtain ⟨n, hn⟩ : ∃ n, l1.length + l2.length = n + 1 := ⟨l1.length + l2.length - 1, by omega⟩
  have m1 : Mv B [] (B ++ [.rows 6 36 false (List.replicate (n + 1) [.int .i64 0, .int .i64 0, .int .i64 0, .sl 0 none 0 (some 0), .str ⟨⟨[]⟩⟩, .bool false])]) [] := Mv.snoc
  have hC0 : (B ++ [Blk.rows 6 36 false (List.replicate (n + 1) [V.int .i64 0, .int .i64 0, .int .i64 0, .sl 0 none 0 (some 0), .str ⟨⟨[]⟩⟩, .bool false])])[B.length]? = some (.rows 6 36 false (List.replicate (n + 1) [.int .i64 0, .int .i64 0, .int .i64 0, .sl 0 none 0 (some 0), .str ⟨⟨[]⟩⟩, .bool false])) := by simp
  have grow : evl lo 241 [.sl 0 none 0 (some 0), .int .i64 ((n + 1 : Nat) : Int)] B = some (.sl 6 (some (B.length, 0)) 0 none, B ++ [.rows 6 36 false (List.replicate (n + 1) [.int .i64 0, .int .i64 0, .int .i64 0, .sl 0 none 0 (some 0), .str ⟨⟨[]⟩⟩, .bool false])]) := by
    refine E_slices_Grow_impl_Ver_impl_Ver_z ?_
    have e1 : IntKind.i64.wrap (((0 : Nat) : Int) - ((0 : Nat) : Int)) = 0 := by decide
    have e2 : IntKind.i64.wrap (((n + 1 : Nat) : Int) - 0) = ((n + 1 : Nat) : Int) := by rw [wr (by omega) (by omega)]; omega
    rw [br_neg (by omega)]
    simp only [eO_s, e1, e2]
    rw [br_pos (by omega)]
    have e3 : ∀ {T : Type} (K : Option (Nat × Nat) → Nat → Option Nat → Option T), reslice none 0 (some 0) none (some (.int .i64 0)) none K = K none 0 (some 0) := by
      intro T K
      unfold reslice slMax slHi slLo
      simp only [eI_int]
      rw [inS_in ⟨by decide, by decide⟩]; rfl
    rw [e3, need_of ⟨by omega, by omega⟩, Int.toNat_natCast, List.replicate_succ]
    simp only [app, show Nat.blt 0 72 = true from rfl, need_t]
    rw [need_of (by simp [maxBytes]; omega)]
    simp only [eS_sl]
    unfold reslice slMax slHi slLo
    simp only [eI_int]
    rw [inS_in ⟨by omega, by omega⟩]
    simp [List.replicate_succ]
  have hBle : B.length < (B ++ [Blk.rows 6 36 false (List.replicate (n + 1) [V.int .i64 0, .int .i64 0, .int .i64 0, .sl 0 none 0 (some 0), .str ⟨⟨[]⟩⟩, .bool false])]).length := by simp
  generalize hC : B ++ [Blk.rows 6 36 false (List.replicate (n + 1) [V.int .i64 0, .int .i64 0, .int .i64 0, .sl 0 none 0 (some 0), .str ⟨⟨[]⟩⟩, .bool false])] = C at *
  generalize hz : [V.int .i64 0, .int .i64 0, .int .i64 0, .sl 0 none 0 (some 0), .str ⟨⟨[]⟩⟩, .bool false] = z at hC0
  obtain ⟨rows1, Fs1, er1, ea1, sub1, _⟩ := rowsOf_sli (m1.keep0 rvers_ok r1)
  have len1 := ea1.len.1
  have bd1 := fun y hy => rvers_ok.bd _ _ _ _ r1 y (sub1 y hy)
  -- the first behind nothing
  have frD : ∀ y, y ≠ B.length → (C.set B.length (.rows 6 36 false ((List.replicate (n + 1) z).take (0 + 0) ++ rows1 ++ (List.replicate (n + 1) z).drop (0 + 0 + rows1.length))))[y]? = C[y]? := fun y hy => List.getElem?_set_ne (Ne.symm hy)
  have hD0 : (C.set B.length (.rows 6 36 false ((List.replicate (n + 1) z).take (0 + 0) ++ rows1 ++ (List.replicate (n + 1) z).drop (0 + 0 + rows1.length))))[B.length]? = some (.rows 6 36 false (rows1 ++ List.replicate l2.length z)) := by
    rw [List.getElem?_set_self hBle]
    simp only [Nat.add_zero, List.take_zero, List.nil_append, Nat.zero_add, List.drop_replicate]
    rw [show n + 1 - rows1.length = l2.length by omega]
  have hDl : (C.set B.length (.rows 6 36 false ((List.replicate (n + 1) z).take (0 + 0) ++ rows1 ++ (List.replicate (n + 1) z).drop (0 + 0 + rows1.length)))).length = C.length := by simp
  have e5 := fun {T : Type} (K : V → Heap → Option T) => app_in (lo := lo) (e := 36) (bytes := 72) (i := 0) (len := 0) (xs := rows1) (K := K) hC0 (by omega) (by simp; omega) (by decide) (by omega)
  generalize hD : C.set B.length (.rows 6 36 false ((List.replicate (n + 1) z).take (0 + 0) ++ rows1 ++ (List.replicate (n + 1) z).drop (0 + 0 + rows1.length))) = D at *
  have mD : Mv B [] D [] := ⟨by omega, fun y hy _ => by rw [frD y (by omega)]; exact m1.fr y hy (by simp), by simp, by simp⟩
  obtain ⟨rows2, Fs2, er2, ea2, sub2, _⟩ := rowsOf_sli (mD.keep0 rvers_ok r2)
  have len2 := ea2.len.1
  have bd2 := fun y hy => rvers_ok.bd _ _ _ _ r2 y (sub2 y hy)
  have e6 := fun {T : Type} (K : V → Heap → Option T) => app_in (lo := lo) (e := 36) (bytes := 72) (i := 0) (len := 4) (xs := rows2) (K := K) hD0 (by omega) (by simp; omega) (by decide) (by omega)
  have hDle : B.length < D.length := by omega
  have hE0 : (D.set B.length (.rows 6 36 false ((rows1 ++ List.replicate l2.length z).take (0 + 4) ++ rows2 ++ (rows1 ++ List.replicate l2.length z).drop (0 + 4 + rows2.length))))[B.length]? = some (.rows 6 36 false (rows1 ++ rows2)) := by
    rw [List.getElem?_set_self hDle]
    rw [List.take_append_of_le_length (by omega), List.take_of_length_le (by omega), List.drop_of_length_le (by simp; omega), List.append_nil]
  have frE : ∀ y, y ≠ B.length → (D.set B.length (.rows 6 36 false ((rows1 ++ List.replicate l2.length z).take (0 + 4) ++ rows2 ++ (rows1 ++ List.replicate l2.length z).drop (0 + 4 + rows2.length))))[y]? = D[y]? := fun y hy => List.getElem?_set_ne (Ne.symm hy)
  have hEl : (D.set B.length (.rows 6 36 false ((rows1 ++ List.replicate l2.length z).take (0 + 4) ++ rows2 ++ (rows1 ++ List.replicate l2.length z).drop (0 + 4 + rows2.length)))).length = D.length := by simp
  generalize hE : D.set B.length (.rows 6 36 false ((rows1 ++ List.replicate l2.length z).take (0 + 4) ++ rows2 ++ (rows1 ++ List.replicate l2.length z).drop (0 + 4 + rows2.length))) = E at *
  have ldB : ∀ {X : Heap} (k : Nat) {v : V}, X[h.length]? = some (.rows 1 44 false [[.sl 6 a1 l1.length c1], [.sl 6 a2 l2.length c2]]) → ([[V.sl 6 a1 l1.length c1], [.sl 6 a2 l2.length c2]] : List (List V))[k]? = some [v] → ld X h.length k 0 1 = some [v] := fun k v hb hk => by rw [ld_of hb hk]; rfl
  refine ⟨some (B.length, 0), B.length :: (Fs1 ++ Fs2).flatten, E, E_slices_Concat_impl_Ver_impl_Ver ?_, ⟨6, some (B.length, 0), none, by simp, rfl, rows1 ++ rows2, Fs1 ++ Fs2, hE0, by simp; omega, fun k hk => (by cases hk), fun _ => rfl, ?_, rfl⟩, ⟨by omega, fun y hy _ => by rw [frE y (by omega), frD y (by omega), m1.fr y (by omega) (by simp)]; exact m0.fr y hy (by simp), by simp, by simp⟩⟩
  · have hBC : C[h.length]? = some (.rows 1 44 false [[.sl 6 a1 l1.length c1], [.sl 6 a2 l2.length c2]]) := by rw [m1.fr _ hBl (by simp)]; exact hbB
    have hBD : D[h.length]? = some (.rows 1 44 false [[.sl 6 a1 l1.length c1], [.sl 6 a2 l2.length c2]]) := by rw [frD _ (by omega)]; exact hBC
    have w1 : IntKind.i64.wrap (0 + (l1.length : Int)) = (l1.length : Int) := by rw [wr (by omega) (by omega)]; omega
    have w2 : IntKind.i64.wrap ((l1.length : Int) + (l2.length : Int)) = ((n + 1 : Nat) : Int) := by rw [wr (by omega) (by omega)]; omega
    have w3 : IntKind.i64.wrap (0 + 1) = 1 := by decide
    have w4 : IntKind.i64.wrap (1 + 1) = 2 := by decide
    rw [L_slices_Concat_impl_Ver_impl_Ver_0.e, br_pos (by decide), inB_in ⟨by decide, by decide⟩]
    simp only [eO_s, Nat.zero_add, show Int.toNat 0 = 0 from rfl]
    rw [ldB 0 hbB rfl]
    simp only [eO_s, eC_c, eN_n, eS_sl, w1, w3]
    rw [br_neg (by omega), L_slices_Concat_impl_Ver_impl_Ver_0.e, br_pos (by decide), inB_in ⟨by decide, by decide⟩]
    simp only [eO_s, Nat.zero_add, show Int.toNat 1 = 1 from rfl]
    rw [ldB 1 hbB rfl]
    simp only [eO_s, eC_c, eN_n, eS_sl, w2, w4]
    rw [br_neg (by omega), L_slices_Concat_impl_Ver_impl_Ver_0.e, br_neg (by decide), grow]
    simp only [cal_s, eS_sl]
    rw [L_slices_Concat_impl_Ver_impl_Ver_2.e, br_pos (by decide), inB_in ⟨by decide, by decide⟩]
    simp only [eO_s, Nat.zero_add, show Int.toNat 0 = 0 from rfl]
    rw [ldB 0 hBC rfl]
    simp only [eO_s, eC_c, eN_n, eS_sl, w3]
    rw [er1, e5]
    simp only [eS_sl]
    rw [L_slices_Concat_impl_Ver_impl_Ver_2.e, br_pos (by decide), inB_in ⟨by decide, by decide⟩]
    simp only [eO_s, Nat.zero_add, show Int.toNat 1 = 1 from rfl]
    rw [ldB 1 hBD rfl]
    simp only [eO_s, eC_c, eN_n, eS_sl, w4]
    rw [er2, show rows1.length = 4 by omega, e6]
    simp only [eS_sl]
    rw [L_slices_Concat_impl_Ver_impl_Ver_2.e, br_neg (by decide)]
    rw [show 4 + rows2.length = (l1 ++ l2).length by simp; omega]
  · rw [List.drop_zero, List.take_of_length_le (by simp; omega)]
    refine EAll.append (ea1.fr rver_ok.fr fun y hy => ?_) (ea2.fr rver_ok.fr fun y hy => frE y ?_)
    · have := bd1 y hy
      rw [frE y (by omega), frD y (by omega)]
    · have := bd2 y hy; omega
end
end Go.Proofs.YtfhnofppfacemaaGreat
namespace Go.Proofs.YtfhnofppfacemaaGreat
open Go T
set_option linter.unusedVariables false
set_option linter.unusedSimpArgs false
section
variable {lo : Nat} {h : Heap} {F F' : List Nat} {a a' : Option (Nat × Nat)} {c c' : Option Nat}
theorem impl_PlaceOk {p : Place} {a1 a2 a3 : Option (Nat × Nat)} {c1 c2 c3 : Option Nat} {F1 F2 F3 : List Nat} (hs1 : RNodes false h [.sl 2 a1 p.chain.length c1] p.chain F1) (hs2 : RVers false h [.sl 6 a2 p.log.length c2] p.log F2)
    (hs3 : RVss false h [.sl 1 a3 p.got.length c3] p.got F3) (hn : smPlace p) : evl lo 75 [.agg (p.cs a1 c1 a2 c2 a3 c3)] h = some (.bool (placeOk p), h) := by
  suffices hk : ∃ h', _ = some (V.bool (placeOk p), h') from hk.elim fun h' hk => E_impl_PlaceOk hk
  have m0 : Mv h [] (h ++ [.rows 6 47 false [p.cs a1 c1 a2 c2 a3 c3]]) [] := Mv.snoc
  have hB0 : (h ++ [Blk.rows 6 47 false [p.cs a1 c1 a2 c2 a3 c3]])[h.length]? = some (.rows 6 47 false [p.cs a1 c1 a2 c2 a3 c3]) := by simp
  have hBl : h.length < (h ++ [Blk.rows 6 47 false [p.cs a1 c1 a2 c2 a3 c3]]).length := by simp
  generalize hB : h ++ [Blk.rows 6 47 false [p.cs a1 c1 a2 c2 a3 c3]] = B at *
  have r1 := m0.keep0 rnodes_ok hs1
  have r2 := m0.keep0 rvers_ok hs2
  have r3 := m0.keep0 rvss_ok hs3
  have ld1 : ∀ {X : Heap} (j : Nat) {v : V}, X[h.length]? = some (.rows 6 47 false [p.cs a1 c1 a2 c2 a3 c3]) → (p.cs a1 c1 a2 c2 a3 c3)[j]? = some v → ld X h.length 0 j 1 = some [v] := fun j v hb hv => by
    rw [ld_of hb rfl]; exact cut_one hv
  rw [ld1 0 hB0 rfl]; simp only [eO_s, eC_c, eN_n, eI_int]
  rw [impl_placeOk]; simp only [cal_s, eB_b]
  unfold placeOk
  cases within p.me 0 2 with
  | false => exact ⟨_, rfl⟩
  | true =>
  rw [br_t, ld1 1 hB0 rfl]; simp only [eO_s, eC_c, eN_n, eI_int]
  rw [impl_within]; simp only [cal_s, eB_b]
  cases within p.clock 0 999 with
  | false => exact ⟨_, rfl⟩
  | true =>
  rw [br_t, ld1 2 hB0 rfl]; simp only [eO_s, eC_c, eN_n, eS_sl]
  rw [impl_ChainOk r1 hn.1]; simp only [cal_s, eB_b]
  cases hc : chainOk p.chain with
  | false => exact ⟨_, by rw [Bool.and_false]; rfl⟩
  | true =>
  rw [br_t, ld1 3 hB0 rfl]; simp only [eO_s, eC_c, eN_n, eS_sl]
  rw [ld1 0 hB0 rfl]; simp only [eO_s, eC_c, eN_n, eI_int]
  rw [impl_logOk r2 hn.2.1]; simp only [cal_s, eB_b]
  cases logOk p.me p.log with
  | false => exact ⟨_, by rw [Bool.and_false]; rfl⟩
  | true =>
  rw [br_t, ld1 4 hB0 rfl]; simp only [eO_s, eC_c, eN_n, eS_sl]
  by_cases hg : ¬ p.got.length = 3
  · rw [show ((p.got.length : Int) == 3) = false by rw [beq_eq_false_iff_ne]; omega, decide_eq_false hg]
    exact ⟨_, by rw [Bool.and_false]; rfl⟩
  have hg : p.got.length = 3 := by omega
  rw [show ((p.got.length : Int) == 3) = true by rw [beq_iff_eq]; omega, decide_eq_true hg, br_t]
  obtain ⟨hl4, hno⟩ := chainOk_all hc
  obtain ⟨at', ct, Gt, et, rt, _⟩ := impl_tail (lo := h.length) (ld1 2 hB0 rfl) r1 (by omega) (by omega)
  rw [et]; simp only [cal_s, eA_a, eC_c, eS_sl, eN_n]
  have hsl := storeOk_len (nodeOk_parts (hno _ (List.getElem_mem (show p.chain.length - 1 < p.chain.length by omega)))).1
  obtain ⟨vg, hg1, Gg, eg, rg, mg⟩ := impl_tags (lo := h.length) rt m0.le hsl
  obtain ⟨ag, cg, esg, rg⟩ := rg.form
  rw [← last_get (by omega)] at rg esg
  have hst := stable_len hc
  rw [eg]; simp only [cal_s, eA_a, eC_c, esg, eN_n]
  have hG0 : hg1[h.length]? = some (.rows 6 47 false [p.cs a1 c1 a2 c2 a3 c3]) := by rw [mg.fr _ hBl (by simp)]; exact hB0
  rw [ld1 2 hG0 rfl]; simp only [eO_s, eC_c, eN_n, eS_sl]
  have r1' := mg.keep0 rnodes_ok r1
  have r3' := mg.keep0 rvss_ok r3
  have key := all_mv (p := fun i (x : Node) => (x.store ++ x.wait).all (elemOk (stable p.chain) p.clock i)) (l := p.chain) (h0 := hg1) (fun i hh => L_impl_PlaceOk_0 (List.length h) (List.length h) 0 0 false a1 p.chain.length c1 (p.chain.length : Nat) (i : Nat) ag (stable p.chain).length cg hh)
    (p.got.zipIdx.all fun x => gotAt p.me x.2 x.1) (fun i hi hh hm => by
      have hni := hno _ (List.getElem_mem hi)
      obtain ⟨g1, g2, g3⟩ := nodeOk_parts hni
      obtain ⟨o, s1, s2, b1, d1, b2, d2, G1, G2, ha, ho, _, _, e1, e2, q1, q2, _⟩ := (hm.keep0 rnodes_ok r1').get hi
      obtain ⟨a5, F5, h5, e5, r5, m5⟩ := impl_Concat (lo := h.length) q1 q2 (storeOk_len g1) g2 (Nat.le_trans (Nat.le_of_lt hBl) (Nat.le_trans mg.le hm.le))
      have hmh : Mv hg1 [] h5 [] := hm.trans m5
      have hH0 : h5[h.length]? = some (.rows 6 47 false [p.cs a1 c1 a2 c2 a3 c3]) := by rw [hmh.fr _ (Nat.lt_of_lt_of_le hBl mg.le) (by simp)]; exact hG0
      have rgs := hmh.keep0 rtags_ok rg
      refine ⟨h5, m5, ?_⟩
      rw [L_impl_PlaceOk_0.e, br_pos (by omega), inB_nat hi]
      simp only [ha, eO_s, Int.toNat_natCast, ho, eC_c, e1, e2, eN_n]
      rw [e5]
      simp only [cal_s, eS_sl]
      rw [← ha]
      have hlen : (p.chain[i].store ++ p.chain[i].wait).length ≤ 10 := by rw [List.length_append, storeOk_len g1]; omega
      refine (all_loop (p := elemOk (stable p.chain) p.clock i) (l := p.chain[i].store ++ p.chain[i].wait) (fun k => L_impl_PlaceOk_2 (List.length h) (List.length h) 0 0 false (i : Nat) a1 p.chain.length c1 (p.chain.length : Nat) (i : Nat) a5 (p.chain[i].store ++ p.chain[i].wait).length none ((p.chain[i].store ++ p.chain[i].wait).length : Nat) (k : Nat) ag (stable p.chain).length cg h5) (some (.bool false, h5)) (L_impl_PlaceOk_0 (List.length h) (List.length h) 0 0 false a1 p.chain.length c1 (p.chain.length : Nat) ((i + 1 : Nat) : Int) ag (stable p.chain).length cg h5) (fun k hk => ?_) ?_).trans ?_
      · obtain ⟨o', s, b, d, G, ha', ho', es, hp, _⟩ := r5.get hk
        rw [L_impl_PlaceOk_2.e, br_pos (by omega), inB_nat hk]
        simp only [ha', eO_s, Int.toNat_natCast, ho', eC_c, eI_int, es, eT_s, eBv_b, eN_n, Bool.and_true, wr_succ (show k < 9223372036854775807 by omega), Nat.zero_add]
        rw [ld1 1 hH0 rfl]
        simp only [eO_s, eC_c, eN_n, eI_int]
        have hk0 : ((i : Int) == 0) = decide (i = 0) := by rw [Bool.eq_iff_iff, beq_iff_eq, decide_eq_true_eq]; omega
        rw [hk0]
        have elem : elemOk (stable p.chain) p.clock i (p.chain[i].store ++ p.chain[i].wait)[k] = ((zeroTag (p.chain[i].store ++ p.chain[i].wait)[k] || under (p.chain[i].store ++ p.chain[i].wait)[k].past (stable p.chain)) && (!decide (i = 0) || decide ((p.chain[i].store ++ p.chain[i].wait)[k].tag.time ≤ p.clock))) := rfl
        have past4 : zeroTag (p.chain[i].store ++ p.chain[i].wait)[k] = false → (p.chain[i].store ++ p.chain[i].wait)[k].past.length = 4 := by
          intro hz
          have hmem : (p.chain[i].store ++ p.chain[i].wait)[k] ∈ p.chain[i].store ++ p.chain[i].wait := List.getElem_mem hk
          rw [List.mem_append] at hmem
          rcases hmem with hmem | hmem
          · obtain ⟨j, hj, ej⟩ := List.mem_iff_getElem.1 hmem
            rw [← ej] at hz ⊢
            exact store_past hni hj (by have := zeroTag_iff hni (List.getElem_mem hj); rw [hz] at this; simpa using this)
          · obtain ⟨j, hj, ej⟩ := List.mem_iff_getElem.1 hmem
            rw [← ej]; exact wait_past hni hj
        rw [elem]
        generalize (p.chain[i].store ++ p.chain[i].wait)[k] = u at *
        have htm : ∀ {T : Type} (x y : Option T), br (decide (u.tag.time > p.clock)) x y = br (!decide (u.tag.time ≤ p.clock)) x y := by
          intro T x y
          by_cases ht : u.tag.time ≤ p.clock
          · rw [br_neg (by omega), decide_eq_true ht]; rfl
          · rw [br_pos (by omega), decide_eq_false ht]; rfl
        simp only [htm]
        show br (zeroTag u) _ _ = _
        cases hz : zeroTag u with
        | true =>
          cases decide (i = 0) <;> cases decide (u.tag.time ≤ p.clock) <;> simp only [br_t, br_f, Bool.not_true, Bool.not_false, Bool.true_and, Bool.false_and, Bool.and_true, Bool.and_false, Bool.true_or, Bool.false_or, Bool.or_true, Bool.or_false, cond_true, cond_false, if_true, if_false, Bool.false_eq_true]
        | false =>
          have hu4 := past4 hz
          rw [br_f, impl_under hp rgs (by omega) (by omega)]
          simp only [cal_s, eB_b]
          rw [ld1 1 hH0 rfl]
          simp only [eO_s, eC_c, eN_n, eI_int, htm]
          cases under u.past (stable p.chain) <;> cases decide (i = 0) <;> cases decide (u.tag.time ≤ p.clock) <;> simp only [br_t, br_f, Bool.not_true, Bool.not_false, Bool.true_and, Bool.false_and, Bool.and_true, Bool.and_false, Bool.true_or, Bool.false_or, Bool.or_true, Bool.or_false, cond_true, cond_false, if_true, if_false, Bool.false_eq_true]
      · rw [L_impl_PlaceOk_2.e, br_neg (by omega), wr_succ (by omega)]
      · rfl) (fun hh hm => by
      have hH0 : hh[h.length]? = some (.rows 6 47 false [p.cs a1 c1 a2 c2 a3 c3]) := by rw [hm.fr _ (Nat.lt_of_lt_of_le hBl mg.le) (by simp)]; exact hG0
      have r3s := hm.keep0 rvss_ok r3'
      refine ⟨hh, ?_⟩
      rw [L_impl_PlaceOk_0.e, br_neg (by omega)]
      simp only [Nat.zero_add]
      rw [ld1 4 hH0 rfl]; simp only [eO_s, eC_c, eN_n, eS_sl]
      refine (all_idx (p := gotAt p.me) (l := p.got) (fun i => L_impl_PlaceOk_4 (List.length h) (List.length h) 0 0 false a3 p.got.length c3 (p.got.length : Nat) (i : Nat) hh) (some (.bool false, hh)) (some (.bool true, hh)) (fun i hi => ?_) ?_).trans if_some
      · obtain ⟨o, s, b, d, G, ha, ho, es, hp, _⟩ := r3s.get hi
        rw [L_impl_PlaceOk_4.e, br_pos (by omega), inB_nat hi]
        simp only [ha, eO_s, Int.toNat_natCast, ho, eC_c, es, eN_n, Nat.add_zero]
        rw [impl_logOk hp (hn.2.2.2 _ (List.getElem_mem hi)), ]
        simp only [cal_s, eB_b]
        rw [ld1 0 hH0 rfl]
        simp only [eO_s, eC_c, eN_n, eI_int, wr_succ (show i < 9223372036854775807 by omega)]
        unfold gotAt
        by_cases h0 : p.got[i].length = 0
        · rw [br_neg (by omega), decide_eq_true h0]
          cases logOk i p.got[i] <;> cases ((i : Int) == p.me) <;> rfl
        · rw [br_pos (by omega), decide_eq_false h0]
          cases logOk i p.got[i] <;> cases ((i : Int) == p.me) <;> rfl
      · rw [L_impl_PlaceOk_4.e, br_neg (by omega)])
  rw [causes_alt hc] at key
  obtain ⟨h', e⟩ := key
  refine ⟨h', e.trans ?_⟩
  cases causesOk p.chain <;> cases headOk p.chain p.clock <;> cases (p.got.zipIdx.all fun x => gotAt p.me x.2 x.1) <;> rfl
end
end Go.Proofs.YtfhnofppfacemaaGreat
namespace Go.Proofs.YtfhnofppfacemaaGreat
open Go T
set_option linter.unusedVariables false
set_option linter.unusedSimpArgs false
section
variable {h h' h'' : Heap} {F F' F'' G : List Nat}
/-- what lies below stays -/
theorem Mv.keepB {α : Type} {El : Rel α} {cs : List V} {x : α} (a : Mv h F h' F') (ok : El.Ok) (he : El h cs x G) {m : Nat} (hG : ∀ b ∈ G, b < m) (hF : ∀ b ∈ F, m ≤ b) : El h' cs x G :=
  a.keep ok he fun b hb hm => by have := hG b hb; have := hF b hm; omega
theorem Mv.keepA {α : Type} {El : Rel α} {cs : List V} {x : α} (a : Mv h F h' F') (ok : El.Ok) (he : El h cs x G) {m : Nat} (hG : ∀ b ∈ G, m ≤ b) (hF : ∀ b ∈ F, b < m) : El h' cs x G :=
  a.keep ok he fun b hb hm => by have := hG b hb; have := hF b hm; omega
theorem Mv.inv (a : Mv h [] h' F') : ∀ b ∈ F', h.length ≤ b ∧ b < h'.length := fun b hb => by
  rcases a.sub b hb with h1 | h1
  · simp at h1
  · exact h1
end
end Go.Proofs.YtfhnofppfacemaaGreat
namespace Go.Proofs.YtfhnofppfacemaaGreat
open Go T
set_option linter.unusedVariables false
set_option linter.unusedSimpArgs false
set_option maxRecDepth 100000
section
variable {h : Heap}
theorem tv_struct {n t : Nat} {fs : Array Field} {xs : List V} (hu : Tryz.prog.underlying t = some (.struct fs)) (hx : TV Tryz.prog h (n + 1) t xs) : TVs Tryz.prog (TV Tryz.prog h n) fs.toList xs := by
  simp only [TV, hu] at hx; exact hx
theorem tv_int {n t : Nat} {xs : List V} (hu : Tryz.prog.underlying t = some (.int .i64)) (hx : TV Tryz.prog h (n + 1) t xs) : ∃ i : Int, xs = [.int .i64 i] ∧ -9223372036854775808 ≤ i ∧ i ≤ 9223372036854775807 := by
  simp only [TV, hu] at hx
  obtain ⟨i, h1, h2⟩ := hx
  refine ⟨i, h1, ?_⟩
  have e1 : IntKind.i64.min = -9223372036854775808 := by decide
  have e2 : IntKind.i64.max = 9223372036854775807 := by decide
  simp only [Lit.wf, Bool.and_eq_true, decide_eq_true_eq] at h2
  omega
theorem tv_str {n t : Nat} {xs : List V} (hu : Tryz.prog.underlying t = some .string) (hx : TV Tryz.prog h (n + 1) t xs) : ∃ s : ByteArray, xs = [.str s] ∧ s.size ≤ maxLen := by
  simp only [TV, hu] at hx; exact hx
theorem tv_bool {n t : Nat} {xs : List V} (hu : Tryz.prog.underlying t = some .bool) (hx : TV Tryz.prog h (n + 1) t xs) : ∃ b : Bool, xs = [.bool b] := by
  simp only [TV, hu] at hx; exact hx
theorem tv_sli {α : Type} {El : Rel α} {bd : α → Prop} {n t e ee R : Nat} {xs : List V} (hu : Tryz.prog.underlying t = some (.slice e)) (hR : Tryz.prog.cellsOf e = R) (hel : ∀ row, TV Tryz.prog h n e row → ∃ x F, El h row x F ∧ bd x) (hx : TV Tryz.prog h (n + 1) t xs) :
    ∃ l F, Sli true R ee El h xs l F ∧ l.length ≤ maxLen ∧ ∀ x ∈ l, bd x := by
  simp only [TV, hu] at hx
  obtain ⟨a, c, rs, rfl, h2, h3, h4⟩ := hx
  have all : ∀ rs : List (List V), (∀ row ∈ rs, TV Tryz.prog h n e row) → ∃ l Fs, EAll El h rs l Fs ∧ l.length = rs.length ∧ ∀ x ∈ l, bd x := by
    intro rs
    induction rs with
    | nil => intro _; exact ⟨[], [], trivial, rfl, by simp⟩
    | cons r rs ih =>
      intro hr
      obtain ⟨l, Fs, g1, g2, g3⟩ := ih fun row hrow => hr row (by simp [hrow])
      obtain ⟨x, F, g4, g5⟩ := hel r (hr r (by simp))
      exact ⟨x :: l, F :: Fs, ⟨g4, g1⟩, by simp [g2], fun y hy => by
        rcases List.mem_cons.1 hy with rfl | hy
        · exact g5
        · exact g3 y hy⟩
  obtain ⟨l, Fs, g1, g2, g3⟩ := all rs fun row hr => (h3 row hr).2
  rcases h4 with rfl | ⟨b, rfl, hb⟩
  · have : l = [] := List.eq_nil_of_length_eq_zero (by simpa using g2)
    subst this
    exact ⟨[], [], ⟨R, a, c, by rw [hR]; rfl, rfl, .inl ⟨rfl, rfl⟩⟩, Nat.zero_le _, by simp⟩
  · refine ⟨l, b :: Fs.flatten, ⟨R, some (b, 0), c, by rw [hR, g2], rfl, .inr ⟨b, 0, rs, Fs, rfl, hb, by omega, ?_, rfl⟩⟩, by omega, g3⟩
    rw [List.drop_zero, List.take_of_length_le (by omega)]; exact g1
theorem av_agg {n t : Nat} {fs : Array Field} {x : V} (hu : Tryz.prog.underlying t = some (.struct fs)) (hx : ArgV Tryz.prog h n t x) : ∃ xs, x = .agg xs ∧ TV Tryz.prog h n t xs := by
  unfold ArgV at hx
  rw [hu] at hx; exact hx
theorem av_int {n : Nat} {x : V} (hx : ArgV Tryz.prog h (n + 1) 3 x) : ∃ i : Int, x = .int .i64 i ∧ -9223372036854775808 ≤ i ∧ i ≤ 9223372036854775807 := by
  obtain ⟨i, hi, hb⟩ := tv_int Tryz.underlying3 (by unfold ArgV at hx; rw [Tryz.underlying3] at hx; exact hx)
  injection hi with hi _
  exact ⟨i, hi, hb⟩
theorem av_str {n : Nat} {x : V} (hx : ArgV Tryz.prog h (n + 1) 9 x) : ∃ s : ByteArray, x = .str s ∧ s.size ≤ maxLen := by
  obtain ⟨s, hs, hb⟩ := tv_str Tryz.underlying9 (by unfold ArgV at hx; rw [Tryz.underlying9] at hx; exact hx)
  injection hs with hs _
  exact ⟨s, hs, hb⟩
theorem av_bool {n : Nat} {x : V} (hx : ArgV Tryz.prog h (n + 1) 4 x) : ∃ b : Bool, x = .bool b := by
  obtain ⟨b, hb⟩ := tv_bool Tryz.underlying4 (by unfold ArgV at hx; rw [Tryz.underlying4] at hx; exact hx)
  injection hb with hb _
  exact ⟨b, hb⟩
theorem tv_Tag {n : Nat} {xs : List V} (hx : TV Tryz.prog h (n + 2) 57 xs) : ∃ t : Tag, xs = t.cs := by
  obtain ⟨y1, z1, rfl, _, g1, y2, z2, rfl, _, g2, rfl⟩ := tv_struct Tryz.underlying57 hx
  obtain ⟨i, rfl, _⟩ := tv_int Tryz.underlying3 g1
  obtain ⟨j, rfl, _⟩ := tv_int Tryz.underlying3 g2
  exact ⟨⟨i, j⟩, rfl⟩
theorem tv_TagS {n : Nat} {xs : List V} (hx : TV Tryz.prog h (n + 3) 58 xs) : ∃ l F, RTags true h xs l F ∧ l.length ≤ maxLen := by
  obtain ⟨l, F, h1, h2, _⟩ := tv_sli (El := flat Tag.cs) (bd := fun _ => True) (ee := eTag true) (R := 2) Tryz.underlying58 (by kernel_rfl) (fun row hr => by obtain ⟨t, rfl⟩ := tv_Tag (n := n) hr; exact ⟨t, [], ⟨rfl, rfl⟩, trivial⟩) hx
  exact ⟨l, F, h1, h2⟩
theorem tv_Past {n : Nat} {xs : List V} (hx : TV Tryz.prog h (n + 4) 60 xs) : ∃ l F, RTags true h xs l F ∧ l.length ≤ maxLen := by
  obtain ⟨y1, z1, rfl, _, g1, rfl⟩ := tv_struct Tryz.underlying60 hx
  rw [List.append_nil]; exact tv_TagS g1
theorem tv_Ver {n : Nat} {xs : List V} (hx : TV Tryz.prog h (n + 5) 62 xs) : ∃ v F, RVer true h xs v F ∧ bdVer v := by
  obtain ⟨y1, z1, rfl, _, g1, y2, z2, rfl, _, g2, y3, z3, rfl, _, g3, y4, z4, rfl, _, g4, y5, z5, rfl, _, g5, rfl⟩ := tv_struct Tryz.underlying62 hx
  obtain ⟨i, rfl, _⟩ := tv_int Tryz.underlying3 g1
  obtain ⟨t, rfl⟩ := tv_Tag g2
  obtain ⟨l, F, g3, g3'⟩ := tv_Past (n := n) g3
  obtain ⟨s, rfl, g4'⟩ := tv_str Tryz.underlying9 g4
  obtain ⟨b, rfl⟩ := tv_bool Tryz.underlying4 g5
  have : ∃ v, y3 = [v] := by obtain ⟨R', a, c, e, _⟩ := g3; exact ⟨_, e⟩
  obtain ⟨v, rfl⟩ := this
  exact ⟨⟨i, t, l, s, b⟩, F, ⟨v, rfl, g3⟩, g3', g4'⟩
theorem tv_VerS {n : Nat} {xs : List V} (hx : TV Tryz.prog h (n + 6) 25 xs) : ∃ l F, RVers true h xs l F ∧ bdVers l :=
  tv_sli (El := RVer true) (bd := bdVer) (ee := eVer true) (R := 6) Tryz.underlying25 (by kernel_rfl) (fun row hr => tv_Ver (n := n) hr) hx
theorem tv_VerSS {n : Nat} {xs : List V} (hx : TV Tryz.prog h (n + 7) 26 xs) : ∃ l F, RVss true h xs l F ∧ bdVss l :=
  tv_sli (El := RVers true) (bd := bdVers) (ee := eVers true) (R := 1) Tryz.underlying26 (by kernel_rfl) (fun row hr => tv_VerS (n := n) hr) hx
theorem tv_Store {n : Nat} {xs : List V} (hx : TV Tryz.prog h (n + 7) 202 xs) : ∃ l F, RVers true h xs l F ∧ bdVers l := by
  obtain ⟨y1, z1, rfl, _, g1, rfl⟩ := tv_struct Tryz.underlying202 hx
  rw [List.append_nil]; exact tv_VerS (n := n) g1
theorem sli_one {α : Type} {El : Rel α} {ro : Bool} {R e : Nat} {xs : List V} {l : List α} {F : List Nat} (hs : Sli ro R e El h xs l F) : ∃ v, xs = [v] := by
  obtain ⟨R', a, c, e, _⟩ := hs; exact ⟨_, e⟩
theorem tv_Node {n : Nat} {xs : List V} (hx : TV Tryz.prog h (n + 8) 204 xs) : ∃ x F, RNode true h xs x F ∧ bdNode x := by
  obtain ⟨y1, z1, rfl, _, g1, y2, z2, rfl, _, g2, rfl⟩ := tv_struct Tryz.underlying204 hx
  obtain ⟨l1, F1, r1, b1⟩ := tv_Store (n := n) g1
  obtain ⟨l2, F2, r2, b2⟩ := tv_VerS (n := n + 1) g2
  obtain ⟨v1, rfl⟩ := sli_one r1
  obtain ⟨v2, rfl⟩ := sli_one r2
  exact ⟨⟨l1, l2⟩, F1 ++ F2, ⟨v1, v2, F1, F2, rfl, rfl, r1, r2⟩, b1, b2⟩
theorem tv_NodeS {n : Nat} {xs : List V} (hx : TV Tryz.prog h (n + 9) 22 xs) : ∃ l F, RNodes true h xs l F ∧ bdNodes l :=
  tv_sli (El := RNode true) (bd := bdNode) (ee := eNode true) (R := 2) Tryz.underlying22 (by kernel_rfl) (fun row hr => tv_Node (n := n) hr) hx
theorem tv_Chain {n : Nat} {xs : List V} (hx : TV Tryz.prog h (n + 10) 24 xs) : ∃ l F, RNodes true h xs l F ∧ bdNodes l := by
  obtain ⟨y1, z1, rfl, _, g1, rfl⟩ := tv_struct Tryz.underlying24 hx
  rw [List.append_nil]; exact tv_NodeS (n := n) g1
theorem tv_Place {n : Nat} {xs : List V} (hx : TV Tryz.prog h (n + 11) 28 xs) : ∃ p F, RPlace true h xs p F ∧ bdPlace p := by
  obtain ⟨y1, z1, rfl, _, g1, y2, z2, rfl, _, g2, y3, z3, rfl, _, g3, y4, z4, rfl, _, g4, y5, z5, rfl, _, g5, y6, z6, rfl, _, g6, rfl⟩ := tv_struct Tryz.underlying28 hx
  obtain ⟨i, rfl, _⟩ := tv_int Tryz.underlying3 g1
  obtain ⟨j, rfl, _⟩ := tv_int Tryz.underlying3 g2
  obtain ⟨l1, F1, r1, b1⟩ := tv_Chain (n := n) g3
  obtain ⟨l2, F2, r2, b2⟩ := tv_VerS (n := n + 4) g4
  obtain ⟨l3, F3, r3, b3⟩ := tv_VerSS (n := n + 3) g5
  obtain ⟨b, rfl⟩ := tv_bool Tryz.underlying4 g6
  obtain ⟨v1, rfl⟩ := sli_one r1
  obtain ⟨v2, rfl⟩ := sli_one r2
  obtain ⟨v3, rfl⟩ := sli_one r3
  exact ⟨⟨i, j, l1, l2, l3, b⟩, F1 ++ (F2 ++ F3), ⟨v1, v2, v3, F1, F2, F3, rfl, rfl, r1, r2, r3⟩, b1, b2, b3⟩
end
end Go.Proofs.YtfhnofppfacemaaGreat
namespace Go.Proofs.YtfhnofppfacemaaGreat
open Go T
set_option linter.unusedVariables false
set_option linter.unusedSimpArgs false
def RPlaceN (ro : Bool) : Rel Place := fun h cs p F => ∃ a1 c1 a2 c2 a3 c3, cs = p.cs a1 c1 a2 c2 a3 c3 ∧ RPlace ro h cs p F
theorem rplaceN_ok {ro : Bool} : (RPlaceN ro).Ok :=
  ⟨fun h h' cs p F ⟨a1, c1, a2, c2, a3, c3, e, hp⟩ hb => ⟨a1, c1, a2, c2, a3, c3, e, rplace_ok.fr _ _ _ _ _ hp hb⟩, fun h cs p F ⟨_, _, _, _, _, _, _, hp⟩ => rplace_ok.bd _ _ _ _ hp⟩
theorem sli_true {α : Type} {El : Rel α} {R e : Nat} {h : Heap} {v : V} {l : List α} {F : List Nat} (hs : Sli true R e El h [v] l F) : ∃ a c, v = .sl R a l.length c := by
  obtain ⟨R', a, c, e1, rfl, _⟩ := hs
  injection e1 with e1 _
  exact ⟨a, c, e1⟩
theorem rplace_true {h : Heap} {cs : List V} {p : Place} {F : List Nat} (hp : RPlace true h cs p F) : RPlaceN true h cs p F := by
  have hp2 := hp
  obtain ⟨s1, s2, s3, F1, F2, F3, rfl, rfl, h1, h2, h3⟩ := hp
  obtain ⟨a1, c1, rfl⟩ := sli_true h1
  obtain ⟨a2, c2, rfl⟩ := sli_true h2
  obtain ⟨a3, c3, rfl⟩ := sli_true h3
  exact ⟨_, _, _, _, _, _, rfl, hp2⟩
theorem mkN_bound {α : Type} {w sz : α → Nat} {c : Nat} : ∀ {l : List α}, (∀ x ∈ l, w x ≤ c * (1 + sz x)) → mkN w l ≤ c * (l.length + (l.map sz).sum)
  | [], _ => by simp [mkN]
  | x :: l, h => by
    have h1 := mkN_bound (l := l) fun y hy => h y (by simp [hy])
    have h2 := h x (by simp)
    simp only [mkN, List.map_cons, List.sum_cons, List.length_cons] at h1 ⊢
    rw [Nat.mul_add] at h1 h2 ⊢
    rw [Nat.mul_add, Nat.mul_add]
    omega
theorem mkN_tag : ∀ {l : List Tag}, mkN wTag l = 2 * l.length
  | [] => rfl
  | t :: l => by
    have h1 := mkN_tag (l := l)
    have h2 : mkN wTag (t :: l) = 2 + mkN wTag l := by simp only [mkN, List.map_cons, List.sum_cons]
    rw [h2, h1, List.length_cons]; omega
theorem wVer_le {v : Ver} : wVer v ≤ 5 * (1 + szVer v) := by
  have := mkN_tag (l := v.past)
  simp only [wVer, szVer, this]; omega
theorem wVers_le {l : List Ver} : wVers l ≤ 5 * szVers l := mkN_bound fun v _ => wVer_le
theorem wVss_le {l : List (List Ver)} : wVss l ≤ 5 * szVss l := mkN_bound fun v _ => by have := wVers_le (l := v); omega
theorem wNodes_le {l : List Node} : wNodes l ≤ 5 * szNodes l := mkN_bound fun x _ => by
  have h1 := wVers_le (l := x.store)
  have h2 := wVers_le (l := x.wait)
  simp only [wNode, szNode]; omega
theorem wPlace_le {p : Place} : wPlace p ≤ 5 * szPlace p := by
  have h1 := wNodes_le (l := p.chain)
  have h2 := wVers_le (l := p.log)
  have h3 := wVss_le (l := p.got)
  simp only [wPlace, szPlace]; omega
theorem szN_small {s : Nat} (h : ¬ szN 1048576 s < 0) : s ≤ 1048576 := by
  unfold szN at h; split at h <;> omega
abbrev zVer : Ver := ⟨0, ⟨0, 0⟩, [], ⟨⟨[]⟩⟩, false⟩
abbrev zPlace : Place := ⟨0, 0, [], [], [], false⟩

section
variable {lo : Nat} {h : Heap} {F F' : List Nat} {a a' : Option (Nat × Nat)} {c c' : Option Nat}
/-- a place, copied by the laws -/
theorem to_place {p : Place} {cs : List V} {hh : Heap} (hs : RPlaceN true hh cs p F) (hl : lo ≤ hh.length) (hn : smPlace p) : ∃ cs' h' F', evl lo 17 [.agg cs] hh = some (.agg cs', h') ∧ RPlaceN false h' cs' p F' ∧ Mv hh [] h' F' := by
  obtain ⟨a1, c1, a2, c2, a3, c3, rfl, hp⟩ := hs
  obtain ⟨F1, F2, F3, _, h1, h2, h3⟩ := hp.cells
  obtain ⟨a1', c1', a2', c2', a3', c3', h', F', e, r, m⟩ := laws_toPlace h1 h2 h3 hl hn
  exact ⟨_, h', F', e, ⟨_, _, _, _, _, _, rfl, r⟩, m⟩
theorem sz_place {p : Place} {cs : List V} {hh : Heap} (hs : RPlaceN true hh cs p F) (hb : bdPlace p) : evl lo 15 [.agg cs, .int .i64 1048576] hh = some (.int .i64 (szN 1048576 (szPlace p)), hh) := by
  obtain ⟨a1, c1, a2, c2, a3, c3, rfl, hp⟩ := hs
  obtain ⟨F1, F2, F3, _, h1, h2, h3⟩ := hp.cells
  exact laws_szPlace h1 h2 h3 hb (by decide) (by decide)
theorem eq_place {p : Place} {cs cs' : List V} {hh : Heap} (h1 : RPlaceN false hh cs p F) (h2 : RPlaceN false hh cs' p F') (hn : smPlace p) : evl lo 20 [.agg cs, .agg cs'] hh = some (.bool true, hh) := by
  obtain ⟨a1, c1, a2, c2, a3, c3, rfl, r1⟩ := h1
  obtain ⟨a1', c1', a2', c2', a3', c3', rfl, r2⟩ := h2
  exact eqPlace r1 r2 hn
theorem mark_place {p : Place} {cs : List V} {hh : Heap} (hs : RPlaceN false hh cs p F) (hlo : ∀ b ∈ F, lo ≤ b) (hnd : F.Nodup) (hB : (1 : Int) + wPlace p ≤ big) (hn : smPlace p) :
    ∃ h', evl lo 21 [.agg cs, .int .i64 1] hh = some (.int .i64 (1 + wPlace p), h') ∧ RPlaceN false h' cs (mkPlace 1 p) F ∧ Mv hh F h' F := by
  obtain ⟨a1, c1, a2, c2, a3, c3, rfl, hp⟩ := hs
  obtain ⟨h', e, r, l, m⟩ := laws_markPlace hp hlo hnd (by decide) hB hn
  exact ⟨h', e, ⟨a1, c1, a2, c2, a3, c3, by simp [mkPlace, Place.cs, mkNodes_len, mkVers_len, mkVss_len], r⟩, m⟩
theorem held_place {p : Place} {cs : List V} {hh : Heap} (hs : RPlaceN false hh cs (mkPlace 1 p) F) (hB : (1 : Int) + wPlace p ≤ big) (hn : smPlace p) : evl lo 26 [.agg cs, .int .i64 1] hh = some (.int .i64 (1 + wPlace p), hh) := by
  obtain ⟨a1, c1, a2, c2, a3, c3, rfl, hp⟩ := hs
  have e : (mkPlace 1 p).cs a1 c1 a2 c2 a3 c3 = p.cs a1 c1 a2 c2 a3 c3 := by simp [mkPlace, Place.cs, mkNodes_len, mkVers_len, mkVss_len]
  rw [e] at hp ⊢
  exact laws_heldPlace hp (by decide) hB hn
end
end Go.Proofs.YtfhnofppfacemaaGreat
namespace Go.Proofs.YtfhnofppfacemaaGreat
open Go T
set_option linter.unusedVariables false
set_option linter.unusedSimpArgs false
theorem Mv.swap {h h' : Heap} {A B A' B' : List Nat} (m : Mv h (A ++ B) h' (A' ++ B')) : Mv h (B ++ A) h' (B' ++ A') := by
  refine ⟨m.le, fun b hb hn => m.fr b hb fun hm => hn ?_, ?_, fun b hb => ?_⟩
  · rw [List.mem_append] at hm ⊢; exact hm.symm
  · have := m.nd
    rw [List.nodup_append] at this ⊢
    exact ⟨this.2.1, this.1, fun x hx y hy e => this.2.2 y hy x hx e.symm⟩
  · rw [List.mem_append] at hb
    refine (m.sub b (by rw [List.mem_append]; exact hb.symm)).imp (fun h => ?_) id
    rw [List.mem_append] at h ⊢; exact h.symm
/-- one row put behind a slice -/
theorem push_one {α : Type} {El : Rel α} (ok : El.Ok) {h0 h1 : Heap} {lo R e n bytes : Nat} {a : Option (Nat × Nat)} {c : Option Nat} {l : List α} {F : List Nat} {row : List V} {x : α} {G : List Nat} (hs : Sli false R e El h0 [.sl R a n c] l F) (hx : El h1 row x G) (m : Mv h0 [] h1 G)
    (hnd : F.Nodup) (hlo : ∀ b ∈ F, lo ≤ b) (hl : lo ≤ h0.length) (hb : 0 < bytes) (hsz : (l.length + 1) * bytes ≤ 140737488355328) :
    ∃ a' c' h2 F', (∀ {T : Type} (K : V → Heap → Option T), app lo e R bytes (.sl R a n c) [row] h1 K = K (.sl R a' (l.length + 1) c') h2) ∧ Sli false R e El h2 [.sl R a' (l.length + 1) c'] (l ++ [x]) F' ∧ Mv h0 F h2 F' := by
  have hbd := (Sli.ok ok).bd _ _ _ _ hs
  have hs1 := m.keep0 (Sli.ok ok) hs
  have hGb := m.lt (by simp)
  obtain ⟨a', c', h2, F', p1, p2, p3, p4, p5, p6⟩ := Sli.push (lo := lo) (bytes := bytes) ok.fr hs1 (xs := [row]) (ys := [x]) (Gs := [G]) ⟨hx, trivial⟩ hb hsz hlo (Nat.le_trans hl m.le)
    (by
      rw [List.nodup_append]
      refine ⟨hnd, by simpa using m.nd, fun y hy z hz => ?_⟩
      rintro rfl
      have g1 := hbd y hy
      have g2 := m.new y (by simpa using hz)
      omega)
    (fun b hb' => by
      have g1 := m.le
      rw [List.mem_append] at hb'
      rcases hb' with hb' | hb'
      · have := hbd b hb'; omega
      · exact hGb b (by simpa using hb')) (by simp)
  refine ⟨a', c', h2, F', p1, p2, Nat.le_trans m.le p3, fun b hb' hF => ?_, p6, fun b hb' => ?_⟩
  · rw [p4 b (Nat.lt_of_lt_of_le hb' m.le) hF, m.fr b hb' (by simp)]
  · have g1 := m.le
    rcases p5 b hb' with g | g
    · rw [List.mem_append] at g
      rcases g with g | g
      · exact .inl g
      · have g2 := m.new b (by simpa using g)
        have g3 := hGb b (by simpa using g)
        exact .inr (by omega)
    · exact .inr (by omega)
/-- normal cells of a place that an answer has -/
def NPlace (raw : List V) (p : Place) (r : List V) : Prop := ∃ s1 s2 s3 a1 c1 a2 c2 a3 c3, raw = [.int .i64 p.me, .int .i64 p.clock, s1, s2, s3, .bool p.fell] ∧
  (∀ {T : Type} (K : Option (Nat × Nat) → Nat → Option Nat → Option T), eS 2 s1 K = K a1 p.chain.length c1) ∧ (∀ {T : Type} (K : Option (Nat × Nat) → Nat → Option Nat → Option T), eS 6 s2 K = K a2 p.log.length c2) ∧
  (∀ {T : Type} (K : Option (Nat × Nat) → Nat → Option Nat → Option T), eS 1 s3 K = K a3 p.got.length c3) ∧ r = p.cs a1 c1 a2 c2 a3 c3
theorem nplace_zero {hh : Heap} : ∃ raw r, raw = [.int .i64 0, .int .i64 0, .sl 0 none 0 (some 0), .sl 0 none 0 (some 0), .sl 0 none 0 (some 0), .bool false] ∧ NPlace raw zPlace r ∧ RPlaceN false hh r zPlace [] :=
  ⟨_, _, rfl, ⟨_, _, _, none, some 0, none, some 0, none, some 0, rfl, fun K => rfl, fun K => rfl, fun K => rfl, rfl⟩, ⟨none, some 0, none, some 0, none, some 0, rfl, _, _, _, [], [], [], rfl, rfl, Sli.nil, Sli.nil, Sli.nil⟩⟩
theorem nplace_self {p : Place} {a1 a2 a3 : Option (Nat × Nat)} {c1 c2 c3 : Option Nat} : NPlace (p.cs a1 c1 a2 c2 a3 c3) p (p.cs a1 c1 a2 c2 a3 c3) :=
  ⟨_, _, _, a1, c1, a2, c2, a3, c3, rfl, fun K => eS_sl _ _ _ _ _, fun K => eS_sl _ _ _ _ _, fun K => eS_sl _ _ _ _ _, rfl⟩
section
variable {lo : Nat} {h : Heap} {F F' : List Nat} {a a' : Option (Nat × Nat)} {c c' : Option Nat}
theorem clip_ver {l : List Ver} {n : Nat} (hs : RVers false h [.sl 6 a n c] l F) : evl lo 183 [.sl 6 a n c] h = some (.sl 6 a n (some n), h) := E_slices_Clip_impl_Ver_impl_Ver (by rw [reslice_clip hs])
end
end Go.Proofs.YtfhnofppfacemaaGreat
namespace Go.Proofs.YtfhnofppfacemaaGreat
open Go T
set_option linter.unusedVariables false
set_option linter.unusedSimpArgs false
theorem cut_all : ∀ {row : List V} {n : Nat}, row.length = n → cut row 0 n = some row
  | [], 0, _ => rfl
  | v :: r, n + 1, h => by
    have h1 := cut_all (row := r) (n := n) (by simpa using h)
    show (match cut r 0 n with | some l => some (v :: l) | none => none) = _
    rw [h1]
theorem cs_inj {p : Place} {a1 a2 a3 b1 b2 b3 : Option (Nat × Nat)} {c1 c2 c3 d1 d2 d3 : Option Nat} (h : p.cs a1 c1 a2 c2 a3 c3 = p.cs b1 d1 b2 d2 b3 d3) : a1 = b1 ∧ c1 = d1 ∧ a2 = b2 ∧ c2 = d2 ∧ a3 = b3 ∧ c3 = d3 := by
  simp only [Place.cs, List.cons.injEq, V.sl.injEq, true_and, and_true] at h
  obtain ⟨⟨h1, h2⟩, ⟨h3, h4⟩, h5, h6⟩ := h
  exact ⟨h1, h2, h3, h4, h5, h6⟩
/-- what a place is after an attempt -/
def tried (p p' : Place) : Place := bif placeOk p then p' else zPlace
theorem chain_pos {p : Place} (h : placeOk p = true) : 0 < p.chain.length := by
  unfold placeOk at h
  simp only [Bool.and_eq_true] at h
  have := (chainOk_all h.1.1.1.1.2).1
  omega

theorem Mv.swapNil {h h' : Heap} {A B : List Nat} (m : Mv h [] h' (A ++ B)) : Mv h [] h' (B ++ A) := Mv.swap (A := []) (B := []) m
theorem sm_zero : smPlace zPlace := ⟨⟨Nat.zero_le _, by simp⟩, ⟨Nat.zero_le _, by simp⟩, ⟨Nat.zero_le _, by simp⟩⟩
theorem w_zero : (1 : Int) + wPlace zPlace ≤ big := by decide
section
variable {lo : Nat} {h : Heap} {F F' : List Nat} {a a' : Option (Nat × Nat)} {c c' : Option Nat}
theorem spec_l4CopyN {p : Place} {a1 a2 a3 : Option (Nat × Nat)} {c1 c2 c3 : Option Nat} {F1 F2 F3 : List Nat} (hs1 : RNodes false h [.sl 2 a1 p.chain.length c1] p.chain F1) (hs2 : RVers false h [.sl 6 a2 p.log.length c2] p.log F2)
    (hs3 : RVss false h [.sl 1 a3 p.got.length c3] p.got F3) (hl : lo ≤ h.length) (hn : smPlace p) :
    ∃ raw a1' c1' a2' c2' a3' c3' h' F', evl lo 84 [.agg (p.cs a1 c1 a2 c2 a3 c3)] h = some (.agg raw, h') ∧ NPlace raw p (p.cs a1' c1' a2' c2' a3' c3') ∧ RPlace false h' (p.cs a1' c1' a2' c2' a3' c3') p F' ∧ Mv h [] h' F' := by
  obtain ⟨vs, h', F', e, r, m⟩ := spec_l4Copy (lo := lo) hs1 hs2 hs3 hl hn
  obtain ⟨s1, s2, s3, G1, G2, G3, rfl, rfl, g1, g2, g3⟩ := r
  obtain ⟨x1, y1, es1, g1⟩ := g1.form
  obtain ⟨x2, y2, es2, g2⟩ := g2.form
  obtain ⟨x3, y3, es3, g3⟩ := g3.form
  exact ⟨_, x1, y1, x2, y2, x3, y3, h', _, e, ⟨s1, s2, s3, x1, y1, x2, y2, x3, y3, rfl, fun K => es1 K, fun K => es2 K, fun K => es3 K, rfl⟩, ⟨_, _, _, G1, G2, G3, rfl, rfl, g1, g2, g3⟩, m⟩
end
end Go.Proofs.YtfhnofppfacemaaGreat
namespace Go.Proofs.YtfhnofppfacemaaGreat
open Go T
set_option linter.unusedVariables false
set_option linter.unusedSimpArgs false
/-- what a node has after a version came to it -/
def addN (l : List Node) (k : Nat) (v : Ver) : List Node := match l[k]? with
  | some x => match x.store[v.key.toNat]? with
    | some u => bif lessV u v then l.set k ⟨x.store.set v.key.toNat v, bif decide (k + 1 < l.length) then x.wait ++ [v] else x.wait⟩ else l
    | none => l
  | none => l
theorem addN_get {l : List Node} {k : Nat} {v : Ver} (hk : k < l.length) (hv : v.key.toNat < l[k].store.length) :
    addN l k v = bif lessV l[k].store[v.key.toNat] v then l.set k ⟨l[k].store.set v.key.toNat v, bif decide (k + 1 < l.length) then l[k].wait ++ [v] else l[k].wait⟩ else l := by
  unfold addN; rw [List.getElem?_eq_getElem hk]; simp only; rw [List.getElem?_eq_getElem hv]

section
variable {lo : Nat} {h h3 : Heap} {F F' G : List Nat} {a a' av : Option (Nat × Nat)} {c c' cv : Option Nat} {n k : Nat} {l : List Node} {v : Ver}
/-- one more waits at a node -/
theorem push_wait (hs : RNodes false h [.sl 2 a n c] l F) (hk : k < l.length) (hnd : F.Nodup) (hlo : ∀ b ∈ F, lo ≤ b) (hl : lo ≤ h.length) (hw : l[k].wait.length ≤ 1048576) (hv : RTags false h3 [.sl 2 av v.past.length cv] v.past G) (m3 : Mv h [] h3 G) :
    ∃ b i t2 a2 c2 a5 c5 h5, a = some (b, i) ∧ ld h b (i + k) 1 1 = some [t2] ∧ (∀ {T : Type} (K : Option (Nat × Nat) → Nat → Option Nat → Option T), eS 6 t2 K = K a2 l[k].wait.length c2) ∧
      (∀ {T : Type} (K : V → Heap → Option T), app lo 36 6 72 (.sl 6 a2 l[k].wait.length c2) [v.cs av cv] (h3 ++ [.rows 6 36 false [v.cs av cv]]) K = K (.sl 6 a5 (l[k].wait.length + 1) c5) h5) ∧
      (∃ F5, RVers false h5 [.sl 6 a5 (l[k].wait.length + 1) c5] (l[k].wait ++ [v]) F5) ∧
      ∀ c6, (c6 = c5 ∨ c6 = some (l[k].wait.length + 1)) → ∃ h6 F6, st lo h5 b (i + k) 1 [.sl 6 a5 (l[k].wait.length + 1) c6] = some h6 ∧ RNodes false h6 [.sl 2 a n c] (l.set k ⟨l[k].store, l[k].wait ++ [v]⟩) F6 ∧ Mv h F h6 F6 := by
  obtain ⟨b, i, rs, row, G0, ha, hbF, hbG, hb, hrow, hel, hGF, hGn, _, put⟩ := hs.at rnode_ok hk hnd hlo
  obtain ⟨t1, t2, F1, F2, rfl, rfl, r1, r2⟩ := hel
  obtain ⟨a2, c2, e2, r2'⟩ := r2.form
  rw [List.nodup_append] at hGn
  obtain ⟨a5, c5, h5, F5, e5, r5, m5⟩ := push_one (lo := lo) (bytes := 72) (e := 36) rver_ok r2' (row := v.cs av cv) (x := v) (G := G) (h1 := h3 ++ [.rows 6 36 false [v.cs av cv]])
    ⟨_, rfl, Mv.snoc.keep0 rtags_ok hv⟩ (m3.trans (Mv.snoc' m3.nd)) hGn.2.1 (fun y hy => hlo y (hGF y (by simp [hy]))) hl (by decide) (by omega)
  have b1 : ∀ y ∈ F1, y < h.length := rvers_ok.bd _ _ _ _ r1
  have m6 := (m5.aside (G := F1) (by rw [List.nodup_append]; exact ⟨hGn.2.1, hGn.1, fun x hx y hy e => hGn.2.2 y hy x hx e.symm⟩) b1).swap
  have r1' := m5.keep rvers_ok r1 fun y hy hm => hGn.2.2 y hy y hm rfl
  refine ⟨b, i, t2, a2, c2, a5, c5, h5, ha, by rw [ld_of hb hrow]; rfl, fun K => e2 K, fun K => e5 K, ⟨F5, r5⟩, fun c6 hc => ?_⟩
  have r5' : RVers false h5 [.sl 6 a5 (l[k].wait.length + 1) c6] (l[k].wait ++ [v]) F5 := by
    rcases hc with rfl | rfl
    · exact r5
    · exact r5.clip
  obtain ⟨h6, F6, e6, r6, m7, _⟩ := put h5 (F1 ++ F5) 1 [.sl 6 a5 (l[k].wait.length + 1) c6] [t1, .sl 6 a5 (l[k].wait.length + 1) c6] ⟨l[k].store, l[k].wait ++ [v]⟩ m6 rfl ⟨_, _, F1, F5, rfl, rfl, r1', r5'⟩
  exact ⟨h6, F6, e6, r6, m7⟩
/-- a version laid into a node's store -/
theorem set_store (hs : RNodes false h [.sl 2 a n c] l F) (hk : k < l.length) (hnd : F.Nodup) (hlo : ∀ b ∈ F, lo ≤ b) (hq : v.key.toNat < l[k].store.length) (hv : RTags false h3 [.sl 2 av v.past.length cv] v.past G) (m3 : Mv h [] h3 G) :
    ∃ b i t1 o c1, a = some (b, i) ∧ ld h b (i + k) 0 1 = some [t1] ∧ (∀ {T : Type} (K : Option (Nat × Nat) → Nat → Option Nat → Option T), eS 6 t1 K = K (some o) l[k].store.length c1) ∧ (∃ F1, RVers false h [.sl 6 (some o) l[k].store.length c1] l[k].store F1) ∧
      ∃ h4 F4, st lo h3 o.1 (o.2 + v.key.toNat) 0 (v.cs av cv) = some h4 ∧ RNodes false h4 [.sl 2 a n c] (l.set k ⟨l[k].store.set v.key.toNat v, l[k].wait⟩) F4 ∧ Mv h F h4 F4 := by
  obtain ⟨b, i, rs, row, G0, ha, hbF, hbG, hb, hrow, hel, hGF, hGn, keep, _⟩ := hs.at rnode_ok hk hnd hlo
  obtain ⟨t1, t2, F1, F2, rfl, rfl, r1, r2⟩ := hel
  have hGn0 := hGn
  rw [List.nodup_append] at hGn
  obtain ⟨R', a1, c1, e1, g⟩ := id r1
  injection e1 with e1 _
  subst e1
  cases a1 with
  | none =>
    have := g.1
    rw [this] at hq
    exact absurd hq (Nat.not_lt_zero _)
  | some o =>
  obtain ⟨hR, _⟩ := g
  subst hR
  obtain ⟨b2, i2, rs2, row2, G2, e2, hb2, hbG2, hbb, hrow2, hel2, hGF2, hGn2, _, wr⟩ := r1.at rver_ok hq hGn.1 (fun y hy => hlo y (hGF y (by simp [hy])))
  injection e2 with e2
  subst e2
  obtain ⟨h4, F4, e4, r4, m4, _⟩ := wr h3 G 0 (v.cs av cv) (v.cs av cv) v (m3.wide (by simp)) (paste_all (by obtain ⟨s, rfl, _⟩ := hel2; rfl)) ⟨_, rfl, hv⟩
  have b2' : ∀ y ∈ F2, y < h.length := rvers_ok.bd _ _ _ _ r2
  have m5 := m4.aside (G := F2) hGn0 b2'
  have r2' := m4.keep rvers_ok r2 fun y hy hm => hGn.2.2 y hm y hy rfl
  obtain ⟨F5, r5, m6⟩ := keep h4 ⟨l[k].store.set v.key.toNat v, l[k].wait⟩ (F4 ++ F2) m5 ⟨_, _, F4, F2, rfl, rfl, r4, r2'⟩
  exact ⟨b, i, _, (b2, i2), c1, ha, by rw [ld_of hb hrow]; rfl, fun K => eS_sl _ _ _ _ _, ⟨F1, r1⟩, h4, F5, e4, r5, m6⟩
theorem spec_l3Add (hs : RNodes false h [.sl 2 a l.length c] l F) (hv : RTags false h [.sl 2 av v.past.length cv] v.past G) (hd : ∀ b ∈ G, b ∉ F) (hnd : F.Nodup) (hlo : ∀ b ∈ F, lo ≤ b) (hl : lo ≤ h.length) (hk : k < l.length)
    (hkey : 0 ≤ v.key ∧ v.key < l[k].store.length) (hn : smNodes l) (hvn : v.past.length ≤ 1048576) :
    ∃ h' F', evl lo 184 [.agg [.sl 2 a l.length c], .int .i64 k, .agg (v.cs av cv)] h = some (.agg [.sl 2 a l.length c], h') ∧ RNodes false h' [.sl 2 a l.length c] (addN l k v) F' ∧ Mv h F h' F' := by
  have hn1 := hn.1
  have hkl : v.key.toNat < l[k].store.length := by omega
  have hsm := hn.2 _ (List.getElem_mem hk)
  suffices hq : ∃ h' F', _ = some (V.agg [.sl 2 a l.length c], h') ∧ RNodes false h' [.sl 2 a l.length c] (addN l k v) F' ∧ Mv h F h' F' from hq.imp fun h' hq => hq.imp fun F' hq => ⟨E_spec_l3Add hq.1, hq.2⟩
  obtain ⟨b, i, rs, row, G0, ha, hbF, hbG, hb, hrow, hel, hGF, hGn, _, put⟩ := hs.at rnode_ok hk hnd hlo
  obtain ⟨t1, t2, F1, F2, rfl, rfl, r1, r2⟩ := hel
  obtain ⟨a1, c1, e1, r1'⟩ := r1.form
  obtain ⟨o, s, _, _, _, ha1, _, _, _, _, _, _, ho12, _⟩ := RVers.all r1' hkl
  have ld0 : ld h b (i + k) 0 1 = some [t1] := by rw [ld_of hb hrow]; rfl
  rw [addN_get hk hkl]
  rw [inB_nat hk]
  simp only [ha, eO_s, Int.toNat_natCast, ld0, eC_c, eN_n, e1]
  rw [inB_in ⟨by omega, by omega⟩]
  simp only [ha1, eO_s, ho12, eC_c, eI_int, eN_n, spec_l1Less, cal_s, eB_b]
  show ∃ h' F', br (lessV l[k].store[v.key.toNat] v) _ _ = _ ∧ _
  cases hle : lessV l[k].store[v.key.toNat] v with
  | false => exact ⟨h, F, rfl, by rw [← ha]; exact hs, Mv.refl hnd⟩
  | true =>
    have hGn0 := hGn
    rw [List.nodup_append] at hGn
    have hGlt : ∀ b ∈ G, b < h.length := rtags_ok.bd _ _ _ _ hv
    obtain ⟨h2, F3, e2, r3, m2⟩ := spec_l2Add (lo := lo) r1' hv hGn.1 (fun y hy => hlo y (hGF y (by simp [hy]))) hl hkey hvn
    have b2' : ∀ y ∈ F2, y < h.length := rvers_ok.bd _ _ _ _ r2
    have m3 := m2.aside (G := F2) hGn0 b2'
    have r2' := m2.keep rvers_ok r2 fun y hy hm => hGn.2.2 y hm y hy rfl
    have hadd : addVer l[k].store v = l[k].store.set v.key.toNat v := by rw [addVer_get hkl, hle, cond_true]
    have hlen : (addVer l[k].store v).length = l[k].store.length := addVer_len
    rw [← hlen] at r3
    obtain ⟨h4, F4, e4, r4, m4, b4, fr4, l4⟩ := put h2 (F3 ++ F2) 0 [.sl 6 a1 (addVer l[k].store v).length c1] [.sl 6 a1 (addVer l[k].store v).length c1, t2] ⟨addVer l[k].store v, l[k].wait⟩ m3 rfl ⟨_, _, F3, F2, rfl, rfl, r3, r2'⟩
    rw [hlen] at e4
    have hv4 : RTags false h4 [.sl 2 av v.past.length cv] v.past G := m4.keep rtags_ok hv hd
    have hk4 : k < (l.set k ⟨addVer l[k].store v, l[k].wait⟩).length := by simpa using hk
    rw [br_t, inB_nat hk]
    simp only [eO_s, ld0, eC_c, e1, eN_n]
    rw [e2]
    simp only [cal_s, eA_a, eC_c, eS_sl, eN_n]
    rw [inB_nat hk, e4]
    simp only [eO_s]
    rw [wr (by omega) (by omega), cond_true]
    by_cases hlast : k + 1 < l.length
    · rw [br_pos (by omega), inB_nat hk, decide_eq_true hlast, cond_true]
      obtain ⟨a6, c6, h6, F6, e6, r6, m6⟩ := spec_l2Copy (lo := h4.length) (v := v) hv4 (Nat.le_refl _) hvn
      have hself : (l.set k ⟨addVer l[k].store v, l[k].wait⟩)[k] = ⟨addVer l[k].store v, l[k].wait⟩ := List.getElem_set_self hk4
      obtain ⟨b7, i7, u2, a7, c7, a8, c8, h8, ha7, ld7, e7, app7, _, st7⟩ := push_wait (lo := lo) r4 hk4 m4.nd (fun y hy => m4.ge hl hlo y hy) (Nat.le_trans hl m4.le) (by rw [hself]; exact hsm.2.1) r6 m6
      simp only [hself] at e7 app7 st7
      obtain ⟨h9, F9, e9, r9, m9⟩ := st7 _ (.inl rfl)
      rw [ha] at ha7
      injection ha7 with ha7
      injection ha7 with hb7 hi7
      subst hb7; subst hi7
      simp only [ld7, eO_s, eC_c, eN_n, e7]
      rw [e6]
      simp only [cal_s, eA_a, eC_c, eI_int, eS_sl, eT_s, eBv_b, eN_n, rows_one]
      rw [app7]
      simp only [eS_sl]
      rw [inB_nat hk, e9]
      rw [List.set_set, hadd] at r9
      exact ⟨h9, F9, rfl, by rw [← ha]; exact r9, m4.trans m9⟩
    · rw [br_neg (by omega), decide_eq_false hlast, cond_false]
      rw [hadd] at r4
      exact ⟨h4, F4, rfl, by rw [← ha]; exact r4, m4⟩
theorem impl_apply {b i j R e : Nat} {rs : List (List V)} {row : List V} (hb : h[b]? = some (.rows R e false rs)) (hrow : rs[i]? = some row) (hcell : row[j]? = some (.sl 2 a l.length c)) (hs : RNodes false h [.sl 2 a l.length c] l F) (hbF : b ∉ F)
    (hv : RTags false h [.sl 2 av v.past.length cv] v.past G) (hd : ∀ b ∈ G, b ∉ F) (hnd : F.Nodup) (hlo : ∀ b ∈ F, lo ≤ b) (hl : lo ≤ h.length) (hk : k < l.length)
    (hkey : 0 ≤ v.key ∧ v.key < l[k].store.length) (hn : smNodes l) (hvn : v.past.length ≤ 1048576) :
    ∃ h' F', evl lo 248 [.ptr (some (b, (i, j))), .int .i64 k, .agg (v.cs av cv)] h = some (.tup [], h') ∧ RNodes false h' [.sl 2 a l.length c] (addN l k v) F' ∧ Mv h F h' F' := by
  have hn1 := hn.1
  have hkl : v.key.toNat < l[k].store.length := by omega
  have hsm := hn.2 _ (List.getElem_mem hk)
  have hblt : b < h.length := (List.getElem?_eq_some_iff.1 hb).1
  have hld : ld h b i j 1 = some [.sl 2 a l.length c] := by rw [ld_of hb hrow]; exact cut_one hcell
  suffices hq : ∃ h' F', _ = some (V.tup [], h') ∧ RNodes false h' [.sl 2 a l.length c] (addN l k v) F' ∧ Mv h F h' F' from hq.imp fun h' hq => hq.imp fun F' hq => ⟨E_impl_Chain_apply hq.1, hq.2⟩
  obtain ⟨a3, c3, h3, F3, e3, r3, m3⟩ := impl_Ver_copied (lo := h.length) (v := v) hv (Nat.le_refl _) hvn
  obtain ⟨b1, i1, t1, o, c1, ha, ld0, e1, ⟨F1, r1⟩, h4, F4, e4, r4, m4⟩ := set_store (lo := lo) hs hk hnd hlo hkl r3 m3
  have hlat := impl_later (lo := lo) (v := v) (ca := av) (cc := cv) (n := v.past.length) r1 (by omega)
  rw [addN_get hk hkl]
  simp only [Nat.add_zero, hld, eO_s, eC_c, eN_n, eS_sl]
  rw [inB_nat hk]
  simp only [ha, eO_s, Int.toNat_natCast, ld0, eC_c, eN_n, e1]
  rw [hlat]
  simp only [cal_s, eB_b]
  cases hle : lessV l[k].store[v.key.toNat] v with
  | false => exact ⟨h, F, rfl, by rw [← ha]; exact hs, Mv.refl hnd⟩
  | true =>
    have hb4 : h4[b]? = some (.rows R e false rs) := by rw [m4.fr b hblt hbF]; exact hb
    have hld4 : ld h4 b i j 1 = some [.sl 2 a l.length c] := by rw [ld_of hb4 hrow]; exact cut_one hcell
    have hv4 : RTags false h4 [.sl 2 av v.past.length cv] v.past G := m4.keep rtags_ok hv hd
    have hk4 : k < (l.set k ⟨l[k].store.set v.key.toNat v, l[k].wait⟩).length := by simpa using hk
    rw [br_t, e3]
    simp only [cal_s, eA_a, eC_c, eI_int, eS_sl, eT_s, eBv_b, eN_n, eO_s, ld0, e1]
    rw [inB_in ⟨by omega, by omega⟩, e4]
    simp only [eO_s, hld4, eC_c, eS_sl, eN_n]
    rw [impl_last hn1]
    simp only [cal_s, eB_b, cond_true]
    by_cases hlast : k + 1 = l.length
    · rw [decide_eq_true hlast, decide_eq_false (by omega), cond_false, br_t]
      exact ⟨h4, F4, rfl, by rw [← ha]; exact r4, m4⟩
    · rw [decide_eq_false hlast, decide_eq_true (by omega), cond_true, br_f]
      obtain ⟨a6, c6, h6, F6, e6, r6, m6⟩ := impl_Ver_copied (lo := h4.length) (v := v) hv4 (Nat.le_refl _) hvn
      have hself : (l.set k ⟨l[k].store.set v.key.toNat v, l[k].wait⟩)[k] = ⟨l[k].store.set v.key.toNat v, l[k].wait⟩ := List.getElem_set_self hk4
      obtain ⟨b7, i7, u2, a7, c7, a8, c8, h8, ha7, ld7, e7, app7, ⟨F8, r8⟩, st7⟩ := push_wait (lo := lo) r4 hk4 m4.nd (fun y hy => m4.ge hl hlo y hy) (Nat.le_trans hl m4.le) (by rw [hself]; exact hsm.2.1) r6 m6
      simp only [hself] at e7 app7 st7 r8
      obtain ⟨h9, F9, e9, r9, m9⟩ := st7 _ (.inr rfl)
      rw [ha] at ha7
      injection ha7 with ha7
      injection ha7 with hb7 hi7
      subst hb7; subst hi7
      simp only [ld7, eO_s, eC_c, eN_n, e7]
      rw [e6]
      simp only [cal_s, eA_a, eC_c, eI_int, eS_sl, eT_s, eBv_b, eN_n, rows_one]
      rw [app7]
      simp only [eS_sl]
      rw [clip_ver r8]
      simp only [cal_s, eS_sl]
      rw [e9]
      rw [List.set_set] at r9
      exact ⟨h9, F9, rfl, by rw [← ha]; exact r9, m4.trans m9⟩
end
end Go.Proofs.YtfhnofppfacemaaGreat
namespace Go.Proofs.YtfhnofppfacemaaGreat
open Go T
set_option linter.unusedVariables false
set_option linter.unusedSimpArgs false
def noted (me : Int) (log : List Ver) (v : Ver) : List Ver := bif decide (v.tag.time > 0) && (v.tag.place == me && !hasTag log v.tag) then log ++ [v] else log
def lastOf (l : List Node) : List Ver := match l.getLast? with
  | some x => x.store
  | none => []
def idle (l : List Node) : Bool := l.all fun x => decide (x.wait.length = 0)
def noteP (p : Place) : Place := ⟨p.me, p.clock, p.chain, (lastOf p.chain).foldl (noted p.me) p.log, p.got, p.fell && !idle p.chain⟩
theorem lastOf_get {l : List Node} (h0 : 0 < l.length) : lastOf l = (l[l.length - 1]'(by omega)).store := by
  unfold lastOf; rw [List.getLast?_eq_getElem?, List.getElem?_eq_getElem (by omega)]
theorem noted_len {me : Int} {log : List Ver} {v : Ver} : (noted me log v).length ≤ log.length + 1 := by
  unfold noted
  cases decide (v.tag.time > 0) && (v.tag.place == me && !hasTag log v.tag) <;> simp

section
variable {lo : Nat} {h : Heap} {F F' : List Nat} {a a' : Option (Nat × Nat)} {c c' : Option Nat}
theorem spec_l4Logged {l : List Ver} {t p : Int} {ro : Bool} (hs : RVers ro h [.sl 6 a l.length c] l F) (hn : l.length ≤ 1048576) :
    evl lo 180 [.sl 6 a l.length c, .agg [.int .i64 t, .int .i64 p]] h = some (.bool (hasTag l ⟨t, p⟩), h) := by
  refine E_spec_l4Logged (h' := h) ?_
  have loop : ∀ m i, m + i = l.length → L_spec_l4Logged_0 h.length a l.length c false (i : Nat) t p h = some (.bool ((l.drop i).any fun v => v.tag.time == t && v.tag.place == p), h) := by
    intro m
    induction m with
    | zero =>
      intro i hi
      rw [L_spec_l4Logged_0.e, br_neg (by omega), List.drop_eq_nil_of_le (by omega)]; rfl
    | succ m ih =>
      intro i hi
      have hil : i < l.length := by omega
      obtain ⟨o, s, _, _, _, ha, _, _, _, _, _, _, ho, _⟩ := RVers.all hs hil
      rw [L_spec_l4Logged_0.e, br_pos (by omega), inB_nat hil]
      simp only [ha, eO_s, Int.toNat_natCast, ho, eC_c, eI_int, eN_n, Bool.and_true]
      rw [wr_succ (show i < 9223372036854775807 by omega), ← ha, ih (i + 1) (by omega), List.drop_eq_getElem_cons hil, List.any_cons]
      cases (l[i].tag.time == t && l[i].tag.place == p) <;> rfl
  exact loop l.length 0 (by omega)
theorem spec_l4Note {p : Place} {a1 a2 a3 : Option (Nat × Nat)} {c1 c2 c3 : Option Nat} {F1 F2 : List Nat} (hs1 : RNodes false h [.sl 2 a1 p.chain.length c1] p.chain F1) (hs2 : RVers false h [.sl 6 a2 p.log.length c2] p.log F2)
    (h0 : 0 < p.chain.length) (h4 : (lastOf p.chain).length = 4) (hd : ∀ b ∈ F1, b ∉ F2) (hnd : F2.Nodup) (hlo : ∀ b ∈ F2, lo ≤ b) (hl : lo ≤ h.length) (hcl : p.chain.length ≤ 1048576) (hlog : p.log.length ≤ 1000000) (hvn : ∀ v ∈ lastOf p.chain, v.past.length ≤ 1048576) :
    ∃ a2' c2' h' F2', evl lo 98 [.agg (p.cs a1 c1 a2 c2 a3 c3)] h = some (.agg ((noteP p).cs a1 c1 a2' c2' a3 c3), h') ∧ RVers false h' [.sl 6 a2' (noteP p).log.length c2'] (noteP p).log F2' ∧ Mv h F2 h' F2' := by
  obtain ⟨o, s1, s2, b1, d1, b2, d2, G1, G2, ha, _, ho1, _, e1, _, q1, _, q3, _⟩ := hs1.get (show p.chain.length - 1 < p.chain.length by omega)
  rw [lastOf_get h0] at h4 hvn
  have two : ∀ (hh : Heap) (F' : List Nat) (ax : Option (Nat × Nat)) (nx : Nat) (cx : Option Nat), Mv h F2 hh F' → ∀ m i (b : Bool), m + i = p.chain.length →
      L_spec_l4Note_2 lo b (i : Nat) p.me p.clock a1 p.chain.length c1 ax nx cx a3 p.got.length c3 p.fell 0 0 0 none 0 (some 0) 0 none 0 (some 0) 0 none 0 (some 0) false hh = some (.agg [.int .i64 p.me, .int .i64 p.clock, .sl 2 a1 p.chain.length c1, .sl 6 ax nx cx, .sl 1 a3 p.got.length c3, .bool (p.fell && !(b && (p.chain.drop i).all fun x => decide (x.wait.length = 0)))], hh) := by
    intro hh F' ax nx cx hm m
    induction m with
    | zero =>
      intro i b hi
      rw [L_spec_l4Note_2.e, br_neg (by omega), List.drop_eq_nil_of_le (by omega)]
      cases p.fell <;> cases b <;> rfl
    | succ m ih =>
      intro i b hi
      have hil : i < p.chain.length := by omega
      obtain ⟨o', _, _, _, _, _, _, _, _, ha', _, _, ho2', _, e2', _⟩ := (hm.keep rnodes_ok hs1 hd).get hil
      rw [L_spec_l4Note_2.e, br_pos (by omega), wr_succ (show i < 9223372036854775807 by omega)]
      cases b with
      | false => rw [br_f, ih (i + 1) false (by omega)]; rfl
      | true =>
        rw [br_t, inB_nat hil]
        simp only [ha', eO_s, Int.toNat_natCast, ho2', eC_c, eN_n, e2']
        rw [← ha', ih (i + 1) true (by omega), ih (i + 1) false (by omega), List.drop_eq_getElem_cons hil, List.all_cons, show (((p.chain[i].wait.length : Nat) : Int) == 0) = decide (p.chain[i].wait.length = 0) by rw [Bool.eq_iff_iff, beq_iff_eq, decide_eq_true_eq]; omega]
        cases decide (p.chain[i].wait.length = 0) <;> rfl
  have one : ∀ m i, m + i = 4 → ∀ hh ax cx (lg : List Ver) Fx, RVers false hh [.sl 6 ax lg.length cx] lg Fx → Mv h F2 hh Fx → lg.length ≤ 1000000 + i → ∃ a' c' h' F',
      L_spec_l4Note_0 lo (i : Nat) p.me p.clock a1 p.chain.length c1 ax lg.length cx a3 p.got.length c3 p.fell 0 0 0 none 0 (some 0) 0 none 0 (some 0) 0 none 0 (some 0) false b1 (p.chain[p.chain.length - 1]'(by omega)).store.length d1 hh =
        L_spec_l4Note_2 lo true 0 p.me p.clock a1 p.chain.length c1 a' (((p.chain[p.chain.length - 1]'(by omega)).store.drop i).foldl (noted p.me) lg).length c' a3 p.got.length c3 p.fell 0 0 0 none 0 (some 0) 0 none 0 (some 0) 0 none 0 (some 0) false h' ∧
      RVers false h' [.sl 6 a' (((p.chain[p.chain.length - 1]'(by omega)).store.drop i).foldl (noted p.me) lg).length c'] (((p.chain[p.chain.length - 1]'(by omega)).store.drop i).foldl (noted p.me) lg) F' ∧ Mv h F2 h' F' := by
    intro m
    induction m with
    | zero =>
      intro i hi hh ax cx lg Fx hr hm hlen
      rw [L_spec_l4Note_0.e, br_neg (by omega), List.drop_eq_nil_of_le (by omega)]
      exact ⟨ax, cx, hh, Fx, rfl, hr, hm⟩
    | succ m ih =>
      intro i hi hh ax cx lg Fx hr hm hlen
      have hil : i < (p.chain[p.chain.length - 1]'(by omega)).store.length := by omega
      have q1' := hm.keep rvers_ok q1 fun y hy => hd y (q3 y hy)
      obtain ⟨o', s', b', d', G', ha', _, _, _, _, _, _, _, ho', es', hp', _⟩ := RVers.all q1' hil
      rw [List.drop_eq_getElem_cons hil, List.foldl_cons]
      rw [L_spec_l4Note_0.e, br_pos (by omega), inB_nat hil]
      simp only [ha', eO_s, Int.toNat_natCast, ho', eC_c, eI_int, es', eT_s, eBv_b, eN_n]
      rw [← ha', wr_succ (show i < 9223372036854775807 by omega), spec_l4Logged hr (by omega)]
      simp only [cal_s, eB_b]
      have stay := ih (i + 1) (by omega) hh ax cx lg Fx hr hm (by omega)
      have hno := @noted.eq_1 p.me lg ((p.chain[p.chain.length - 1]'(by omega)).store[i]'hil)
      cases g1 : decide (((p.chain[p.chain.length - 1]'(by omega)).store[i]'hil).tag.time > 0) with
      | false => rw [br_f, hno, g1]; exact stay
      | true =>
      rw [br_t]
      cases g2 : (((p.chain[p.chain.length - 1]'(by omega)).store[i]'hil).tag.place == p.me) with
      | false => rw [br_f, hno, g1, g2]; exact stay
      | true =>
      rw [br_t]
      cases g3 : hasTag lg ((p.chain[p.chain.length - 1]'(by omega)).store[i]'hil).tag with
      | true => rw [br_t, hno, g1, g2, g3]; exact stay
      | false =>
      rw [br_f, hno, g1, g2, g3]
      obtain ⟨a3', c3', h3, F3, e3, r3, m3⟩ := spec_l2Copy (lo := lo) (v := ((p.chain[p.chain.length - 1]'(by omega)).store[i]'hil)) hp' (Nat.le_trans hl hm.le) (hvn _ (List.getElem_mem hil))
      obtain ⟨a5, c5, h5, F5, e5, r5, m5⟩ := push_one (lo := lo) (bytes := 72) (e := 36) rver_ok hr (row := ((p.chain[p.chain.length - 1]'(by omega)).store[i]'hil).cs a3' c3') (x := ((p.chain[p.chain.length - 1]'(by omega)).store[i]'hil)) (G := F3) (h1 := h3 ++ [.rows 6 36 false [((p.chain[p.chain.length - 1]'(by omega)).store[i]'hil).cs a3' c3']])
        ⟨_, rfl, Mv.snoc.keep0 rtags_ok r3⟩ (m3.trans (Mv.snoc' m3.nd)) hm.nd (fun y hy => hm.ge hl hlo y hy) (Nat.le_trans hl hm.le) (by decide) (by omega)
      rw [e3]
      simp only [cal_s, eA_a, eC_c, eI_int, eS_sl, eT_s, eBv_b, eN_n, rows_one]
      rw [e5]
      simp only [eS_sl]
      have := ih (i + 1) (by omega) h5 a5 c5 (lg ++ [((p.chain[p.chain.length - 1]'(by omega)).store[i]'hil)]) F5 (by rw [List.length_append]; exact r5) (hm.trans m5) (by simp; omega)
      rw [List.length_append] at this
      exact this
  obtain ⟨a', c', h', F', el, r, m⟩ := one 4 0 (by omega) h a2 c2 p.log F2 hs2 (Mv.refl hnd) (by omega)
  refine ⟨a', c', h', F', E_spec_l4Note ?_, ?_, m⟩
  · rw [inB_in ⟨by rw [wr (by omega) (by omega)]; omega, by rw [wr (by omega) (by omega)]; omega⟩, wr (by omega) (by omega), show ((p.chain.length : Int) - 1).toNat = p.chain.length - 1 by omega]
    simp only [ha, eO_s, ho1, eC_c, e1, eN_n]
    rw [← ha]
    refine el.trans ?_
    have := two h' F' a' (((p.chain[p.chain.length - 1]'(by omega)).store.drop 0).foldl (noted p.me) p.log).length c' m p.chain.length 0 true (by omega)
    refine this.trans ?_
    simp only [noteP, Place.cs, lastOf_get h0, List.drop_zero, Bool.true_and, idle]
  · simp only [noteP, lastOf_get h0]
    rw [List.drop_zero] at r
    exact r
end
end Go.Proofs.YtfhnofppfacemaaGreat
namespace Go.Proofs.YtfhnofppfacemaaGreat
open Go T
set_option linter.unusedVariables false
set_option linter.unusedSimpArgs false
/-- a block of one's own, written to -/
theorem Mv.store {h h' : Heap} {F F' : List Nat} {b : Nat} (m : Mv h F h' F') (hb : b < h.length) (hbF : b ∉ F) (X : Blk) :
    Mv h (b :: F) (h'.set b X) (b :: F') ∧ (h'.set b X)[b]? = some X ∧ (∀ y, y ≠ b → (h'.set b X)[y]? = h'[y]?) ∧ b ∉ F' := by
  have hbF' : b ∉ F' := fun hm => by
    rcases m.sub b hm with g | g
    · exact hbF g
    · omega
  have hb' : b < h'.length := Nat.lt_of_lt_of_le hb m.le
  refine ⟨⟨by simpa using m.le, fun y hy hF => ?_, by rw [List.nodup_cons]; exact ⟨hbF', m.nd⟩, fun y hy => ?_⟩, by simp [hb'], fun y hy => List.getElem?_set_ne (Ne.symm hy), hbF'⟩
  · rw [List.mem_cons, not_or] at hF
    rw [List.getElem?_set_ne (Ne.symm hF.1)]
    exact m.fr y hy hF.2
  · rw [List.mem_cons] at hy
    rcases hy with rfl | hy
    · exact .inl (by simp)
    · refine (m.sub y hy).imp (fun g => by simp [g]) fun g => by simpa using g

section
variable {lo : Nat} {ro : Bool} {h : Heap} {F F' : List Nat} {a a' : Option (Nat × Nat)} {c c' : Option Nat}
theorem ContainsFunc_Node {l : List Node} {g : Nat} {cl : List V} {p : Node → Bool} (hs : RNodes ro h [.sl 2 a l.length c] l F) (hn : l.length ≤ 1048576)
    (hp : ∀ lo x a1 c1 a2 c2, x ∈ l → evl lo g (fnArgs [.agg [.sl 6 a1 x.store.length c1, .sl 6 a2 x.wait.length c2]] cl) h = some (.bool (p x), h)) :
    evl lo 237 [.sl 2 a l.length c, .fn g cl] h = some (.bool (l.any p), h) := by
  have loop : ∀ m k x, m + k = l.length → L_slices_IndexFunc_impl_Node_impl_Node_0 (List.length h) a l.length c g cl x (l.length : Nat) (k : Nat) h = some (.int .i64 (firstAt p (l.drop k) k), h) := by
    intro m
    induction m with
    | zero =>
      intro k x hk
      rw [L_slices_IndexFunc_impl_Node_impl_Node_0.e, br_neg (by omega), show k = l.length by omega]
      simp [firstAt]
    | succ m ih =>
      intro k x hk
      have hlt : k < l.length := by omega
      obtain ⟨o, s1, s2, b1, d1, b2, d2, G1, G2, rfl, ho, _, _, e1, e2, _⟩ := hs.get hlt
      rw [L_slices_IndexFunc_impl_Node_impl_Node_0.e, br_pos (by omega), inB_nat (by omega)]
      simp only [eO_s, Int.toNat_natCast, ho, eC_c, e1, e2, eN_n]
      rw [hp (List.length h) l[k] b1 d1 b2 d2 (List.getElem_mem hlt), cal_s, eB_b, List.drop_eq_getElem_cons hlt]
      simp only [firstAt]
      cases p l[k]
      · simp only [br_f, cond_false]; rw [wr_succ (by omega)]; exact ih (k + 1) _ (by omega)
      · simp
  exact E_slices_ContainsFunc_impl_Node_impl_Node (h' := h) (by rw [E_slices_IndexFunc_impl_Node_impl_Node (loop l.length 0 0 (by omega))]; simp only [cal_s, eI_int, br_bool]; rw [firstAt_pos]; simp)
theorem idle_not {l : List Node} : (l.any fun x => decide (x.wait.length > 0)) = !idle l := by
  unfold idle
  induction l with
  | nil => rfl
  | cons x l ih =>
    rw [List.any_cons, List.all_cons, ih, Bool.not_and]
    congr 1
    rw [Bool.eq_iff_iff, Bool.not_eq_true', decide_eq_true_eq, decide_eq_false_iff_not]; omega
theorem impl_record {p : Place} {b : Nat} {a1 a2 a3 : Option (Nat × Nat)} {c1 c2 c3 : Option Nat} {F1 F2 : List Nat} (hb : h[b]? = some (.rows 6 47 false [p.cs a1 c1 a2 c2 a3 c3])) (hs1 : RNodes false h [.sl 2 a1 p.chain.length c1] p.chain F1) (hs2 : RVers false h [.sl 6 a2 p.log.length c2] p.log F2)
    (h0 : 0 < p.chain.length) (h4 : (lastOf p.chain).length = 4) (hd : ∀ y ∈ F1, y ∉ b :: F2) (hnd : (b :: F2).Nodup) (hlo : ∀ y ∈ b :: F2, lo ≤ y) (hl : lo ≤ h.length) (hcl : p.chain.length ≤ 1048576) (hlog : p.log.length ≤ 1000000) (hvn : ∀ v ∈ lastOf p.chain, v.past.length ≤ 1048576)
    (htag : ∀ v ∈ lastOf p.chain, tagOk v.tag.time v.tag.place = true) :
    ∃ a2' c2' h' F2', evl lo 186 [.ptr (some (b, (0, 0)))] h = some (.tup [], h') ∧ h'[b]? = some (.rows 6 47 false [(noteP p).cs a1 c1 a2' c2' a3 c3]) ∧ RVers false h' [.sl 6 a2' (noteP p).log.length c2'] (noteP p).log F2' ∧ Mv h (b :: F2) h' (b :: F2') := by
  have hblt : b < h.length := (List.getElem?_eq_some_iff.1 hb).1
  have hlob := hlo b (by simp)
  have hld2 : ld h b 0 (0 + 2) 1 = some [.sl 2 a1 p.chain.length c1] := by rw [ld_of hb rfl]; rfl
  obtain ⟨b1, d1, G1, e1, q1, q3⟩ := impl_tail (lo := lo) hld2 hs1 h0 hcl
  rw [lastOf_get h0] at h4 hvn htag
  have one : ∀ m i, m + i = 4 → ∀ hh ax cx (lg : List Ver) Fx, hh[b]? = some (.rows 6 47 false [[.int .i64 p.me, .int .i64 p.clock, .sl 2 a1 p.chain.length c1, .sl 6 ax lg.length cx, .sl 1 a3 p.got.length c3, .bool p.fell]]) → RVers false hh [.sl 6 ax lg.length cx] lg Fx → Mv h (b :: F2) hh (b :: Fx) → lg.length ≤ 1000000 + i → ∃ a' c' h' F',
      L_impl_Place_record_0 lo b 0 0 b1 (p.chain[p.chain.length - 1]'(by omega)).store.length d1 ((p.chain[p.chain.length - 1]'(by omega)).store.length : Nat) (i : Nat) hh =
        L_impl_Place_record_0 lo b 0 0 b1 (p.chain[p.chain.length - 1]'(by omega)).store.length d1 ((p.chain[p.chain.length - 1]'(by omega)).store.length : Nat) (4 : Nat) h' ∧
      h'[b]? = some (.rows 6 47 false [[.int .i64 p.me, .int .i64 p.clock, .sl 2 a1 p.chain.length c1, .sl 6 a' (((p.chain[p.chain.length - 1]'(by omega)).store.drop i).foldl (noted p.me) lg).length c', .sl 1 a3 p.got.length c3, .bool p.fell]]) ∧
      RVers false h' [.sl 6 a' (((p.chain[p.chain.length - 1]'(by omega)).store.drop i).foldl (noted p.me) lg).length c'] (((p.chain[p.chain.length - 1]'(by omega)).store.drop i).foldl (noted p.me) lg) F' ∧ Mv h (b :: F2) h' (b :: F') := by
    intro m
    induction m with
    | zero =>
      intro i hi hh ax cx lg Fx hbb hr hm hlen
      rw [List.drop_eq_nil_of_le (by omega), show i = 4 by omega]
      exact ⟨ax, cx, hh, Fx, rfl, hbb, hr, hm⟩
    | succ m ih =>
      intro i hi hh ax cx lg Fx hbb hr hm hlen
      have hil : i < (p.chain[p.chain.length - 1]'(by omega)).store.length := by omega
      have q1' := hm.keep rvers_ok q1 fun y hy => hd y (q3 y hy)
      obtain ⟨o', s', b', d', G', ha', _, _, _, _, _, _, _, ho', es', hp', _⟩ := RVers.all q1' hil
      have hmem := List.getElem_mem hil
      have ht0 := tagOk_zero (htag _ hmem)
      have stay := ih (i + 1) (by omega) hh ax cx lg Fx hbb hr hm (by omega)
      have hno := @noted.eq_1 p.me lg ((p.chain[p.chain.length - 1]'(by omega)).store[i]'hil)
      have l0 : ld hh b 0 (0 + 0) 1 = some [.int .i64 p.me] := by rw [ld_of hbb rfl]; rfl
      have l3 : ld hh b 0 (0 + 3) 1 = some [.sl 6 ax lg.length cx] := by rw [ld_of hbb rfl]; rfl
      rw [List.drop_eq_getElem_cons hil, List.foldl_cons]
      generalize hx : ((p.chain[p.chain.length - 1]'(by omega)).store[i]'hil) = x at *
      rw [L_impl_Place_record_0.e, br_pos (by omega), inB_nat hil]
      simp only [ha', eO_s, Int.toNat_natCast, ho', eC_c, eI_int, es', eT_s, eBv_b, eN_n, l0, l3, eS_sl]
      rw [← ha', wr_succ (show i < 9223372036854775807 by omega), impl_hasTag hr (by omega), Bool.and_true]
      simp only [cal_s, eB_b, l3, eO_s, eC_c, eN_n, eS_sl]
      cases g1 : decide (x.tag.time > 0) with
      | false =>
        rw [g1, Bool.not_eq_false'] at ht0
        rw [ht0, br_t, hno, g1]; exact stay
      | true =>
      rw [g1, Bool.not_eq_true'] at ht0
      rw [ht0, br_f]
      cases g2 : (x.tag.place == p.me) with
      | false => rw [br_f, hno, g1, g2]; exact stay
      | true =>
      rw [br_t]
      cases g3 : hasTag lg x.tag with
      | true => rw [br_t, hno, g1, g2, g3]; exact stay
      | false =>
      rw [br_f, hno, g1, g2, g3]
      have hnx := hm.nd
      rw [List.nodup_cons] at hnx
      obtain ⟨a3', c3', h3, F3, e3, r3, m3⟩ := impl_Ver_copied (lo := hh.length) (v := x) hp' (Nat.le_refl _) (hvn _ hmem)
      obtain ⟨a5, c5, h5, F5, e5, r5, m5⟩ := push_one (lo := lo) (bytes := 72) (e := 36) rver_ok hr (row := x.cs a3' c3') (x := x) (G := F3) (h1 := h3 ++ [.rows 6 36 false [x.cs a3' c3']])
        ⟨_, rfl, Mv.snoc.keep0 rtags_ok r3⟩ (m3.trans (Mv.snoc' m3.nd)) hnx.2 (fun y hy => hm.ge hl hlo y (by simp [hy])) (Nat.le_trans hl hm.le) (by decide) (by omega)
      have hblth : b < hh.length := Nat.lt_of_lt_of_le hblt hm.le
      have hb5 : h5[b]? = hh[b]? := m5.fr b hblth hnx.1
      rw [hbb] at hb5
      have e6 := st_first (cs := [.sl 6 a5 (lg.length + 1) c5]) (j := 0 + 3) (r := 0) (row := [.int .i64 p.me, .int .i64 p.clock, .sl 2 a1 p.chain.length c1, .sl 6 ax lg.length cx, .sl 1 a3 p.got.length c3, .bool p.fell]) hb5 hlob rfl (paste_one (by simp))
      obtain ⟨m6, b6, k6, n6⟩ := m5.store hblth hnx.1 (.rows 6 47 false [[.int .i64 p.me, .int .i64 p.clock, .sl 2 a1 p.chain.length c1, .sl 6 a5 (lg.length + 1) c5, .sl 1 a3 p.got.length c3, .bool p.fell]])
      rw [e3]
      simp only [cal_s, eA_a, eC_c, eI_int, eS_sl, eT_s, eBv_b, eN_n, rows_one]
      rw [e5]
      simp only [eS_sl]
      rw [e6]
      simp only [eO_s]
      have := ih (i + 1) (by omega) (h5.set b (.rows 6 47 false [[.int .i64 p.me, .int .i64 p.clock, .sl 2 a1 p.chain.length c1, .sl 6 a5 (lg.length + 1) c5, .sl 1 a3 p.got.length c3, .bool p.fell]])) a5 c5 (lg ++ [x]) F5 (by rw [List.length_append]; exact b6) (by rw [List.length_append]; exact rvers_ok.fr _ _ _ _ _ r5 fun y hy => k6 y fun e => n6 (e ▸ hy)) (hm.trans m6) (by simp; omega)
      exact this
  obtain ⟨a', c', h', F', el, hb', r, m⟩ := one 4 0 (by omega) h a2 c2 p.log F2 hb hs2 (Mv.refl hnd) (by omega)
  rw [List.drop_zero] at hb' r
  generalize hres : (p.chain[p.chain.length - 1]'(by omega)).store.foldl (noted p.me) p.log = res at hb' r
  have hnl : (noteP p).log = res := by simp only [noteP, lastOf_get h0, hres]
  have hblt' : b < h'.length := Nat.lt_of_lt_of_le hblt m.le
  have hnx := m.nd
  rw [List.nodup_cons] at hnx
  have l3 : ld h' b 0 (0 + 3) 1 = some [.sl 6 a' res.length c'] := by rw [ld_of hb' rfl]; rfl
  have e6 := st_first (cs := [.sl 6 a' res.length (some res.length)]) (j := 0 + 3) (r := 0) (row := [.int .i64 p.me, .int .i64 p.clock, .sl 2 a1 p.chain.length c1, .sl 6 a' res.length c', .sl 1 a3 p.got.length c3, .bool p.fell]) hb' hlob rfl (paste_one (by simp))
  obtain ⟨m6, b6, k6, n6⟩ := (Mv.refl (h := h') hnx.2).store hblt' hnx.1 (.rows 6 47 false [[.int .i64 p.me, .int .i64 p.clock, .sl 2 a1 p.chain.length c1, .sl 6 a' res.length (some res.length), .sl 1 a3 p.got.length c3, .bool p.fell]])
  generalize hh6 : h'.set b (.rows 6 47 false [[.int .i64 p.me, .int .i64 p.clock, .sl 2 a1 p.chain.length c1, .sl 6 a' res.length (some res.length), .sl 1 a3 p.got.length c3, .bool p.fell]]) = h6 at m6 b6 k6
  have e6' : st lo h' b 0 (0 + 3) [.sl 6 a' res.length (some res.length)] = some h6 := by rw [← hh6]; exact e6
  have r6 : RVers false h6 [.sl 6 a' res.length (some res.length)] res F' := rvers_ok.fr _ _ _ _ _ r.clip fun y hy => k6 y fun e => hnx.1 (e ▸ hy)
  have l2 : ld h6 b 0 (0 + 2 + 0) 1 = some [.sl 2 a1 p.chain.length c1] := by rw [ld_of b6 rfl]; rfl
  have m7 := m.trans m6
  have ec := ContainsFunc_Node (lo := lo) (g := 249) (cl := []) (p := fun x => decide (x.wait.length > 0)) (m7.keep rnodes_ok hs1 hd) hcl (fun lo x a1 c1 a2 c2 _ => E_impl_Place_record_1 (h' := h6) (by
    by_cases hw : x.wait.length > 0
    · rw [br_pos (by omega), decide_eq_true hw]
    · rw [br_neg (by omega), decide_eq_false hw]))
  rw [idle_not] at ec
  suffices hq : ∃ a2' c2' h' F2', _ = some (V.tup [], h') ∧ h'[b]? = some (.rows 6 47 false [(noteP p).cs a1 c1 a2' c2' a3 c3]) ∧ RVers false h' [.sl 6 a2' (noteP p).log.length c2'] (noteP p).log F2' ∧ Mv h (b :: F2) h' (b :: F2') from hq.imp fun _ hq => hq.imp fun _ hq => hq.imp fun _ hq => hq.imp fun _ hq => ⟨E_impl_Place_record hq.1, hq.2⟩
  rw [e1]
  simp only [cal_s, eA_a, eC_c, eS_sl, eN_n]
  rw [show (0 : Int) = ((0 : Nat) : Int) from rfl, el, L_impl_Place_record_0.e, br_neg (by omega)]
  simp only [l3, eO_s, eC_c, eS_sl, eN_n]
  rw [clip_ver r]
  simp only [cal_s, eS_sl]
  rw [e6']
  simp only [eO_s, l2, eC_c, eS_sl, eN_n]
  rw [ec]
  simp only [cal_s, eB_b]
  have hcs : ∀ f : Bool, f = (p.fell && !idle p.chain) → ([.int .i64 p.me, .int .i64 p.clock, .sl 2 a1 p.chain.length c1, .sl 6 a' res.length (some res.length), .sl 1 a3 p.got.length c3, .bool f] : List V) = (noteP p).cs a1 c1 a' (some res.length) a3 c3 := by
    intro f hf
    simp only [Place.cs, hnl]
    rw [hf]; rfl
  cases hi : idle p.chain with
  | false =>
    rw [hi] at hcs
    rw [Bool.not_false, br_t]
    refine ⟨a', some res.length, h6, F', rfl, ?_, by rw [hnl]; exact r6, m7⟩
    rw [b6, hcs p.fell (by simp)]
  | true =>
    rw [hi] at hcs
    rw [Bool.not_true, br_f]
    have e8 := st_first (cs := [.bool false]) (j := 0 + 5) (r := 0) (row := [.int .i64 p.me, .int .i64 p.clock, .sl 2 a1 p.chain.length c1, .sl 6 a' res.length (some res.length), .sl 1 a3 p.got.length c3, .bool p.fell]) b6 hlob rfl (paste_one (by simp))
    obtain ⟨m8, b8, k8, n8⟩ := (Mv.refl (h := h6) hnx.2).store (Nat.lt_of_lt_of_le hblt m7.le) hnx.1 (.rows 6 47 false [[.int .i64 p.me, .int .i64 p.clock, .sl 2 a1 p.chain.length c1, .sl 6 a' res.length (some res.length), .sl 1 a3 p.got.length c3, .bool false]])
    rw [e8]
    simp only [eO_s]
    refine ⟨a', some res.length, _, F', rfl, ?_, by rw [hnl]; exact rvers_ok.fr _ _ _ _ _ r6 fun y hy => k8 y fun e => hnx.1 (e ▸ hy), m7.trans m8⟩
    rw [← hcs false (by simp)]
    exact b8
end
end Go.Proofs.YtfhnofppfacemaaGreat
namespace Go.Proofs.YtfhnofppfacemaaGreat
open Go T
set_option linter.unusedVariables false
set_option linter.unusedSimpArgs false
def thin (v : Ver) : Prop := v.past.length ≤ 4 ∧ v.text.size ≤ 8 ∧ tagOk v.tag.time v.tag.place = true
def nodeIn (nw : Nat) (x : Node) : Prop := x.store.length = 4 ∧ x.wait.length ≤ nw ∧ (∀ v ∈ x.store, thin v) ∧ ∀ v ∈ x.wait, thin v
/-- bounds: nodes, what waits, logs -/
structure Tidy (nc nw nl : Nat) (p : Place) : Prop where
  len : p.chain.length ≤ nc
  node : ∀ x ∈ p.chain, nodeIn nw x
  log : p.log.length ≤ nl ∧ ∀ v ∈ p.log, thin v
  got : p.got.length ≤ 3 ∧ ∀ l ∈ p.got, l.length ≤ nl ∧ ∀ v ∈ l, thin v

theorem thin_ok {v : Ver} (h : verOk v = true) : thin v := by
  obtain ⟨_, h2, _, h3, h4, _⟩ := verOk_parts h
  have := textOk_size h2
  have := pastOk_len h3
  exact ⟨by omega, by omega, h4⟩
theorem thin_zero {v : Ver} (h : zeroVer v = true) : thin v := by
  rw [zero_is h]; exact ⟨by simp, by show 0 ≤ 8; omega, rfl⟩
theorem thin_at {i : Nat} {v : Ver} (h : verAt i v = true) : thin v := (verAt_case h).elim thin_zero fun h => thin_ok h.1
theorem log_parts {m : Int} {l : List Ver} (h : logOk m l = true) : l.length ≤ 60 ∧ ∀ i (hi : i < l.length), verOk l[i] = true ∧ l[i].tag.place = m ∧ hasTag (l.take i) l[i].tag = false := by
  unfold logOk at h
  rw [Bool.and_eq_true, all_zipIdx, decide_eq_true_eq] at h
  refine ⟨by omega, fun i hi => ?_⟩
  have := h.1 i hi
  simp only [logAt, Bool.and_eq_true, beq_iff_eq, Bool.not_eq_true'] at this
  exact ⟨this.1.1, this.1.2, this.2⟩
theorem log_thin {m : Int} {l : List Ver} (h : logOk m l = true) : l.length ≤ 60 ∧ ∀ v ∈ l, thin v := by
  obtain ⟨h1, h2⟩ := log_parts h
  refine ⟨h1, fun v hv => ?_⟩
  obtain ⟨i, hi, rfl⟩ := List.mem_iff_getElem.1 hv
  exact thin_ok (h2 i hi).1
theorem node_thin {x : Node} (h : nodeOk x = true) : nodeIn 6 x := by
  obtain ⟨h1, h2, h3⟩ := nodeOk_parts h
  refine ⟨storeOk_len h1, h2, fun v hv => ?_, fun v hv => thin_ok (h3 v hv)⟩
  obtain ⟨i, hi, rfl⟩ := List.mem_iff_getElem.1 hv
  exact thin_at (storeOk_get h1 hi)
theorem ok_parts {p : Place} (h : placeOk p = true) : (0 ≤ p.me ∧ p.me ≤ 2) ∧ (0 ≤ p.clock ∧ p.clock ≤ 999) ∧ p.got.length = 3 ∧ chainOk p.chain = true ∧ causesOk p.chain = true ∧ logOk p.me p.log = true ∧
    (∀ i (hi : i < p.got.length), gotAt p.me i p.got[i] = true) ∧ headOk p.chain p.clock = true := by
  unfold placeOk at h
  simp only [Bool.and_eq_true, all_zipIdx, decide_eq_true_eq, within] at h
  obtain ⟨⟨⟨⟨⟨⟨⟨h1, h2⟩, h3⟩, h4⟩, h5⟩, h6⟩, h7⟩, h8⟩ := h
  exact ⟨h1, h2, h3, h4, h5, h6, h7, h8⟩
theorem got_log {p : Place} (h : placeOk p = true) {i : Nat} (hi : i < p.got.length) : logOk i p.got[i] = true := by
  have := (ok_parts h).2.2.2.2.2.2.1 i hi
  unfold gotAt at this
  rw [Bool.and_eq_true] at this
  exact this.1
theorem tidy_ok {p : Place} (h : placeOk p = true) : Tidy 4 6 60 p := by
  obtain ⟨_, _, h3, h4, _, h6, h7, _⟩ := ok_parts h
  obtain ⟨g1, g2⟩ := chainOk_all h4
  refine ⟨g1.2, fun x hx => node_thin (g2 x hx), log_thin h6, by omega, fun l hl => ?_⟩
  obtain ⟨i, hi, rfl⟩ := List.mem_iff_getElem.1 hl
  exact log_thin (got_log h hi)

theorem mkN_all {α : Type} {w : α → Nat} {c : Nat} : ∀ {l : List α}, (∀ v ∈ l, w v ≤ c) → mkN w l ≤ c * l.length
  | [], _ => by simp [mkN]
  | x :: l, h => by
    have h1 := mkN_all (w := w) (l := l) fun v hv => h v (by simp [hv])
    have h2 := h x (by simp)
    simp only [mkN, List.map_cons, List.sum_cons, List.length_cons, Nat.mul_add, Nat.mul_one] at h1 ⊢
    omega
theorem thin_w {v : Ver} (h : thin v) : wVer v ≤ 13 := by
  have := h.1
  unfold wVer
  rw [mkN_tag]; omega
theorem thin_sm {l : List Ver} (hl : l.length ≤ 1048576) (h : ∀ v ∈ l, thin v) : smVers l := ⟨hl, fun v hv => by have := h v hv; exact ⟨by have := this.1; omega, by have := this.2.1; omega⟩⟩
theorem thin_ws {l : List Ver} (h : ∀ v ∈ l, thin v) : wVers l ≤ 13 * l.length := mkN_all fun v hv => thin_w (h v hv)
theorem node_sm {nw : Nat} {x : Node} (h : nodeIn nw x) (hw : nw ≤ 100) : smVers x.store ∧ smVers x.wait := by
  obtain ⟨h1, h2, h3, h4⟩ := h
  exact ⟨thin_sm (by omega) h3, thin_sm (by omega) h4⟩
theorem node_w {nw : Nat} {x : Node} (h : nodeIn nw x) (hw : nw ≤ 100) : wNode x ≤ 1352 := by
  obtain ⟨h1, h2, h3, h4⟩ := h
  have := thin_ws h3
  have := thin_ws h4
  unfold wNode
  omega
theorem tidy_smN {nc nw nl : Nat} {p : Place} (h : Tidy nc nw nl p) (h1 : nc ≤ 100) (h2 : nw ≤ 100) : smNodes p.chain := ⟨by have := h.len; omega, fun x hx => node_sm (h.node x hx) h2⟩
theorem tidy_sm {nc nw nl : Nat} {p : Place} (h : Tidy nc nw nl p) (h1 : nc ≤ 100) (h2 : nw ≤ 100) (h3 : nl ≤ 1000) : smPlace p ∧ (1 : Int) + wPlace p ≤ big := by
  have g1 := h.len
  have g2 := h.log.1
  have g3 := h.got.1
  refine ⟨⟨tidy_smN h h1 h2, thin_sm (by omega) h.log.2, by omega, fun l hl => thin_sm (by have := (h.got.2 l hl).1; omega) (h.got.2 l hl).2⟩, ?_⟩
  have e1 : wNodes p.chain ≤ 1352 * p.chain.length := mkN_all fun x hx => node_w (h.node x hx) h2
  have e2 := thin_ws h.log.2
  have e3 : wVss p.got ≤ 13000 * p.got.length := mkN_all fun l hl => by
    have := thin_ws (h.got.2 l hl).2
    have := (h.got.2 l hl).1
    omega
  simp only [wPlace, big]
  omega
theorem tidy_add {nc nw nl k : Nat} {t : Int} {v : Ver} {p : Place} (h : Tidy nc nw nl p) (hv : thin v) : Tidy nc (nw + 1) nl ⟨p.me, t, addN p.chain k v, p.log, p.got, p.fell⟩ := by
  have hx : ∀ x, x ∈ p.chain → nodeIn (nw + 1) x := fun x hx => by obtain ⟨g1, g2, g3⟩ := h.node x hx; exact ⟨g1, by omega, g3⟩
  have key : (addN p.chain k v).length ≤ nc ∧ ∀ x ∈ addN p.chain k v, nodeIn (nw + 1) x := by
    unfold addN
    split
    · rename_i x hk
      split
      · rename_i u hu
        cases lessV u v with
        | false => exact ⟨h.len, hx⟩
        | true =>
          rw [cond_true]
          refine ⟨by simpa using h.len, fun y hy => ?_⟩
          rcases List.mem_or_eq_of_mem_set hy with hy | rfl
          · exact hx y hy
          · obtain ⟨g1, g2, g3, g4⟩ := h.node x (List.mem_of_getElem? hk)
            refine ⟨by simpa using g1, ?_, fun w hw => ?_, ?_⟩
            · cases decide (k + 1 < p.chain.length)
              · show x.wait.length ≤ nw + 1; omega
              · show (x.wait ++ [v]).length ≤ nw + 1; simp; omega
            · rcases List.mem_or_eq_of_mem_set hw with hw | rfl
              · exact g3 w hw
              · exact hv
            · cases decide (k + 1 < p.chain.length)
              · exact g4
              · intro w hw
                rcases List.mem_append.1 hw with hw | hw
                · exact g4 w hw
                · rw [List.mem_singleton] at hw; subst hw; exact hv
      · exact ⟨h.len, hx⟩
    · exact ⟨h.len, hx⟩
  exact ⟨key.1, key.2, h.log, h.got⟩
theorem noted_all {me : Int} : ∀ {l log : List Ver}, (l.foldl (noted me) log).length ≤ log.length + l.length ∧ ∀ v ∈ l.foldl (noted me) log, v ∈ log ∨ v ∈ l
  | [], log => ⟨by simp, fun v hv => .inl hv⟩
  | x :: l, log => by
    obtain ⟨h1, h2⟩ := noted_all (me := me) (l := l) (log := noted me log x)
    have h3 := noted_len (me := me) (log := log) (v := x)
    rw [List.foldl_cons]
    refine ⟨by rw [List.length_cons]; omega, fun v hv => ?_⟩
    rcases h2 v hv with g | g
    · unfold noted at g
      cases hb : (decide (x.tag.time > 0) && (x.tag.place == me && !hasTag log x.tag)) with
      | true =>
        rw [hb, cond_true] at g
        rcases List.mem_append.1 g with g | g
        · exact .inl g
        · rw [List.mem_singleton] at g; exact .inr (by simp [g])
      | false =>
        rw [hb, cond_false] at g
        exact .inl g
    · exact .inr (by simp [g])
theorem lastOf_mem {l : List Node} (h0 : 0 < l.length) : ∃ x ∈ l, lastOf l = x.store := ⟨_, List.getElem_mem (show l.length - 1 < l.length by omega), lastOf_get h0⟩
theorem tidy_note {nc nw nl : Nat} {p : Place} (h : Tidy nc nw nl p) : Tidy nc nw (nl + 4) (noteP p) := by
  obtain ⟨h1, h2⟩ := noted_all (me := p.me) (l := lastOf p.chain) (log := p.log)
  have hlast : (lastOf p.chain).length ≤ 4 ∧ ∀ v ∈ lastOf p.chain, thin v := by
    by_cases h0 : 0 < p.chain.length
    · obtain ⟨x, hx, e⟩ := lastOf_mem h0
      obtain ⟨g1, _, g3, _⟩ := h.node x hx
      rw [e]; exact ⟨by omega, g3⟩
    · have : p.chain = [] := List.eq_nil_of_length_eq_zero (by omega)
      rw [this]; exact ⟨by simp [lastOf], fun v hv => by simp [lastOf] at hv⟩
  refine ⟨h.len, h.node, ⟨?_, fun v hv => ?_⟩, h.got.1, fun l hl => ⟨by have := (h.got.2 l hl).1; omega, (h.got.2 l hl).2⟩⟩
  · have := h.log.1
    show ((lastOf p.chain).foldl (noted p.me) p.log).length ≤ nl + 4
    omega
  · rcases h2 v hv with g | g
    · exact h.log.2 v g
    · exact hlast.2 v g
end Go.Proofs.YtfhnofppfacemaaGreat
namespace Go.Proofs.YtfhnofppfacemaaGreat
open Go T
set_option linter.unusedVariables false
set_option linter.unusedSimpArgs false
def roomAt (l : List Node) (k : Nat) : Bool := match l[k]? with
  | some x => decide (x.wait.length < 6)
  | none => false
def addP (p : Place) (k : Nat) (t : Int) (v : Ver) : Place := ⟨p.me, t, addN p.chain k v, p.log, p.got, p.fell⟩
theorem roomAt_get {l : List Node} {k : Nat} (hk : k < l.length) : roomAt l k = decide (l[k].wait.length < 6) := by unfold roomAt; rw [List.getElem?_eq_getElem hk]
theorem addN_len {l : List Node} {k : Nat} {v : Ver} : (addN l k v).length = l.length := by
  unfold addN
  split
  · split
    · cases lessV _ v <;> simp
    · rfl
  · rfl
section
variable {lo : Nat} {ro : Bool} {h : Heap} {F F' : List Nat} {a a' : Option (Nat × Nat)} {c c' : Option Nat}
theorem spec_l3Room {l : List Node} (hs : RNodes ro h [.sl 2 a l.length c] l F) (h0 : 0 < l.length) : evl lo 188 [.agg [.sl 2 a l.length c]] h = some (.bool (roomAt l 0), h) := by
  refine E_spec_l3Room (h' := h) ?_
  obtain ⟨o, s1, s2, b1, d1, b2, d2, G1, G2, ha, _, _, ho2, _, e2, _⟩ := hs.get h0
  rw [roomAt_get h0, show (0 : Int) = ((0 : Nat) : Int) from rfl, inB_nat h0]
  simp only [ha, eO_s, Int.toNat_natCast, ho2, eC_c, e2, eN_n]
  by_cases hw : l[0].wait.length < 6
  · rw [br_pos (by omega), decide_eq_true hw]
  · rw [br_neg (by omega), decide_eq_false hw]
theorem impl_full {b i j k : Nat} {l : List Node} (hld : ld h b i j 1 = some [.sl 2 a l.length c]) (hs : RNodes ro h [.sl 2 a l.length c] l F) (hk : k < l.length) : evl lo 196 [.ptr (some (b, (i, j))), .int .i64 (k : Nat)] h = some (.bool (!roomAt l k), h) := by
  refine E_impl_Chain_full (h' := h) ?_
  obtain ⟨o, s1, s2, b1, d1, b2, d2, G1, G2, ha, _, _, ho2, _, e2, _⟩ := hs.get hk
  rw [Nat.add_zero, hld]
  simp only [eO_s, eC_c, eN_n, eS_sl]
  rw [roomAt_get hk, inB_nat hk]
  simp only [ha, eO_s, Int.toNat_natCast, ho2, eC_c, e2, eN_n]
  by_cases hw : l[k].wait.length < 6
  · rw [br_neg (by omega), decide_eq_true hw]; rfl
  · rw [br_pos (by omega), decide_eq_false hw]; rfl
/-- a version comes to a node, and what is to be told is noted -/
theorem spec_addnote {p : Place} {v : Ver} {k : Nat} {t : Int} {a1 a2 a3 av : Option (Nat × Nat)} {c1 c2 c3 cv : Option Nat} {F1 F2 G : List Nat} (hs1 : RNodes false h [.sl 2 a1 p.chain.length c1] p.chain F1) (hs2 : RVers false h [.sl 6 a2 p.log.length c2] p.log F2)
    (hv : RTags false h [.sl 2 av v.past.length cv] v.past G) (hvd : ∀ b ∈ G, b ∉ F1) (hnd : (F1 ++ F2).Nodup) (hlo : ∀ b ∈ F1 ++ F2, lo ≤ b) (hl : lo ≤ h.length) (hk : k < p.chain.length) (hkey : 0 ≤ v.key ∧ v.key ≤ 3)
    (ht : Tidy 10 20 100 p) (hvt : thin v) :
    ∃ h2 a2' c2' h3 F1' F2', evl lo 184 [.agg [.sl 2 a1 p.chain.length c1], .int .i64 k, .agg (v.cs av cv)] h = some (.agg [.sl 2 a1 p.chain.length c1], h2) ∧
      evl lo 98 [.agg ((addP p k t v).cs a1 c1 a2 c2 a3 c3)] h2 = some (.agg ((noteP (addP p k t v)).cs a1 c1 a2' c2' a3 c3), h3) ∧
      RNodes false h3 [.sl 2 a1 (noteP (addP p k t v)).chain.length c1] (noteP (addP p k t v)).chain F1' ∧ RVers false h3 [.sl 6 a2' (noteP (addP p k t v)).log.length c2'] (noteP (addP p k t v)).log F2' ∧ Mv h (F1 ++ F2) h3 (F1' ++ F2') := by
  have ta := tidy_add (k := k) (t := t) ht hvt
  have hn := tidy_smN ht (by decide) (by decide)
  have hsto := (ht.node _ (List.getElem_mem hk)).1
  have hnd' := hnd
  rw [List.nodup_append] at hnd'
  obtain ⟨h2, F1', e2, r2, m2⟩ := spec_l3Add (lo := lo) hs1 hv hvd hnd'.1 (fun b hb => hlo b (by simp [hb])) hl hk ⟨hkey.1, by omega⟩ hn (by have := hvt.1; omega)
  rw [← addN_len (k := k) (v := v)] at r2
  have b2 : ∀ y ∈ F2, y < h.length := rvers_ok.bd _ _ _ _ hs2
  have m3 := m2.aside (G := F2) hnd b2
  have hs2' := m2.keep rvers_ok hs2 fun y hy hm => hnd'.2.2 y hm y hy rfl
  have nd3 := m3.nd
  rw [List.nodup_append] at nd3
  have h0 : 0 < (addP p k t v).chain.length := by show 0 < (addN p.chain k v).length; rw [addN_len]; omega
  obtain ⟨x, hx, hxe⟩ := lastOf_mem h0
  have hxn := ta.node x hx
  have hl2 := m2.le
  obtain ⟨a2', c2', h3, F2', e3, r3, m4⟩ := spec_l4Note (lo := lo) (p := addP p k t v) (a3 := a3) (c3 := c3) r2 hs2' h0 (by rw [hxe]; exact hxn.1) (fun y hy hy2 => nd3.2.2 y hy y hy2 rfl) hnd'.2.1 (fun b hb => hlo b (by simp [hb])) (by omega) (Nat.le_trans ta.len (by decide)) (Nat.le_trans ta.log.1 (by decide))
    (fun w hw => by rw [hxe] at hw; have := (hxn.2.2.1 w hw).1; omega)
  have r2' := m4.keep rnodes_ok r2 fun y hy hy2 => nd3.2.2 y hy y hy2 rfl
  have b1 : ∀ y ∈ F1', y < h2.length := rnodes_ok.bd _ _ _ _ r2
  have m5 := (m4.aside (G := F1') (by rw [List.nodup_append]; exact ⟨nd3.2.1, nd3.1, fun x hx y hy e => nd3.2.2 y hy x hx e.symm⟩) b1).swap
  exact ⟨h2, a2', c2', h3, F1', F2', e2, e3, r2', r3, m3.trans m5⟩
end
end Go.Proofs.YtfhnofppfacemaaGreat
namespace Go.Proofs.YtfhnofppfacemaaGreat
open Go T
set_option linter.unusedVariables false
set_option linter.unusedSimpArgs false
def setClock (p : Place) (t : Int) : Place := ⟨p.me, t, p.chain, p.log, p.got, p.fell⟩
def newer (t c : Int) : Int := if t > c then t else c

theorem three {h h1 h2 : Heap} {b : Nat} {G1 G1' G2 G2' G3 : List Nat} (m1 : Mv h G1 h1 G1') (m2 : Mv h1 (b :: G2) h2 (b :: G2')) (hnd : (b :: (G1 ++ (G2 ++ G3))).Nodup) (hb : ∀ y ∈ b :: (G1 ++ (G2 ++ G3)), y < h.length) :
    Mv h (b :: (G1 ++ (G2 ++ G3))) h2 (b :: (G1' ++ (G2' ++ G3))) ∧ (∀ y ∈ G1', y ∉ b :: G2) ∧ (∀ y ∈ G3, y ∉ G1) ∧ ∀ y ∈ G3, y ∉ b :: G2 := by
  rw [List.nodup_cons, List.nodup_append, List.mem_append, List.mem_append, List.nodup_append] at hnd
  obtain ⟨n1, n2, ⟨n3, n4, n5⟩, n6⟩ := hnd
  simp only [not_or] at n1
  have hbb := hb b (by simp)
  have hb1 : ∀ y ∈ G1, y < h.length := fun y hy => hb y (by simp [hy])
  have hb2 : ∀ y ∈ G2, y < h.length := fun y hy => hb y (by simp [hy])
  have hb3 : ∀ y ∈ G3, y < h.length := fun y hy => hb y (by simp [hy])
  have l1 := m1.le
  have l2 := m2.le
  have d1 : ∀ y ∈ G1', y ∉ b :: G2 := fun y hy hm => by
    rcases m1.sub y hy with g | g
    · rcases List.mem_cons.1 hm with rfl | hm
      · exact n1.1 g
      · exact n6 y g y (by simp [hm]) rfl
    · rcases List.mem_cons.1 hm with rfl | hm
      · omega
      · have := hb2 y hm; omega
  have d2 : ∀ y ∈ G3, y ∉ G1 := fun y hy hm => n6 y hm y (by simp [hy]) rfl
  have d3 : ∀ y ∈ G3, y ∉ b :: G2 := fun y hy hm => by
    rcases List.mem_cons.1 hm with rfl | hm
    · exact n1.2.2 hy
    · exact n5 y hm y hy rfl
  have nd2 := m2.nd
  rw [List.nodup_cons] at nd2
  have s1 : ∀ y ∈ G1', y < h1.length := m1.lt hb1
  refine ⟨⟨by omega, fun y hy hF => ?_, ?_, fun y hy => ?_⟩, d1, d2, d3⟩
  · simp only [List.mem_cons, List.mem_append, not_or] at hF
    rw [m2.fr y (by omega) (by simp only [List.mem_cons, not_or]; exact ⟨hF.1, hF.2.2.1⟩), m1.fr y hy hF.2.1]
  · rw [List.nodup_cons, List.nodup_append, List.mem_append, List.mem_append, List.nodup_append]
    refine ⟨?_, m1.nd, ⟨nd2.2, n4, fun x hx y hy e => ?_⟩, fun x hx y hy e => ?_⟩
    · simp only [not_or]
      exact ⟨fun g => d1 b g (by simp), nd2.1, n1.2.2⟩
    · subst e
      rcases m2.sub x (by simp [hx]) with g | g
      · exact d3 x hy g
      · have := hb3 x hy; omega
    · subst e
      rcases List.mem_append.1 hy with hy | hy
      · rcases m2.sub x (by simp [hy]) with g | g
        · exact d1 x hx g
        · have := s1 x hx; omega
      · rcases m1.sub x hx with g | g
        · exact d2 x hy g
        · have := hb3 x hy; omega
  · simp only [List.mem_cons, List.mem_append] at hy ⊢
    rcases hy with hy | hy | hy | hy
    · exact .inl (.inl hy)
    · rcases m1.sub y hy with g | g
      · exact .inl (.inr (.inl g))
      · exact .inr ⟨g.1, by omega⟩
    · rcases m2.sub y (by simp [hy]) with g | g
      · rcases List.mem_cons.1 g with g | g
        · exact .inl (.inl g)
        · exact .inl (.inr (.inr (.inl g)))
      · exact .inr ⟨by omega, g.2⟩
    · exact .inl (.inr (.inr (.inr hy)))

section
variable {lo : Nat} {ro : Bool} {h : Heap} {F F' : List Nat} {a a' : Option (Nat × Nat)} {c c' : Option Nat}
theorem rplace_three {h1 h2 : Heap} {b : Nat} {q : Place} {a1 a2 a3 : Option (Nat × Nat)} {c1 c2 c3 : Option Nat} {G1 G1' G2 G2' G3 : List Nat} (m1 : Mv h G1 h1 G1') (m2 : Mv h1 (b :: G2) h2 (b :: G2')) (hnd : (b :: (G1 ++ (G2 ++ G3))).Nodup) (hb : ∀ y ∈ b :: (G1 ++ (G2 ++ G3)), y < h.length)
    (r1 : RNodes false h1 [.sl 2 a1 q.chain.length c1] q.chain G1') (r2 : RVers false h2 [.sl 6 a2 q.log.length c2] q.log G2') (r3 : RVss false h [.sl 1 a3 q.got.length c3] q.got G3) :
    RPlaceN false h2 (q.cs a1 c1 a2 c2 a3 c3) q (G1' ++ (G2' ++ G3)) ∧ Mv h (b :: (G1 ++ (G2 ++ G3))) h2 (b :: (G1' ++ (G2' ++ G3))) := by
  obtain ⟨m, d1, d2, d3⟩ := three m1 m2 hnd hb
  exact ⟨⟨_, _, _, _, _, _, rfl, _, _, _, G1', G2', G3, rfl, rfl, m2.keep rnodes_ok r1 d1, r2, m2.keep rvss_ok (m1.keep rvss_ok r3 d2) d3⟩, m⟩
theorem impl_recordT {p : Place} {b : Nat} {a1 a2 a3 : Option (Nat × Nat)} {c1 c2 c3 : Option Nat} {F1 F2 : List Nat} (hb : h[b]? = some (.rows 6 47 false [p.cs a1 c1 a2 c2 a3 c3])) (hs1 : RNodes false h [.sl 2 a1 p.chain.length c1] p.chain F1) (hs2 : RVers false h [.sl 6 a2 p.log.length c2] p.log F2)
    (h0 : 0 < p.chain.length) (ht : Tidy 10 20 100 p) (hd : ∀ y ∈ F1, y ∉ b :: F2) (hnd : (b :: F2).Nodup) (hlo : ∀ y ∈ b :: F2, lo ≤ y) (hl : lo ≤ h.length) :
    ∃ a2' c2' h' F2', evl lo 186 [.ptr (some (b, (0, 0)))] h = some (.tup [], h') ∧ h'[b]? = some (.rows 6 47 false [(noteP p).cs a1 c1 a2' c2' a3 c3]) ∧ RVers false h' [.sl 6 a2' (noteP p).log.length c2'] (noteP p).log F2' ∧ Mv h (b :: F2) h' (b :: F2') := by
  obtain ⟨x, hx, hxe⟩ := lastOf_mem h0
  have hxn := ht.node x hx
  exact impl_record hb hs1 hs2 h0 (by rw [hxe]; exact hxn.1) hd hnd hlo hl (Nat.le_trans ht.len (by decide)) (Nat.le_trans ht.log.1 (by decide))
    (fun v hv => by rw [hxe] at hv; have := (hxn.2.2.1 v hv).1; omega) (fun v hv => by rw [hxe] at hv; exact (hxn.2.2.1 v hv).2.2)
theorem impl_put {b i j R e : Nat} {rs : List (List V)} {row : List V} {l : List Node} {v : Ver} {av : Option (Nat × Nat)} {cv : Option Nat} {G : List Nat} (hb : h[b]? = some (.rows R e false rs)) (hrow : rs[i]? = some row) (hcell : row[j]? = some (.sl 2 a l.length c)) (hs : RNodes false h [.sl 2 a l.length c] l F) (hbF : b ∉ F)
    (hv : RTags false h [.sl 2 av v.past.length cv] v.past G) (hd : ∀ b ∈ G, b ∉ F) (hnd : F.Nodup) (hlo : ∀ b ∈ F, lo ≤ b) (hl : lo ≤ h.length) (h0 : 0 < l.length)
    (hkey : 0 ≤ v.key ∧ v.key < l[0].store.length) (hn : smNodes l) (hvn : v.past.length ≤ 1048576) :
    ∃ h' F', evl lo 193 [.ptr (some (b, (i, j))), .agg (v.cs av cv)] h = some (.bool (roomAt l 0), h') ∧ RNodes false h' [.sl 2 a l.length c] (bif roomAt l 0 then addN l 0 v else l) F' ∧ Mv h F h' F' := by
  have hld : ld h b i j 1 = some [.sl 2 a l.length c] := by rw [ld_of hb hrow]; exact cut_one hcell
  suffices hq : ∃ h' F', _ = some (V.bool (roomAt l 0), h') ∧ RNodes false h' [.sl 2 a l.length c] (bif roomAt l 0 then addN l 0 v else l) F' ∧ Mv h F h' F' from hq.imp fun h' hq => hq.imp fun F' hq => ⟨E_impl_Chain_put hq.1, hq.2⟩
  rw [show (0 : Int) = ((0 : Nat) : Int) from rfl, impl_full hld hs h0]
  simp only [cal_s, eB_b]
  cases hr : roomAt l 0 with
  | false => exact ⟨h, F, rfl, hs, Mv.refl hnd⟩
  | true =>
    rw [Bool.not_true, br_f]
    obtain ⟨h', F', e1, r1, m1⟩ := impl_apply (lo := lo) hb hrow hcell hs hbF hv hd hnd hlo hl h0 hkey hn hvn
    have e1' : evl lo 248 [.ptr (some (b, (i, j))), .int .i64 ((0 : Nat) : Int), .agg (v.cs av cv)] h = some (.tup [], h') := e1
    refine ⟨h', F', ?_, r1, m1⟩
    show cal (evl lo 248 [.ptr (some (b, (i, j))), .int .i64 ((0 : Nat) : Int), .agg (v.cs av cv)] h) _ = _
    rw [e1']
    simp only [cal_s, eU_t, eN_n]
end
end Go.Proofs.YtfhnofppfacemaaGreat
namespace Go.Proofs.YtfhnofppfacemaaGreat
open Go T
set_option linter.unusedVariables false
set_option linter.unusedSimpArgs false
theorem tidy_loose {p : Place} (h : placeOk p = true) : Tidy 10 20 100 p := by
  have hti := tidy_ok h
  exact ⟨Nat.le_trans hti.len (by decide), fun x hx => by have := hti.node x hx; exact ⟨this.1, Nat.le_trans this.2.1 (by decide), this.2.2⟩, ⟨Nat.le_trans hti.log.1 (by decide), hti.log.2⟩, hti.got.1, fun l hl => ⟨Nat.le_trans (hti.got.2 l hl).1 (by decide), (hti.got.2 l hl).2⟩⟩
section
variable {lo : Nat} {h : Heap} {F F' : List Nat} {a a' : Option (Nat × Nat)} {c c' : Option Nat}
end
end Go.Proofs.YtfhnofppfacemaaGreat
namespace Go.Proofs.YtfhnofppfacemaaGreat
open Go T
set_option linter.unusedVariables false
set_option linter.unusedSimpArgs false
def timeOf (p : Place) (l : List Tag) : Int := newer (latest l) p.clock + 1
def newVer (p : Place) (k : Int) (s : ByteArray) (g : Bool) (l : List Tag) : Ver := ⟨k, ⟨timeOf p l, p.me⟩, l, s, g⟩
def mayWrite (p : Place) (l : List Tag) : Bool := under l (stable p.chain) && (roomAt p.chain 0 && (decide (timeOf p l ≤ 999) && decide ((p.log.length : Int) < 36)))
def canWrite (p : Place) (k : Int) (s : ByteArray) (g : Bool) (l : List Tag) : Bool := within k 0 3 && (textOk s && ((!g || noText s) && (pastOk l && mayWrite p l)))
def wrote (p : Place) (k : Int) (s : ByteArray) (g : Bool) (l : List Tag) : Place × Tag := bif placeOk p then (bif canWrite p k s g l then (noteP (addP p 0 (timeOf p l) (newVer p k s g l)), ⟨timeOf p l, p.me⟩) else (p, ⟨0, 0⟩)) else (zPlace, ⟨0, 0⟩)

theorem newer_lt_iff {a c x : Int} : newer a c < x ↔ a < x ∧ c < x := by unfold newer; split <;> omega
theorem int_ext {A B : Int} (h : ∀ x, A < x ↔ B < x) : A = B := by
  have h1 := (h (A + 1)).1 (by omega)
  have h2 := (h (B + 1)).2 (by omega)
  omega
theorem next_fold {l : List Tag} {c : Int} (hc : 0 ≤ c) : l.foldl (fun m t => if t.time > m then t.time else m) c = newer (latest l) c := by
  refine int_ext fun x => ?_
  rw [newer_lt_iff, latest_lt, foldl_lt]
  constructor
  · rintro ⟨h1, h2⟩; exact ⟨⟨by omega, h2⟩, h1⟩
  · rintro ⟨⟨_, h2⟩, h1⟩; exact ⟨h1, h2⟩
theorem latest_bd {l : List Tag} (h : pastOk l = true) : 0 ≤ latest l ∧ latest l ≤ 999 := by
  have h1 : latest l < 1000 := latest_lt.2 ⟨by omega, fun t ht => by
    simp only [pastOk, Bool.and_eq_true, List.all_eq_true] at h
    have := tagOk_time (h.2 t ht); omega⟩
  have h2 : ¬ latest l < 0 := fun h => by have := (latest_lt.1 h).1; omega
  omega
theorem time_bd {p : Place} {l : List Tag} (hp : placeOk p = true) (h : pastOk l = true) : 1 ≤ timeOf p l ∧ timeOf p l ≤ 1000 ∧ latest l < timeOf p l ∧ p.clock < timeOf p l := by
  have h1 := latest_bd h
  have h2 := (ok_parts hp).2.1
  unfold timeOf newer
  split <;> omega
theorem can_parts {p : Place} {k : Int} {s : ByteArray} {g : Bool} {l : List Tag} (h : canWrite p k s g l = true) : (0 ≤ k ∧ k ≤ 3) ∧ textOk s = true ∧ (g = true → noText s = true) ∧ pastOk l = true ∧ under l (stable p.chain) = true ∧ roomAt p.chain 0 = true ∧ timeOf p l ≤ 999 ∧ p.log.length < 36 := by
  unfold canWrite mayWrite at h
  simp only [Bool.and_eq_true, Bool.or_eq_true, decide_eq_true_eq, within, Bool.not_eq_true'] at h
  obtain ⟨h1, h2, h3, h4, h5, h6, h7, h8⟩ := h
  exact ⟨h1, h2, fun hg => h3.resolve_left (by rw [hg]; simp), h4, h5, h6, h7, by omega⟩
theorem newVer_thin {p : Place} {k : Int} {s : ByteArray} {g : Bool} {l : List Tag} (hp : placeOk p = true) (h : canWrite p k s g l = true) : thin (newVer p k s g l) := by
  obtain ⟨h1, h2, h3, h4, h5, h6, h7, h8⟩ := can_parts h
  have g1 := pastOk_len h4
  have g2 := textOk_size h2
  have g3 := time_bd hp h4
  have g4 := (ok_parts hp).1
  refine ⟨by show l.length ≤ 4; omega, by show s.size ≤ 8; omega, ?_⟩
  show tagOk (timeOf p l) p.me = true
  unfold tagOk within
  rw [decide_eq_true g3.1, decide_eq_true h7, decide_eq_true g4.1, decide_eq_true g4.2]
  simp
theorem sm_PlaceWrite {p : Place} {k : Int} {s : ByteArray} {g : Bool} {l : List Tag} (hn : smPlace p) (hz : szPlace p ≤ 1048576) : smPlace (wrote p k s g l).1 ∧ (1 : Int) + wPlace (wrote p k s g l).1 ≤ big := by
  unfold wrote
  cases hpo : placeOk p with
  | false => exact ⟨sm_zero, w_zero⟩
  | true =>
  rw [cond_true]
  have ht := tidy_ok hpo
  cases hc : canWrite p k s g l with
  | false => exact tidy_sm ht (by decide) (by decide) (by decide)
  | true => exact tidy_sm (tidy_note (tidy_add (k := 0) (t := timeOf p l) ht (newVer_thin hpo hc))) (by decide) (by decide) (by decide)

theorem app_zero {T : Type} {lo lo' e R bytes q : Nat} {a : Option (Nat × Nat)} {xs : List (List V)} {h : Heap} {K : V → Heap → Option T} : app lo e R bytes (.sl q a 0 (some 0)) xs h K = app lo' e R bytes (.sl q a 0 (some 0)) xs h K := by
  cases xs with
  | nil => rfl
  | cons x xs =>
    cases a with
    | none => rfl
    | some p =>
      obtain ⟨b, i⟩ := p
      simp only [app]
      have : Nat.ble (0 + (x :: xs).length) 0 = false := by rw [List.length_cons, Nat.zero_add]; rfl
      rw [this]

section
variable {lo : Nat} {ro : Bool} {h : Heap} {F F' G : List Nat} {a a' av : Option (Nat × Nat)} {c c' cv : Option Nat}
theorem spec_l4Next {p : Place} {l : List Tag} {a1 a2 a3 : Option (Nat × Nat)} {c1 c2 c3 : Option Nat} (hv : RTags ro h [.sl 2 av l.length cv] l G) (hok : placeOk p = true) (hl : pastOk l = true) :
    evl lo 194 [.agg (p.cs a1 c1 a2 c2 a3 c3), .agg [.sl 2 av l.length cv]] h = some (.int .i64 (timeOf p l), h) := by
  have h4 := pastOk_len hl
  have hc := (ok_parts hok).2.1
  refine E_spec_l4Next (h' := h) ?_
  have loop : ∀ m i x, m + i = 4 → (∀ y : Int, (l.drop i).foldl (fun m t => if t.time > m then t.time else m) x = y → -9223372036854775808 ≤ y + 1 ∧ y + 1 ≤ 9223372036854775807) → L_spec_l4Next_0 (List.length h) x (i : Nat) av l.length cv h = some (.int .i64 ((l.drop i).foldl (fun m t => if t.time > m then t.time else m) x + 1), h) := by
    intro m
    induction m with
    | zero =>
      intro i x hi hb
      rw [List.drop_eq_nil_of_le (by omega)] at hb ⊢
      have := hb x rfl
      rw [L_spec_l4Next_0.e, br_neg (by omega), wr (by omega) (by omega)]
      rfl
    | succ m ih =>
      intro i x hi hb
      have hil : i < l.length := by omega
      obtain ⟨o, ha, ho⟩ := hv.get hil
      have ho1 : ld h o.1 (o.2 + i) 0 1 = some [.int .i64 l[i].time] := by
        obtain ⟨o', row, G', h1, h2, ⟨rfl, _⟩, _⟩ := hv.read hil
        rw [ha] at h1; injection h1 with h1; subst h1
        rw [h2]; rfl
      rw [List.drop_eq_getElem_cons hil, List.foldl_cons] at hb ⊢
      rw [L_spec_l4Next_0.e, br_pos (by omega), inB_nat hil, ha, eO_s, Int.toNat_natCast, ho1, eO_s, eC_c, eN_n, eI_int, inB_nat hil, eO_s, ho1, eO_s, eC_c, eN_n, eI_int, wr_succ (show i < 9223372036854775807 by omega), ← ha]
      by_cases ht : l[i].time > x
      · rw [if_pos ht] at hb ⊢
        rw [br_pos ht]; exact ih (i + 1) _ (by omega) hb
      · rw [if_neg ht] at hb ⊢
        rw [br_neg ht]; exact ih (i + 1) _ (by omega) hb
  have hnf : ∀ y, (l.drop 0).foldl (fun m t => if t.time > m then t.time else m) p.clock = y → y = newer (latest l) p.clock := fun y hy => by rw [← hy, List.drop_zero, next_fold hc.1]
  have hb := time_bd hok hl
  have := loop 4 0 p.clock rfl (fun y hy => by rw [hnf y hy]; unfold timeOf at hb; omega)
  rw [hnf _ rfl] at this
  exact this
theorem spec_l4Can {p : Place} {l : List Tag} {a1 a2 a3 : Option (Nat × Nat)} {c1 c2 c3 : Option Nat} {F1 : List Nat} (hs1 : RNodes ro h [.sl 2 a1 p.chain.length c1] p.chain F1) (hv : RTags ro h [.sl 2 av l.length cv] l G) (hok : placeOk p = true) (hl : pastOk l = true) (hn : smPlace p) :
    evl lo 108 [.agg (p.cs a1 c1 a2 c2 a3 c3), .agg [.sl 2 av l.length cv]] h = some (.bool (mayWrite p l), h) := by
  have h0 := chain_pos hok
  have hchain := (ok_parts hok).2.2.2.1
  obtain ⟨v5, h5, F5, e5, r5, m5⟩ := spec_l3Stable (lo := h.length) hs1 (Nat.le_refl _) hn.1 h0
  obtain ⟨a6, c6, e6, r6⟩ := r5.form
  refine E_spec_l4Can (h' := h5) ?_
  have en := spec_l4Next (lo := h.length) (a1 := a1) (c1 := c1) (a2 := a2) (c2 := c2) (a3 := a3) (c3 := c3) (m5.keep0 rtags_ok hv) hok hl
  simp only [Place.cs] at en
  unfold mayWrite
  rw [e5, cal_s, eA_a, eC_c, e6, eN_n, spec_l1Within (m5.keep0 rtags_ok hv) r6 (pastOk_len hl) (stable_len hchain), cal_s, eB_b]
  cases under l (stable p.chain) with
  | false => rw [br_f]; rfl
  | true =>
  rw [br_t, spec_l3Room (m5.keep0 rnodes_ok hs1) h0, cal_s, eB_b]
  cases roomAt p.chain 0 with
  | false => rw [br_f]; rfl
  | true =>
  rw [br_t, en, cal_s, eI_int]
  cases decide (timeOf p l ≤ 999) with
  | false => rw [br_f]; rfl
  | true =>
  rw [br_t]
  cases decide ((p.log.length : Int) < 36) with
  | false => rw [br_f]; rfl
  | true => rw [br_t]; rfl
theorem spec_l4Write {p : Place} {k : Int} {s : ByteArray} {g : Bool} {l : List Tag} {a1 a2 a3 : Option (Nat × Nat)} {c1 c2 c3 : Option Nat} {F1 F2 F3 : List Nat} (hs1 : RNodes false h [.sl 2 a1 p.chain.length c1] p.chain F1) (hs2 : RVers false h [.sl 6 a2 p.log.length c2] p.log F2) (hs3 : RVss false h [.sl 1 a3 p.got.length c3] p.got F3)
    (hv : RTags false h [.sl 2 av l.length cv] l G) (hok : placeOk p = true) (hc : canWrite p k s g l = true) (hnd : (F1 ++ (F2 ++ F3)).Nodup) (hlo : ∀ b ∈ F1 ++ (F2 ++ F3), lo ≤ b) (hl : lo ≤ h.length) :
    ∃ a2' c2' h' F', evl lo 109 [.agg (p.cs a1 c1 a2 c2 a3 c3), .int .i64 k, .str s, .bool g, .agg [.sl 2 av l.length cv]] h = some (.tup [.agg ((noteP (addP p 0 (timeOf p l) (newVer p k s g l))).cs a1 c1 a2' c2' a3 c3), .agg [.int .i64 (timeOf p l), .int .i64 p.me]], h') ∧
      RPlaceN false h' ((noteP (addP p 0 (timeOf p l) (newVer p k s g l))).cs a1 c1 a2' c2' a3 c3) (noteP (addP p 0 (timeOf p l) (newVer p k s g l))) F' ∧ Mv h (F1 ++ (F2 ++ F3)) h' F' := by
  obtain ⟨g1, g2, g3, g4, g5, g6, g7, g8⟩ := can_parts hc
  have h0 := chain_pos hok
  have hl4 := pastOk_len g4
  have hti := tidy_loose hok
  obtain ⟨a5, c5, h5, F5, e5, r5, m5⟩ := copy_tags (lo := h.length) (h := h) (l := l) (Nat.le_refl _) (by omega)
  rw [← List.append_assoc] at hnd hlo ⊢
  have hnd' := hnd
  rw [List.nodup_append] at hnd'
  have hdis : ∀ y ∈ F3, y ∉ F1 ++ F2 := fun y hy hm => hnd'.2.2 y hm y hy rfl
  have hb12 : ∀ y ∈ F1 ++ F2, y < h.length := fun y hy => by
    rw [List.mem_append] at hy
    exact hy.elim (rnodes_ok.bd _ _ _ _ hs1 y) (rvers_ok.bd _ _ _ _ hs2 y)
  obtain ⟨h6, a6, c6, h7, F6, F7, e6, e7, r6, r7, m7⟩ := spec_addnote (lo := lo) (v := newVer p k s g l) (k := 0) (t := timeOf p l) (a3 := a3) (c3 := c3) (m5.keep0 rnodes_ok hs1) (m5.keep0 rvers_ok hs2) r5 (fun y hy hm => by
    have := m5.new y hy
    have := hb12 y (by simp [hm])
    omega) hnd'.1 (fun y hy => hlo y (by rw [List.mem_append]; exact .inl hy)) (Nat.le_trans hl m5.le) h0 g1 hti (newVer_thin hok hc)
  have hcs : (addP p 0 (timeOf p l) (newVer p k s g l)).cs a1 c1 a2 c2 a3 c3 = [.int .i64 p.me, .int .i64 (timeOf p l), .sl 2 a1 p.chain.length c1, .sl 6 a2 p.log.length c2, .sl 1 a3 p.got.length c3, .bool p.fell] := by simp only [Place.cs, addP, addN_len]
  rw [hcs] at e7
  have m5' : Mv h (F1 ++ F2) h5 (F1 ++ F2) := (m5.drop.aside (G := F1 ++ F2) hnd'.1 hb12)
  have m8 := m5'.trans m7
  have b3' : ∀ y ∈ F3, y < h.length := rvss_ok.bd _ _ _ _ hs3
  have m9 := m8.aside (G := F3) hnd b3'
  have hs3' := m8.keep rvss_ok hs3 hdis
  refine ⟨a6, c6, h7, F6 ++ F7 ++ F3, E_spec_l4Write ?_, ⟨_, _, _, _, _, _, rfl, _, _, _, F6, F7, F3, rfl, by rw [List.append_assoc], r6, r7, hs3'⟩, m9⟩
  have en := spec_l4Next (lo := h.length) (a1 := a1) (c1 := c1) (a2 := a2) (c2 := c2) (a3 := a3) (c3 := c3) hv hok g4
  simp only [Place.cs] at en
  have e6' : evl lo 184 [.agg [.sl 2 a1 p.chain.length c1], .int .i64 0, .agg [.int .i64 k, .int .i64 (timeOf p l), .int .i64 p.me, .sl 2 a5 l.length c5, .str s, .bool g]] h5 = some (.agg [.sl 2 a1 p.chain.length c1], h6) := e6
  rw [en, cal_s, eI_int, RTags.rows (Mv.snoc.keep0 rtags_ok hv), app_zero (lo' := h.length), e5, eS_sl, e6', cal_s, eA_a, eC_c, eS_sl, eN_n, e7, cal_s, eA_a]
  simp only [Place.cs]
  rw [eC_c, eI_int, eC_c, eI_int, eC_c, eS_sl, eC_c, eS_sl, eC_c, eS_sl, eC_c, eBv_b, eN_n]
end
end Go.Proofs.YtfhnofppfacemaaGreat
namespace Go.Proofs.YtfhnofppfacemaaGreat
open Go T
set_option linter.unusedVariables false
set_option linter.unusedSimpArgs false
section
variable {lo : Nat} {h : Heap} {F F' G : List Nat} {a a' av : Option (Nat × Nat)} {c c' cv : Option Nat}
theorem spec_PlaceWrite {p : Place} {cs : List V} {k : Int} {s : ByteArray} {g : Bool} {l : List Tag} (hp : RPlaceN false h cs p F) (hv : RTags false h [.sl 2 av l.length cv] l G) (hl : lo ≤ h.length) (hn : smPlace p) (hvn : l.length ≤ 1048576 ∧ s.size ≤ 1048576) :
    ∃ raw r h' F', evl lo 38 [.agg cs, .int .i64 k, .str s, .bool g, .agg [.sl 2 av l.length cv]] h = some (.tup [.agg raw, .agg [.int .i64 (wrote p k s g l).2.time, .int .i64 (wrote p k s g l).2.place]], h') ∧ NPlace raw (wrote p k s g l).1 r ∧ RPlaceN false h' r (wrote p k s g l).1 F' ∧ Mv h [] h' F' := by
  obtain ⟨a1, c1, a2, c2, a3, c3, rfl, hp⟩ := hp
  obtain ⟨F1, F2, F3, _, h1, h2, h3⟩ := hp.cells
  suffices hk : ∃ raw r h' F', _ = some (V.tup [.agg raw, .agg [.int .i64 (wrote p k s g l).2.time, .int .i64 (wrote p k s g l).2.place]], h') ∧ NPlace raw (wrote p k s g l).1 r ∧ RPlaceN false h' r (wrote p k s g l).1 F' ∧ Mv h [] h' F' from by
    obtain ⟨raw, r, h', F', e, hr⟩ := hk
    exact ⟨raw, r, h', F', E_spec_PlaceWrite e, hr⟩
  rw [spec_l4Ok h1 h2 h3 hn, cal_s, eB_b]
  unfold wrote
  cases hpo : placeOk p with
  | false =>
    rw [br_f]
    obtain ⟨raw, r, rfl, n1, n2⟩ := nplace_zero (hh := h)
    exact ⟨_, r, h, [], rfl, n1, n2, Mv.nil⟩
  | true =>
  obtain ⟨raw, b1, d1, b2, d2, b3, d3, h4, F4, e4, n4, r4, m4⟩ := spec_l4CopyN (lo := lo) h1 h2 h3 hl hn
  obtain ⟨s1, s2, s3, q1, q2, q3, q4, q5, q6, rfl, n1, n2, n3, eq⟩ := n4
  obtain ⟨rfl, rfl, rfl, rfl, rfl, rfl⟩ := cs_inj eq
  have r4' := r4
  obtain ⟨G1, G2, G3, rfl, g1, g2, g3⟩ := r4'.cells
  have stay : canWrite p k s g l = false → ∃ raw r h' F', some (V.tup [.agg (p.cs b1 d1 b2 d2 b3 d3), .agg [.int .i64 0, .int .i64 0]], h4) = some (V.tup [.agg raw, .agg [.int .i64 (bif true then bif canWrite p k s g l then (noteP (addP p 0 (timeOf p l) (newVer p k s g l)), (⟨timeOf p l, p.me⟩ : Tag)) else (p, ⟨0, 0⟩) else (zPlace, ⟨0, 0⟩)).2.time, .int .i64 (bif true then bif canWrite p k s g l then (noteP (addP p 0 (timeOf p l) (newVer p k s g l)), (⟨timeOf p l, p.me⟩ : Tag)) else (p, ⟨0, 0⟩) else (zPlace, ⟨0, 0⟩)).2.place]], h') ∧
      NPlace raw (bif true then bif canWrite p k s g l then (noteP (addP p 0 (timeOf p l) (newVer p k s g l)), (⟨timeOf p l, p.me⟩ : Tag)) else (p, ⟨0, 0⟩) else (zPlace, ⟨0, 0⟩)).1 r ∧ RPlaceN false h' r (bif true then bif canWrite p k s g l then (noteP (addP p 0 (timeOf p l) (newVer p k s g l)), (⟨timeOf p l, p.me⟩ : Tag)) else (p, ⟨0, 0⟩) else (zPlace, ⟨0, 0⟩)).1 F' ∧ Mv h [] h' F' := fun hc => by
    rw [hc]
    exact ⟨p.cs b1 d1 b2 d2 b3 d3, _, h4, _, rfl, nplace_self, ⟨_, _, _, _, _, _, rfl, r4⟩, m4⟩
  have ec := fun hpk : pastOk l = true => spec_l4Can (lo := lo) (a2 := a2) (c2 := c2) (a3 := a3) (c3 := c3) h1 hv hpo hpk hn
  simp only [Place.cs] at ec
  rw [br_t, spec_l1In, cal_s, eB_b]
  cases hw : within k 0 3 with
  | false =>
    rw [br_f, e4, cal_s, eA_a, eC_c, eI_int, eC_c, eI_int, eC_c, n1, eC_c, n2, eC_c, n3, eC_c, eBv_b, eN_n]
    exact stay (by unfold canWrite; rw [hw]; rfl)
  | true =>
  rw [br_t, spec_l2TextOk hvn.2, cal_s, eB_b]
  cases hto : textOk s with
  | false =>
    rw [br_f, e4, cal_s, eA_a, eC_c, eI_int, eC_c, eI_int, eC_c, n1, eC_c, n2, eC_c, n3, eC_c, eBv_b, eN_n]
    exact stay (by unfold canWrite; rw [hw, hto]; rfl)
  | true =>
  rw [br_t]
  cases g with
  | false =>
    rw [br_f]
    rw [spec_l1PastOk hv hvn.1, cal_s, eB_b]
    cases hpk : pastOk l with
    | false =>
      rw [br_f, e4, cal_s, eA_a, eC_c, eI_int, eC_c, eI_int, eC_c, n1, eC_c, n2, eC_c, n3, eC_c, eBv_b, eN_n]
      exact stay (by unfold canWrite; rw [hpk]; simp)
    | true =>
    rw [br_t, ec hpk, cal_s, eB_b]
    cases hm : mayWrite p l with
    | false =>
      rw [br_f, e4, cal_s, eA_a, eC_c, eI_int, eC_c, eI_int, eC_c, n1, eC_c, n2, eC_c, n3, eC_c, eBv_b, eN_n]
      exact stay (by unfold canWrite; rw [hm]; simp)
    | true =>
    have hcw : canWrite p k s false l = true := by unfold canWrite; rw [hw, hto, hpk, hm]; simp
    obtain ⟨a2', c2', h5, F5, e5, r5, m5⟩ := spec_l4Write (lo := lo) g1 g2 g3 (m4.keep0 rtags_ok hv) hpo hcw m4.nd (fun y hy => by have := m4.new y hy; omega) (Nat.le_trans hl m4.le)
    simp only [Place.cs] at e5
    rw [br_t, e4, cal_s, eA_a, eC_c, eI_int, eC_c, eI_int, eC_c, n1, eC_c, n2, eC_c, n3, eC_c, eBv_b, eN_n, e5, cal_s, eU_t, eC_c, eA_a, eC_c, eI_int, eC_c, eI_int, eC_c, eS_sl, eC_c, eS_sl, eC_c, eS_sl, eC_c, eBv_b, eN_n, eC_c, eA_a, eC_c, eI_int, eC_c, eI_int, eN_n, eN_n, hcw]
    exact ⟨_, _, h5, F5, rfl, nplace_self, r5, m4.trans m5⟩
  | true =>
    rw [br_t, toList_nil]
    cases hnt : noText s with
    | false =>
      rw [br_f, e4, cal_s, eA_a, eC_c, eI_int, eC_c, eI_int, eC_c, n1, eC_c, n2, eC_c, n3, eC_c, eBv_b, eN_n]
      exact stay (by unfold canWrite; rw [hw, hto, hnt]; rfl)
    | true =>
    rw [br_t]
    rw [spec_l1PastOk hv hvn.1, cal_s, eB_b]
    cases hpk : pastOk l with
    | false =>
      rw [br_f, e4, cal_s, eA_a, eC_c, eI_int, eC_c, eI_int, eC_c, n1, eC_c, n2, eC_c, n3, eC_c, eBv_b, eN_n]
      exact stay (by unfold canWrite; rw [hpk]; simp)
    | true =>
    rw [br_t, ec hpk, cal_s, eB_b]
    cases hm : mayWrite p l with
    | false =>
      rw [br_f, e4, cal_s, eA_a, eC_c, eI_int, eC_c, eI_int, eC_c, n1, eC_c, n2, eC_c, n3, eC_c, eBv_b, eN_n]
      exact stay (by unfold canWrite; rw [hm]; simp)
    | true =>
    have hcw : canWrite p k s true l = true := by unfold canWrite; rw [hw, hto, hpk, hm]; simp; exact hnt
    obtain ⟨a2', c2', h5, F5, e5, r5, m5⟩ := spec_l4Write (lo := lo) g1 g2 g3 (m4.keep0 rtags_ok hv) hpo hcw m4.nd (fun y hy => by have := m4.new y hy; omega) (Nat.le_trans hl m4.le)
    simp only [Place.cs] at e5
    rw [br_t, e4, cal_s, eA_a, eC_c, eI_int, eC_c, eI_int, eC_c, n1, eC_c, n2, eC_c, n3, eC_c, eBv_b, eN_n, e5, cal_s, eU_t, eC_c, eA_a, eC_c, eI_int, eC_c, eI_int, eC_c, eS_sl, eC_c, eS_sl, eC_c, eS_sl, eC_c, eBv_b, eN_n, eC_c, eA_a, eC_c, eI_int, eC_c, eI_int, eN_n, eN_n, hcw]
    exact ⟨_, _, h5, F5, rfl, nplace_self, r5, m4.trans m5⟩
end
end Go.Proofs.YtfhnofppfacemaaGreat
namespace Go.Proofs.YtfhnofppfacemaaGreat
open Go T
set_option linter.unusedVariables false
set_option linter.unusedSimpArgs false
theorem canWrite_eq {p : Place} {k : Int} {s : ByteArray} {g : Bool} {l : List Tag} : canWrite p k s g l = (written ⟨k, ⟨0, 0⟩, l, s, g⟩ && mayWrite p l) := by
  unfold canWrite written
  simp only [Bool.and_assoc]
theorem wrote_ok {p : Place} {k : Int} {s : ByteArray} {g : Bool} {l : List Tag} (h : placeOk p = true) : wrote p k s g l = bif canWrite p k s g l then (noteP (addP p 0 (timeOf p l) (newVer p k s g l)), ⟨timeOf p l, p.me⟩) else (p, ⟨0, 0⟩) := by unfold wrote; rw [h, cond_true]

section
variable {lo : Nat} {h : Heap} {F F' G : List Nat} {a a' av : Option (Nat × Nat)} {c c' cv : Option Nat}
theorem impl_attemptedW {p p' : Place} {cs l1 : List V} {g x : Nat} {ok : Bool} {X0 X1 : Blk} (hp : RPlaceN false h cs p F) (hl : lo ≤ h.length) (hn : smPlace p) (hx : h[x]? = some X0)
    (hg : placeOk p = true → ∀ hh b row F1, h.length ≤ hh.length → Mv h [] hh [] → RPlaceN false hh row p F1 → hh[b]? = some (.rows 6 47 false [row]) → (b :: F1).Nodup → (∀ y ∈ b :: F1, h.length ≤ y) →
      ∃ hh' row' F1', evl lo g (fnArgs [.ptr (some (b, (0, 0)))] l1) hh = some (.bool ok, hh') ∧ RPlaceN false hh' row' p' F1' ∧ hh'[b]? = some (.rows 6 47 false [row']) ∧ hh'[x]? = some X1 ∧ Mv hh (x :: b :: F1) hh' (x :: b :: F1')) :
    ∃ raw r h' F', evl lo 86 [.agg cs, .fn g l1] h = some (.tup [.agg raw, .bool (placeOk p && ok)], h') ∧ NPlace raw (tried p p') r ∧ RPlaceN false h' r (tried p p') F' ∧ Mv h [x] h' (x :: F') ∧ h'[x]? = some (bif placeOk p then X1 else X0) := by
  obtain ⟨a1, c1, a2, c2, a3, c3, rfl, hp⟩ := hp
  obtain ⟨F1, F2, F3, _, h1, h2, h3⟩ := hp.cells
  suffices hk : ∃ raw r h' F', _ = some (V.tup [.agg raw, .bool (placeOk p && ok)], h') ∧ NPlace raw (tried p p') r ∧ RPlaceN false h' r (tried p p') F' ∧ Mv h [x] h' (x :: F') ∧ h'[x]? = some (bif placeOk p then X1 else X0) from by
    obtain ⟨raw, r, h', F', e, hr⟩ := hk
    exact ⟨raw, r, h', F', E_impl_attempted e, hr⟩
  have hxl : x < h.length := (List.getElem?_eq_some_iff.1 hx).1
  rw [impl_PlaceOk h1 h2 h3 hn, cal_s, eB_b]
  unfold tried
  cases hpo : placeOk p with
  | false =>
    rw [br_f]
    obtain ⟨raw, r, rfl, n1, n2⟩ := nplace_zero (hh := h)
    exact ⟨_, r, h, [], rfl, n1, n2, Mv.refl (by simp), hx⟩
  | true =>
  obtain ⟨b1, d1, b2, d2, b3, d3, h4, F4, e4, r4, m4⟩ := impl_Place_copied (lo := lo) h1 h2 h3 hl hn
  rw [br_t, e4, cal_s, eA_a, eC_c, eI_int, eC_c, eI_int, eC_c, eS_sl, eC_c, eS_sl, eC_c, eS_sl, eC_c, eBv_b, eN_n]
  have m5 : Mv h4 [] (h4 ++ [.rows 6 47 false [p.cs b1 d1 b2 d2 b3 d3]]) [h4.length] := Mv.last
  rw [st_last (row' := p.cs b1 d1 b2 d2 b3 d3) (Nat.le_trans hl m4.le) rfl (paste_all (by simp [Place.cs]))]
  simp only [eO_s, List.set_cons_zero]
  have m45 := (m4.join m5 (rplace_ok.bd _ _ _ _ r4)).swapNil
  obtain ⟨h6, row6, F6, e6, r6, b6, x6, m6⟩ := hg hpo (h4 ++ [.rows 6 47 false [p.cs b1 d1 b2 d2 b3 d3]]) h4.length _ F4 m45.le m45.drop ⟨_, _, _, _, _, _, rfl, m5.keep0 rplace_ok r4⟩ (by simp) m45.nd (fun y hy => m45.new y hy)
  obtain ⟨b4, d4, b5, d5, b7, d7, rfl, r6'⟩ := id r6
  rw [e6, cal_s, eB_b]
  have e7 : ld h6 h4.length 0 0 6 = some (p'.cs b4 d4 b5 d5 b7 d7) := by rw [ld_of b6 rfl]; exact cut_all rfl
  have m46 : Mv h [x] (h4 ++ [.rows 6 47 false [p.cs b1 d1 b2 d2 b3 d3]]) (x :: h4.length :: F4) := (m45.aside (G := [x]) (by simp) (by simpa using hxl)).swap
  have nd6 := m6.nd
  rw [List.nodup_cons, List.nodup_cons] at nd6
  have m7 : Mv h [x] h6 (x :: F6) := (m46.trans m6).lean (by rw [List.nodup_cons]; exact ⟨fun hm => nd6.1 (by simp [hm]), nd6.2.2⟩) fun b hb => by
    rcases List.mem_cons.1 hb with rfl | hb
    · simp
    · simp [hb]
  rw [e7]
  simp only [eO_s, eC_c, eI_int, eS_sl, eBv_b, eN_n, cond_true]
  cases ok
  all_goals
    first | rw [br_t] | rw [br_f]
    exact ⟨_, _, h6, F6, rfl, nplace_self, r6, m7, x6⟩
theorem impl_write {p : Place} {b : Nat} {k : Int} {s : ByteArray} {g : Bool} {l : List Tag} {a1 a2 a3 : Option (Nat × Nat)} {c1 c2 c3 : Option Nat} {G1 G2 G3 : List Nat} (hb : h[b]? = some (.rows 6 47 false [p.cs a1 c1 a2 c2 a3 c3])) (hs1 : RNodes false h [.sl 2 a1 p.chain.length c1] p.chain G1) (hs2 : RVers false h [.sl 6 a2 p.log.length c2] p.log G2) (hs3 : RVss false h [.sl 1 a3 p.got.length c3] p.got G3)
    (hv : RTags false h [.sl 2 av l.length cv] l G) (hvd : ∀ y ∈ G, y ∉ b :: G1) (hok : placeOk p = true) (hn : smPlace p) (hvn : l.length ≤ 1048576 ∧ s.size ≤ 1048576) (hnd : (b :: (G1 ++ (G2 ++ G3))).Nodup) (hlo : ∀ y ∈ b :: (G1 ++ (G2 ++ G3)), lo ≤ y) (hl : lo ≤ h.length) :
    ∃ h' row' F', evl lo 112 [.ptr (some (b, (0, 0))), .agg [.int .i64 k, .int .i64 0, .int .i64 0, .sl 2 av l.length cv, .str s, .bool g]] h = some (.agg [.int .i64 (wrote p k s g l).2.time, .int .i64 (wrote p k s g l).2.place], h') ∧
      RPlaceN false h' row' (wrote p k s g l).1 F' ∧ h'[b]? = some (.rows 6 47 false [row']) ∧ Mv h (b :: (G1 ++ (G2 ++ G3))) h' (b :: F') := by
  rw [wrote_ok hok]
  have hblt : b < h.length := (List.getElem?_eq_some_iff.1 hb).1
  have hbd : ∀ y ∈ b :: (G1 ++ (G2 ++ G3)), y < h.length := fun y hy => by
    simp only [List.mem_cons, List.mem_append] at hy
    rcases hy with rfl | hy | hy | hy
    · exact hblt
    · exact rnodes_ok.bd _ _ _ _ hs1 y hy
    · exact rvers_ok.bd _ _ _ _ hs2 y hy
    · exact rvss_ok.bd _ _ _ _ hs3 y hy
  generalize hW : (bif canWrite p k s g l then (noteP (addP p 0 (timeOf p l) (newVer p k s g l)), (⟨timeOf p l, p.me⟩ : Tag)) else (p, ⟨0, 0⟩)) = W
  suffices hq : ∃ h' row' F', _ = some (V.agg [.int .i64 W.2.time, .int .i64 W.2.place], h') ∧ RPlaceN false h' row' W.1 F' ∧ h'[b]? = some (.rows 6 47 false [row']) ∧ Mv h (b :: (G1 ++ (G2 ++ G3))) h' (b :: F') from by
    obtain ⟨h', row', F', e, hr⟩ := hq
    exact ⟨h', row', F', E_impl_Place_write e, hr⟩
  have stay : ∀ h', Mv h [] h' [] → canWrite p k s g l = false → ∃ h'' row' F', some (V.agg [.int .i64 0, .int .i64 0], h') = some (V.agg [.int .i64 W.2.time, .int .i64 W.2.place], h'') ∧ RPlaceN false h'' row' W.1 F' ∧ h''[b]? = some (.rows 6 47 false [row']) ∧ Mv h (b :: (G1 ++ (G2 ++ G3))) h'' (b :: F') := fun h' m hc => by
    rw [hc, cond_false] at hW
    subst hW
    exact ⟨h', _, G1 ++ (G2 ++ G3), rfl, ⟨_, _, _, _, _, _, rfl, _, _, _, G1, G2, G3, rfl, rfl, m.keep0 rnodes_ok hs1, m.keep0 rvers_ok hs2, m.keep0 rvss_ok hs3⟩, by rw [m.fr b hblt (by simp)]; exact hb, m.aside (G := b :: (G1 ++ (G2 ++ G3))) hnd hbd⟩
  have h0 := chain_pos hok
  have hti := tidy_loose hok
  have hcw := canWrite_eq (p := p) (k := k) (s := s) (g := g) (l := l)
  have e1 := impl_written (lo := lo) (v := ⟨k, ⟨0, 0⟩, l, s, g⟩) hv hvn
  simp only [Ver.cs] at e1
  rw [e1, cal_s, eB_b]
  cases hwr : written ⟨k, ⟨0, 0⟩, l, s, g⟩ with
  | false => rw [br_f]; exact stay h Mv.nil (by rw [hcw, hwr]; rfl)
  | true =>
  rw [hwr, Bool.true_and] at hcw
  have hpk : pastOk l = true := by unfold written at hwr; simp only [Bool.and_eq_true] at hwr; exact hwr.2
  have hl4 := pastOk_len hpk
  have htb := time_bd hok hpk
  have l2 : ld h b 0 (0 + 2) 1 = some [.sl 2 a1 p.chain.length c1] := by rw [ld_of hb rfl]; rfl
  obtain ⟨bt, dt, Ht, et, rt, _⟩ := impl_tail (lo := h.length) (b := b) (i := 0) (j := 0 + 2) l2 hs1 h0 hn.1.1
  have hslen : (p.chain[p.chain.length - 1]'(by omega)).store.length = 4 := (hti.node _ (List.getElem_mem _)).1
  obtain ⟨vt, h5, F5, e5, r5, m5⟩ := impl_tags (lo := h.length) rt (Nat.le_refl _) hslen
  obtain ⟨a6, c6, e6, r6⟩ := r5.form
  rw [br_t, et, cal_s, eA_a, eC_c, eS_sl, eN_n, e5, cal_s, eA_a, eC_c, e6, eN_n, impl_under (m5.keep0 rtags_ok hv) r6 hvn.1 (by simp only [tagsOf, List.length_map]; omega), cal_s, eB_b]
  unfold mayWrite at hcw
  rw [last_get h0] at hcw
  cases hu : under l (tagsOf (p.chain[p.chain.length - 1]'(by omega)).store) with
  | false => rw [br_f]; exact stay h5 m5.drop (by rw [hcw, hu]; rfl)
  | true =>
  rw [hu, Bool.true_and] at hcw
  have hb5 : h5[b]? = some (.rows 6 47 false [p.cs a1 c1 a2 c2 a3 c3]) := by rw [m5.fr b hblt (by simp)]; exact hb
  have l25 : ld h5 b 0 (0 + 2) 1 = some [.sl 2 a1 p.chain.length c1] := by rw [ld_of hb5 rfl]; rfl
  have hs15 := m5.keep0 rnodes_ok hs1
  have hs25 := m5.keep0 rvers_ok hs2
  have hs35 := m5.keep0 rvss_ok hs3
  have hv5 := m5.keep0 rtags_ok hv
  have hfu : evl lo 196 [.ptr (some (b, (0, 0 + 2))), .int .i64 0] h5 = some (.bool (!roomAt p.chain 0), h5) := impl_full l25 hs15 h0
  rw [br_t, hfu, cal_s, eB_b]
  cases hr : roomAt p.chain 0 with
  | false => rw [Bool.not_false, br_t]; exact stay h5 m5.drop (by rw [hcw, hr]; rfl)
  | true =>
  rw [hr, Bool.true_and] at hcw
  have l3 : ld h5 b 0 (0 + 3) 1 = some [.sl 6 a2 p.log.length c2] := by rw [ld_of hb5 rfl]; rfl
  rw [Bool.not_true, br_f, l3, eO_s, eC_c, eN_n, eS_sl]
  cases hlg : decide ((p.log.length : Int) < 36) with
  | false =>
    have : (p.log.length : Int) ≥ 36 := by have := of_decide_eq_false hlg; omega
    rw [br_pos (by omega)]; exact stay h5 m5.drop (by rw [hcw, hlg]; simp)
  | true =>
  have : (p.log.length : Int) < 36 := of_decide_eq_true hlg
  rw [hlg, Bool.and_true] at hcw
  have l1 : ld h5 b 0 (0 + 1) 1 = some [.int .i64 p.clock] := by rw [ld_of hb5 rfl]; rfl
  have l0 : ld h5 b 0 (0 + 0) 1 = some [.int .i64 p.me] := by rw [ld_of hb5 rfl]; rfl
  have hT : (if latest l > p.clock then latest l else p.clock) + 1 = timeOf p l := rfl
  rw [br_neg (by omega), l1, eO_s, eC_c, eN_n, eI_int, impl_latest hv5 hvn.1, cal_s, eI_int, hT, wr (n := timeOf p l) (by omega) (by omega)]
  cases hti9 : decide (timeOf p l ≤ 999) with
  | false =>
    have : timeOf p l > 999 := by have := of_decide_eq_false hti9; omega
    rw [br_pos (by omega)]; exact stay h5 m5.drop (by rw [hcw, hti9])
  | true =>
  have : timeOf p l ≤ 999 := of_decide_eq_true hti9
  rw [hti9] at hcw
  have hvt := newVer_thin hok hcw
  rw [hcw, cond_true] at hW
  obtain ⟨kp1, _⟩ := can_parts hcw
  have hnd' := hnd
  rw [List.nodup_cons, List.nodup_append, List.mem_append, List.mem_append, List.nodup_append] at hnd'
  obtain ⟨n1, n2, ⟨n3, n4, n5⟩, n6⟩ := hnd'
  simp only [not_or] at n1
  -- the clock
  have hb5lt : b < h5.length := Nat.lt_of_lt_of_le hblt m5.le
  have e8 := st_first (lo := lo) (cs := [.int .i64 (timeOf p l)]) (j := 0 + 1) (r := 0) (row := p.cs a1 c1 a2 c2 a3 c3) hb5 (hlo b (by simp)) rfl (paste_one (by simp [Place.cs]))
  obtain ⟨m6, b6, k6, _⟩ := (Mv.refl (h := h5) (F := []) (by simp)).store hb5lt (by simp) (.rows 6 47 false [(setClock p (timeOf p l)).cs a1 c1 a2 c2 a3 c3])
  generalize hh6 : h5.set b (.rows 6 47 false [(setClock p (timeOf p l)).cs a1 c1 a2 c2 a3 c3]) = h6 at m6 b6 k6
  have e8' : st lo h5 b 0 (0 + 1) [.int .i64 (timeOf p l)] = some h6 := by rw [← hh6]; exact e8
  have hs16 := m6.keep rnodes_ok hs15 fun y hy hm => by rw [List.mem_singleton] at hm; subst hm; exact n1.1 hy
  have hs26 := m6.keep rvers_ok hs25 fun y hy hm => by rw [List.mem_singleton] at hm; subst hm; exact n1.2.1 hy
  have hs36 := m6.keep rvss_ok hs35 fun y hy hm => by rw [List.mem_singleton] at hm; subst hm; exact n1.2.2 hy
  have hv6 := m6.keep rtags_ok hv5 fun y hy hm => by rw [List.mem_singleton] at hm; subst hm; exact hvd y hy (by simp)
  have hkl : (newVer p k s g l).key < p.chain[0].store.length := by
    have := (hti.node _ (List.getElem_mem h0)).1
    show k < _; omega
  obtain ⟨h7, F7, e7, r7, m7⟩ := impl_put (lo := lo) (l := p.chain) (v := newVer p k s g l) (i := 0) (j := 0 + 2) b6 rfl rfl hs16 n1.1 hv6 (fun y hy hm => hvd y hy (by simp [hm])) n2 (fun y hy => hlo y (by simp [hy])) (by have := m5.le; have := m6.le; omega) h0 ⟨kp1.1, hkl⟩ hn.1 hvn.1
  rw [hr, cond_true] at r7
  rw [hr] at e7
  have hbd6 : ∀ y ∈ b :: (G1 ++ (G2 ++ G3)), y < h6.length := fun y hy => Nat.lt_of_lt_of_le (hbd y hy) (Nat.le_trans m5.le m6.le)
  have nd2 : (b :: G2).Nodup := by rw [List.nodup_cons]; exact ⟨n1.2.1, n3⟩
  have d1 := (three m7 (Mv.refl nd2) hnd hbd6).2.1
  have hb7 : h7[b]? = some (.rows 6 47 false [(setClock p (timeOf p l)).cs a1 c1 a2 c2 a3 c3]) := by rw [m7.fr b (Nat.lt_of_lt_of_le hb5lt m6.le) n1.1]; exact b6
  have hs27 : RVers false h7 [.sl 6 a2 p.log.length c2] p.log G2 := m7.keep rvers_ok hs26 fun y hy hm => n6 y hm y (by simp [hy]) rfl
  have ta := tidy_add (k := 0) (t := timeOf p l) (tidy_ok hok) hvt
  have ta' : Tidy 10 20 100 (addP p 0 (timeOf p l) (newVer p k s g l)) := ⟨Nat.le_trans ta.len (by decide), fun x hx => by have := ta.node x hx; exact ⟨this.1, Nat.le_trans this.2.1 (by decide), this.2.2⟩, ⟨Nat.le_trans ta.log.1 (by decide), ta.log.2⟩, ta.got.1, fun l hl => ⟨Nat.le_trans (ta.got.2 l hl).1 (by decide), (ta.got.2 l hl).2⟩⟩
  have hcs : (addP p 0 (timeOf p l) (newVer p k s g l)).cs a1 c1 a2 c2 a3 c3 = (setClock p (timeOf p l)).cs a1 c1 a2 c2 a3 c3 := by simp only [Place.cs, addP, setClock, addN_len]
  rw [← addN_len (k := 0) (v := newVer p k s g l)] at r7
  obtain ⟨a8, c8, h8, F8, e9, b9, r9, m9⟩ := impl_recordT (lo := lo) (p := addP p 0 (timeOf p l) (newVer p k s g l)) (a3 := a3) (c3 := c3) (by rw [hcs]; exact hb7) r7 hs27 (by show 0 < (addN _ _ _).length; rw [addN_len]; omega) ta' d1 nd2 (fun y hy => hlo y (by simp only [List.mem_cons, List.mem_append] at hy ⊢; rcases hy with hy | hy; exact .inl hy; exact .inr (.inr (.inl hy)))) (by have := m5.le; have := m6.le; have := m7.le; omega)
  obtain ⟨r10, m10⟩ := rplace_three (q := noteP (addP p 0 (timeOf p l) (newVer p k s g l))) m7 m9 hnd hbd6 r7 r9 hs36
  have m56 : Mv h (b :: (G1 ++ (G2 ++ G3))) h6 (b :: (G1 ++ (G2 ++ G3))) := (m5.drop.aside (G := b :: (G1 ++ (G2 ++ G3))) hnd hbd).trans (m6.aside (G := G1 ++ (G2 ++ G3)) hnd fun y hy => Nat.lt_of_lt_of_le (hbd y (by simp [hy])) m5.le)
  simp only [Ver.cs, newVer] at e7
  rw [br_neg (by omega), l0, eO_s, eC_c, eN_n, eI_int, e8', eO_s, e7, cal_s, eB_b, br_t, e9, cal_s, eU_t, eN_n]
  subst hW
  exact ⟨h8, _, _, rfl, r10, b9, m56.trans m10⟩
theorem impl_PlaceWrite {p : Place} {cs : List V} {k : Int} {s : ByteArray} {g : Bool} {l : List Tag} (hp : RPlaceN false h cs p F) (hv : RTags false h [.sl 2 av l.length cv] l G) (hl : lo ≤ h.length) (hn : smPlace p) (hvn : l.length ≤ 1048576 ∧ s.size ≤ 1048576) :
    ∃ raw r h' F', evl lo 40 [.agg cs, .int .i64 k, .str s, .bool g, .agg [.sl 2 av l.length cv]] h = some (.tup [.agg raw, .agg [.int .i64 (wrote p k s g l).2.time, .int .i64 (wrote p k s g l).2.place]], h') ∧ NPlace raw (wrote p k s g l).1 r ∧ RPlaceN false h' r (wrote p k s g l).1 F' ∧ Mv h [] h' F' := by
  generalize hh0 : ((((h ++ [Blk.rows 1 3 false [[.int .i64 k]]]) ++ [Blk.rows 1 9 false [[.str s]]]) ++ [Blk.rows 1 4 false [[.bool g]]]) ++ [Blk.rows 1 34 false [[.sl 2 av l.length cv]]]) = h0
  have l1 : (h ++ [Blk.rows 1 3 false [[.int .i64 k]]]).length = h.length + 1 := by simp
  have l2 : ((h ++ [Blk.rows 1 3 false [[.int .i64 k]]]) ++ [Blk.rows 1 9 false [[.str s]]]).length = h.length + 2 := by simp
  have l3 : (((h ++ [Blk.rows 1 3 false [[.int .i64 k]]]) ++ [Blk.rows 1 9 false [[.str s]]]) ++ [Blk.rows 1 4 false [[.bool g]]]).length = h.length + 3 := by simp
  have l4 : h0.length = h.length + 4 := by rw [← hh0]; simp
  have m0 : Mv h [] h0 [] := by rw [← hh0]; exact ((Mv.snoc.trans Mv.snoc).trans Mv.snoc).trans Mv.snoc
  have m1 : Mv h0 [] (h0 ++ [Blk.rows 2 31 false [[.int .i64 0, .int .i64 0]]]) [h0.length] := Mv.last
  have z1 : h0[h.length]? = some (.rows 1 3 false [[.int .i64 k]]) := by
    rw [← hh0, List.getElem?_append_left (by simp), List.getElem?_append_left (by simp), List.getElem?_append_left (by simp), List.getElem?_append_right (by omega)]; simp
  have z2 : h0[h.length + 1]? = some (.rows 1 9 false [[.str s]]) := by
    rw [← hh0, List.getElem?_append_left (by simp), List.getElem?_append_left (by simp), List.getElem?_append_right (by simp), l1]; simp
  have z3 : h0[h.length + 2]? = some (.rows 1 4 false [[.bool g]]) := by
    rw [← hh0, List.getElem?_append_left (by simp), List.getElem?_append_right (by simp), l2]; simp
  have z4 : h0[h.length + 3]? = some (.rows 1 34 false [[.sl 2 av l.length cv]]) := by
    rw [← hh0, List.getElem?_append_right (by simp), l3]; simp
  have m01 := m0.trans m1.drop
  obtain ⟨raw, r, h', F', e, n, rr, m, hx⟩ := impl_attemptedW (lo := lo) (p' := (wrote p k s g l).1) (l1 := [.ptr (some (h.length, (0, 0))), .ptr (some (h.length + 3, (0, 0))), .ptr (some (h.length + 1, (0, 0))), .ptr (some (h.length + 2, (0, 0))), .ptr (some (h0.length, (0, 0)))]) (g := 111) (ok := true) (x := h0.length)
    (X0 := .rows 2 31 false [[.int .i64 0, .int .i64 0]]) (X1 := .rows 2 31 false [[.int .i64 (wrote p k s g l).2.time, .int .i64 (wrote p k s g l).2.place]]) (m01.keep0 rplaceN_ok hp) (Nat.le_trans hl m01.le) hn (by simp) (fun hpo hh b row F1 hhl mm rp hb hnd hlo => by
    obtain ⟨b1, d1, b2, d2, b3, d3, rfl, rp⟩ := rp
    obtain ⟨G1, G2, G3, rfl, g1, g2, g3⟩ := rp.cells
    have hl1 : (h0 ++ [Blk.rows 2 31 false [[.int .i64 0, .int .i64 0]]]).length = h0.length + 1 := by simp
    have up : ∀ i X, i < h0.length → h0[i]? = some X → hh[i]? = some X := fun i X hi hX => by
      rw [mm.fr i (by omega) (by simp), List.getElem?_append_left hi]; exact hX
    have k1 : ld hh h.length 0 0 1 = some [.int .i64 k] := by rw [ld_of (up _ _ (by omega) z1) rfl]; rfl
    have k2 : ld hh (h.length + 1) 0 0 1 = some [.str s] := by rw [ld_of (up _ _ (by omega) z2) rfl]; rfl
    have k3 : ld hh (h.length + 2) 0 0 1 = some [.bool g] := by rw [ld_of (up _ _ (by omega) z3) rfl]; rfl
    have k4 : ld hh (h.length + 3) 0 0 1 = some [.sl 2 av l.length cv] := by rw [ld_of (up _ _ (by omega) z4) rfl]; rfl
    have hvh : RTags false hh [.sl 2 av l.length cv] l G := (m01.trans mm).keep0 rtags_ok hv
    have hGb : ∀ y ∈ G, y < h.length := rtags_ok.bd _ _ _ _ hv
    obtain ⟨h9, row9, F9, e9, r9, b9, m9⟩ := impl_write (lo := lo) (k := k) (s := s) (g := g) hb g1 g2 g3 hvh (fun y hy hm => by
      have g1 := hGb y hy
      have g2 := hlo y (by rw [List.mem_cons] at hm ⊢; rw [List.mem_append]; exact hm.imp id .inl)
      omega) hpo hn hvn hnd (fun y hy => by have := hlo y hy; omega) (by omega)
    have hxb : h0.length ∉ b :: (G1 ++ (G2 ++ G3)) := fun hm => by have := hlo _ hm; omega
    have hx0 : hh[h0.length]? = some (.rows 2 31 false [[.int .i64 0, .int .i64 0]]) := by rw [mm.fr _ (by omega) (by simp)]; simp
    have hxlt : h0.length < hh.length := (List.getElem?_eq_some_iff.1 hx0).1
    have hx9 : h9[h0.length]? = some (.rows 2 31 false [[.int .i64 0, .int .i64 0]]) := by rw [m9.fr _ hxlt hxb]; exact hx0
    have e10 := st_first (lo := lo) (cs := [.int .i64 (wrote p k s g l).2.time, .int .i64 (wrote p k s g l).2.place]) (j := 0) (r := 0) (row := [.int .i64 0, .int .i64 0]) hx9 (by omega) rfl (paste_all rfl)
    obtain ⟨m10, b10, k10, n10⟩ := m9.store hxlt hxb (.rows 2 31 false [[.int .i64 (wrote p k s g l).2.time, .int .i64 (wrote p k s g l).2.place]])
    have hb9 : b ≠ h0.length := fun e => hxb (by rw [e]; simp)
    refine ⟨_, row9, F9, E_impl_PlaceWrite_1 ?_, rplaceN_ok.fr _ _ _ _ _ r9 fun y hy => k10 y fun e => n10 (by rw [← e]; simp [hy]), by rw [k10 b hb9]; exact b9, b10, m10⟩
    rw [k1, eO_s, eC_c, eN_n, eI_int, k4, eO_s, eC_c, eS_sl, eN_n, k2, eO_s, eC_c, eN_n, eT_s, k3, eO_s, eC_c, eN_n, eB_b]
    cases g
    all_goals
      first | rw [br_t] | rw [br_f]
      rw [e9, cal_s, eA_a, eC_c, eI_int, eC_c, eI_int, eN_n, e10, eO_s]
      rfl)
  obtain ⟨b1, d1, b2, d2, b3, d3, rfl, _⟩ := hp
  have hq : tried p (wrote p k s g l).1 = (wrote p k s g l).1 := by unfold tried; cases hpo : placeOk p with | true => rfl | false => unfold wrote; rw [hpo]; rfl
  rw [hq] at n rr
  obtain ⟨s1, s2, s3, a1', c1', a2', c2', a3', c3', rfl, n1, n2, n3, rfl⟩ := n
  have hx' : h'[h0.length]? = some (.rows 2 31 false [[.int .i64 (wrote p k s g l).2.time, .int .i64 (wrote p k s g l).2.place]]) := by
    rw [hx]; cases hpo : placeOk p with | true => rfl | false => unfold wrote; rw [hpo]; rfl
  have lx : ld h' h0.length 0 0 2 = some [.int .i64 (wrote p k s g l).2.time, .int .i64 (wrote p k s g l).2.place] := by rw [ld_of hx' rfl]; rfl
  have ndx := m.nd
  rw [List.nodup_cons] at ndx
  refine ⟨(wrote p k s g l).1.cs a1' c1' a2' c2' a3' c3', _, h', F', E_impl_PlaceWrite ?_, nplace_self, rr, ((m0.trans m1).trans m).lean ndx.2 fun y hy => by simp [hy]⟩
  simp only [Place.cs] at e
  rw [l3, l2, l1, hh0, e, cal_s, eU_t, eC_c, eA_a, eC_c, eI_int, eC_c, eI_int, eC_c, n1, eC_c, n2, eC_c, n3, eC_c, eBv_b, eN_n, eC_c, eB_b]
  cases (placeOk p && true)
  all_goals
    first | rw [br_t] | rw [br_f]
    rw [eN_n, lx, eO_s, eC_c, eI_int, eC_c, eI_int, eN_n]
end
end Go.Proofs.YtfhnofppfacemaaGreat
namespace Go.Proofs.YtfhnofppfacemaaGreat
open Go T
set_option linter.unusedVariables false
set_option linter.unusedSimpArgs false
theorem exact_story2 {α β : Type} {Ra Rx : Rel α} {Rr : Rel β} (okA : Ra.Ok) (okX : Rx.Ok) (okR : Rr.Ok) {h : Heap} {a0 : List V} {x : α} {y y' : β} {F0 : List Nat} (ha : Ra h a0 x F0)
    {TO1 TO TO' TO8 : Heap → List V → Heap → Prop} {SP IM IM9 : List V → Heap → List V → Heap → Prop} {MX MR : List V → Heap → Heap → Prop}
    (hto1 : ∀ hh F, h.length ≤ hh.length → Ra hh a0 x F → ∃ cs h' F', TO1 hh cs h' ∧ Rx h' cs x F' ∧ Mv hh [] h' F')
    (hto : ∀ hh F, h.length ≤ hh.length → Ra hh a0 x F → ∃ cs h' F', TO hh cs h' ∧ Rx h' cs x F' ∧ Mv hh [] h' F')
    (hto' : ∀ hh F, h.length ≤ hh.length → Ra hh a0 x F → ∃ cs h' F', TO' hh cs h' ∧ Rx h' cs x F' ∧ Mv hh [] h' F')
    (hto8 : ∀ hh F, h.length ≤ hh.length → Ra hh a0 x F → ∃ cs h' F', TO8 hh cs h' ∧ Rx h' cs x F' ∧ Mv hh [] h' F')
    (hsp : ∀ cs hh F, h.length ≤ hh.length → Rx hh cs x F → F.Nodup → (∀ b ∈ F, h.length ≤ b) → ∃ r h' F', SP cs hh r h' ∧ Rr h' r y F' ∧ Mv hh [] h' F')
    (him : ∀ cs hh F, h.length ≤ hh.length → Rx hh cs x F → F.Nodup → (∀ b ∈ F, h.length ≤ b) → ∃ r h' F', IM cs hh r h' ∧ Rr h' r y F' ∧ Mv hh [] h' F')
    (him9 : ∀ cs hh F, h.length ≤ hh.length → Rx hh cs x F → F.Nodup → (∀ b ∈ F, h.length ≤ b) → ∃ r h' F', IM9 cs hh r h' ∧ Rr h' r y F' ∧ Mv hh [] h' F')
    (hmx : ∀ cs hh F, Rx hh cs x F → F.Nodup → (∀ b ∈ F, h.length ≤ b) → ∃ h', MX cs hh h' ∧ Mv hh F h' F)
    (hmr : ∀ cs hh F, Rr hh cs y F → F.Nodup → (∀ b ∈ F, h.length ≤ b) → ∃ h', MR cs hh h' ∧ Rr h' cs y' F ∧ Mv hh F h' F) :
    ∃ c1 h1 w h2 c3 h3 g h4 c5 h5 h6 h7 c8 h8 g9 h9, TO1 h c1 h1 ∧ SP c1 h1 w h2 ∧ TO h2 c3 h3 ∧ IM c3 h3 g h4 ∧ TO' h4 c5 h5 ∧ MX c3 h5 h6 ∧ MR g h6 h7 ∧ TO8 h7 c8 h8 ∧ IM9 c8 h8 g9 h9 ∧
      ((∃ F, Rx h1 c1 x F) ∧ (∃ F, Rx h3 c3 x F) ∧ (∃ F, Rx h8 c8 x F)) ∧ ((∃ F, Rr h2 w y F) ∧ (∃ F, Rr h4 g y F) ∧ (∃ F, Rr h4 w y F)) ∧ ((∀ hm, Mv h4 [] hm [] → ∃ F, Rx hm c3 x F) ∧ (∃ F, Rx h5 c3 x F) ∧ (∃ F, Rx h5 c5 x F)) ∧ ((∃ F, Rr h6 g y F) ∧ (∃ F, Rr h6 w y F)) ∧
      (∃ F, Rr h7 g y' F) ∧ ((∃ F, Rr h9 g9 y F) ∧ (∃ F, Rr h9 w y F)) ∧ (∃ F, Rr h9 g y' F) := by
  obtain ⟨c1, h1, X1, t1, x1, m1⟩ := hto1 h F0 (Nat.le_refl _) ha
  have b1 := m1.inv
  obtain ⟨w, h2, W, s2, w2, m2⟩ := hsp c1 h1 X1 m1.le x1 m1.nd (fun b hb => (b1 b hb).1)
  have b2 := m2.inv
  have l1 := m1.le
  have l2 := m2.le
  have a2 := m2.keep0 okA (m1.keep0 okA ha)
  obtain ⟨c3, h3, X3, t3, x3, m3⟩ := hto h2 F0 (by omega) a2
  have b3 := m3.inv
  have l3 := m3.le
  obtain ⟨g, h4, G, i4, g4, m4⟩ := him c3 h3 X3 (by omega) x3 m3.nd (fun b hb => by have := b3 b hb; omega)
  have b4 := m4.inv
  have l4 := m4.le
  have w4 := m4.keep0 okR (m3.keep0 okR w2)
  have x4 := m4.keep0 okX x3
  have a4 := m4.keep0 okA (m3.keep0 okA a2)
  obtain ⟨c5, h5, X5, t5, x5, m5⟩ := hto' h4 F0 (by omega) a4
  have l5 := m5.le
  have w5 := m5.keep0 okR w4
  have g5 := m5.keep0 okR g4
  have x35 := m5.keep0 okX x4
  have a5 := m5.keep0 okA a4
  have bA := okA.bd _ _ _ _ ha
  obtain ⟨h6, p6, m6⟩ := hmx c3 h5 X3 x35 m3.nd (fun b hb => by have := b3 b hb; omega)
  have w6 := m6.keepB okR w5 (m := h2.length) (fun b hb => (b2 b hb).2) (fun b hb => (b3 b hb).1)
  have g6 := m6.keepA okR g5 (m := h3.length) (fun b hb => (b4 b hb).1) (fun b hb => (b3 b hb).2)
  have a6 := m6.keepB okA a5 (m := h.length) bA (fun b hb => by have := b3 b hb; omega)
  obtain ⟨h7, p7, g7, m7⟩ := hmr g h6 G g6 m4.nd (fun b hb => by have := b4 b hb; omega)
  have w7 := m7.keepB okR w6 (m := h2.length) (fun b hb => (b2 b hb).2) (fun b hb => by have := b4 b hb; omega)
  have a7 := m7.keepB okA a6 (m := h.length) bA (fun b hb => by have := b4 b hb; omega)
  have l6 := m6.le
  have l7 := m7.le
  obtain ⟨c8, h8, X8, t8, x8, m8⟩ := hto8 h7 F0 (by omega) a7
  have b8 := m8.inv
  have l8 := m8.le
  obtain ⟨g9, h9, G9, i9, r9, m9⟩ := him9 c8 h8 X8 (by omega) x8 m8.nd (fun b hb => by have := b8 b hb; omega)
  exact ⟨c1, h1, w, h2, c3, h3, g, h4, c5, h5, h6, h7, c8, h8, g9, h9, t1, s2, t3, i4, t5, p6, p7, t8, i9, ⟨⟨_, x1⟩, ⟨_, x3⟩, ⟨_, x8⟩⟩, ⟨⟨_, w2⟩, ⟨_, g4⟩, ⟨_, w4⟩⟩, ⟨fun hm mm => ⟨_, mm.keep0 okX x4⟩, ⟨_, x35⟩, ⟨_, x5⟩⟩, ⟨⟨_, g6⟩, ⟨_, w6⟩⟩, ⟨_, g7⟩,
    ⟨⟨_, r9⟩, ⟨_, m9.keep0 okR (m8.keep0 okR w7)⟩⟩, ⟨_, m9.keep0 okR (m8.keep0 okR g7)⟩⟩

/-- a place and causes, side by side -/
def RPT (ro : Bool) : Rel (Place × List Tag) := fun h cs x F => ∃ c1 a c F1 F2, cs = [.agg c1, .sl 2 a x.2.length c] ∧ F = F1 ++ F2 ∧ RPlaceN ro h c1 x.1 F1 ∧ RTags ro h [.sl 2 a x.2.length c] x.2 F2
theorem rpt_ok {ro : Bool} : (RPT ro).Ok :=
  ⟨fun h h' cs x F ⟨c1, a, c, F1, F2, e, e2, h1, h2⟩ hb => ⟨c1, a, c, F1, F2, e, e2, rplaceN_ok.fr _ _ _ _ _ h1 fun b hm => hb b (by rw [e2]; simp [hm]), rtags_ok.fr _ _ _ _ _ h2 fun b hm => hb b (by rw [e2]; simp [hm])⟩,
   fun h cs x F ⟨c1, a, c, F1, F2, e, e2, h1, h2⟩ b hb => by
    rw [e2, List.mem_append] at hb
    exact hb.elim (rplaceN_ok.bd _ _ _ _ h1 b) (rtags_ok.bd _ _ _ _ h2 b)⟩
theorem RPT.parts {ro : Bool} {h : Heap} {c1 : List V} {a : Option (Nat × Nat)} {n : Nat} {c : Option Nat} {p : Place} {l : List Tag} {F : List Nat} (hs : RPT ro h [.agg c1, .sl 2 a n c] (p, l) F) :
    ∃ F1 F2, F = F1 ++ F2 ∧ n = l.length ∧ RPlaceN ro h c1 p F1 ∧ RTags ro h [.sl 2 a l.length c] l F2 := by
  obtain ⟨d1, b, d, F1, F2, e, e2, h1, h2⟩ := hs
  injection e with e1 e; injection e1 with e1; injection e with e _; injection e with _ e3 e4 e5
  subst e1; subst e3; subst e5
  exact ⟨F1, F2, e2, e4, h1, h2⟩
theorem RPT.mk {ro : Bool} {h : Heap} {c1 : List V} {a : Option (Nat × Nat)} {c : Option Nat} {p : Place} {l : List Tag} {F1 F2 : List Nat} (h1 : RPlaceN ro h c1 p F1) (h2 : RTags ro h [.sl 2 a l.length c] l F2) : RPT ro h [.agg c1, .sl 2 a l.length c] (p, l) (F1 ++ F2) := ⟨_, _, _, _, _, rfl, rfl, h1, h2⟩

section
variable {lo lo1 lo2 : Nat} {h : Heap} {F : List Nat}
/-- both marked, one behind the other -/
theorem mark_pair {p : Place} {l : List Tag} {c1 : List V} {a : Option (Nat × Nat)} {n : Nat} {c : Option Nat} (hs : RPT false h [.agg c1, .sl 2 a n c] (p, l) F) (hlo : ∀ b ∈ F, lo ≤ b) (hnd : F.Nodup) (hw : (1 : Int) + wPlace p + mkN wTag l ≤ big) (hn : smPlace p) (hl : l.length ≤ 1048576) :
    ∃ hm h', evl lo 21 [.agg c1, .int .i64 1] h = some (.int .i64 (1 + wPlace p), hm) ∧ evl lo 114 [.sl 2 a n c, .int .i64 (1 + wPlace p)] hm = some (.int .i64 (1 + wPlace p + mkN wTag l), h') ∧ Mv h F h' F := by
  obtain ⟨F1, F2, rfl, rfl, h1, h2⟩ := hs.parts
  have hnd' := hnd
  rw [List.nodup_append] at hnd'
  obtain ⟨hm, e1, _, m1⟩ := mark_place (lo := lo) h1 (fun b hb => hlo b (by simp [hb])) hnd'.1 (by omega) hn
  have h2' := m1.keep rtags_ok h2 fun y hy hy1 => hnd'.2.2 y hy1 y hy rfl
  obtain ⟨h', e2, _, _, m2⟩ := laws_markTagS (lo := lo) h2' (fun b hb => hlo b (by simp [hb])) hnd'.2.1 (by omega) hw hl
  have b1 : ∀ y ∈ F1, y < hm.length := fun y hy => Nat.lt_of_lt_of_le (rplaceN_ok.bd _ _ _ _ h1 y hy) m1.le
  have b2 : ∀ y ∈ F2, y < h.length := rtags_ok.bd _ _ _ _ h2
  exact ⟨hm, h', e1, e2, (m1.aside (G := F2) hnd b2).trans (m2.aside (G := F1) (by rw [List.nodup_append]; exact ⟨hnd'.2.1, hnd'.1, fun x hx y hy e => hnd'.2.2 y hy x hx e.symm⟩) b1).swap⟩
end
end Go.Proofs.YtfhnofppfacemaaGreat
namespace Go.Proofs.YtfhnofppfacemaaGreat
open Go T
set_option linter.unusedVariables false
set_option linter.unusedSimpArgs false
section
variable {lo : Nat} {h : Heap} {F F' : List Nat}
set_option maxRecDepth 100000 in
theorem law_FnExactPlaceWrite {p : Place} {cs : List V} {k : Int} {s : ByteArray} {g : Bool} {l : List Tag} {av : Option (Nat × Nat)} {cv : Option Nat} (hs : RPlaceN true h cs p F) (hv : RTags true h [.sl 2 av l.length cv] l F') (hb : bdPlace p) (hbv : l.length ≤ maxLen) (hsn : s.size ≤ maxLen) :
    ∃ h', evl h.length 8 [.agg cs, .int .i64 k, .str s, .bool g, .agg [.sl 2 av l.length cv]] h = some (.bool true, h') := by
  have hsz := sz_place (lo := h.length) hs hb
  have hs0 := RPT.mk hs hv
  obtain ⟨b1, d1, b2, d2, b3, d3, rfl, _⟩ := id hs
  suffices hk : ∃ h', _ = some (V.bool true, h') from hk.imp fun h' hh => E_laws_FnExactPlaceWrite hh
  by_cases hts : ((s.size : Nat) : Int) > 1048576
  · rw [br_pos hts]; exact ⟨_, rfl⟩
  rw [br_neg hts]
  rw [hsz, cal_s, eI_int]
  by_cases hneg : szN 1048576 (szPlace p) < 0
  · rw [br_pos hneg]; exact ⟨_, rfl⟩
  · rw [br_neg hneg]
    have hsm := szN_small hneg
    have hL : szN 1048576 (szPlace p) = 1048576 - (szPlace p : Int) := by unfold szN; rw [if_pos (by omega)]
    have hL0 : 0 ≤ szN 1048576 (szPlace p) := by omega
    have e0 := laws_szPast (lo := h.length) (h := h) (a := av) (c := cv) (n := l.length) (left := szN 1048576 (szPlace p)) hbv hL0 (szN_le (by decide))
    rw [e0, cal_s, eI_int]
    by_cases hneg2 : szN (szN 1048576 (szPlace p)) (l.length) < 0
    · rw [br_pos hneg2]; exact ⟨_, rfl⟩
    · rw [br_neg hneg2]
      have hsm2 : l.length ≤ 1048576 := by
        rw [szN_neg (by omega)] at hneg2
        omega
      have hvn : l.length ≤ 1048576 ∧ s.size ≤ 1048576 := by omega
      have hn := sm_place hsm
      have hw0 : wPlace p ≤ 5 * 1048576 := by have := wPlace_le (p := p); omega
      have hw : (1 : Int) + wPlace p + mkN wTag l ≤ big := by rw [mkN_tag]; simp only [big]; omega
      have hw1 : (1 : Int) + wPlace p ≤ big := by simp only [big]; omega
      obtain ⟨hq, hwq⟩ := sm_PlaceWrite (p := p) (k := k) (s := s) (g := g) (l := l) hn hsm
      have hS := fun (lo : Nat) (x : List V) (a : Option (Nat × Nat)) (c : Option Nat) (hh : Heap) (F G : List Nat) (hl : lo ≤ hh.length) (hr : RPlaceN false hh x p F) (hv : RTags false hh [.sl 2 a l.length c] l G) => spec_PlaceWrite (lo := lo) (k := k) (s := s) (g := g) (l := l) hr hv hl hn hvn
      have hI := fun (lo : Nat) (x : List V) (a : Option (Nat × Nat)) (c : Option Nat) (hh : Heap) (F G : List Nat) (hl : lo ≤ hh.length) (hr : RPlaceN false hh x p F) (hv : RTags false hh [.sl 2 a l.length c] l G) => impl_PlaceWrite (lo := lo) (k := k) (s := s) (g := g) (l := l) hr hv hl hn hvn
      generalize (wrote p k s g l).1 = q at hq hwq hS hI
      generalize (wrote p k s g l).2 = okb at hS hI
      obtain ⟨c1, h1, w, h2, c3, h3, g0, h4, c5, h5, h6, h7, c8, h8, g9, h9, t1, s2, t3, i4, t5, p6, p7, t8, i9, ⟨⟨X1, x1⟩, ⟨X3, x3⟩, ⟨X8, x8⟩⟩, ⟨⟨W2, w2⟩, ⟨G4, g4⟩, ⟨W4, w4⟩⟩, ⟨xm, ⟨X35, x35⟩, ⟨X5, x5⟩⟩, ⟨⟨G6, g6⟩, ⟨W6, w6⟩⟩, ⟨G7, g7⟩, ⟨⟨G9, r9⟩, ⟨W9, w9⟩⟩, ⟨G79, g79⟩⟩ :=
        exact_story2 (Ra := RPT true) (Rx := RPT false) (Rr := RPlaceN false) rpt_ok rpt_ok rplaceN_ok (x := (p, l)) (y := q) (y' := mkPlace 1 q) hs0
          (TO1 := fun hh r h' => ∃ c1 a c hm, r = [.agg c1, .sl 2 a l.length c] ∧ evl hh.length 17 [.agg (p.cs b1 d1 b2 d2 b3 d3)] hh = some (.agg c1, hm) ∧ evl hm.length 39 [.agg [.sl 2 av l.length cv]] hm = some (.agg [.sl 2 a l.length c], h'))
          (TO := fun hh r h' => ∃ c1 a c hm, r = [.agg c1, .sl 2 a l.length c] ∧ evl h.length 17 [.agg (p.cs b1 d1 b2 d2 b3 d3)] hh = some (.agg c1, hm) ∧ evl h.length 39 [.agg [.sl 2 av l.length cv]] hm = some (.agg [.sl 2 a l.length c], h'))
          (TO' := fun hh r h' => ∃ c1 a c hm, r = [.agg c1, .sl 2 a l.length c] ∧ evl h.length 17 [.agg (p.cs b1 d1 b2 d2 b3 d3)] hh = some (.agg c1, hm) ∧ Mv hh [] hm [] ∧ (∃ F, RPlaceN false hm c1 p F) ∧ evl h.length 39 [.agg [.sl 2 av l.length cv]] hm = some (.agg [.sl 2 a l.length c], h'))
          (TO8 := fun hh r h' => ∃ c1 a c hm, r = [.agg c1, .sl 2 a l.length c] ∧ evl hh.length 17 [.agg (p.cs b1 d1 b2 d2 b3 d3)] hh = some (.agg c1, hm) ∧ evl hm.length 39 [.agg [.sl 2 av l.length cv]] hm = some (.agg [.sl 2 a l.length c], h'))
          (SP := fun x hh r h' => ∀ c1 a c, x = [.agg c1, .sl 2 a l.length c] → ∃ raw, evl hh.length 38 [.agg c1, .int .i64 k, .str s, .bool g, .agg [.sl 2 a l.length c]] hh = some (.tup [.agg raw, .agg [.int .i64 okb.time, .int .i64 okb.place]], h') ∧ NPlace raw q r)
          (IM := fun x hh r h' => ∀ c1 a c, x = [.agg c1, .sl 2 a l.length c] → ∃ raw, evl h.length 40 [.agg c1, .int .i64 k, .str s, .bool g, .agg [.sl 2 a l.length c]] hh = some (.tup [.agg raw, .agg [.int .i64 okb.time, .int .i64 okb.place]], h') ∧ NPlace raw q r)
          (IM9 := fun x hh r h' => ∀ c1 a c, x = [.agg c1, .sl 2 a l.length c] → ∃ raw, evl hh.length 40 [.agg c1, .int .i64 k, .str s, .bool g, .agg [.sl 2 a l.length c]] hh = some (.tup [.agg raw, .agg [.int .i64 okb.time, .int .i64 okb.place]], h') ∧ NPlace raw q r)
          (MX := fun x hh h' => ∀ c1 a c, x = [.agg c1, .sl 2 a l.length c] → ∃ hm, evl h.length 21 [.agg c1, .int .i64 1] hh = some (.int .i64 (1 + wPlace p), hm) ∧ evl h.length 43 [.agg [.sl 2 a l.length c], .int .i64 (1 + wPlace p)] hm = some (.int .i64 (1 + wPlace p + mkN wTag l), h'))
          (MR := fun r hh h' => evl h.length 21 [.agg r, .int .i64 1] hh = some (.int .i64 (1 + wPlace q), h'))
          (fun hh F hl hr => by
            obtain ⟨F1, F2, rfl, _, k1, k2⟩ := hr.parts
            obtain ⟨c1, hm, F3, e1, r1, m1⟩ := to_place (lo := hh.length) k1 (Nat.le_refl _) hn
            obtain ⟨a', h', F4, e2, r2, m2⟩ := laws_toPast (lo := hm.length) (l := l) (m1.keep0 rtags_ok k2) (Nat.le_refl _) hvn.1
            exact ⟨_, h', _, ⟨c1, _, _, hm, rfl, e1, e2⟩, RPT.mk (m2.keep0 rplaceN_ok r1) r2, m1.join m2 (rplaceN_ok.bd _ _ _ _ r1)⟩)
          (fun hh F hl hr => by
            obtain ⟨F1, F2, rfl, _, k1, k2⟩ := hr.parts
            obtain ⟨c1, hm, F3, e1, r1, m1⟩ := to_place (lo := h.length) k1 hl hn
            obtain ⟨a', h', F4, e2, r2, m2⟩ := laws_toPast (lo := h.length) (l := l) (m1.keep0 rtags_ok k2) (Nat.le_trans hl m1.le) hvn.1
            exact ⟨_, h', _, ⟨c1, _, _, hm, rfl, e1, e2⟩, RPT.mk (m2.keep0 rplaceN_ok r1) r2, m1.join m2 (rplaceN_ok.bd _ _ _ _ r1)⟩)
          (fun hh F hl hr => by
            obtain ⟨F1, F2, rfl, _, k1, k2⟩ := hr.parts
            obtain ⟨c1, hm, F3, e1, r1, m1⟩ := to_place (lo := h.length) k1 hl hn
            obtain ⟨a', h', F4, e2, r2, m2⟩ := laws_toPast (lo := h.length) (l := l) (m1.keep0 rtags_ok k2) (Nat.le_trans hl m1.le) hvn.1
            exact ⟨_, h', _, ⟨c1, _, _, hm, rfl, e1, m1.drop, ⟨_, r1⟩, e2⟩, RPT.mk (m2.keep0 rplaceN_ok r1) r2, m1.join m2 (rplaceN_ok.bd _ _ _ _ r1)⟩)
          (fun hh F hl hr => by
            obtain ⟨F1, F2, rfl, _, k1, k2⟩ := hr.parts
            obtain ⟨c1, hm, F3, e1, r1, m1⟩ := to_place (lo := hh.length) k1 (Nat.le_refl _) hn
            obtain ⟨a', h', F4, e2, r2, m2⟩ := laws_toPast (lo := hm.length) (l := l) (m1.keep0 rtags_ok k2) (Nat.le_refl _) hvn.1
            exact ⟨_, h', _, ⟨c1, _, _, hm, rfl, e1, e2⟩, RPT.mk (m2.keep0 rplaceN_ok r1) r2, m1.join m2 (rplaceN_ok.bd _ _ _ _ r1)⟩)
          (fun x hh F hl hr _ _ => by
            obtain ⟨c1, a, c, F1, F2, rfl, rfl, r1, r2⟩ := hr
            obtain ⟨raw, r, h', F', e1, e2, e3, e4⟩ := hS hh.length c1 a c hh F1 F2 (Nat.le_refl _) r1 r2
            exact ⟨r, h', F', fun c1' a' c' e => (by injection e with z1 e; injection z1 with z1; injection e with z2 _; injection z2 with _ z2 _ z3; subst z1; subst z2; subst z3; exact ⟨raw, e1, e2⟩), e3, e4⟩)
          (fun x hh F hl hr _ _ => by
            obtain ⟨c1, a, c, F1, F2, rfl, rfl, r1, r2⟩ := hr
            obtain ⟨raw, r, h', F', e1, e2, e3, e4⟩ := hI h.length c1 a c hh F1 F2 hl r1 r2
            exact ⟨r, h', F', fun c1' a' c' e => (by injection e with z1 e; injection z1 with z1; injection e with z2 _; injection z2 with _ z2 _ z3; subst z1; subst z2; subst z3; exact ⟨raw, e1, e2⟩), e3, e4⟩)
          (fun x hh F hl hr _ _ => by
            obtain ⟨c1, a, c, F1, F2, rfl, rfl, r1, r2⟩ := hr
            obtain ⟨raw, r, h', F', e1, e2, e3, e4⟩ := hI hh.length c1 a c hh F1 F2 (Nat.le_refl _) r1 r2
            exact ⟨r, h', F', fun c1' a' c' e => (by injection e with z1 e; injection z1 with z1; injection e with z2 _; injection z2 with _ z2 _ z3; subst z1; subst z2; subst z3; exact ⟨raw, e1, e2⟩), e3, e4⟩)
          (fun x hh F hr hnd hlo => by
            obtain ⟨c1, a, c, F1, F2, rfl, rfl, r1, r2⟩ := id hr
            obtain ⟨hm, h', e1, e2, m⟩ := mark_pair (lo := h.length) hr hlo hnd hw hn hvn.1
            exact ⟨h', fun c1' a' c' e => (by injection e with z1 e; injection z1 with z1; injection e with z2 _; injection z2 with _ z2 _ z3; subst z1; subst z2; subst z3; exact ⟨hm, e1, E_laws_markPast (by rw [e2, cal_s, eI_int])⟩), m⟩)
          (fun r hh F hr hnd hlo => by obtain ⟨h', e, rr, m⟩ := mark_place (lo := h.length) hr hlo hnd hwq hq; exact ⟨h', e, rr, m⟩)
      obtain ⟨c1, x1a, x1c, m1, rfl, t11, t12⟩ := t1
      obtain ⟨c3, x3a, x3c, m3, rfl, t31, t32⟩ := t3
      obtain ⟨c5, x5a, x5c, m5, rfl, t51, mm5, ⟨M5, rm5⟩, t52⟩ := t5
      obtain ⟨c8, x8a, x8c, m8, rfl, t81, t82⟩ := t8
      obtain ⟨raw2, s22, n2⟩ := s2 _ _ _ rfl
      obtain ⟨raw4, i44, n4⟩ := i4 _ _ _ rfl
      obtain ⟨raw9, i99, n9⟩ := i9 _ _ _ rfl
      obtain ⟨hm6, p61, p62⟩ := p6 _ _ _ rfl
      obtain ⟨_, _, _, _, y1, _⟩ := x1.parts
      obtain ⟨_, _, _, _, y3, _⟩ := x3.parts
      obtain ⟨_, _, _, _, y8, _⟩ := x8.parts
      obtain ⟨XM, xm⟩ := xm m5 mm5
      obtain ⟨_, _, _, _, ym, _⟩ := xm.parts
      obtain ⟨_, _, _, _, y35, v35⟩ := x35.parts
      obtain ⟨_, _, _, _, y5, v5⟩ := x5.parts
      have e35 := eq_place (lo := h.length) ym rm5 hn
      have e35v := eqPast (lo := h.length) (l := l) v35 v5 hvn.1
      have e4 := eq_place (lo := h.length) g4 w4 hq
      have e6 := eq_place (lo := h.length) g6 w6 hq
      have e9 := eq_place (lo := h.length) r9 w9 hq
      have k7 := held_place (lo := h.length) g7 hwq hq
      have k9 := held_place (lo := h.length) g79 hwq hq
      obtain ⟨q1, _, q2, _, q3, _, rfl, _⟩ := y1
      obtain ⟨q1, _, q2, _, q3, _, rfl, _⟩ := y3
      obtain ⟨q1, _, q2, _, q3, _, rfl, _⟩ := y5
      obtain ⟨q1, _, q2, _, q3, _, rfl, _⟩ := y8
      obtain ⟨u1, u2, u3, _, _, _, _, _, _, rfl, su1, su2, su3, rfl⟩ := n2
      obtain ⟨v1, v2, v3, _, _, _, _, _, _, rfl, sv1, sv2, sv3, rfl⟩ := n4
      obtain ⟨y1, y2, y3, _, _, _, _, _, _, rfl, sy1, sy2, sy3, rfl⟩ := n9
      have z1 : decide ((1 : Int) + wPlace p + mkN wTag l < 0) = false := decide_eq_false (by omega)
      have z2 : decide ((1 : Int) + wPlace q < 0) = false := decide_eq_false (by omega)
      have bq : ∀ {T : Type} (x : Int) (y z : Option T), br (x == x) y z = y := fun x y z => by rw [beqI, br_t]
      have et : ∀ {lo : Nat} {hh : Heap}, evl lo 41 [.agg [.int .i64 okb.time, .int .i64 okb.place], .agg [.int .i64 okb.time, .int .i64 okb.place]] hh = some (.bool true, hh) := fun {lo hh} => by rw [laws_eqTag, beqI, beqI]; rfl
      rw [t11, cal_s, eA_a, eC_c, eI_int, eC_c, eI_int, eC_c, eS_sl, eC_c, eS_sl, eC_c, eS_sl, eC_c, eBv_b, eN_n, t12, cal_s, eA_a, eC_c, eS_sl, eN_n, s22, cal_s, eU_t, eC_c, eA_a, eC_c, eI_int, eC_c, eI_int, eC_c, su1, eC_c, su2, eC_c, su3, eC_c, eBv_b, eN_n, eC_c, eA_a, eC_c, eI_int, eC_c, eI_int, eN_n, eN_n, t31, cal_s, eA_a, eC_c, eI_int, eC_c, eI_int, eC_c, eS_sl, eC_c, eS_sl, eC_c, eS_sl, eC_c, eBv_b, eN_n, t32, cal_s, eA_a, eC_c, eS_sl, eN_n, i44, cal_s, eU_t, eC_c, eA_a, eC_c, eI_int, eC_c, eI_int, eC_c, sv1, eC_c, sv2, eC_c, sv3, eC_c, eBv_b, eN_n, eC_c, eA_a, eC_c, eI_int, eC_c, eI_int, eN_n, eN_n]
      rw [e4, cal_s, eB_b, br_t, et, cal_s, eB_b, br_t, t51, cal_s, eA_a, eC_c, eI_int, eC_c, eI_int, eC_c, eS_sl, eC_c, eS_sl, eC_c, eS_sl, eC_c, eBv_b, eN_n, e35, cal_s, eB_b, br_t, t52, cal_s, eA_a, eC_c, eS_sl, eN_n, e35v, cal_s, eB_b, br_t, p61, cal_s, eI_int, p62, cal_s, eI_int, z1, br_f, e6, cal_s, eB_b, br_t, et, cal_s, eB_b, br_t, p7, cal_s, eI_int, k7, cal_s, eI_int, z2, br_f, bq, t81, cal_s, eA_a, eC_c, eI_int, eC_c, eI_int, eC_c, eS_sl, eC_c, eS_sl, eC_c, eS_sl, eC_c, eBv_b, eN_n, t82, cal_s, eA_a, eC_c, eS_sl, eN_n, i99, cal_s, eU_t, eC_c, eA_a, eC_c, eI_int, eC_c, eI_int, eC_c, sy1, eC_c, sy2, eC_c, sy3, eC_c, eBv_b, eN_n, eC_c, eA_a, eC_c, eI_int, eC_c, eI_int, eN_n, eN_n]
      rw [e9, cal_s, eB_b, br_t, et, cal_s, eB_b, br_t, k9, cal_s, eI_int, z2, br_f, bq]
      exact ⟨h9, rfl⟩
end
end Go.Proofs.YtfhnofppfacemaaGreat
namespace Go.Proofs.YtfhnofppfacemaaGreat
open Go T
set_option linter.unusedVariables false
set_option linter.unusedSimpArgs false
def tellable (p : Place) (to at' : Int) : Bool := placeOk p && within to 0 2 && !(p.me == to) && within at' 0 (p.log.length - 1)
def told (p : Place) (to at' : Int) : Frame := bif tellable p to at' then ⟨p.me, to, at', (p.log[at'.toNat]?).getD zVer⟩ else ⟨0, 0, 0, zVer⟩

section
variable {lo : Nat} {h : Heap} {F F' : List Nat} {a a' : Option (Nat × Nat)} {c c' : Option Nat}
end
end Go.Proofs.YtfhnofppfacemaaGreat
namespace Go.Proofs.YtfhnofppfacemaaGreat
open Go T
set_option linter.unusedVariables false
set_option maxRecDepth 100000
theorem av_Place {h : Heap} {n : Nat} {x : V} (hx : ArgV Tryz.prog h (n + 11) 28 x) : ∃ cs p F, x = .agg cs ∧ RPlaceN true h cs p F ∧ bdPlace p := by
  obtain ⟨xs, rfl, hx2⟩ := av_agg Tryz.underlying28 hx
  obtain ⟨p, F, h1, h2⟩ := tv_Place (n := n) hx2
  exact ⟨xs, p, F, rfl, rplace_true h1, h2⟩
end Go.Proofs.YtfhnofppfacemaaGreat
namespace Go.Proofs.YtfhnofppfacemaaGreat
open Go T
set_option linter.unusedVariables false
set_option maxRecDepth 100000
theorem main_FnExactPlaceWrite {h : Heap} {x y z w u : V} (hx : ArgV Tryz.prog h 12 28 x) (hy : ArgV Tryz.prog h 12 3 y) (hz : ArgV Tryz.prog h 12 9 z) (hw : ArgV Tryz.prog h 12 4 w) (hu : ArgV Tryz.prog h 12 60 u) :
    ∃ h', evl h.length 8 [x, y, z, w, u] h = some (.bool true, h') := by
  obtain ⟨cs, p, F, rfl, hp, hb⟩ := av_Place (n := 1) hx
  obtain ⟨i, rfl, _⟩ := av_int (n := 11) hy
  obtain ⟨s, rfl, hsn⟩ := av_str (n := 11) hz
  obtain ⟨g, rfl⟩ := av_bool (n := 11) hw
  obtain ⟨ys, rfl, hu2⟩ := av_agg Tryz.underlying60 hu
  obtain ⟨l, G, r, hbl⟩ := tv_Past (n := 8) hu2
  obtain ⟨v, rfl⟩ := sli_one r
  obtain ⟨a, c, rfl⟩ := sli_true r
  exact law_FnExactPlaceWrite hp r hb hbl hsn
end Go.Proofs.YtfhnofppfacemaaGreat
