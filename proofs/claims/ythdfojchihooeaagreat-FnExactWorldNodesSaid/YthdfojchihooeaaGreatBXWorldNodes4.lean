/- Part 4 of what is shown for the law FnExactWorldNodes, whatever the input; no condition of its own. -/
import Derived.Test.YthdfojchihooeaaGreatBXWorldNodes3
namespace Go.Proofs.YthdfojchihooeaaGreat
open Go T
set_option linter.unusedVariables false
set_option linter.unusedSimpArgs false
def szVer (v : Ver) : Nat := v.past.length + v.text.size
def szVers (l : List Ver) : Nat := l.length + (l.map szVer).sum
def szVss (l : List (List Ver)) : Nat := l.length + (l.map szVers).sum
def szNode (x : Node) : Nat := szVers x.store + szVers x.wait
def szNodes (l : List Node) : Nat := l.length + (l.map szNode).sum
def szPlace (p : Place) : Nat := szNodes p.chain + szVers p.log + szVss p.got
/-- bounds that arguments have -/
def bdVer (v : Ver) : Prop := v.past.length ≤ maxLen ∧ v.text.size ≤ maxLen
def bdVers (l : List Ver) : Prop := l.length ≤ maxLen ∧ ∀ v ∈ l, bdVer v
def bdVss (l : List (List Ver)) : Prop := l.length ≤ maxLen ∧ ∀ v ∈ l, bdVers v
def bdNode (x : Node) : Prop := bdVers x.store ∧ bdVers x.wait
def bdNodes (l : List Node) : Prop := l.length ≤ maxLen ∧ ∀ v ∈ l, bdNode v
def bdPlace (p : Place) : Prop := bdNodes p.chain ∧ bdVers p.log ∧ bdVss p.got

section
variable {lo : Nat} {ro : Bool} {h : Heap} {F : List Nat} {a : Option (Nat × Nat)} {c : Option Nat} {left : Int}
theorem br_lt {α : Type} {x : Int} {y z : Option α} : br (decide (x < 0)) y z = if x < 0 then y else z := by
  by_cases h : x < 0
  · rw [br_pos h, if_pos h]
  · rw [br_neg h, if_neg h]
theorem szN_le {left : Int} {s : Nat} (h0 : 0 ≤ left) : szN left s ≤ left := by unfold szN; split <;> omega
theorem szN_if {left : Int} {s : Nat} {h : Heap} (h0 : 0 ≤ left) : (if szN left s < 0 then some (V.int .i64 (-1), h) else some (.int .i64 (szN left s), h)) = some (.int .i64 (szN left s), h) := by
  unfold szN
  by_cases h1 : (s : Int) ≤ left
  · rw [if_pos h1, if_neg (by omega)]
  · rw [if_neg h1]; rfl
theorem szN_wrap {left : Int} {n : Nat} (h0 : 0 ≤ left) (h1 : left ≤ 1048576) (h2 : n ≤ maxLen) (hn : ¬ szN left n < 0) : IntKind.i64.wrap (left - (n : Int)) = szN left n := by
  have hm : maxLen = 9223372036854775807 := by decide
  rw [wr (by omega) (by omega)]
  unfold szN at hn ⊢
  split
  · rfl
  · rename_i h; rw [if_neg h] at hn; omega
theorem laws_szTagS {n : Nat} (hn : n ≤ maxLen) (h0 : 0 ≤ left) (h1 : left ≤ 1048576) : evl lo 329 [.sl 2 a n c, .int .i64 left] h = some (.int .i64 (szN left n), h) := by
  refine E_laws_szTagS (h' := h) ?_
  rw [sz_sub h0 h1 hn]
  by_cases hh : szN left n < 0
  · rw [if_pos hh]; unfold szN at hh ⊢; split <;> simp_all; omega
  · rw [if_neg hh, szN_wrap h0 h1 hn hh]
theorem laws_szPast {n : Nat} (hn : n ≤ maxLen) (h0 : 0 ≤ left) (h1 : left ≤ 1048576) : evl lo 273 [.agg [.sl 2 a n c], .int .i64 left] h = some (.int .i64 (szN left n), h) := by
  refine E_laws_szPast (h' := h) ?_
  rw [laws_szTagS hn h0 h1]; simp only [cal_s, eI_int, br_lt]
  exact szN_if h0
theorem laws_szVer {v : Ver} (hb : bdVer v) (h0 : 0 ≤ left) (h1 : left ≤ 1048576) : evl lo 274 [.agg (v.cs a c), .int .i64 left] h = some (.int .i64 (szN left (szVer v)), h) := by
  refine E_laws_szVer (h' := h) ?_
  rw [laws_szPast hb.1 h0 h1]; simp only [cal_s, eI_int, br_lt]
  unfold szVer
  rw [← szN_add h0]
  by_cases hn : szN left v.past.length < 0
  · rw [if_pos hn, if_pos hn]
  · rw [if_neg hn, if_neg hn]
    have hle := szN_le (s := v.past.length) h0
    generalize szN left v.past.length = l2 at hn hle ⊢
    have := sz_sub (left := l2) (n := v.text.size) (x := some (V.int .i64 (-1), h)) (y := some (.int .i64 (IntKind.i64.wrap (l2 - (v.text.size : Int))), h)) (by omega) (by omega) hb.2
    rw [br_lt] at this
    rw [this]
    by_cases h3 : szN l2 v.text.size < 0
    · rw [if_pos h3]; unfold szN at h3 ⊢; split <;> simp_all; omega
    · rw [if_neg h3, szN_wrap (by omega) (by omega) hb.2 h3]
theorem laws_szVerS {l : List Ver} (hs : RVers ro h [.sl 6 a l.length c] l F) (hb : bdVers l) (h0 : 0 ≤ left) (h1 : left ≤ 1048576) : evl lo 271 [.sl 6 a l.length c, .int .i64 left] h = some (.int .i64 (szN left (szVers l)), h) := by
  refine E_laws_szVerS (h' := h) ?_
  unfold szVers
  rw [sz_sub h0 h1 hb.1, ← szN_add h0]
  by_cases hn : szN left l.length < 0
  · rw [if_pos hn, if_pos hn]
  · rw [if_neg hn, if_neg hn, szN_wrap h0 h1 hb.1 hn]
    have hle := szN_le (s := l.length) h0
    have hbig : l.length ≤ 1048576 := by unfold szN at hn; split at hn <;> omega
    refine sz_loop (sz := szVer) (L := fun left i => L_laws_szVerS_0 (List.length h) a l.length c left 0 (i : Nat) h) (fun i hi left g0 g1 => ?_) (fun left => ?_) (by omega) (by omega)
    · obtain ⟨o, s, a', c', G, rfl, ho, es, hp, _⟩ := hs.get hi
      rw [L_laws_szVerS_0.e, br_pos (by omega), inB_nat hi]
      simp only [eO_s, Int.toNat_natCast, ho, eC_c, eI_int, es, eT_s, eBv_b, eN_n]
      rw [laws_szVer (hb.2 _ (List.getElem_mem hi)) g0 g1]
      simp only [cal_s, eI_int, br_lt, wr_succ (show i < 9223372036854775807 by omega)]
    · rw [L_laws_szVerS_0.e, br_neg (by omega)]
theorem laws_szVerSS {l : List (List Ver)} (hs : RVss ro h [.sl 1 a l.length c] l F) (hb : bdVss l) (h0 : 0 ≤ left) (h1 : left ≤ 1048576) : evl lo 272 [.sl 1 a l.length c, .int .i64 left] h = some (.int .i64 (szN left (szVss l)), h) := by
  refine E_laws_szVerSS (h' := h) ?_
  unfold szVss
  rw [sz_sub h0 h1 hb.1, ← szN_add h0]
  by_cases hn : szN left l.length < 0
  · rw [if_pos hn, if_pos hn]
  · rw [if_neg hn, if_neg hn, szN_wrap h0 h1 hb.1 hn]
    have hle := szN_le (s := l.length) h0
    have hbig : l.length ≤ 1048576 := by unfold szN at hn; split at hn <;> omega
    refine sz_loop (sz := szVers) (L := fun left i => L_laws_szVerSS_0 (List.length h) a l.length c left 0 (i : Nat) h) (fun i hi left g0 g1 => ?_) (fun left => ?_) (by omega) (by omega)
    · obtain ⟨o, s, a', c', G, rfl, ho, es, hp, _⟩ := hs.get hi
      rw [L_laws_szVerSS_0.e, br_pos (by omega), inB_nat hi]
      simp only [eO_s, Int.toNat_natCast, ho, eC_c, es, eN_n]
      rw [laws_szVerS hp (hb.2 _ (List.getElem_mem hi)) g0 g1]
      simp only [cal_s, eI_int, br_lt, wr_succ (show i < 9223372036854775807 by omega)]
    · rw [L_laws_szVerSS_0.e, br_neg (by omega)]
theorem laws_szStore {l : List Ver} (hs : RVers ro h [.sl 6 a l.length c] l F) (hb : bdVers l) (h0 : 0 ≤ left) (h1 : left ≤ 1048576) : evl lo 366 [.agg [.sl 6 a l.length c], .int .i64 left] h = some (.int .i64 (szN left (szVers l)), h) := by
  refine E_laws_szStore (h' := h) ?_
  rw [laws_szVerS hs hb h0 h1]; simp only [cal_s, eI_int, br_lt]
  exact szN_if h0
theorem laws_szNode {x : Node} {a1 a2 : Option (Nat × Nat)} {c1 c2 : Option Nat} {F1 F2 : List Nat} (hs1 : RVers ro h [.sl 6 a1 x.store.length c1] x.store F1) (hs2 : RVers ro h [.sl 6 a2 x.wait.length c2] x.wait F2) (hb : bdNode x) (h0 : 0 ≤ left) (h1 : left ≤ 1048576) :
    evl lo 353 [.agg [.sl 6 a1 x.store.length c1, .sl 6 a2 x.wait.length c2], .int .i64 left] h = some (.int .i64 (szN left (szNode x)), h) := by
  refine E_laws_szNode (h' := h) ?_
  unfold szNode
  rw [laws_szStore hs1 hb.1 h0 h1]; simp only [cal_s, eI_int, br_lt]
  rw [← szN_add h0]
  by_cases hn : szN left (szVers x.store) < 0
  · rw [if_pos hn, if_pos hn]
  · rw [if_neg hn, if_neg hn]
    have hle := szN_le (s := szVers x.store) h0
    rw [laws_szVerS hs2 hb.2 (by omega) (by omega)]; simp only [cal_s, eI_int, br_lt]
    exact szN_if (by omega)
theorem laws_szNodeS {l : List Node} (hs : RNodes ro h [.sl 2 a l.length c] l F) (hb : bdNodes l) (h0 : 0 ≤ left) (h1 : left ≤ 1048576) : evl lo 328 [.sl 2 a l.length c, .int .i64 left] h = some (.int .i64 (szN left (szNodes l)), h) := by
  refine E_laws_szNodeS (h' := h) ?_
  unfold szNodes
  rw [sz_sub h0 h1 hb.1, ← szN_add h0]
  by_cases hn : szN left l.length < 0
  · rw [if_pos hn, if_pos hn]
  · rw [if_neg hn, if_neg hn, szN_wrap h0 h1 hb.1 hn]
    have hle := szN_le (s := l.length) h0
    have hbig : l.length ≤ 1048576 := by unfold szN at hn; split at hn <;> omega
    refine sz_loop (sz := szNode) (L := fun left i => L_laws_szNodeS_0 (List.length h) a l.length c left 0 (i : Nat) h) (fun i hi left g0 g1 => ?_) (fun left => ?_) (by omega) (by omega)
    · obtain ⟨o, s1, s2, a1, c1, a2, c2, F1, F2, rfl, ho, _, _, e1, e2, hp1, hp2, _⟩ := hs.get hi
      rw [L_laws_szNodeS_0.e, br_pos (by omega), inB_nat hi]
      simp only [eO_s, Int.toNat_natCast, ho, eC_c, e1, e2, eN_n]
      rw [laws_szNode hp1 hp2 (hb.2 _ (List.getElem_mem hi)) g0 g1]
      simp only [cal_s, eI_int, br_lt, wr_succ (show i < 9223372036854775807 by omega)]
    · rw [L_laws_szNodeS_0.e, br_neg (by omega)]
theorem laws_szChain {l : List Node} (hs : RNodes ro h [.sl 2 a l.length c] l F) (hb : bdNodes l) (h0 : 0 ≤ left) (h1 : left ≤ 1048576) : evl lo 270 [.agg [.sl 2 a l.length c], .int .i64 left] h = some (.int .i64 (szN left (szNodes l)), h) := by
  refine E_laws_szChain (h' := h) ?_
  rw [laws_szNodeS hs hb h0 h1]; simp only [cal_s, eI_int, br_lt]
  exact szN_if h0
theorem laws_szPlace {p : Place} {a1 a2 a3 : Option (Nat × Nat)} {c1 c2 c3 : Option Nat} {F1 F2 F3 : List Nat} (hs1 : RNodes ro h [.sl 2 a1 p.chain.length c1] p.chain F1) (hs2 : RVers ro h [.sl 6 a2 p.log.length c2] p.log F2)
    (hs3 : RVss ro h [.sl 1 a3 p.got.length c3] p.got F3) (hb : bdPlace p) (h0 : 0 ≤ left) (h1 : left ≤ 1048576) :
    evl lo 174 [.agg [.int .i64 p.me, .int .i64 p.clock, .sl 2 a1 p.chain.length c1, .sl 6 a2 p.log.length c2, .sl 1 a3 p.got.length c3, .bool p.fell], .int .i64 left] h = some (.int .i64 (szN left (szPlace p)), h) := by
  refine E_laws_szPlace (h' := h) ?_
  unfold szPlace
  rw [laws_szChain hs1 hb.1 h0 h1]; simp only [cal_s, eI_int, br_lt]
  rw [← szN_add h0, ← szN_add h0]
  by_cases hn : szN left (szNodes p.chain) < 0
  · rw [if_pos hn, if_pos hn, if_pos (by decide)]
  · rw [if_neg hn, if_neg hn]
    have hle := szN_le (s := szNodes p.chain) h0
    rw [laws_szVerS hs2 hb.2.1 (by omega) (by omega)]; simp only [cal_s, eI_int, br_lt]
    by_cases hn2 : szN (szN left (szNodes p.chain)) (szVers p.log) < 0
    · rw [if_pos hn2, if_pos hn2]
    · rw [if_neg hn2, if_neg hn2]
      have hle2 := szN_le (left := szN left (szNodes p.chain)) (s := szVers p.log) (by omega)
      rw [laws_szVerSS hs3 hb.2.2 (by omega) (by omega)]; simp only [cal_s, eI_int, br_lt]
      exact szN_if (by omega)
end
/-- what is small -/
def smVers (l : List Ver) : Prop := l.length ≤ 1048576 ∧ ∀ v ∈ l, v.past.length ≤ 1048576 ∧ v.text.size ≤ 1048576
def smVss (l : List (List Ver)) : Prop := l.length ≤ 1048576 ∧ ∀ v ∈ l, smVers v
def smNodes (l : List Node) : Prop := l.length ≤ 1048576 ∧ ∀ x ∈ l, smVers x.store ∧ smVers x.wait
def smPlace (p : Place) : Prop := smNodes p.chain ∧ smVers p.log ∧ smVss p.got
theorem le_sum {α : Type} {f : α → Nat} : ∀ {l : List α} {x : α}, x ∈ l → f x ≤ (l.map f).sum
  | y :: l, x, h => by
    simp only [List.map_cons, List.sum_cons]
    rcases List.mem_cons.1 h with rfl | h
    · omega
    · have := le_sum (f := f) h; omega
theorem sm_vers {l : List Ver} (h : szVers l ≤ 1048576) : smVers l := by
  unfold szVers at h
  refine ⟨by omega, fun v hv => ?_⟩
  have := le_sum (f := szVer) hv
  have e : szVer v = v.past.length + v.text.size := rfl
  omega
theorem sm_vss {l : List (List Ver)} (h : szVss l ≤ 1048576) : smVss l := by
  unfold szVss at h
  refine ⟨by omega, fun v hv => sm_vers ?_⟩
  have := le_sum (f := szVers) hv; omega
theorem sm_nodes {l : List Node} (h : szNodes l ≤ 1048576) : smNodes l := by
  unfold szNodes at h
  refine ⟨by omega, fun v hv => ?_⟩
  have := le_sum (f := szNode) hv
  have e : szNode v = szVers v.store + szVers v.wait := rfl
  exact ⟨sm_vers (by omega), sm_vers (by omega)⟩
theorem sm_place {p : Place} (h : szPlace p ≤ 1048576) : smPlace p := by
  unfold szPlace at h
  exact ⟨sm_nodes (by omega), sm_vers (by omega), sm_vss (by omega)⟩

section
variable {lo : Nat} {ro : Bool} {h : Heap} {F : List Nat} {a : Option (Nat × Nat)} {c : Option Nat}
theorem laws_toTagS {l : List Tag} (hs : RTags true h [.sl 2 a l.length c] l F) (hl : lo ≤ h.length) (hn : l.length ≤ 1048576) :
    ∃ a' h' F', evl lo 332 [.sl 2 a l.length c] h = some (.sl 2 a' l.length (some l.length), h') ∧ RTags false h' [.sl 2 a' l.length (some l.length)] l F' ∧ Mv h [] h' F' := by
  obtain ⟨h', F', e, r, m⟩ := fill_loop (El := flat Tag.cs) flat_ok (h0 := h) (l := l) (f := id) (lo := lo) (R := 2) (e := eTag false) (z := [.int .i64 0, .int .i64 0]) rfl hl
    (fun i hh => L_laws_toTagS_0 lo a l.length c (some (h.length, 0)) l.length (some l.length) (i : Nat) hh) (fun i hi hh m => by
      obtain ⟨o, rfl, ho⟩ := (m.keep0 rtags_ok hs).get hi
      refine ⟨[.int .i64 l[i].time, .int .i64 l[i].place], [], hh, ⟨rfl, rfl⟩, Mv.nil, rfl, ?_⟩
      rw [L_laws_toTagS_0.e, br_pos (by omega), inB_nat hi]
      simp only [eO_s, Int.toNat_natCast, ho, eC_c, eI_int, eN_n, laws_toTag, cal_s, eA_a, inB_nat hi, Nat.zero_add, wr_succ (show i < 9223372036854775807 by omega)])
  refine ⟨some (h.length, 0), h', F', E_laws_toTagS ?_, by rw [List.map_id] at r; exact r, m⟩
  rw [need_of (by omega)]
  refine e.trans ?_
  rw [L_laws_toTagS_0.e, br_neg (by omega)]
theorem laws_toPast {l : List Tag} (hs : RTags true h [.sl 2 a l.length c] l F) (hl : lo ≤ h.length) (hn : l.length ≤ 1048576) :
    ∃ a' h' F', evl lo 279 [.agg [.sl 2 a l.length c]] h = some (.agg [.sl 2 a' l.length (some l.length)], h') ∧ RTags false h' [.sl 2 a' l.length (some l.length)] l F' ∧ Mv h [] h' F' := by
  obtain ⟨a', h', F', e, r⟩ := laws_toTagS hs hl hn
  refine ⟨a', h', F', E_laws_toPast ?_, r⟩
  rw [e]; simp only [cal_s, eS_sl]
theorem laws_toVer {v : Ver} (hs : RTags true h [.sl 2 a v.past.length c] v.past F) (hl : lo ≤ h.length) (hn : v.past.length ≤ 1048576) :
    ∃ a' c' h' F', evl lo 281 [.agg (v.cs a c)] h = some (.agg (v.cs a' c'), h') ∧ RTags false h' [.sl 2 a' v.past.length c'] v.past F' ∧ Mv h [] h' F' := by
  obtain ⟨a', h', F', e, r⟩ := laws_toPast hs hl hn
  refine ⟨a', _, h', F', E_laws_toVer ?_, r⟩
  rw [laws_toTag]; simp only [cal_s, eA_a, eC_c, eI_int, eN_n]
  rw [e]; simp only [cal_s, eA_a, eC_c, eS_sl, eN_n]
theorem laws_toVerS {l : List Ver} (hs : RVers true h [.sl 6 a l.length c] l F) (hl : lo ≤ h.length) (hn : smVers l) :
    ∃ a' h' F', evl lo 277 [.sl 6 a l.length c] h = some (.sl 6 a' l.length (some l.length), h') ∧ RVers false h' [.sl 6 a' l.length (some l.length)] l F' ∧ Mv h [] h' F' := by
  have hn1 := hn.1
  obtain ⟨h', F', e, r, m⟩ := fill_loop (El := RVer false) rver_ok (h0 := h) (l := l) (f := id) (lo := lo) (R := 6) (e := eVer false) (z := [.int .i64 0, .int .i64 0, .int .i64 0, .sl 0 none 0 (some 0), .str ⟨⟨[]⟩⟩, .bool false]) rfl hl
    (fun i hh => L_laws_toVerS_0 lo a l.length c (some (h.length, 0)) l.length (some l.length) (i : Nat) hh) (fun i hi hh m => by
      obtain ⟨o, s, a2, c2, G, rfl, ho, es, hp, _⟩ := (m.keep0 rvers_ok hs).get hi
      obtain ⟨a3, c3, h3, F3, e3, r3, m3⟩ := laws_toVer (lo := lo) (v := l[i]) hp (Nat.le_trans hl m.le) (hn.2 _ (List.getElem_mem hi)).1
      refine ⟨l[i].cs a3 c3, F3, h3, ⟨_, rfl, r3⟩, m3, rfl, ?_⟩
      rw [L_laws_toVerS_0.e, br_pos (by omega), inB_nat hi]
      simp only [eO_s, Int.toNat_natCast, ho, eC_c, eI_int, es, eT_s, eBv_b, eN_n]
      rw [e3]
      simp only [eO_s, Int.toNat_natCast, eC_c, eI_int, eS_sl, eT_s, eBv_b, eN_n, cal_s, eA_a, inB_nat hi, Nat.zero_add, wr_succ (show i < 9223372036854775807 by omega)])
  refine ⟨some (h.length, 0), h', F', E_laws_toVerS ?_, by rw [List.map_id] at r; exact r, m⟩
  rw [need_of (by omega)]
  refine e.trans ?_
  rw [L_laws_toVerS_0.e, br_neg (by omega)]
theorem laws_toVerSS {l : List (List Ver)} (hs : RVss true h [.sl 1 a l.length c] l F) (hl : lo ≤ h.length) (hn : smVss l) :
    ∃ a' h' F', evl lo 278 [.sl 1 a l.length c] h = some (.sl 1 a' l.length (some l.length), h') ∧ RVss false h' [.sl 1 a' l.length (some l.length)] l F' ∧ Mv h [] h' F' := by
  have hn1 := hn.1
  obtain ⟨h', F', e, r, m⟩ := fill_loop (El := RVers false) rvers_ok (h0 := h) (l := l) (f := id) (lo := lo) (R := 1) (e := eVers false) (z := [.sl 0 none 0 (some 0)]) rfl hl
    (fun i hh => L_laws_toVerSS_0 lo a l.length c (some (h.length, 0)) l.length (some l.length) (i : Nat) hh) (fun i hi hh m => by
      obtain ⟨o, s, a2, c2, G, rfl, ho, es, hp, _⟩ := (m.keep0 rvss_ok hs).get hi
      obtain ⟨a3, h3, F3, e3, r3, m3⟩ := laws_toVerS (lo := lo) hp (Nat.le_trans hl m.le) (hn.2 _ (List.getElem_mem hi))
      refine ⟨[.sl 6 a3 l[i].length (some l[i].length)], F3, h3, r3, m3, rfl, ?_⟩
      rw [L_laws_toVerSS_0.e, br_pos (by omega), inB_nat hi]
      simp only [eO_s, Int.toNat_natCast, ho, eC_c, es, eN_n]
      rw [e3]
      simp only [eO_s, Int.toNat_natCast, eS_sl, cal_s, inB_nat hi, Nat.zero_add, wr_succ (show i < 9223372036854775807 by omega)])
  refine ⟨some (h.length, 0), h', F', E_laws_toVerSS ?_, by rw [List.map_id] at r; exact r, m⟩
  rw [need_of (by omega)]
  refine e.trans ?_
  rw [L_laws_toVerSS_0.e, br_neg (by omega)]
theorem laws_toStore {l : List Ver} (hs : RVers true h [.sl 6 a l.length c] l F) (hl : lo ≤ h.length) (hn : smVers l) :
    ∃ a' h' F', evl lo 367 [.agg [.sl 6 a l.length c]] h = some (.agg [.sl 6 a' l.length (some l.length)], h') ∧ RVers false h' [.sl 6 a' l.length (some l.length)] l F' ∧ Mv h [] h' F' := by
  obtain ⟨a', h', F', e, r⟩ := laws_toVerS hs hl hn
  refine ⟨a', h', F', E_laws_toStore ?_, r⟩
  rw [e]; simp only [cal_s, eS_sl]
theorem laws_toNode {x : Node} {a1 a2 : Option (Nat × Nat)} {c1 c2 : Option Nat} {F1 F2 : List Nat} (hs1 : RVers true h [.sl 6 a1 x.store.length c1] x.store F1) (hs2 : RVers true h [.sl 6 a2 x.wait.length c2] x.wait F2) (hl : lo ≤ h.length) (hn : smVers x.store ∧ smVers x.wait) :
    ∃ a1' c1' a2' c2' h' F', evl lo 357 [.agg [.sl 6 a1 x.store.length c1, .sl 6 a2 x.wait.length c2]] h = some (.agg [.sl 6 a1' x.store.length c1', .sl 6 a2' x.wait.length c2'], h') ∧
      RNode false h' [.sl 6 a1' x.store.length c1', .sl 6 a2' x.wait.length c2'] x F' ∧ Mv h [] h' F' := by
  obtain ⟨a1', h1, G1, e1, r1, m1⟩ := laws_toStore hs1 hl hn.1
  obtain ⟨a2', h2, G2, e2, r2, m2⟩ := laws_toVerS (m1.keep0 rvers_ok hs2) (Nat.le_trans hl m1.le) hn.2
  refine ⟨a1', _, a2', _, h2, G1 ++ G2, E_laws_toNode ?_, ⟨_, _, G1, G2, rfl, rfl, m2.keep0 rvers_ok r1, r2⟩, m1.join m2 (rvers_ok.bd _ _ _ _ r1)⟩
  rw [e1]; simp only [cal_s, eA_a, eC_c, eS_sl, eN_n]
  rw [e2]; simp only [cal_s, eS_sl]
theorem laws_toNodeS {l : List Node} (hs : RNodes true h [.sl 2 a l.length c] l F) (hl : lo ≤ h.length) (hn : smNodes l) :
    ∃ a' h' F', evl lo 331 [.sl 2 a l.length c] h = some (.sl 2 a' l.length (some l.length), h') ∧ RNodes false h' [.sl 2 a' l.length (some l.length)] l F' ∧ Mv h [] h' F' := by
  have hn1 := hn.1
  obtain ⟨h', F', e, r, m⟩ := fill_loop (El := RNode false) rnode_ok (h0 := h) (l := l) (f := id) (lo := lo) (R := 2) (e := eNode false) (z := [.sl 0 none 0 (some 0), .sl 0 none 0 (some 0)]) rfl hl
    (fun i hh => L_laws_toNodeS_0 lo a l.length c (some (h.length, 0)) l.length (some l.length) (i : Nat) hh) (fun i hi hh m => by
      obtain ⟨o, s1, s2, a1, c1, a2, c2, F1, F2, rfl, ho, _, _, e1, e2, hp1, hp2, _⟩ := (m.keep0 rnodes_ok hs).get hi
      obtain ⟨a3, c3, a4, c4, h3, F3, e3, r3, m3⟩ := laws_toNode (lo := lo) hp1 hp2 (Nat.le_trans hl m.le) (hn.2 _ (List.getElem_mem hi))
      refine ⟨_, F3, h3, r3, m3, rfl, ?_⟩
      rw [L_laws_toNodeS_0.e, br_pos (by omega), inB_nat hi]
      simp only [eO_s, Int.toNat_natCast, ho, eC_c, e1, e2, eN_n]
      rw [e3]
      simp only [eO_s, Int.toNat_natCast, eC_c, eS_sl, eN_n, cal_s, eA_a, inB_nat hi, Nat.zero_add, wr_succ (show i < 9223372036854775807 by omega)])
  refine ⟨some (h.length, 0), h', F', E_laws_toNodeS ?_, by rw [List.map_id] at r; exact r, m⟩
  rw [need_of (by omega)]
  refine e.trans ?_
  rw [L_laws_toNodeS_0.e, br_neg (by omega)]
theorem laws_toChain {l : List Node} (hs : RNodes true h [.sl 2 a l.length c] l F) (hl : lo ≤ h.length) (hn : smNodes l) :
    ∃ a' h' F', evl lo 276 [.agg [.sl 2 a l.length c]] h = some (.agg [.sl 2 a' l.length (some l.length)], h') ∧ RNodes false h' [.sl 2 a' l.length (some l.length)] l F' ∧ Mv h [] h' F' := by
  obtain ⟨a', h', F', e, r⟩ := laws_toNodeS hs hl hn
  refine ⟨a', h', F', E_laws_toChain ?_, r⟩
  rw [e]; simp only [cal_s, eS_sl]
/-- a place's cells -/
abbrev Place.cs (p : Place) (a1 : Option (Nat × Nat)) (c1 : Option Nat) (a2 : Option (Nat × Nat)) (c2 : Option Nat) (a3 : Option (Nat × Nat)) (c3 : Option Nat) : List V :=
  [.int .i64 p.me, .int .i64 p.clock, .sl 2 a1 p.chain.length c1, .sl 6 a2 p.log.length c2, .sl 1 a3 p.got.length c3, .bool p.fell]
theorem laws_toPlace {p : Place} {a1 a2 a3 : Option (Nat × Nat)} {c1 c2 c3 : Option Nat} {F1 F2 F3 : List Nat} (hs1 : RNodes true h [.sl 2 a1 p.chain.length c1] p.chain F1) (hs2 : RVers true h [.sl 6 a2 p.log.length c2] p.log F2)
    (hs3 : RVss true h [.sl 1 a3 p.got.length c3] p.got F3) (hl : lo ≤ h.length) (hn : smPlace p) :
    ∃ a1' c1' a2' c2' a3' c3' h' F', evl lo 182 [.agg (p.cs a1 c1 a2 c2 a3 c3)] h = some (.agg (p.cs a1' c1' a2' c2' a3' c3'), h') ∧ RPlace false h' (p.cs a1' c1' a2' c2' a3' c3') p F' ∧ Mv h [] h' F' := by
  obtain ⟨a1', h1, G1, e1, r1, m1⟩ := laws_toChain hs1 hl hn.1
  obtain ⟨a2', h2, G2, e2, r2, m2⟩ := laws_toVerS (m1.keep0 rvers_ok hs2) (Nat.le_trans hl m1.le) hn.2.1
  have m12 := m1.join m2 (rnodes_ok.bd _ _ _ _ r1)
  obtain ⟨a3', h3, G3, e3, r3, m3⟩ := laws_toVerSS (m2.keep0 rvss_ok (m1.keep0 rvss_ok hs3)) (Nat.le_trans hl m12.le) hn.2.2
  have r1' := m2.keep0 rnodes_ok r1
  refine ⟨a1', _, a2', _, a3', _, h3, G1 ++ (G2 ++ G3), E_laws_toPlace ?_, ⟨_, _, _, G1, G2, G3, rfl, rfl, m3.keep0 rnodes_ok r1', m3.keep0 rvers_ok r2, r3⟩, ?_⟩
  · rw [e1]; simp only [cal_s, eA_a, eC_c, eS_sl, eN_n]
    rw [e2]; simp only [cal_s, eS_sl]
    rw [e3]; simp only [cal_s, eS_sl]
  · have := m12.join m3 (fun b hb => by
      rw [List.mem_append] at hb
      exact hb.elim (rnodes_ok.bd _ _ _ _ r1' b) (rvers_ok.bd _ _ _ _ r2 b))
    rwa [List.append_assoc] at this
end
end Go.Proofs.YthdfojchihooeaaGreat
namespace Go.Proofs.YthdfojchihooeaaGreat
open Go T
set_option linter.unusedVariables false
set_option linter.unusedSimpArgs false
theorem go_loop {T : Type} {n : Nat} (L : Nat → Option T) (step : ∀ i, i < n → L i = L (i + 1)) : L 0 = L n := by
  have loop : ∀ i, i ≤ n → L 0 = L i := by
    intro i
    induction i with
    | zero => intro _; rfl
    | succ i ih => intro hi; rw [ih (by omega), step i (by omega)]
  exact loop n (Nat.le_refl n)
section
variable {lo : Nat} {ro ro' : Bool} {h : Heap} {F F' : List Nat} {a a' : Option (Nat × Nat)} {c c' : Option Nat}
theorem beqI (x : Int) : (x == x) = true := by simp
theorem beqB (x : Bool) : (x == x) = true := by simp
theorem beqL (x : List UInt8) : (x == x) = true := by simp
theorem eqTagS {l : List Tag} (h1 : RTags ro h [.sl 2 a l.length c] l F) (h2 : RTags ro' h [.sl 2 a' l.length c'] l F') (hn : l.length ≤ 1048576) : evl lo 334 [.sl 2 a l.length c, .sl 2 a' l.length c'] h = some (.bool true, h) := by
  refine E_laws_eqTagS (h' := h) ?_
  rw [beqI, br_t]
  refine (go_loop (n := l.length) (fun i => L_laws_eqTagS_0 (List.length h) a l.length c a' l.length c' false (i : Nat) h) fun i hi => ?_).trans ?_
  · obtain ⟨o, rfl, ho⟩ := h1.get hi
    obtain ⟨o', rfl, ho'⟩ := h2.get hi
    rw [L_laws_eqTagS_0.e, br_pos (by omega), inB_nat hi]
    simp only [eO_s, Int.toNat_natCast, ho, ho', eC_c, eI_int, eN_n, inB_nat hi, laws_eqTag, beqI, cal_s, eB_b, br_t, Bool.and_self, wr_succ (show i < 9223372036854775807 by omega)]
  · rw [L_laws_eqTagS_0.e, br_neg (by omega)]
theorem eqPast {l : List Tag} (h1 : RTags ro h [.sl 2 a l.length c] l F) (h2 : RTags ro' h [.sl 2 a' l.length c'] l F') (hn : l.length ≤ 1048576) : evl lo 285 [.agg [.sl 2 a l.length c], .agg [.sl 2 a' l.length c']] h = some (.bool true, h) :=
  E_laws_eqPast (h' := h) (by rw [eqTagS h1 h2 hn]; simp only [cal_s, eB_b, br_t])
theorem eqVer {v : Ver} (h1 : RTags ro h [.sl 2 a v.past.length c] v.past F) (h2 : RTags ro' h [.sl 2 a' v.past.length c'] v.past F') (hn : v.past.length ≤ 1048576) : evl lo 287 [.agg (v.cs a c), .agg (v.cs a' c')] h = some (.bool true, h) :=
  E_laws_eqVer (h' := h) (by simp only [eqPast h1 h2 hn, cal_s, eB_b, br_t, beqI, beqB, beqL, laws_eqTag, Bool.and_self])
theorem eqVerS {l : List Ver} (h1 : RVers ro h [.sl 6 a l.length c] l F) (h2 : RVers ro' h [.sl 6 a' l.length c'] l F') (hn : smVers l) : evl lo 283 [.sl 6 a l.length c, .sl 6 a' l.length c'] h = some (.bool true, h) := by
  have hn1 := hn.1
  refine E_laws_eqVerS (h' := h) ?_
  rw [beqI, br_t]
  refine (go_loop (n := l.length) (fun i => L_laws_eqVerS_0 (List.length h) a l.length c a' l.length c' false (i : Nat) h) fun i hi => ?_).trans ?_
  · obtain ⟨o, s, b1, c1, G1, rfl, ho, es, hp, _⟩ := h1.get hi
    obtain ⟨o', s', b2, c2, G2, rfl, ho', es', hp', _⟩ := h2.get hi
    rw [L_laws_eqVerS_0.e, br_pos (by omega), inB_nat hi]
    simp only [eO_s, Int.toNat_natCast, ho, ho', eC_c, eI_int, es, es', eT_s, eBv_b, eN_n, inB_nat hi]
    rw [eqVer hp hp' (hn.2 _ (List.getElem_mem hi)).1]
    simp only [cal_s, eB_b, br_t, wr_succ (show i < 9223372036854775807 by omega)]
  · rw [L_laws_eqVerS_0.e, br_neg (by omega)]
theorem eqVerSS {l : List (List Ver)} (h1 : RVss ro h [.sl 1 a l.length c] l F) (h2 : RVss ro' h [.sl 1 a' l.length c'] l F') (hn : smVss l) : evl lo 284 [.sl 1 a l.length c, .sl 1 a' l.length c'] h = some (.bool true, h) := by
  have hn1 := hn.1
  refine E_laws_eqVerSS (h' := h) ?_
  rw [beqI, br_t]
  refine (go_loop (n := l.length) (fun i => L_laws_eqVerSS_0 (List.length h) a l.length c a' l.length c' false (i : Nat) h) fun i hi => ?_).trans ?_
  · obtain ⟨o, s, b1, c1, G1, rfl, ho, es, hp, _⟩ := h1.get hi
    obtain ⟨o', s', b2, c2, G2, rfl, ho', es', hp', _⟩ := h2.get hi
    rw [L_laws_eqVerSS_0.e, br_pos (by omega), inB_nat hi]
    simp only [eO_s, Int.toNat_natCast, ho, ho', eC_c, es, es', eN_n, inB_nat hi]
    rw [eqVerS hp hp' (hn.2 _ (List.getElem_mem hi))]
    simp only [cal_s, eB_b, br_t, wr_succ (show i < 9223372036854775807 by omega)]
  · rw [L_laws_eqVerSS_0.e, br_neg (by omega)]
theorem eqStore {l : List Ver} (h1 : RVers ro h [.sl 6 a l.length c] l F) (h2 : RVers ro' h [.sl 6 a' l.length c'] l F') (hn : smVers l) : evl lo 368 [.agg [.sl 6 a l.length c], .agg [.sl 6 a' l.length c']] h = some (.bool true, h) :=
  E_laws_eqStore (h' := h) (by rw [eqVerS h1 h2 hn]; simp only [cal_s, eB_b, br_t])
theorem eqNodeS {l : List Node} (h1 : RNodes ro h [.sl 2 a l.length c] l F) (h2 : RNodes ro' h [.sl 2 a' l.length c'] l F') (hn : smNodes l) : evl lo 333 [.sl 2 a l.length c, .sl 2 a' l.length c'] h = some (.bool true, h) := by
  have hn1 := hn.1
  refine E_laws_eqNodeS (h' := h) ?_
  rw [beqI, br_t]
  refine (go_loop (n := l.length) (fun i => L_laws_eqNodeS_0 (List.length h) a l.length c a' l.length c' false (i : Nat) h) fun i hi => ?_).trans ?_
  · obtain ⟨o, s1, s2, a1, c1, a2, c2, G1, G2, rfl, ho, _, _, e1, e2, hp1, hp2, _⟩ := h1.get hi
    obtain ⟨o', s1', s2', a1', c1', a2', c2', G1', G2', rfl, ho', _, _, e1', e2', hp1', hp2', _⟩ := h2.get hi
    rw [L_laws_eqNodeS_0.e, br_pos (by omega), inB_nat hi]
    simp only [eO_s, Int.toNat_natCast, ho, ho', eC_c, e1, e2, e1', e2', eN_n, inB_nat hi]
    rw [E_laws_eqNode (h' := h) (v := .bool true) (by
      rw [eqStore hp1 hp1' (hn.2 _ (List.getElem_mem hi)).1]; simp only [cal_s, eB_b, br_t]
      rw [eqVerS hp2 hp2' (hn.2 _ (List.getElem_mem hi)).2]; simp only [cal_s, eB_b, br_t])]
    simp only [cal_s, eB_b, br_t, wr_succ (show i < 9223372036854775807 by omega)]
  · rw [L_laws_eqNodeS_0.e, br_neg (by omega)]
theorem eqChain {l : List Node} (h1 : RNodes ro h [.sl 2 a l.length c] l F) (h2 : RNodes ro' h [.sl 2 a' l.length c'] l F') (hn : smNodes l) : evl lo 282 [.agg [.sl 2 a l.length c], .agg [.sl 2 a' l.length c']] h = some (.bool true, h) :=
  E_laws_eqChain (h' := h) (by rw [eqNodeS h1 h2 hn]; simp only [cal_s, eB_b, br_t])
theorem eqPlace {p : Place} {a1 a2 a3 a1' a2' a3' : Option (Nat × Nat)} {c1 c2 c3 c1' c2' c3' : Option Nat} (h1 : RPlace ro h (p.cs a1 c1 a2 c2 a3 c3) p F) (h2 : RPlace ro' h (p.cs a1' c1' a2' c2' a3' c3') p F') (hn : smPlace p) :
    evl lo 187 [.agg (p.cs a1 c1 a2 c2 a3 c3), .agg (p.cs a1' c1' a2' c2' a3' c3')] h = some (.bool true, h) := by
  obtain ⟨_, _, _, _, _, _, e1, _, r1, r2, r3⟩ := h1
  obtain ⟨_, _, _, _, _, _, e2, _, q1, q2, q3⟩ := h2
  injection e1 with _ e1; injection e1 with _ e1; injection e1 with x1 e1; injection e1 with x2 e1; injection e1 with x3 e1
  injection e2 with _ e2; injection e2 with _ e2; injection e2 with y1 e2; injection e2 with y2 e2; injection e2 with y3 e2
  subst x1; subst x2; subst x3; subst y1; subst y2; subst y3
  refine E_laws_eqPlace (h' := h) ?_
  rw [eqChain r1 q1 hn.1]; simp only [cal_s, eB_b, br_t, beqI]
  rw [eqVerS r2 q2 hn.2.1]; simp only [cal_s, eB_b, br_t]
  rw [eqVerSS r3 q3 hn.2.2]; simp only [cal_s, eB_b, br_t, beqB]
/-- a frame's cells -/
abbrev Frame.cs (f : Frame) (a : Option (Nat × Nat)) (c : Option Nat) : List V := .int .i64 f.fro :: .int .i64 f.to :: .int .i64 f.at' :: f.ver.cs a c
theorem eqFrame {f : Frame} (h1 : RTags ro h [.sl 2 a f.ver.past.length c] f.ver.past F) (h2 : RTags ro' h [.sl 2 a' f.ver.past.length c'] f.ver.past F') (hn : f.ver.past.length ≤ 1048576) : evl lo 189 [.agg (f.cs a c), .agg (f.cs a' c')] h = some (.bool true, h) :=
  E_laws_eqFrame (h' := h) (by rw [eqVer h1 h2 hn]; simp only [cal_s, eB_b, br_t, beqI])
end
def marks {α : Type} (f : Int → α → α) (w : α → Nat) : List α → Int → List α
  | [], _ => []
  | x :: r, k => f k x :: marks f w r (k + w x)
def mkN {α : Type} (w : α → Nat) (l : List α) : Nat := (l.map w).sum
theorem marks_len {α : Type} {f : Int → α → α} {w : α → Nat} : ∀ {l : List α} {k : Int}, (marks f w l k).length = l.length
  | [], k => rfl
  | x :: l, k => by simp [marks, marks_len]
theorem marks_snoc {α : Type} {f : Int → α → α} {w : α → Nat} : ∀ {l : List α} {k : Int} {x : α}, marks f w (l ++ [x]) k = marks f w l k ++ [f (k + mkN w l) x]
  | [], k, x => by simp [marks, mkN]
  | y :: l, k, x => by
    simp only [List.cons_append, marks]
    rw [marks_snoc]
    simp only [mkN, List.map_cons, List.sum_cons]
    rw [show k + (w y : Int) + ((l.map w).sum : Nat) = k + ((w y + (l.map w).sum : Nat) : Int) by omega]
theorem mkN_snoc {α : Type} {w : α → Nat} {l : List α} {x : α} : mkN w (l ++ [x]) = mkN w l + w x := by simp [mkN]
theorem mkN_take {α : Type} {w : α → Nat} {l : List α} {i : Nat} (hi : i < l.length) : mkN w (l.take (i + 1)) = mkN w (l.take i) + w l[i] := by
  rw [List.take_add_one, List.getElem?_eq_getElem hi]; exact mkN_snoc
theorem mkN_le {α : Type} {w : α → Nat} : ∀ {l : List α} {i : Nat}, mkN w (l.take i) ≤ mkN w l
  | [], i => by simp
  | x :: l, 0 => by simp [mkN]
  | x :: l, i + 1 => by
    have := mkN_le (w := w) (l := l) (i := i)
    simp only [mkN, List.take_succ_cons, List.map_cons, List.sum_cons] at this ⊢; omega
theorem marks_take {α : Type} {f : Int → α → α} {w : α → Nat} {l : List α} {k : Int} {i : Nat} (hi : i < l.length) : marks f w (l.take (i + 1)) k = marks f w (l.take i) k ++ [f (k + mkN w (l.take i)) l[i]] := by
  rw [List.take_add_one, List.getElem?_eq_getElem hi]; exact marks_snoc
theorem marks_get {α : Type} {f : Int → α → α} {w : α → Nat} : ∀ {l : List α} {k : Int} {i : Nat} (hi : i < l.length) (hi' : i < (marks f w l k).length), (marks f w l k)[i] = f (k + mkN w (l.take i)) l[i]
  | x :: l, k, 0, _, _ => by simp [marks, mkN]
  | x :: l, k, i + 1, hi, hi' => by
    simp only [marks, List.getElem_cons_succ, List.take_succ_cons]
    rw [marks_get (by simpa using hi) (by simpa [marks] using hi')]
    simp only [mkN, List.map_cons, List.sum_cons]
    rw [show k + (w x : Int) + (((l.take i).map w).sum : Nat) = k + ((w x + ((l.take i).map w).sum : Nat) : Int) by omega]
/-- marks upon a slice, one by one -/
theorem mark_loop {α : Type} {El : Rel α} (ok : El.Ok) {f : Int → α → α} {w : α → Nat} {R R' e n : Nat} {a : Option (Nat × Nat)} {c : Option Nat} {F : List Nat} {h : Heap} {l : List α} {B : Int} (L : Int → Nat → Heap → Option (V × Heap))
    (step : ∀ i k hh x b j rs row G, a = some (b, j) → b ∈ F → b ∉ G → G.Nodup → (∀ y ∈ G, y ∈ F) → hh[b]? = some (.rows R e false rs) → rs[j + i]? = some row → El hh row x G → x ∈ l → i < n → 0 ≤ k → k + w x ≤ B →
      ∃ h2 row', L k i hh = L (k + w x) (i + 1) h2 ∧ h2[b]? = some (.rows R e false (rs.set (j + i) row')) ∧ El h2 row' (f k x) G ∧ (∀ y, y ≠ b → y ∉ G → h2[y]? = hh[y]?) ∧ h2.length = hh.length)
    (done : ∀ k hh, L k n hh = some (.int .i64 k, hh)) (hs : Sli false R e El h [.sl R' a n c] l F) (hnd : F.Nodup) {k : Int} (h0 : 0 ≤ k) (hB : k + mkN w l ≤ B) :
    ∃ h', L k 0 h = some (.int .i64 (k + mkN w l), h') ∧ Sli false R e El h' [.sl R' a n c] (marks f w l k) F ∧ h'.length = h.length ∧ Mv h F h' F := by
  have hlen := hs.val
  have loop : ∀ m i hh, m + i = l.length → Sli false R e El hh [.sl R' a n c] (marks f w (l.take i) k ++ l.drop i) F → hh.length = h.length → (∀ y, y ∉ F → hh[y]? = h[y]?) →
      ∃ h', L (k + mkN w (l.take i)) i hh = some (.int .i64 (k + mkN w l), h') ∧ Sli false R e El h' [.sl R' a n c] (marks f w l k) F ∧ h'.length = h.length ∧ Mv h F h' F := by
    intro m
    induction m with
    | zero =>
      intro i hh hi hr h1 h2
      have : i = l.length := by omega
      subst this
      rw [List.take_length, List.drop_length, List.append_nil] at hr
      rw [List.take_length, ← hlen, done]
      exact ⟨hh, rfl, hr, h1, Nat.le_of_eq h1.symm, fun b _ hb => h2 b hb, hnd, fun b hb => .inl hb⟩
    | succ m ih =>
      intro i hh hi hr h1 h2
      have hlt : i < l.length := by omega
      have hml : (marks f w (l.take i) k).length = i := by rw [marks_len]; simp; omega
      have hcur : (marks f w (l.take i) k ++ l.drop i)[i]'(by rw [List.length_append, hml]; simp; omega) = l[i] := by
        rw [List.getElem_append_right (by omega)]
        simp [hml]
      obtain ⟨b, j, rs, row, G, rfl, hbF, hbG, hb, hrow, hel, hGF, hGn, hput⟩ := Sli.put ok.fr hr (show i < _ by rw [List.length_append, hml]; simp; omega) hnd
      rw [hcur] at hel
      have hle := mkN_le (w := w) (l := l) (i := i + 1)
      rw [mkN_take hlt] at hle
      obtain ⟨h3, row', e3, b3, r3, f3, l3⟩ := step i (k + mkN w (l.take i)) hh l[i] b j rs row G rfl hbF hbG hGn hGF hb hrow hel (List.getElem_mem hlt) (by omega) (by omega) (by omega)
      obtain ⟨F', q1, _, _, q4⟩ := hput h3 row' _ G b3 (fun y _ hyb hyG => f3 y hyb hyG) r3 hGn (fun y hy _ => hy)
      rw [q4 rfl] at q1
      rw [e3, show k + (mkN w (l.take i) : Int) + (w l[i] : Int) = k + ((mkN w (l.take (i + 1)) : Nat) : Int) by rw [mkN_take hlt]; omega]
      refine ih (i + 1) h3 (by omega) ?_ (by omega) fun y hy => ?_
      · have e : (marks f w (l.take i) k ++ l.drop i).set i (f (k + mkN w (l.take i)) l[i]) = marks f w (l.take (i + 1)) k ++ l.drop (i + 1) := by
          rw [List.set_append_right _ _ (by omega), hml, Nat.sub_self, List.drop_eq_getElem_cons hlt, List.set_cons_zero, marks_take hlt, List.append_assoc, List.singleton_append]
        rw [← e]; exact q1
      · rw [f3 y (fun e => hy (e ▸ hbF)) (fun hm => hy (hGF y hm))]; exact h2 y hy
  have := loop l.length 0 h (by omega) (by simpa [marks] using hs) rfl (fun _ _ => rfl)
  simpa [mkN] using this
/-- marks are read, one by one -/
theorem held_loop {α T : Type} {w : α → Nat} {l : List α} {k : Int} (L : Int → Nat → Option T)
    (step : ∀ i (hi : i < l.length), L (k + mkN w (l.take i)) i = L (k + mkN w (l.take i) + w l[i]) (i + 1)) : L k 0 = L (k + mkN w l) l.length := by
  have := go_loop (n := l.length) (fun i => L (k + mkN w (l.take i)) i) fun i hi => by
    rw [step i hi, mkN_take hi, show k + (mkN w (l.take i) : Int) + (w l[i] : Int) = k + ((mkN w (l.take i) + w l[i] : Nat) : Int) by omega]
  simpa [mkN] using this
end Go.Proofs.YthdfojchihooeaaGreat
namespace Go.Proofs.YthdfojchihooeaaGreat
open Go T
set_option linter.unusedVariables false
set_option linter.unusedSimpArgs false
/-- numbers up to which marks go -/
abbrev big : Int := 1099511627776
/-- a text that a number has -/
def TextOf (k : Int) (s : ByteArray) : Prop := ∀ (lo : Nat) (h : Heap), evl lo 195 [.int .i64 k] h = some (.str s, h)
theorem markText_loop : ∀ (n : Nat) (k : Int) (s : ByteArray), 0 ≤ k → k ≤ n → k ≤ big → s.size + k ≤ 2 * big → ∃ t, ∀ (lo : Nat) (h : Heap), ∃ h', L_laws_markText_0 lo k s h = some (.str t, h') := by
  intro n
  induction n with
  | zero =>
    intro k s h0 h1 h2 h3
    have : k = 0 := by omega
    subst this
    have hm : IntKind.i64.max = 9223372036854775807 := by decide
    refine ⟨⟨⟨[109]⟩⟩ ++ s, fun lo h => ⟨h, ?_⟩⟩
    rw [L_laws_markText_0.e, br_neg (by omega), cat_of (by have h9 : (ByteArray.mk ⟨[109]⟩).size = 1 := rfl; simp only [big] at h3; omega)]
  | succ n ih =>
    intro k s h0 h1 h2 h3
    have hm : IntKind.i64.max = 9223372036854775807 := by decide
    by_cases hk : k = 0
    · subst hk
      refine ⟨⟨⟨[109]⟩⟩ ++ s, fun lo h => ⟨h, ?_⟩⟩
      rw [L_laws_markText_0.e, br_neg (by omega), cat_of (by have h9 : (ByteArray.mk ⟨[109]⟩).size = 1 := rfl; simp only [big] at h3; omega)]
    · have hd : k.tdiv 10 = k / 10 := Int.tdiv_eq_ediv_of_nonneg h0
      have hsz : (bytesOf [IntKind.wrap .u8 (IntKind.wrap .i64 (48 + (k.tmod (10 : Int))))]).size = 1 := rfl
      have hsz2 : (bytesOf [IntKind.wrap .u8 (IntKind.wrap .i64 (48 + (k.tmod (10 : Int))))] ++ s).size = 1 + s.size := by rw [ByteArray.size_append, hsz]
      obtain ⟨t, ht⟩ := ih (k / 10) (bytesOf [IntKind.wrap .u8 (IntKind.wrap .i64 (48 + (k.tmod (10 : Int))))] ++ s) (by omega) (by omega) (by omega) (by rw [hsz2]; push_cast; omega)
      refine ⟨t, fun lo h => ?_⟩
      obtain ⟨h', e⟩ := ht lo (h ++ [.rows 1 5 false [[.int .u8 (IntKind.wrap .u8 (IntKind.wrap .i64 (48 + (k.tmod (10 : Int)))))]]])
      refine ⟨h', ?_⟩
      rw [L_laws_markText_0.e, br_pos (by omega)]
      simp only [rows_one, byteRows, eO_s]
      rw [cat_of (by rw [hsz]; simp only [big] at h3; omega), hd, wr (by simp only [big] at h2; omega) (by simp only [big] at h2; omega)]
      exact e
theorem textOf {k : Int} (h0 : 0 ≤ k) (h1 : k ≤ big) : ∃ s, TextOf k s := by
  by_cases hk : k ≤ 0
  · exact ⟨_, fun lo h => E_laws_markText (h' := h) (by rw [br_pos hk])⟩
  · obtain ⟨t, ht⟩ := markText_loop k.toNat k ⟨⟨[]⟩⟩ h0 (by omega) h1 (by simp only [big] at h1 ⊢; show ((0 : Nat) : Int) + k ≤ _; omega)
    refine ⟨t, fun lo h => ?_⟩
    obtain ⟨h', e⟩ := ht (List.length h) h
    exact E_laws_markText (h' := h') (by rw [br_neg hk]; exact e)
open Classical in
/-- the text of a number -/
noncomputable def mtext (k : Int) : ByteArray := if h : ∃ s, TextOf k s then h.choose else ⟨⟨[]⟩⟩
theorem laws_markText {lo : Nat} {h : Heap} {k : Int} (h0 : 0 ≤ k) (h1 : k ≤ big) : evl lo 195 [.int .i64 k] h = some (.str (mtext k), h) := by
  have hx := textOf h0 h1
  unfold mtext
  rw [dif_pos hx]
  exact hx.choose_spec lo h

def mkTag (k : Int) (_ : Tag) : Tag := ⟨k, k + 1⟩
abbrev wTag (_ : Tag) : Nat := 2
noncomputable def mkVer (k : Int) (v : Ver) : Ver := ⟨k, ⟨k + 1, k + 2⟩, marks mkTag wTag v.past (k + 3), mtext (k + 3 + mkN wTag v.past), (k + 3 + mkN wTag v.past + 1).tmod 3 == 0⟩
def wVer (v : Ver) : Nat := 5 + mkN wTag v.past
noncomputable def mkVers (k : Int) (l : List Ver) : List Ver := marks mkVer wVer l k
def wVers (l : List Ver) : Nat := mkN wVer l
noncomputable def mkNode (k : Int) (x : Node) : Node := ⟨mkVers k x.store, mkVers (k + wVers x.store) x.wait⟩
def wNode (x : Node) : Nat := wVers x.store + wVers x.wait
section
variable {lo : Nat} {h : Heap} {F : List Nat} {a : Option (Nat × Nat)} {c : Option Nat} {k : Int}
theorem laws_markTagS {l : List Tag} (hs : RTags false h [.sl 2 a l.length c] l F) (hlo : ∀ b ∈ F, lo ≤ b) (hnd : F.Nodup) (h0 : 0 ≤ k) (hB : k + mkN wTag l ≤ big) (hn : l.length ≤ 1048576) :
    ∃ h', evl lo 194 [.sl 2 a l.length c, .int .i64 k] h = some (.int .i64 (k + mkN wTag l), h') ∧ RTags false h' [.sl 2 a l.length c] (marks mkTag wTag l k) F ∧ h'.length = h.length ∧ Mv h F h' F := by
  obtain ⟨h', e, r⟩ := mark_loop (El := flat Tag.cs) flat_ok (f := mkTag) (w := wTag) (B := big) (fun k i hh => L_laws_markTagS_0 lo a l.length c k (i : Nat) hh) (fun i k hh x b j rs row G ha hbF hbG hGn hGF hb hrow hel hx hi h0 hB => by
    obtain ⟨rfl, rfl⟩ := hel
    subst ha
    have hrl : j + i < rs.length := (List.getElem?_eq_some_iff.1 hrow).1
    have hbl : b < hh.length := (List.getElem?_eq_some_iff.1 hb).1
    have hlob := hlo b hbF
    refine ⟨hh.set b (.rows 2 (eTag false) false (rs.set (j + i) [.int .i64 k, .int .i64 (k + 1)])), [.int .i64 k, .int .i64 (k + 1)], ?_, by simp [hbl], ⟨rfl, rfl⟩, fun y hy _ => List.getElem?_set_ne (Ne.symm hy), by simp⟩
    simp only [big] at hB
    rw [L_laws_markTagS_0.e, br_pos (by omega), inB_nat hi]
    simp only [eO_s, Int.toNat_natCast]
    rw [st_first hb hlob hrow (row' := [.int .i64 k, .int .i64 x.place]) (by rfl), eO_s, inB_nat hi, wr (n := k + 1) (by omega) (by omega)]
    rw [st_next hbl hlob hrl (row' := [.int .i64 k, .int .i64 (k + 1)]) (by rfl), eO_s, wr (n := k + 1 + 1) (by omega) (by omega), wr_succ (by omega), show k + 1 + 1 = k + ((2 : Nat) : Int) by omega]) (fun k hh => by
    rw [L_laws_markTagS_0.e, br_neg (by omega)]) hs hnd h0 hB
  exact ⟨h', E_laws_markTagS e, r⟩
theorem laws_markVerS {l : List Ver} (hs : RVers false h [.sl 6 a l.length c] l F) (hlo : ∀ b ∈ F, lo ≤ b) (hnd : F.Nodup) (h0 : 0 ≤ k) (hB : k + wVers l ≤ big) (hn : smVers l) :
    ∃ h', evl lo 192 [.sl 6 a l.length c, .int .i64 k] h = some (.int .i64 (k + wVers l), h') ∧ RVers false h' [.sl 6 a l.length c] (mkVers k l) F ∧ h'.length = h.length ∧ Mv h F h' F := by
  have hn1 := hn.1
  obtain ⟨h', e, r⟩ := mark_loop (El := RVer false) rver_ok (f := mkVer) (w := wVer) (B := big) (fun k i hh => L_laws_markVerS_0 lo a l.length c k (i : Nat) hh) (fun i k hh x b j rs row G ha hbF hbG hGn hGF hb hrow hel hx hi h0 hB => by
    obtain ⟨s, rfl, hp0⟩ := hel
    obtain ⟨a2, c2, es, hp⟩ := hp0.form
    subst ha
    have hrl : j + i < rs.length := (List.getElem?_eq_some_iff.1 hrow).1
    have hbl : b < hh.length := (List.getElem?_eq_some_iff.1 hb).1
    have hlob := hlo b hbF
    have hw : wVer x = 5 + mkN wTag x.past := rfl
    rw [hw] at hB
    simp only [big] at hB
    -- the first three
    have hb3 : (hh.set b (.rows 6 (eVer false) false (rs.set (j + i) [.int .i64 k, .int .i64 (k + 1), .int .i64 (k + 1 + 1), s, .str x.text, .bool x.gone])))[b]? = some (.rows 6 (eVer false) false (rs.set (j + i) [.int .i64 k, .int .i64 (k + 1), .int .i64 (k + 1 + 1), s, .str x.text, .bool x.gone])) := by simp [hbl]
    have hp3 : RTags false (hh.set b (.rows 6 (eVer false) false (rs.set (j + i) [.int .i64 k, .int .i64 (k + 1), .int .i64 (k + 1 + 1), s, .str x.text, .bool x.gone]))) [.sl 2 a2 x.past.length c2] x.past G := rtags_ok.fr _ _ _ _ _ hp (fun y hy => List.getElem?_set_ne (by rintro rfl; exact hbG hy))
    obtain ⟨h4, e4, r4, l4, m4⟩ := laws_markTagS (lo := lo) (k := k + 3) hp3 (fun y hy => hlo y (hGF y hy)) hGn (by omega) (by simp only [big]; omega) (hn.2 x hx).1
    have hb4 : h4[b]? = some (.rows 6 (eVer false) false (rs.set (j + i) [.int .i64 k, .int .i64 (k + 1), .int .i64 (k + 1 + 1), s, .str x.text, .bool x.gone])) := by rw [m4.fr b (by simpa using hbl) hbG]; exact hb3
    have hbl4 : b < h4.length := (List.getElem?_eq_some_iff.1 hb4).1
    have hrow4 : (rs.set (j + i) [.int .i64 k, .int .i64 (k + 1), .int .i64 (k + 1 + 1), s, .str x.text, .bool x.gone])[j + i]? = some [.int .i64 k, .int .i64 (k + 1), .int .i64 (k + 1 + 1), s, .str x.text, .bool x.gone] := by simp [hrl]
    refine ⟨h4.set b (.rows 6 (eVer false) false (rs.set (j + i) [.int .i64 k, .int .i64 (k + 1), .int .i64 (k + 1 + 1), s, .str (mtext (k + 3 + mkN wTag x.past)), .bool ((k + 3 + mkN wTag x.past + 1).tmod 3 == 0)])),
      [.int .i64 k, .int .i64 (k + 1), .int .i64 (k + 1 + 1), s, .str (mtext (k + 3 + mkN wTag x.past)), .bool ((k + 3 + mkN wTag x.past + 1).tmod 3 == 0)], ?_, by simp [hbl4], ?_, fun y hy hyG => ?_, by simpa using l4⟩
    · rw [L_laws_markVerS_0.e, br_pos (by omega), inB_nat hi]
      simp only [eO_s, Int.toNat_natCast]
      rw [st_first hb hlob hrow (row' := [.int .i64 k, .int .i64 x.tag.time, .int .i64 x.tag.place, s, .str x.text, .bool x.gone]) (by rfl), eO_s, inB_nat hi, wr (n := k + 1) (by omega) (by omega)]
      rw [st_next hbl hlob hrl (row' := [.int .i64 k, .int .i64 (k + 1), .int .i64 x.tag.place, s, .str x.text, .bool x.gone]) (by rfl), eO_s, inB_nat hi, wr (n := k + 1 + 1) (by omega) (by omega)]
      rw [st_next hbl hlob hrl (row' := [.int .i64 k, .int .i64 (k + 1), .int .i64 (k + 1 + 1), s, .str x.text, .bool x.gone]) (by rfl), eO_s, inB_nat hi]
      have hld : ld (hh.set b (.rows 6 (eVer false) false (rs.set (j + i) [.int .i64 k, .int .i64 (k + 1), .int .i64 (k + 1 + 1), s, .str x.text, .bool x.gone]))) b (j + i) 3 1 = some [s] := by
        simp only [ld, Heap.rows?, hb3, Option.bind_some, hrow4]; rfl
      rw [hld, wr (n := k + 1 + 1 + 1) (by omega) (by omega), show k + 1 + 1 + 1 = k + 3 by omega]
      simp only [eO_s, eC_c, eN_n, es]
      rw [e4]
      simp only [cal_s, eI_int]
      rw [laws_markText (by omega) (by simp only [big]; omega)]
      simp only [cal_s, eT_s]
      rw [inB_nat hi, st_first hb4 hlob hrow4 (row' := [.int .i64 k, .int .i64 (k + 1), .int .i64 (k + 1 + 1), s, .str (mtext (k + 3 + mkN wTag x.past)), .bool x.gone]) (by rfl), eO_s, List.set_set]
      rw [wr (n := k + 3 + mkN wTag x.past + 1) (by omega) (by omega), wr (n := k + 3 + mkN wTag x.past + 1 + 1) (by omega) (by omega), wr_succ (by omega), inB_nat hi]
      rw [show k + ((wVer x : Nat) : Int) = k + 3 + mkN wTag x.past + 1 + 1 by rw [hw]; omega]
      cases hg : ((k + 3 + mkN wTag x.past + 1).tmod 3 == 0)
      · rw [br_f, inB_nat hi, st_next hbl4 hlob hrl (row' := [.int .i64 k, .int .i64 (k + 1), .int .i64 (k + 1 + 1), s, .str (mtext (k + 3 + mkN wTag x.past)), .bool false]) (by rfl), eO_s]
      · rw [br_t, st_next hbl4 hlob hrl (row' := [.int .i64 k, .int .i64 (k + 1), .int .i64 (k + 1 + 1), s, .str (mtext (k + 3 + mkN wTag x.past)), .bool true]) (by rfl), eO_s]
    · refine ⟨s, by simp only [mkVer]; rw [show k + 1 + 1 = k + 2 by omega], ?_⟩
      have hr5 : RTags false (h4.set b (.rows 6 (eVer false) false (rs.set (j + i) [.int .i64 k, .int .i64 (k + 1), .int .i64 (k + 1 + 1), s, .str (mtext (k + 3 + mkN wTag x.past)), .bool ((k + 3 + mkN wTag x.past + 1).tmod 3 == 0)]))) [.sl 2 a2 x.past.length c2] (marks mkTag wTag x.past (k + 3)) G := rtags_ok.fr _ _ _ _ _ r4 (fun y hy => List.getElem?_set_ne (by rintro rfl; exact hbG hy))
      exact Sli.same hp0 es hr5
    · rw [List.getElem?_set_ne (Ne.symm hy), m4.fr' l4 y hyG, List.getElem?_set_ne (Ne.symm hy)]) (fun k hh => by
    rw [L_laws_markVerS_0.e, br_neg (by omega)]) hs hnd h0 hB
  exact ⟨h', E_laws_markVerS e, r⟩
noncomputable def mkVss (k : Int) (l : List (List Ver)) : List (List Ver) := marks mkVers wVers l k
def wVss (l : List (List Ver)) : Nat := mkN wVers l
noncomputable def mkNodes (k : Int) (l : List Node) : List Node := marks mkNode wNode l k
def wNodes (l : List Node) : Nat := mkN wNode l
theorem mkVers_len {k : Int} {l : List Ver} : (mkVers k l).length = l.length := marks_len
theorem laws_markVerSS {l : List (List Ver)} (hs : RVss false h [.sl 1 a l.length c] l F) (hlo : ∀ b ∈ F, lo ≤ b) (hnd : F.Nodup) (h0 : 0 ≤ k) (hB : k + wVss l ≤ big) (hn : smVss l) :
    ∃ h', evl lo 193 [.sl 1 a l.length c, .int .i64 k] h = some (.int .i64 (k + wVss l), h') ∧ RVss false h' [.sl 1 a l.length c] (mkVss k l) F ∧ h'.length = h.length ∧ Mv h F h' F := by
  have hn1 := hn.1
  obtain ⟨h', e, r⟩ := mark_loop (El := RVers false) rvers_ok (f := mkVers) (w := wVers) (B := big) (fun k i hh => L_laws_markVerSS_0 lo a l.length c k (i : Nat) hh) (fun i k hh x b j rs row G ha hbF hbG hGn hGF hb hrow hel hx hi h0 hB => by
    have : ∃ s, row = [s] := by obtain ⟨R', a', c', e, _⟩ := hel; exact ⟨_, e⟩
    obtain ⟨s, rfl⟩ := this
    obtain ⟨a2, c2, es, hp⟩ := hel.form
    subst ha
    obtain ⟨h4, e4, r4, l4, m4⟩ := laws_markVerS (lo := lo) hp (fun y hy => hlo y (hGF y hy)) hGn h0 hB (hn.2 x hx)
    have hld : ld hh b (j + i) 0 1 = some [s] := by simp only [ld, Heap.rows?, hb, Option.bind_some, hrow]; rfl
    rw [← mkVers_len (k := k)] at r4
    refine ⟨h4, [s], ?_, by rw [set_same hrow, m4.fr' l4 b hbG]; exact hb, Sli.same hel (by rw [mkVers_len]; exact es) r4, fun y _ hyG => m4.fr' l4 y hyG, l4⟩
    rw [L_laws_markVerSS_0.e, br_pos (by omega), inB_nat hi]
    simp only [eO_s, Int.toNat_natCast, hld, eC_c, eN_n, es]
    rw [e4]
    simp only [cal_s, eI_int, wr_succ (show i < 9223372036854775807 by omega)]) (fun k hh => by
    rw [L_laws_markVerSS_0.e, br_neg (by omega)]) hs hnd h0 hB
  exact ⟨h', E_laws_markVerSS e, r⟩
end
end Go.Proofs.YthdfojchihooeaaGreat
namespace Go.Proofs.YthdfojchihooeaaGreat
open Go T
set_option linter.unusedVariables false
set_option linter.unusedSimpArgs false
section
variable {lo : Nat} {h : Heap} {F : List Nat} {a : Option (Nat × Nat)} {c : Option Nat} {k : Int}
theorem laws_markNodeS {l : List Node} (hs : RNodes false h [.sl 2 a l.length c] l F) (hlo : ∀ b ∈ F, lo ≤ b) (hnd : F.Nodup) (h0 : 0 ≤ k) (hB : k + wNodes l ≤ big) (hn : smNodes l) :
    ∃ h', evl lo 191 [.sl 2 a l.length c, .int .i64 k] h = some (.int .i64 (k + wNodes l), h') ∧ RNodes false h' [.sl 2 a l.length c] (mkNodes k l) F ∧ h'.length = h.length ∧ Mv h F h' F := by
  have hn1 := hn.1
  obtain ⟨h', e, r⟩ := mark_loop (El := RNode false) rnode_ok (f := mkNode) (w := wNode) (B := big) (fun k i hh => L_laws_markNodeS_0 lo a l.length c k (i : Nat) hh) (fun i k hh x b j rs row G ha hbF hbG hGn hGF hb hrow hel hx hi h0 hB => by
    obtain ⟨s1, s2, F1, F2, rfl, rfl, p1, p2⟩ := hel
    obtain ⟨a1, c1, e1, q1⟩ := p1.form
    obtain ⟨a2, c2, e2, q2⟩ := p2.form
    subst ha
    have hsm := hn.2 x hx
    have hw : wNode x = wVers x.store + wVers x.wait := rfl
    rw [hw] at hB
    rw [List.nodup_append] at hGn
    have d12 : ∀ y ∈ F2, y ∉ F1 := fun y h2 h1 => hGn.2.2 y h1 y h2 rfl
    have d21 : ∀ y ∈ F1, y ∉ F2 := fun y h1 h2 => hGn.2.2 y h1 y h2 rfl
    have hbG1 : b ∉ F1 := fun hm => hbG (List.mem_append_left _ hm)
    have hbG2 : b ∉ F2 := fun hm => hbG (List.mem_append_right _ hm)
    obtain ⟨h4, e4, r4, l4, m4⟩ := laws_markVerS (lo := lo) q1 (fun y hy => hlo y (hGF y (List.mem_append_left _ hy))) hGn.1 h0 (by omega) hsm.1
    have q2' := m4.keep rvers_ok q2 d12
    obtain ⟨h5, e5, r5, l5, m5⟩ := laws_markVerS (lo := lo) (k := k + wVers x.store) q2' (fun y hy => hlo y (hGF y (List.mem_append_right _ hy))) hGn.2.1 (by omega) (by omega) hsm.2
    have hld : ld hh b (j + i) 0 1 = some [s1] := by simp only [ld, Heap.rows?, hb, Option.bind_some, hrow]; rfl
    have hb4 : h4[b]? = some (.rows 2 (eNode false) false rs) := by rw [m4.fr' l4 b hbG1]; exact hb
    have hld4 : ld h4 b (j + i) 1 1 = some [s2] := by simp only [ld, Heap.rows?, hb4, Option.bind_some, hrow]; rfl
    have r4' := m5.keep rvers_ok r4 d21
    rw [← mkVers_len (k := k)] at r4'
    rw [← mkVers_len (k := k + wVers x.store)] at r5
    refine ⟨h5, [s1, s2], ?_, by rw [set_same hrow, m5.fr' l5 b hbG2]; exact hb4, ⟨s1, s2, F1, F2, rfl, rfl, Sli.same p1 (by rw [mkVers_len]; exact e1) r4', Sli.same p2 (by rw [mkVers_len]; exact e2) r5⟩,
      fun y _ hyG => ?_, by omega⟩
    · rw [L_laws_markNodeS_0.e, br_pos (by omega), inB_nat hi]
      simp only [eO_s, Int.toNat_natCast, hld, eC_c, eN_n, e1]
      rw [e4]
      simp only [cal_s, eI_int]
      rw [inB_nat hi, hld4]
      simp only [eO_s, eC_c, eN_n, e2]
      rw [e5]
      simp only [cal_s, eI_int, wr_succ (show i < 9223372036854775807 by omega)]
      rw [show k + (wVers x.store : Int) + (wVers x.wait : Int) = k + ((wNode x : Nat) : Int) by rw [hw]; omega]
    · rw [m5.fr' l5 y fun hm => hyG (List.mem_append_right _ hm), m4.fr' l4 y fun hm => hyG (List.mem_append_left _ hm)]) (fun k hh => by
    rw [L_laws_markNodeS_0.e, br_neg (by omega)]) hs hnd h0 hB
  exact ⟨h', E_laws_markNodeS e, r⟩
theorem mkNodes_len {k : Int} {l : List Node} : (mkNodes k l).length = l.length := marks_len
theorem mkVss_len {k : Int} {l : List (List Ver)} : (mkVss k l).length = l.length := marks_len
def wPlace (p : Place) : Nat := wNodes p.chain + wVers p.log + wVss p.got
theorem RPlace.cells {ro : Bool} {p : Place} {a1 a2 a3 : Option (Nat × Nat)} {c1 c2 c3 : Option Nat} (h1 : RPlace ro h (p.cs a1 c1 a2 c2 a3 c3) p F) :
    ∃ F1 F2 F3, F = F1 ++ (F2 ++ F3) ∧ RNodes ro h [.sl 2 a1 p.chain.length c1] p.chain F1 ∧ RVers ro h [.sl 6 a2 p.log.length c2] p.log F2 ∧ RVss ro h [.sl 1 a3 p.got.length c3] p.got F3 := by
  obtain ⟨_, _, _, F1, F2, F3, e1, rfl, r1, r2, r3⟩ := h1
  injection e1 with _ e1; injection e1 with _ e1; injection e1 with x1 e1; injection e1 with x2 e1; injection e1 with x3 e1
  subst x1; subst x2; subst x3
  exact ⟨F1, F2, F3, rfl, r1, r2, r3⟩
end
end Go.Proofs.YthdfojchihooeaaGreat
namespace Go.Proofs.YthdfojchihooeaaGreat
open Go T
set_option linter.unusedVariables false
set_option linter.unusedSimpArgs false
def byteOk (b : UInt8) : Bool := within b.toNat 33 126
def textOk (s : ByteArray) : Bool := s.data.toList.all byteOk && decide ((s.size : Int) ≤ 8)
def pastOk (p : List Tag) : Bool := decide (p.length = 4) && p.all fun t => tagOk t.time t.place
def under (p q : List Tag) : Bool := (p.zip q).all fun x => !less x.2.time x.2.place x.1.time x.1.place
def latest (p : List Tag) : Int := p.foldl (fun m t => if t.time > m then t.time else m) 0
def noText (s : ByteArray) : Bool := decide (s.size = 0)
def written (v : Ver) : Bool := within v.key 0 3 && textOk v.text && (!v.gone || noText v.text) && pastOk v.past
def verOk (v : Ver) : Bool := written v && tagOk v.tag.time v.tag.place && decide (latest v.past < v.tag.time)

section
variable {lo : Nat} {ro ro' : Bool} {h : Heap} {F F' : List Nat} {a a' : Option (Nat × Nat)} {c c' : Option Nat}
theorem strAt_nat {s : ByteArray} {i : Nat} (hi : i < s.data.toList.length) : strAt s (i : Nat) = some (s.data.toList[i]) := by
  unfold strAt
  have : i < s.size := by simpa using hi
  simp [this]
  rfl
theorem spec_l2TextOk {s : ByteArray} (hn : s.size ≤ 1048576) : evl lo 160 [.str s] h = some (.bool (textOk s), h) := by
  refine E_spec_l2TextOk (h' := h) ?_
  have hl : s.data.toList.length = s.size := by simp
  refine (all_loop (p := byteOk) (l := s.data.toList) (fun i => L_spec_l2TextOk_0 (List.length h) s false (i : Nat) h) (some (.bool false, h)) (some (.bool (decide ((s.size : Int) ≤ 8)), h)) (fun i hi => ?_) ?_).trans ?_
  · rw [L_spec_l2TextOk_0.e, br_pos (by omega)]
    simp only [strAt_nat hi, eO_s, wr_succ (show i < 9223372036854775807 by omega)]
    unfold byteOk within
    generalize s.data.toList[i] = b
    by_cases h1 : (b.toNat : Int) < 33
    · rw [br_pos h1, if_neg (by simp; omega)]
    · rw [br_neg h1]
      by_cases h2 : (b.toNat : Int) > 126
      · rw [br_pos h2, if_neg (by simp; omega)]
      · rw [br_neg h2, if_pos (by simp; omega)]
  · rw [L_spec_l2TextOk_0.e, br_neg (by omega)]
    by_cases h3 : (s.size : Int) ≤ 8
    · rw [br_pos h3, decide_eq_true h3]
    · rw [br_neg h3, decide_eq_false h3]
  · unfold textOk
    cases s.data.toList.all byteOk <;> simp
theorem impl_textOk {s : ByteArray} (hn : s.size ≤ 1048576) : evl lo 318 [.str s] h = some (.bool (textOk s), h) := by
  refine E_impl_textOk (h' := h) ?_
  have hl : s.data.toList.length = s.size := by simp
  refine (all_loop (p := byteOk) (l := s.data.toList) (fun i => L_impl_textOk_0 (List.length h) s false (s.size : Nat) (i : Nat) h) (some (.bool false, h)) (some (.bool (decide ((s.size : Int) ≤ 8)), h)) (fun i hi => ?_) ?_).trans ?_
  · have hb : s.data.toList[i].toNat < 256 := s.data.toList[i].toNat_lt
    rw [L_impl_textOk_0.e, br_pos (by omega)]
    simp only [strAt_nat hi, eO_s, wr_succ (show i < 9223372036854775807 by omega), impl_within, cal_s, eB_b]
    rw [wr (by omega) (by omega)]
    unfold byteOk
    cases within (s.data.toList[i].toNat : Int) 33 126 <;> simp
  · rw [L_impl_textOk_0.e, br_neg (by omega)]
    by_cases h3 : (s.size : Int) ≤ 8
    · rw [br_pos h3, decide_eq_true h3]
    · rw [br_neg h3, decide_eq_false h3]
  · unfold textOk
    cases s.data.toList.all byteOk <;> simp
theorem spec_l1PastOk {l : List Tag} (hs : RTags ro h [.sl 2 a l.length c] l F) (hn : l.length ≤ 1048576) : evl lo 161 [.agg [.sl 2 a l.length c]] h = some (.bool (pastOk l), h) := by
  refine E_spec_l1PastOk (h' := h) ?_
  refine (all_loop (p := fun t : Tag => tagOk t.time t.place) (l := l) (fun i => L_spec_l1PastOk_0 (List.length h) false (i : Nat) a l.length c h) (some (.bool false, h)) (some (.bool (decide (l.length = 4)), h)) (fun i hi => ?_) ?_).trans ?_
  · obtain ⟨o, rfl, ho⟩ := hs.get hi
    rw [L_spec_l1PastOk_0.e, br_pos (by omega), inB_nat hi]
    simp only [eO_s, Int.toNat_natCast, ho, eC_c, eI_int, eN_n, spec_l1TagOk, cal_s, eB_b, wr_succ (show i < 9223372036854775807 by omega)]
    cases tagOk l[i].time l[i].place <;> simp
  · rw [L_spec_l1PastOk_0.e, br_neg (by omega)]
    by_cases h3 : l.length = 4
    · rw [h3]; rfl
    · rw [show ((l.length : Int) == 4) = false by simp; omega, br_f, decide_eq_false h3]
  · unfold pastOk
    cases l.all (fun t : Tag => tagOk t.time t.place) <;> simp
theorem IndexFunc_Tag {l : List Tag} {g : Nat} {cl : List V} {p : Tag → Bool} (hs : RTags ro h [.sl 2 a l.length c] l F) (hn : l.length ≤ 1048576)
    (hp : ∀ lo d, d ∈ l → evl lo g (fnArgs [.agg [.int .i64 d.time, .int .i64 d.place]] cl) h = some (.bool (p d), h)) :
    evl lo 319 [.sl 2 a l.length c, .fn g cl] h = some (.int .i64 (firstAt p l 0), h) := by
  have loop : ∀ m k x, m + k = l.length → L_slices_IndexFunc_impl_Tag_impl_Tag_0 (List.length h) a l.length c g cl x (l.length : Nat) (k : Nat) h = some (.int .i64 (firstAt p (l.drop k) k), h) := by
    intro m
    induction m with
    | zero =>
      intro k x hk
      rw [L_slices_IndexFunc_impl_Tag_impl_Tag_0.e, br_neg (by omega), show k = l.length by omega]
      simp [firstAt]
    | succ m ih =>
      intro k x hk
      have hlt : k < l.length := by omega
      obtain ⟨o, rfl, ho⟩ := hs.get hlt
      rw [L_slices_IndexFunc_impl_Tag_impl_Tag_0.e, br_pos (by omega), inB_nat (by omega)]
      simp only [eO_s, Int.toNat_natCast, ho, eC_c, eI_int, eN_n]
      rw [hp (List.length h) l[k] (by simp), cal_s, eB_b, List.drop_eq_getElem_cons hlt]
      simp only [firstAt]
      cases p l[k]
      · simp only [br_f, cond_false]; rw [wr_succ (by omega)]; exact ih (k + 1) _ (by omega)
      · simp
  refine E_slices_IndexFunc_impl_Tag_impl_Tag (h' := h) ?_
  simpa using loop l.length 0 0 (by omega)
theorem impl_PastOk {l : List Tag} (hs : RTags ro h [.sl 2 a l.length c] l F) (hn : l.length ≤ 1048576) : evl lo 125 [.agg [.sl 2 a l.length c]] h = some (.bool (pastOk l), h) := by
  refine E_impl_PastOk (h' := h) ?_
  rw [E_slices_ContainsFunc_impl_Tag_impl_Tag (h' := h) (v := .bool (l.any fun t => !tagOk t.time t.place)) (by
    rw [IndexFunc_Tag hs hn (p := fun t => !tagOk t.time t.place) (fun lo d _ => E_impl_PastOk_1 (h' := h) (by rw [impl_TagOk]; simp only [cal_s, eB_b]; cases tagOk d.time d.place <;> rfl))]
    simp only [cal_s, eI_int, br_bool]; rw [firstAt_pos]; simp)]
  unfold pastOk
  by_cases h3 : l.length = 4
  · rw [show ((l.length : Int) == 4) = true by simp; omega, br_t, decide_eq_true h3]
    simp only [cal_s, eB_b]
    rw [List.any_eq_not_all_not]
    simp only [Bool.not_not, Bool.true_and]
    cases l.all (fun t : Tag => tagOk t.time t.place) <;> rfl
  · rw [show ((l.length : Int) == 4) = false by simp; omega, br_f, decide_eq_false h3]; rfl
theorem impl_latest {l : List Tag} (hs : RTags ro h [.sl 2 a l.length c] l F) (hn : l.length ≤ 1048576) : evl lo 237 [.agg [.sl 2 a l.length c]] h = some (.int .i64 (latest l), h) := by
  have loop : ∀ m k x, m + k = l.length → L_impl_Past_latest_0 (List.length h) x a l.length c (l.length : Nat) (k : Nat) h = some (.int .i64 ((l.drop k).foldl (fun m t => if t.time > m then t.time else m) x), h) := by
    intro m
    induction m with
    | zero =>
      intro k x hk
      rw [L_impl_Past_latest_0.e, br_neg (by omega), show k = l.length by omega]
      simp
    | succ m ih =>
      intro k x hk
      have hlt : k < l.length := by omega
      obtain ⟨o, rfl, ho⟩ := hs.get hlt
      rw [L_impl_Past_latest_0.e, br_pos (by omega), inB_nat (by omega)]
      simp only [eO_s, Int.toNat_natCast, ho, eC_c, eI_int, eN_n, wr_succ (show k < 9223372036854775807 by omega)]
      rw [ih (k + 1) _ (by omega), List.drop_eq_getElem_cons hlt, List.foldl_cons]
  refine E_impl_Past_latest (h' := h) ?_
  exact loop l.length 0 0 (by omega)
theorem toList_nil {s : ByteArray} : (s.toList == (ByteArray.mk #[]).toList) = noText s := by
  unfold noText
  rw [Bool.eq_iff_iff]
  rw [ByteArray.toList_eq, ByteArray.toList_eq]
  simp only [beq_iff_eq, decide_eq_true_eq]
  constructor
  · intro h
    have := congrArg List.length h
    simpa using this
  · intro h
    exact List.eq_nil_of_length_eq_zero (by simpa using h)
theorem impl_written {v : Ver} (hs : RTags ro h [.sl 2 a v.past.length c] v.past F) (hn : v.past.length ≤ 1048576 ∧ v.text.size ≤ 1048576) : evl lo 235 [.agg (v.cs a c)] h = some (.bool (written v), h) := by
  refine E_impl_Ver_written (h' := h) ?_
  simp only [impl_keyOk, impl_textOk hn.2, impl_PastOk hs hn.1, toList_nil, cal_s, eB_b]
  unfold written
  cases within v.key 0 3 <;> cases textOk v.text <;> cases v.gone <;> cases noText v.text <;> cases pastOk v.past <;> rfl
theorem impl_VerOk {v : Ver} (hs : RTags ro h [.sl 2 a v.past.length c] v.past F) (hn : v.past.length ≤ 1048576 ∧ v.text.size ≤ 1048576) : evl lo 122 [.agg (v.cs a c)] h = some (.bool (verOk v), h) := by
  refine E_impl_VerOk (h' := h) ?_
  simp only [impl_written hs hn, impl_TagOk, impl_latest hs hn.1, cal_s, eB_b, eI_int]
  unfold verOk
  by_cases hl : latest v.past < v.tag.time
  · rw [br_pos hl, decide_eq_true hl]
    cases written v <;> cases tagOk v.tag.time v.tag.place <;> rfl
  · rw [br_neg hl, decide_eq_false hl]
    cases written v <;> cases tagOk v.tag.time v.tag.place <;> rfl
theorem foldl_lt {x : Int} : ∀ {l : List Tag} {m : Int}, l.foldl (fun m t => if t.time > m then t.time else m) m < x ↔ m < x ∧ ∀ t ∈ l, t.time < x
  | [], m => by simp
  | t :: l, m => by
    rw [List.foldl_cons, foldl_lt]
    simp only [List.mem_cons, forall_eq_or_imp]
    constructor
    · rintro ⟨h1, h2⟩
      refine ⟨?_, ?_, h2⟩ <;> (split at h1 <;> omega)
    · rintro ⟨h1, h2, h3⟩
      refine ⟨?_, h3⟩
      split <;> omega
theorem latest_lt {p : List Tag} {x : Int} : latest p < x ↔ 0 < x ∧ ∀ t ∈ p, t.time < x := foldl_lt
theorem tagOk_time {t p : Int} (h : tagOk t p = true) : 0 ≤ t ∧ t ≤ 999 ∧ 0 ≤ p ∧ p ≤ 2 := by
  simp [tagOk, within] at h; omega
theorem pastOk_len {p : List Tag} (h : pastOk p = true) : p.length = 4 := by
  simp only [pastOk, Bool.and_eq_true, decide_eq_true_eq] at h; exact h.1
theorem spec_l2Ok {v : Ver} (hs : RTags ro h [.sl 2 a v.past.length c] v.past F) (hn : v.past.length ≤ 1048576 ∧ v.text.size ≤ 1048576) : evl lo 137 [.agg (v.cs a c)] h = some (.bool (verOk v), h) := by
  refine E_spec_l2Ok (h' := h) ?_
  have loop : ∀ x b, pastOk v.past = true → L_spec_l2Ok_0 (List.length h) x 0 v.key v.tag.time v.tag.place a v.past.length c v.text b h = some (.bool (v.past.all fun t => decide (t.time < v.tag.time)), h) := by
    intro x b hp
    have h4 := pastOk_len hp
    refine (all_loop (p := fun t : Tag => decide (t.time < v.tag.time)) (l := v.past) (fun i => L_spec_l2Ok_0 (List.length h) x (i : Nat) v.key v.tag.time v.tag.place a v.past.length c v.text b h) (some (.bool false, h)) (some (.bool true, h)) (fun i hi => ?_) ?_).trans ?_
    · obtain ⟨o, row, G, rfl, ho, ⟨rfl, _⟩, _⟩ := hs.read hi
      rw [L_spec_l2Ok_0.e, br_pos (by omega), inB_nat hi]
      simp only [eO_s, Int.toNat_natCast, ho, Tag.cs, cut, eC_c, eI_int, eN_n, wr_succ (show i < 9223372036854775807 by omega)]
      by_cases ht : v.past[i].time < v.tag.time
      · rw [br_neg (by omega), if_pos (by simpa using ht)]
      · rw [br_pos (by omega), if_neg (by simpa using ht)]
    · rw [L_spec_l2Ok_0.e, br_neg (by omega)]
    · cases v.past.all fun t : Tag => decide (t.time < v.tag.time) <;> rfl
  have key : ∀ x : Bool, (tagOk v.tag.time v.tag.place && x && decide (latest v.past < v.tag.time)) = (tagOk v.tag.time v.tag.place && !(v.tag.time == 0) && x && (v.past.all fun t => decide (t.time < v.tag.time))) := by
    intro x
    cases ht : tagOk v.tag.time v.tag.place with
    | false => simp
    | true =>
      have := tagOk_time ht
      have e : decide (latest v.past < v.tag.time) = (!(v.tag.time == 0) && (v.past.all fun t => decide (t.time < v.tag.time))) := by
        rw [Bool.eq_iff_iff]
        simp only [decide_eq_true_eq, latest_lt, Bool.and_eq_true, List.all_eq_true, Bool.not_eq_true', beq_eq_false_iff_ne]
        constructor
        · rintro ⟨h1, h2⟩; exact ⟨by omega, h2⟩
        · rintro ⟨h1, h2⟩; exact ⟨by omega, h2⟩
      rw [e]
      cases x <;> cases (v.tag.time == 0) <;> simp
  have e2 : verOk v = (within v.key 0 3 && textOk v.text && (!v.gone || noText v.text) && (tagOk v.tag.time v.tag.place && pastOk v.past && decide (latest v.past < v.tag.time))) := by
    unfold verOk written
    cases within v.key 0 3 <;> cases textOk v.text <;> cases v.gone <;> cases noText v.text <;> cases pastOk v.past <;> cases tagOk v.tag.time v.tag.place <;> simp
  rw [e2, key]
  simp only [spec_l1In, spec_l2TextOk hn.2, spec_l1TagOk, spec_l1PastOk hs hn.1, toList_nil, cal_s, eB_b]
  cases hp : pastOk v.past with
  | true =>
    simp only [loop _ _ hp]
    cases within v.key 0 3 <;> cases textOk v.text <;> cases v.gone <;> cases noText v.text <;> cases tagOk v.tag.time v.tag.place <;> cases (v.tag.time == 0) <;> rfl
  | false =>
    cases within v.key 0 3 <;> cases textOk v.text <;> cases v.gone <;> cases noText v.text <;> cases tagOk v.tag.time v.tag.place <;> cases (v.tag.time == 0) <;> rfl
theorem under_loop {p q : List Tag} {T : Type} (L : Nat → Option T) (no yes : Option T) (hl : p.length ≤ q.length)
    (step : ∀ i (hi : i < p.length), L i = if less q[i].time q[i].place p[i].time p[i].place = true then no else L (i + 1)) (done : L p.length = yes) : L 0 = if under p q = true then yes else no := by
  have hz : (p.zip q).length = p.length := by simp; omega
  refine all_loop (l := p.zip q) L no yes (fun i hi => ?_) (by rw [hz]; exact done)
  rw [step i (by omega)]
  simp only [List.getElem_zip]
  cases less q[i].time q[i].place p[i].time p[i].place <;> simp
theorem impl_under {p q : List Tag} (hs : RTags ro h [.sl 2 a p.length c] p F) (hs' : RTags ro' h [.sl 2 a' q.length c'] q F') (hn : p.length ≤ 1048576) (hl : p.length ≤ q.length) :
    evl lo 126 [.agg [.sl 2 a p.length c], .agg [.sl 2 a' q.length c']] h = some (.bool (under p q), h) := by
  refine E_impl_Past_under (h' := h) ?_
  refine (under_loop (p := p) (q := q) (fun i => L_impl_Past_under_0 (List.length h) false a p.length c (p.length : Nat) (i : Nat) a' q.length c' h) (some (.bool false, h)) (some (.bool true, h)) hl (fun i hi => ?_) ?_).trans ?_
  · obtain ⟨o, rfl, ho⟩ := hs.get hi
    obtain ⟨o', rfl, ho'⟩ := hs'.get (show i < q.length by omega)
    rw [L_impl_Past_under_0.e, br_pos (by omega), inB_nat hi]
    simp only [eO_s, Int.toNat_natCast, ho, ho', eC_c, eI_int, eN_n, inB_nat (show i < q.length by omega), impl_TagLess, cal_s, eB_b, wr_succ (show i < 9223372036854775807 by omega)]
    cases less q[i].time q[i].place p[i].time p[i].place <;> simp
  · rw [L_impl_Past_under_0.e, br_neg (by omega)]
  · cases under p q <;> rfl
theorem spec_l1Within {p q : List Tag} (hs : RTags ro h [.sl 2 a p.length c] p F) (hs' : RTags ro' h [.sl 2 a' q.length c'] q F') (hp : p.length = 4) (hq : q.length = 4) :
    evl lo 212 [.agg [.sl 2 a p.length c], .agg [.sl 2 a' q.length c']] h = some (.bool (under p q), h) := by
  refine E_spec_l1Within (h' := h) ?_
  refine (under_loop (p := p) (q := q) (fun i => L_spec_l1Within_0 (List.length h) false (i : Nat) a p.length c a' q.length c' h) (some (.bool false, h)) (some (.bool true, h)) (by omega) (fun i hi => ?_) ?_).trans ?_
  · obtain ⟨o, rfl, ho⟩ := hs.get hi
    obtain ⟨o', rfl, ho'⟩ := hs'.get (show i < q.length by omega)
    rw [L_spec_l1Within_0.e, br_pos (by omega), inB_nat (show i < q.length by omega)]
    simp only [eO_s, Int.toNat_natCast, ho, ho', eC_c, eI_int, eN_n, inB_nat hi, spec_l1Less, cal_s, eB_b, wr_succ (show i < 9223372036854775807 by omega)]
    cases less q[i].time q[i].place p[i].time p[i].place <;> simp
  · rw [L_spec_l1Within_0.e, br_neg (by omega)]
  · cases under p q <;> rfl
end
end Go.Proofs.YthdfojchihooeaaGreat
namespace Go.Proofs.YthdfojchihooeaaGreat
open Go T
set_option linter.unusedVariables false
set_option linter.unusedSimpArgs false
section
variable {lo : Nat} {ro ro' : Bool} {h : Heap} {F F' : List Nat} {a a' : Option (Nat × Nat)} {c c' : Option Nat}
theorem Sli.rows {α : Type} {El : Rel α} {R e : Nat} {l : List α} (hs : Sli false R e El h [.sl R a l.length c] l F) :
    ∃ rows Fs, (∀ {T : Type} (K : List (List V) → Option T), rowsOf R h (.sl R a l.length c) K = K rows) ∧ EAll El h rows l Fs ∧ ∀ b ∈ Fs.flatten, b ∈ F := by
  obtain ⟨R1, a1, c1, e1, g⟩ := hs
  injection e1 with e1 _; injection e1 with e0 e2 _ e3
  subst e2; subst e3
  cases a with
  | none =>
    obtain ⟨rfl, _, _⟩ := g
    exact ⟨[], [], fun K => rfl, trivial, by simp⟩
  | some p =>
    obtain ⟨b, i⟩ := p
    obtain ⟨_, rs, Fs, g1, g2, g3, g4, g5, rfl⟩ := g
    refine ⟨_, Fs, fun K => ?_, g5, fun b hb => List.mem_cons_of_mem _ hb⟩
    simp only [rowsOf, beq_of, need_t]
    cases hl : l.length with
    | zero => simp
    | succ n =>
      rw [hl] at g2
      simp only [ldRows, Heap.rows?, g1, Option.bind_some, ble_of g2, eO_s]
theorem RTags.rows {l : List Tag} (hs : RTags false h [.sl 2 a l.length c] l F) {T : Type} (K : List (List V) → Option T) : rowsOf 2 h (.sl 2 a l.length c) K = K (l.map Tag.cs) := by
  obtain ⟨rows, Fs, h1, h2, _⟩ := Sli.rows hs
  rw [h1, h2.of_flat.1]
/-- a slice without rows, that was just laid -/
theorem Sli.fresh {α : Type} {El : Rel α} {R e n : Nat} {rs : List (List V)} (hn : n ≤ rs.length) : Sli false R e El (h ++ [.rows R e false rs]) [.sl R (some (h.length, 0)) 0 (some n)] [] [h.length] :=
  ⟨R, some (h.length, 0), some n, rfl, rfl, rs, [], by simp, by simp, fun k hk => by injection hk with hk; subst hk; simpa using hn, fun h => (by cases h), by simp [EAll], by simp⟩
theorem flat_nil {l : List Tag} : (l.map fun _ => ([] : List Nat)).flatten = [] := by induction l <;> simp_all
theorem copy_tags {l : List Tag} (hl : lo ≤ h.length) (hn : l.length ≤ 1048576) : ∃ a' c' h' F', (∀ {T : Type} (K : V → Heap → Option T), app lo 60 2 16 (.sl 2 (some (h.length, 0)) 0 (some 0)) (l.map Tag.cs) (h ++ [.rows 2 60 false []]) K = K (.sl 2 a' l.length c') h') ∧
    RTags false h' [.sl 2 a' l.length c'] l F' ∧ Mv h [] h' F' := by
  have h0 : RTags false (h ++ [.rows 2 (eTag false) false []]) [.sl 2 (some (h.length, 0)) 0 (some 0)] [] [h.length] := Sli.fresh (Nat.le_refl _)
  by_cases he : l = []
  · subst he
    exact ⟨some (h.length, 0), some 0, _, _, fun K => rfl, h0, Mv.last⟩
  · obtain ⟨a', c', h', F', p1, p2, p3, p4, p5, p6⟩ := Sli.push (lo := lo) (bytes := 16) flat_fr h0 (xs := l.map Tag.cs) (ys := l) (Gs := l.map fun _ => []) EAll.flat (by decide) (by simp; omega) (by simp; omega) (by simp; omega) (by rw [flat_nil]; simp) (by rw [flat_nil]; simp) he
    simp only [List.length_nil, Nat.zero_add, List.nil_append] at p1 p2
    refine ⟨a', c', h', F', p1, p2, by simp at p3; omega, fun b hb _ => ?_, p6, fun b hb => ?_⟩
    · rw [p4 b (by simp; omega) (by simp; omega), List.getElem?_append_left hb]
    · simp at p3
      rcases p5 b hb with h1 | h1
      · rw [flat_nil] at h1; simp at h1; exact .inr (by omega)
      · simp at h1; exact .inr (by omega)
theorem spec_l2Copy {v : Ver} (hs : RTags false h [.sl 2 a v.past.length c] v.past F) (hl : lo ≤ h.length) (hn : v.past.length ≤ 1048576) :
    ∃ a' c' h' F', evl lo 181 [.agg (v.cs a c)] h = some (.agg (v.cs a' c'), h') ∧ RTags false h' [.sl 2 a' v.past.length c'] v.past F' ∧ Mv h [] h' F' := by
  obtain ⟨a', c', h', F', e, r⟩ := copy_tags (l := v.past) hl hn
  refine ⟨a', c', h', F', E_spec_l2Copy ?_, r⟩
  rw [RTags.rows (Mv.snoc.keep0 rtags_ok hs), e, eS_sl]
theorem impl_Clone {l : List Tag} (hs : RTags false h [.sl 2 a l.length c] l F) (hl : lo ≤ h.length) (hn : l.length ≤ 1048576) :
    ∃ v h' F', evl lo 295 [.sl 2 a l.length c] h = some (v, h') ∧ RTags false h' [v] l F' ∧ Mv h [] h' F' := by
  cases a with
  | none =>
    obtain ⟨R1, a1, c1, e1, g⟩ := hs
    injection e1 with e1 _; injection e1 with e0 e2 _ e3
    subst e2; subst e3
    obtain ⟨rfl, _, _⟩ := g
    exact ⟨_, h, [], E_slices_Clone_impl_Tag_impl_Tag (by rw [show (none : Option (Nat × Nat)).isNone = true from rfl, br_t]), Sli.nil, Mv.nil⟩
  | some p =>
    obtain ⟨a', c', h', F', e, r⟩ := copy_tags (l := l) hl hn
    refine ⟨_, h', F', E_slices_Clone_impl_Tag_impl_Tag ?_, r⟩
    rw [show (some p).isNone = false from rfl, br_f, RTags.rows (Mv.snoc.keep0 rtags_ok hs), e, eS_sl]
theorem impl_Past_copied {l : List Tag} (hs : RTags false h [.sl 2 a l.length c] l F) (hl : lo ≤ h.length) (hn : l.length ≤ 1048576) :
    ∃ a' c' h' F', evl lo 202 [.agg [.sl 2 a l.length c]] h = some (.agg [.sl 2 a' l.length c'], h') ∧ RTags false h' [.sl 2 a' l.length c'] l F' ∧ Mv h [] h' F' := by
  obtain ⟨v, h', F', e, r, m⟩ := impl_Clone hs hl hn
  obtain ⟨a', c', es, r2⟩ := r.form
  refine ⟨a', _, h', F', E_impl_Past_copied ?_, r2.clip, m⟩
  rw [e]; simp only [cal_s, es]
  rw [E_slices_Clip_impl_Tag_impl_Tag (r := (.sl 2 a' l.length (some l.length), h')) (by rw [reslice_clip r2])]
  simp only [cal_s, eS_sl]
theorem impl_Ver_copied {v : Ver} (hs : RTags false h [.sl 2 a v.past.length c] v.past F) (hl : lo ≤ h.length) (hn : v.past.length ≤ 1048576) :
    ∃ a' c' h' F', evl lo 186 [.agg (v.cs a c)] h = some (.agg (v.cs a' c'), h') ∧ RTags false h' [.sl 2 a' v.past.length c'] v.past F' ∧ Mv h [] h' F' := by
  obtain ⟨a', c', h', F', e, r⟩ := impl_Past_copied hs hl hn
  refine ⟨a', c', h', F', E_impl_Ver_copied ?_, r⟩
  rw [e]; simp only [cal_s, eA_a, eC_c, eS_sl, eN_n]
/-- a list of versions, copied one by one -/
theorem copy_loop {l : List Ver} {e0 : Option (Nat × Nat)} {h0 : Heap} {n0 : Option Nat} {F0 : List Nat} {T : Type} (L : Nat → Option (Nat × Nat) → Nat → Option Nat → Heap → Option T) (hs : RVers false h [.sl 6 a l.length c] l F) (hl : lo ≤ h.length) (hn : smVers l)
    (m0 : Mv h [] h0 F0) (h1 : RVers false h0 [.sl 6 e0 0 n0] [] F0)
    (step : ∀ i (hi : i < l.length) s a2 c2 a1 n1 c1 hh, (i = 0 → a1 = e0 ∧ c1 = n0) → (∀ o, a = some o → ld hh o.1 (o.2 + i) 0 6 = some [.int .i64 l[i].key, .int .i64 l[i].tag.time, .int .i64 l[i].tag.place, s, .str l[i].text, .bool l[i].gone]) → (∃ o, a = some o) →
      (∀ {R' : Type} (K : Option (Nat × Nat) → Nat → Option Nat → Option R'), eS 2 s K = K a2 l[i].past.length c2) → (∃ G, RTags false hh [.sl 2 a2 l[i].past.length c2] l[i].past G) → lo ≤ hh.length →
      ∃ a3 c3 h3 F3, RTags false h3 [.sl 2 a3 l[i].past.length c3] l[i].past F3 ∧ Mv hh [] h3 F3 ∧
        L i a1 n1 c1 hh = app lo 65 6 72 (.sl 6 a1 n1 c1) [l[i].cs a3 c3] (h3 ++ [.rows 6 65 false [l[i].cs a3 c3]]) fun v h => eS 6 v fun a n c => L (i + 1) a n c h) :
    ∃ a' c' h' F', L 0 e0 0 n0 h0 = L l.length a' l.length c' h' ∧ RVers false h' [.sl 6 a' l.length c'] l F' ∧ Mv h [] h' F' := by
  have hn1 := hn.1
  obtain ⟨a', c', h', F', e, r, m⟩ := build_loop (El := RVer false) rver_ok (h0 := h0) (l := l) (g := fun _ v => some (id v)) (lo := lo) (R := 6) (e := eVer false) (bytes := 72) (b0 := []) (F0 := F0) (a0 := e0) (c0 := n0)
    (Nat.le_trans hl m0.le) (m0.ge hl (by simp)) m0.nd (by decide) (by simp; omega) L (fun i hi a1 c1 hh F1 acc hz hacc hm hr => by
      have hm' : Mv h [] hh [] := (m0.trans hm).drop
      obtain ⟨o, s, a2, c2, G, ho, hld, es, hp, _⟩ := (hm'.keep0 rvers_ok hs).get hi
      obtain ⟨a3, c3, h3, F3, r3, m3, e3⟩ := step i hi s a2 c2 a1 acc.length c1 hh hz (fun o' ho' => by rw [ho] at ho'; injection ho' with ho'; subst ho'; exact hld) ⟨o, ho⟩ es ⟨G, hp⟩ (Nat.le_trans hl hm'.le)
      exact .inr ⟨l[i], l[i].cs a3 c3, F3, _, rfl, ⟨_, rfl, Mv.snoc.keep0 rtags_ok r3⟩, m3.trans (Mv.snoc' m3.nd), e3⟩) h1
  rw [grow_map, List.map_id, List.nil_append] at e r
  exact ⟨a', c', h', F', e, r, m0.trans m⟩
theorem impl_versCopied {l : List Ver} (hs : RVers false h [.sl 6 a l.length c] l F) (hl : lo ≤ h.length) (hn : smVers l) :
    ∃ a' c' h' F', evl lo 293 [.sl 6 a l.length c] h = some (.sl 6 a' l.length c', h') ∧ RVers false h' [.sl 6 a' l.length c'] l F' ∧ Mv h [] h' F' := by
  have hn1 := hn.1
  obtain ⟨a', c', h', F', e, r, m⟩ := copy_loop (e0 := some (h.length, 0)) (n0 := some l.length) (h0 := h ++ [.rows 6 (eVer false) false (List.replicate l.length [.int .i64 0, .int .i64 0, .int .i64 0, .sl 0 none 0 (some 0), .str ⟨⟨[]⟩⟩, .bool false])])
    (fun i a1 n1 c1 hh => L_impl_versCopied_0 lo a1 n1 c1 a l.length c (l.length : Nat) (i : Nat) hh) hs hl hn Mv.last (Sli.fresh (by simp)) (fun i hi s a2 c2 a1 n1 c1 hh hz hld ho es hp hlo => by
      obtain ⟨o, rfl⟩ := ho
      obtain ⟨G, hp⟩ := hp
      obtain ⟨a3, c3, h3, F3, e3, r3, m3⟩ := impl_Ver_copied (lo := lo) (v := l[i]) hp hlo (hn.2 _ (List.getElem_mem hi)).1
      refine ⟨a3, c3, h3, F3, r3, m3, ?_⟩
      rw [L_impl_versCopied_0.e, br_pos (by omega), inB_nat hi]
      simp only [eO_s, Int.toNat_natCast, hld o rfl, eC_c, eI_int, es, eT_s, eBv_b, eN_n]
      rw [e3]
      simp only [cal_s, eA_a, eC_c, eI_int, eS_sl, eT_s, eBv_b, eN_n, rows_one, wr_succ (show i < 9223372036854775807 by omega)])
  refine ⟨a', c', h', F', E_impl_versCopied ?_, r, m⟩
  rw [need_of (by omega)]
  refine e.trans ?_
  rw [L_impl_versCopied_0.e, br_neg (by omega)]
theorem impl_Store_copied {l : List Ver} (hs : RVers false h [.sl 6 a l.length c] l F) (hl : lo ≤ h.length) (hn : smVers l) :
    ∃ a' c' h' F', evl lo 238 [.agg [.sl 6 a l.length c]] h = some (.agg [.sl 6 a' l.length c'], h') ∧ RVers false h' [.sl 6 a' l.length c'] l F' ∧ Mv h [] h' F' := by
  obtain ⟨a', c', h', F', e, r⟩ := impl_versCopied hs hl hn
  refine ⟨a', c', h', F', E_impl_Store_copied ?_, r⟩
  rw [e]; simp only [cal_s, eS_sl]
theorem spec_l2CopyStore {l : List Ver} (hs : RVers false h [.sl 6 a l.length c] l F) (hl : lo ≤ h.length) (hn : smVers l) :
    ∃ v h' F', evl lo 231 [.agg [.sl 6 a l.length c]] h = some (.agg [v], h') ∧ RVers false h' [v] l F' ∧ Mv h [] h' F' := by
  have hn1 := hn.1
  by_cases he : l = []
  · subst he
    exact ⟨_, h, [], E_spec_l2CopyStore (by rw [L_spec_l2CopyStore_0.e, br_neg (by simp)]), Sli.nil, Mv.nil⟩
  have hpos : 0 < l.length := List.length_pos_iff.2 he
  obtain ⟨a', c', h', F', e, r, m⟩ := copy_loop (e0 := none) (n0 := some 0) (h0 := h)
    (fun i a1 n1 c1 hh => L_spec_l2CopyStore_0 lo (i : Nat) a l.length c 0 none 0 (some 0) (if i = 0 then 0 else 6) a1 n1 c1 hh) hs hl hn Mv.nil Sli.nil (fun i hi s a2 c2 a1 n1 c1 hh hz hld ho es hp hlo => by
      obtain ⟨o, rfl⟩ := ho
      obtain ⟨G, hp⟩ := hp
      obtain ⟨a3, c3, h3, F3, e3, r3, m3⟩ := spec_l2Copy (lo := lo) (v := l[i]) hp hlo (hn.2 _ (List.getElem_mem hi)).1
      refine ⟨a3, c3, h3, F3, r3, m3, ?_⟩
      rw [L_spec_l2CopyStore_0.e, br_pos (by omega), inB_nat hi]
      simp only [eO_s, Int.toNat_natCast, hld o rfl, eC_c, eI_int, es, eT_s, eBv_b, eN_n]
      rw [e3]
      simp only [cal_s, eA_a, eC_c, eI_int, eS_sl, eT_s, eBv_b, eN_n, rows_one, wr_succ (show i < 9223372036854775807 by omega), if_neg (Nat.succ_ne_zero i)]
      by_cases h0 : i = 0
      · obtain ⟨rfl, rfl⟩ := hz h0
        rw [app_q]
      · rw [if_neg h0])
  refine ⟨_, h', F', E_spec_l2CopyStore ?_, r, m⟩
  refine e.trans ?_
  rw [if_neg (by omega), L_spec_l2CopyStore_0.e, br_neg (by omega)]
end
end Go.Proofs.YthdfojchihooeaaGreat
namespace Go.Proofs.YthdfojchihooeaaGreat
open Go T
set_option linter.unusedVariables false
set_option linter.unusedSimpArgs false
def sameVer (v u : Ver) : Bool := v.key == u.key && (v.tag.time == u.tag.time && v.tag.place == u.tag.place) && decide (v.past = u.past) && (v.text.toList == u.text.toList) && (v.gone == u.gone)
def zeroVer (v : Ver) : Bool := v.key == 0 && (v.tag.time == 0 && v.tag.place == 0) && decide (v.past.length = 0) && noText v.text && !v.gone
def verAt (i : Nat) (v : Ver) : Bool := zeroVer v || (verOk v && v.key == i)
def storeOk (l : List Ver) : Bool := (l.zipIdx.all fun x => verAt x.2 x.1) && decide (l.length = 4)
theorem storeOk_len {l : List Ver} (h : storeOk l = true) : l.length = 4 := by
  simp only [storeOk, Bool.and_eq_true, decide_eq_true_eq] at h; exact h.2
theorem storeOk_get {l : List Ver} (h : storeOk l = true) {i : Nat} (hi : i < l.length) : verAt i l[i] = true := by
  simp only [storeOk, Bool.and_eq_true, List.all_eq_true] at h
  have := h.1 (l[i], i) (by rw [List.mem_zipIdx_iff_getElem?]; simp [hi])
  exact this
theorem verOk_time {v : Ver} (h : verOk v = true) : 0 < v.tag.time := by
  simp only [verOk, Bool.and_eq_true, decide_eq_true_eq] at h
  exact (latest_lt.1 h.2).1

section
variable {lo : Nat} {ro ro' : Bool} {h : Heap} {F F' : List Nat} {a a' : Option (Nat × Nat)} {c c' : Option Nat}
theorem all_idx {α T : Type} {p : Nat → α → Bool} {l : List α} (L : Nat → Option T) (no yes : Option T)
    (step : ∀ i (hi : i < l.length), L i = if p i l[i] = true then L (i + 1) else no) (done : L l.length = yes) : L 0 = if (l.zipIdx.all fun x => p x.2 x.1) = true then yes else no := by
  have hz : l.zipIdx.length = l.length := by simp
  refine all_loop (l := l.zipIdx) (p := fun x => p x.2 x.1) L no yes (fun i hi => ?_) (by rw [hz]; exact done)
  rw [step i (by omega)]
  simp only [List.getElem_zipIdx, Nat.zero_add]
theorem impl_Equal {p q : List Tag} (hs : RTags ro h [.sl 2 a p.length c] p F) (hs' : RTags ro' h [.sl 2 a' q.length c'] q F') (hn : p.length ≤ 1048576) :
    evl lo 317 [.sl 2 a p.length c, .sl 2 a' q.length c'] h = some (.bool (decide (p = q)), h) := by
  refine E_slices_Equal_impl_Tag_impl_Tag (h' := h) ?_
  by_cases hl : p.length = q.length
  · rw [show ((p.length : Int) == (q.length : Int)) = true by simp; omega, br_t]
    refine (all_loop (p := fun x : Tag × Tag => decide (x.1 = x.2)) (l := p.zip q) (fun i => L_slices_Equal_impl_Tag_impl_Tag_0 (List.length h) a p.length c a' q.length c' false (p.length : Nat) (i : Nat) h) (some (.bool false, h)) (some (.bool true, h)) (fun i hi => ?_) ?_).trans ?_
    · have hip : i < p.length := by simp at hi; omega
      have hiq : i < q.length := by omega
      obtain ⟨o, rfl, ho⟩ := hs.get hip
      obtain ⟨o', rfl, ho'⟩ := hs'.get hiq
      rw [L_slices_Equal_impl_Tag_impl_Tag_0.e, br_pos (by omega), inB_nat hip]
      simp only [eO_s, Int.toNat_natCast, ho, ho', eC_c, eI_int, eN_n, inB_nat hiq, List.getElem_zip, wr_succ (show i < 9223372036854775807 by omega), Bool.and_true]
      have e : (p[i].time == q[i].time && p[i].place == q[i].place) = decide (p[i] = q[i]) := by
        rw [Bool.eq_iff_iff]; cases hx : p[i]; cases hy : q[i]; simp
      rw [e]
      cases decide (p[i] = q[i]) <;> simp
    · have hz : (p.zip q).length = p.length := by simp; omega
      rw [hz, L_slices_Equal_impl_Tag_impl_Tag_0.e, br_neg (by omega)]
    · have e : ((p.zip q).all fun x => decide (x.1 = x.2)) = decide (p = q) := by
        rw [Bool.eq_iff_iff, List.all_eq_true, decide_eq_true_eq]
        constructor
        · intro hx
          apply List.ext_getElem hl
          intro i h1 h2
          have := hx (p[i], q[i]) (by rw [List.mem_iff_getElem]; exact ⟨i, by simp; omega, by simp⟩)
          simpa using this
        · rintro rfl x hx
          obtain ⟨i, hi, rfl⟩ := List.mem_iff_getElem.1 hx
          simp
      rw [e]
      cases decide (p = q) <;> simp
  · rw [show ((p.length : Int) == (q.length : Int)) = false by simp; omega, br_f, decide_eq_false (fun e => hl (by rw [e]))]
theorem impl_same {v u : Ver} (hs : RTags ro h [.sl 2 a v.past.length c] v.past F) (hs' : RTags ro' h [.sl 2 a' u.past.length c'] u.past F') (hn : v.past.length ≤ 1048576) :
    evl lo 233 [.agg (v.cs a c), .agg (u.cs a' c')] h = some (.bool (sameVer v u), h) := by
  refine E_impl_Ver_same (h' := h) ?_
  simp only [impl_Equal hs hs' hn, cal_s, eB_b, Bool.and_true]
  unfold sameVer
  cases (v.key == u.key) <;> cases (v.tag.time == u.tag.time && v.tag.place == u.tag.place) <;> cases (decide (v.past = u.past)) <;> cases (v.text.toList == u.text.toList) <;> cases (v.gone == u.gone) <;> rfl
theorem impl_same_z {v : Ver} (hs : RTags ro h [.sl 2 a v.past.length c] v.past F) (hn : v.past.length ≤ 1048576) :
    evl lo 233 [.agg (v.cs a c), .agg [.int .i64 0, .int .i64 0, .int .i64 0, .sl 0 none 0 (some 0), .str ⟨⟨[]⟩⟩, .bool false]] h = some (.bool (zeroVer v), h) := by
  refine E_impl_Ver_same_z (h' := h) ?_
  have e : evl (List.length h) 317 [.sl 2 a v.past.length c, .sl 0 none 0 (some 0)] h = some (.bool (decide (v.past.length = 0)), h) := by
    refine E_slices_Equal_impl_Tag_impl_Tag_z (h' := h) ?_
    by_cases h0 : v.past.length = 0
    · rw [h0, beqI, br_t, L_slices_Equal_impl_Tag_impl_Tag_z_0.e, br_neg (by simp)]; rfl
    · rw [show ((v.past.length : Int) == ((0 : Nat) : Int)) = false by rw [beq_eq_false_iff_ne]; omega, br_f, decide_eq_false h0]
  simp only [e, cal_s, eB_b, Bool.and_true, toList_nil]
  unfold zeroVer
  cases (v.key == 0) <;> cases (v.tag.time == 0 && v.tag.place == 0) <;> cases (decide (v.past.length = 0)) <;> cases noText v.text <;> cases v.gone <;> rfl
theorem impl_StoreOk {l : List Ver} (hs : RVers ro h [.sl 6 a l.length c] l F) (hn : smVers l) : evl lo 119 [.agg [.sl 6 a l.length c]] h = some (.bool (storeOk l), h) := by
  have hn1 := hn.1
  refine E_impl_StoreOk (h' := h) ?_
  refine (all_idx (p := verAt) (l := l) (fun i => L_impl_StoreOk_0 (List.length h) false a l.length c (l.length : Nat) (i : Nat) a l.length c h) (some (.bool false, h)) (some (.bool (decide (l.length = 4)), h)) (fun i hi => ?_) ?_).trans ?_
  · obtain ⟨o, s, b, d, G, rfl, ho, es, hp, _⟩ := hs.get hi
    have hm := hn.2 _ (List.getElem_mem hi)
    rw [L_impl_StoreOk_0.e, br_pos (by omega), inB_nat hi]
    simp only [eO_s, Int.toNat_natCast, ho, eC_c, eI_int, es, eT_s, eBv_b, eN_n]
    rw [impl_same_z hp hm.1]
    simp only [cal_s, eB_b, impl_VerOk hp hm, wr_succ (show i < 9223372036854775807 by omega)]
    unfold verAt
    cases zeroVer l[i] <;> cases verOk l[i] <;> cases (l[i].key == i) <;> simp
  · rw [L_impl_StoreOk_0.e, br_neg (by omega)]
    by_cases h3 : l.length = 4
    · rw [h3]; rfl
    · rw [show ((l.length : Int) == 4) = false by simp; omega, br_f, decide_eq_false h3]
  · unfold storeOk
    cases (l.zipIdx.all fun x => verAt x.2 x.1) <;> simp
theorem RVers.all {l : List Ver} {n : Nat} {i : Nat} (hs : RVers ro h [.sl 6 a n c] l F) (hi : i < l.length) : ∃ o s a' c' G, a = some o ∧ ld h o.1 (o.2 + i) 0 1 = some [.int .i64 l[i].key] ∧ ld h o.1 (o.2 + i) 1 1 = some [.int .i64 l[i].tag.time] ∧
    ld h o.1 (o.2 + i) 2 1 = some [.int .i64 l[i].tag.place] ∧ ld h o.1 (o.2 + i) 3 1 = some [s] ∧ ld h o.1 (o.2 + i) 4 1 = some [.str l[i].text] ∧ ld h o.1 (o.2 + i) 5 1 = some [.bool l[i].gone] ∧ ld h o.1 (o.2 + i) 1 2 = some [.int .i64 l[i].tag.time, .int .i64 l[i].tag.place] ∧
    ld h o.1 (o.2 + i) 0 6 = some [.int .i64 l[i].key, .int .i64 l[i].tag.time, .int .i64 l[i].tag.place, s, .str l[i].text, .bool l[i].gone] ∧
    (∀ {R' : Type} (K : Option (Nat × Nat) → Nat → Option Nat → Option R'), eS 2 s K = K a' l[i].past.length c') ∧ RTags ro h [.sl 2 a' l[i].past.length c'] l[i].past G ∧ (∀ b ∈ G, b ∈ F) := by
  obtain ⟨o, row, G, h1, h2, hv, hG, _⟩ := hs.read hi
  obtain ⟨s, a', c', rfl, es, hp⟩ := hv.form
  exact ⟨o, s, a', c', G, h1, by rw [h2]; rfl, by rw [h2]; rfl, by rw [h2]; rfl, by rw [h2]; rfl, by rw [h2]; rfl, by rw [h2]; rfl, by rw [h2]; rfl, by rw [h2]; rfl, es, hp, hG⟩
theorem spec_l2StoreOk {l : List Ver} (hs : RVers ro h [.sl 6 a l.length c] l F) (hn : smVers l) : evl lo 221 [.agg [.sl 6 a l.length c]] h = some (.bool (storeOk l), h) := by
  have hn1 := hn.1
  refine E_spec_l2StoreOk (h' := h) ?_
  refine (all_idx (p := verAt) (l := l) (fun i => L_spec_l2StoreOk_0 (List.length h) false (i : Nat) a l.length c h) (some (.bool false, h)) (some (.bool (decide (l.length = 4)), h)) (fun i hi => ?_) ?_).trans ?_
  · obtain ⟨o, s, b, d, G, rfl, ho0, _, _, ho3, ho4, ho5, ho12, ho, es, hp, _⟩ := hs.all hi
    have hm := hn.2 _ (List.getElem_mem hi)
    rw [L_spec_l2StoreOk_0.e, br_pos (by omega), inB_nat hi]
    simp only [eO_s, Int.toNat_natCast, ho0, ho3, ho4, ho5, ho12, ho, eC_c, eI_int, es, eT_s, eBv_b, eN_n, inB_nat hi, Bool.and_true, toList_nil, spec_l2Ok hp hm, cal_s, eB_b, wr_succ (show i < 9223372036854775807 by omega)]
    have hpl : ∀ {T : Type} (x y : Option T), br (decide ((l[i].past.length : Int) > 0)) x y = br (!decide (l[i].past.length = 0)) x y := by
      intro T x y
      by_cases h0 : l[i].past.length = 0
      · rw [br_neg (by omega), decide_eq_true h0]; rfl
      · rw [br_pos (by omega), decide_eq_false h0]; rfl
    simp only [hpl]
    unfold verAt zeroVer
    cases hz : (l[i].tag.time == 0 && l[i].tag.place == 0) with
    | true =>
      have : verOk l[i] = false := by
        cases hv : verOk l[i] with
        | false => rfl
        | true => have := verOk_time hv; simp at hz; omega
      rw [this]
      cases (l[i].key == 0) <;> cases noText l[i].text <;> cases l[i].gone <;> cases (decide (l[i].past.length = 0)) <;> rfl
    | false =>
      cases (l[i].key == 0) <;> cases noText l[i].text <;> cases l[i].gone <;> cases (decide (l[i].past.length = 0)) <;> cases verOk l[i] <;> cases (l[i].key == i) <;> rfl
  · rw [L_spec_l2StoreOk_0.e, br_neg (by omega)]
    by_cases h3 : l.length = 4
    · rw [h3]; rfl
    · rw [show ((l.length : Int) == 4) = false by simp; omega, br_f, decide_eq_false h3]
  · unfold storeOk
    cases (l.zipIdx.all fun x => verAt x.2 x.1) <;> simp
end
end Go.Proofs.YthdfojchihooeaaGreat
namespace Go.Proofs.YthdfojchihooeaaGreat
open Go T
set_option linter.unusedVariables false
set_option linter.unusedSimpArgs false
def hasTag (l : List Ver) (t : Tag) : Bool := l.any fun v => v.tag.time == t.time && v.tag.place == t.place
section
variable {lo : Nat} {ro ro' : Bool} {h : Heap} {F F' : List Nat} {a a' : Option (Nat × Nat)} {c c' : Option Nat}
theorem IndexFunc_Ver {l : List Ver} {g : Nat} {cl : List V} {p : Ver → Bool} (hs : RVers ro h [.sl 6 a l.length c] l F) (hn : l.length ≤ 1048576)
    (hp : ∀ lo v a c G, v ∈ l → RTags ro h [.sl 2 a v.past.length c] v.past G → evl lo g (fnArgs [.agg (v.cs a c)] cl) h = some (.bool (p v), h)) :
    evl lo 234 [.sl 6 a l.length c, .fn g cl] h = some (.int .i64 (firstAt p l 0), h) := by
  have loop : ∀ m k x, m + k = l.length → L_slices_IndexFunc_impl_Ver_impl_Ver_0 (List.length h) a l.length c g cl x (l.length : Nat) (k : Nat) h = some (.int .i64 (firstAt p (l.drop k) k), h) := by
    intro m
    induction m with
    | zero =>
      intro k x hk
      rw [L_slices_IndexFunc_impl_Ver_impl_Ver_0.e, br_neg (by omega), show k = l.length by omega]
      simp [firstAt]
    | succ m ih =>
      intro k x hk
      have hlt : k < l.length := by omega
      obtain ⟨o, s, b, d, G, rfl, ho, es, hv, _⟩ := hs.get hlt
      rw [L_slices_IndexFunc_impl_Ver_impl_Ver_0.e, br_pos (by omega), inB_nat (by omega)]
      simp only [eO_s, Int.toNat_natCast, ho, eC_c, eI_int, es, eT_s, eBv_b, eN_n]
      rw [hp (List.length h) l[k] b d G (List.getElem_mem hlt) hv, cal_s, eB_b, List.drop_eq_getElem_cons hlt]
      simp only [firstAt]
      cases p l[k]
      · simp only [br_f, cond_false]; rw [wr_succ (by omega)]; exact ih (k + 1) _ (by omega)
      · simp
  refine E_slices_IndexFunc_impl_Ver_impl_Ver (h' := h) ?_
  exact loop l.length 0 0 (by omega)
theorem ContainsFunc_Ver {l : List Ver} {g : Nat} {cl : List V} {p : Ver → Bool} (hs : RVers ro h [.sl 6 a l.length c] l F) (hn : l.length ≤ 1048576)
    (hp : ∀ lo v a c G, v ∈ l → RTags ro h [.sl 2 a v.past.length c] v.past G → evl lo g (fnArgs [.agg (v.cs a c)] cl) h = some (.bool (p v), h)) :
    evl lo 120 [.sl 6 a l.length c, .fn g cl] h = some (.bool (l.any p), h) :=
  E_slices_ContainsFunc_impl_Ver_impl_Ver (h' := h) (by rw [IndexFunc_Ver hs hn hp]; simp only [cal_s, eI_int, br_bool]; rw [firstAt_pos]; simp)
theorem impl_hasTag {l : List Ver} {t p : Int} (hs : RVers ro h [.sl 6 a l.length c] l F) (hn : l.length ≤ 1048576) :
    evl lo 247 [.sl 6 a l.length c, .agg [.int .i64 t, .int .i64 p]] h = some (.bool (hasTag l ⟨t, p⟩), h) := by
  refine E_impl_hasTag (h' := h ++ [.rows 2 60 false [[.int .i64 t, .int .i64 p]]]) ?_
  rw [ContainsFunc_Ver (p := fun v => v.tag.time == t && v.tag.place == p) (Mv.snoc.keep0 rvers_ok hs) hn (fun lo v a c G _ _ => by
    refine E_impl_hasTag_1 (h' := h ++ [.rows 2 60 false [[.int .i64 t, .int .i64 p]]]) ?_
    have : ld (h ++ [.rows 2 60 false [[.int .i64 t, .int .i64 p]]]) h.length 0 0 2 = some [.int .i64 t, .int .i64 p] := by rw [ld_last (row := [.int .i64 t, .int .i64 p]) (by rfl)]; rfl
    simp only [this, eO_s, eC_c, eI_int, eN_n, Bool.and_true]
    cases (v.tag.time == t && v.tag.place == p) <;> rfl)]
  simp only [cal_s, eB_b]
  unfold hasTag
  cases (l.any fun v => v.tag.time == t && v.tag.place == p) <;> rfl
theorem Sli.pre {α : Type} {El : Rel α} {R R' e n i : Nat} {l : List α} (hs : Sli false R e El h [.sl R' a n c] l F) (hi : i ≤ l.length) : ∃ F', Sli false R e El h [.sl R' a i c] (l.take i) F' := by
  have hn := hs.val
  subst hn
  obtain ⟨R1, a1, c1, e1, g⟩ := hs
  injection e1 with e1 _; injection e1 with e0 e2 _ e3
  subst e0; subst e2; subst e3
  have hl : (l.take i).length = i := by simp; omega
  cases a with
  | none =>
    obtain ⟨rfl, h2, _⟩ := g
    exact ⟨[], R', none, c, by rw [hl], by simp, h2, rfl⟩
  | some p =>
    obtain ⟨b, j⟩ := p
    obtain ⟨hR, rs, Fs, g1, g2, g3, g4, g5, rfl⟩ := g
    refine ⟨b :: (Fs.take i).flatten, R', some (b, j), c, by rw [hl], hR, rs, Fs.take i, g1, by rw [hl]; omega, fun k hk => ?_, g4, ?_, rfl⟩
    · have := g3 k hk
      rw [hl]; omega
    · rw [hl]
      have := g5.take i
      rw [List.take_take, Nat.min_eq_left hi] at this
      exact this
theorem reslice_pre {α : Type} {El : Rel α} {R R' e n i : Nat} {l : List α} (hs : Sli false R e El h [.sl R' a n c] l F) (hi : i ≤ l.length) {T : Type} {K : Option (Nat × Nat) → Nat → Option Nat → Option T} :
    reslice a n c none (some (.int .i64 (i : Nat))) none K = K a i c := by
  have hn := hs.val
  subst hn
  obtain ⟨R1, a', c', h1, h2⟩ := hs
  injection h1 with h1 _
  injection h1 with e0 e1 e2 e3
  subst e0; subst e1; subst e3
  have hc : ∀ k, c = some k → l.length ≤ k := fun k hk => by
    cases a with
    | none => obtain ⟨rfl, _⟩ := h2; simp
    | some p => obtain ⟨b, i⟩ := p; obtain ⟨_, _, _, _, _, g3, _⟩ := h2; exact (g3 k hk).1
  unfold reslice slMax slHi slLo
  cases c with
  | none => simp only [eI_int, Int.toNat_natCast]; rw [inS_in ⟨by omega, by omega⟩]
  | some k => have := hc k rfl; simp only [eI_int, Int.toNat_natCast]; rw [inS_in ⟨by omega, by omega⟩]
def logAt (place : Int) (l : List Ver) (i : Nat) (v : Ver) : Bool := verOk v && (v.tag.place == place) && !hasTag (l.take i) v.tag
def logOk (place : Int) (l : List Ver) : Bool := (l.zipIdx.all fun x => logAt place l x.2 x.1) && decide ((l.length : Int) ≤ 60)
theorem impl_logOk {l : List Ver} {m : Int} (hs : RVers false h [.sl 6 a l.length c] l F) (hn : smVers l) : evl lo 141 [.sl 6 a l.length c, .int .i64 m] h = some (.bool (logOk m l), h) := by
  have hn1 := hn.1
  refine E_impl_logOk (h' := h) ?_
  refine (all_idx (p := logAt m l) (l := l) (fun i => L_impl_logOk_0 (List.length h) a l.length c m false a l.length c (l.length : Nat) (i : Nat) h) (some (.bool false, h)) (some (.bool (decide ((l.length : Int) ≤ 60)), h)) (fun i hi => ?_) ?_).trans ?_
  · obtain ⟨F2, hpre⟩ := Sli.pre hs (show i ≤ l.length by omega)
    have hres := fun {T : Type} (K : Option (Nat × Nat) → Nat → Option Nat → Option T) => reslice_pre hs (show i ≤ l.length by omega) (K := K)
    obtain ⟨o, s, b, d, G, ha, ho, es, hp, _⟩ := hs.get hi
    have hm := hn.2 _ (List.getElem_mem hi)
    have hil : (l.take i).length = i := by simp; omega
    have hpre' : RVers false h [.sl 6 a (l.take i).length c] (l.take i) F2 := by rw [hil]; exact hpre
    have hht := fun lo => impl_hasTag (lo := lo) (t := l[i].tag.time) (p := l[i].tag.place) hpre' (by omega)
    rw [hil] at hht
    rw [L_impl_logOk_0.e, br_pos (by omega), inB_nat hi]
    simp only [ha, eO_s, Int.toNat_natCast, ho, eC_c, eI_int, es, eT_s, eBv_b, eN_n]
    rw [impl_VerOk hp hm]
    simp only [← ha, cal_s, eB_b, hres, hht, wr_succ (show i < 9223372036854775807 by omega)]
    unfold logAt
    cases verOk l[i] <;> cases (l[i].tag.place == m) <;> cases hasTag (l.take i) l[i].tag <;> simp
  · rw [L_impl_logOk_0.e, br_neg (by omega)]
    by_cases h3 : (l.length : Int) ≤ 60
    · rw [br_pos h3, decide_eq_true h3]
    · rw [br_neg h3, decide_eq_false h3]
  · unfold logOk
    cases (l.zipIdx.all fun x => logAt m l x.2 x.1) <;> simp
theorem spec_l4Log {l : List Ver} {m : Int} (hs : RVers ro h [.sl 6 a l.length c] l F) (hn : smVers l) : evl lo 249 [.sl 6 a l.length c, .int .i64 m] h = some (.bool (logOk m l), h) := by
  have hn1 := hn.1
  refine E_spec_l4Log (h' := h) ?_
  have inner : ∀ i (hi : i < l.length), L_spec_l4Log_2 (List.length h) a l.length c m false (i : Nat) 0 h = if hasTag (l.take i) l[i].tag = true then some (.bool false, h) else L_spec_l4Log_0 (List.length h) a l.length c m false ((i + 1 : Nat) : Int) h := by
    intro i hi
    obtain ⟨o, s, b, d, G, ha, _, _, _, _, _, _, ho12, _⟩ := hs.all hi
    have hil : (l.take i).length = i := by simp; omega
    refine (all_loop (p := fun v : Ver => !(v.tag.time == l[i].tag.time && v.tag.place == l[i].tag.place)) (l := l.take i) (fun k => L_spec_l4Log_2 (List.length h) a l.length c m false (i : Nat) (k : Nat) h) (some (.bool false, h)) (L_spec_l4Log_0 (List.length h) a l.length c m false ((i + 1 : Nat) : Int) h) (fun k hk => ?_) ?_).trans ?_
    · have hkl : k < l.length := by omega
      obtain ⟨o', s', b', d', G', ha', _, _, _, _, _, _, ho12', _⟩ := hs.all hkl
      have hoo : o' = o := by rw [ha] at ha'; injection ha' with ha'; exact ha'.symm
      subst hoo
      rw [L_spec_l4Log_2.e, br_pos (by omega), inB_nat hkl]
      simp only [ha, eO_s, Int.toNat_natCast, ho12, ho12', eC_c, eI_int, eN_n, inB_nat hi, Bool.and_true, List.getElem_take, wr_succ (show k < 9223372036854775807 by omega)]
      cases (l[k].tag.time == l[i].tag.time && l[k].tag.place == l[i].tag.place) <;> simp
    · rw [hil, L_spec_l4Log_2.e, br_neg (by omega), wr_succ (by omega)]
    · unfold hasTag
      rw [List.any_eq_not_all_not]
      cases ((l.take i).all fun v : Ver => !(v.tag.time == l[i].tag.time && v.tag.place == l[i].tag.place)) <;> simp
  refine (all_idx (p := logAt m l) (l := l) (fun i => L_spec_l4Log_0 (List.length h) a l.length c m false (i : Nat) h) (some (.bool false, h)) (some (.bool (decide ((l.length : Int) ≤ 60)), h)) (fun i hi => ?_) ?_).trans ?_
  · have hin := inner i hi
    obtain ⟨o, s, b, d, G, ha, _, _, ho2, _, _, _, _, ho, es, hp, _⟩ := hs.all hi
    have hm := hn.2 _ (List.getElem_mem hi)
    rw [L_spec_l4Log_0.e, br_pos (by omega), inB_nat hi]
    simp only [ha, eO_s, Int.toNat_natCast, ho, eC_c, eI_int, es, eT_s, eBv_b, eN_n]
    rw [spec_l2Ok hp hm]
    simp only [cal_s, eB_b, inB_nat hi, ho2, eO_s, eC_c, eN_n, eI_int]
    rw [← ha, hin]
    unfold logAt
    cases verOk l[i] <;> cases (l[i].tag.place == m) <;> cases hasTag (l.take i) l[i].tag <;> simp
  · rw [L_spec_l4Log_0.e, br_neg (by omega)]
    by_cases h3 : (l.length : Int) ≤ 60
    · rw [br_pos h3, decide_eq_true h3]
    · rw [br_neg h3, decide_eq_false h3]
  · unfold logOk
    cases (l.zipIdx.all fun x => logAt m l x.2 x.1) <;> simp
end
end Go.Proofs.YthdfojchihooeaaGreat
namespace Go.Proofs.YthdfojchihooeaaGreat
open Go T
set_option linter.unusedVariables false
set_option linter.unusedSimpArgs false
def tagsOf (l : List Ver) : List Tag := l.map fun v => v.tag
section
variable {lo : Nat} {ro ro' : Bool} {h : Heap} {F F' : List Nat} {a a' : Option (Nat × Nat)} {c c' : Option Nat}
theorem spec_l2Tags {l : List Ver} (hs : RVers ro h [.sl 6 a l.length c] l F) (hl : lo ≤ h.length) (hn : l.length ≤ 1048576) :
    ∃ v h' F', evl lo 211 [.agg [.sl 6 a l.length c]] h = some (.agg [v], h') ∧ RTags false h' [v] (tagsOf l) F' ∧ Mv h [] h' F' := by
  obtain ⟨q, a', c', h', F', e, r, m⟩ := map_loop_q (El := flat Tag.cs) flat_ok (h := h) (l := l) (f := fun v => v.tag) (lo := lo) (R := 2) (e := 60) (bytes := 16) hl (by decide) (by omega)
    (fun i q a1 n1 c1 hh => L_spec_l2Tags_0 lo (i : Nat) a l.length c 0 none 0 (some 0) q a1 n1 c1 hh) (fun i hi q a1 n1 c1 hh hm => by
      obtain ⟨o, s, b, d, G, ha, _, _, _, _, _, _, ho12, _⟩ := (hm.keep0 rvers_ok hs).all hi
      refine ⟨[.int .i64 l[i].tag.time, .int .i64 l[i].tag.place], [], hh ++ [.rows 2 60 false [[.int .i64 l[i].tag.time, .int .i64 l[i].tag.place]]], ⟨rfl, rfl⟩, Mv.snoc, ?_⟩
      rw [L_spec_l2Tags_0.e, br_pos (by omega), inB_nat hi]
      simp only [ha, eO_s, Int.toNat_natCast, ho12, eC_c, eI_int, eN_n, rows_one, wr_succ (show i < 9223372036854775807 by omega)])
  refine ⟨_, h', F', E_spec_l2Tags ?_, r, m⟩
  refine e.trans ?_
  rw [L_spec_l2Tags_0.e, br_neg (by omega)]
theorem impl_tags {l : List Ver} (hs : RVers ro h [.sl 6 a l.length c] l F) (hl : lo ≤ h.length) (h4 : l.length = 4) :
    ∃ v h' F', evl lo 128 [.agg [.sl 6 a l.length c]] h = some (.agg [v], h') ∧ RTags false h' [v] (tagsOf l) F' ∧ Mv h [] h' F' := by
  obtain ⟨h', F', e, r, m⟩ := fill_loop (El := flat Tag.cs) flat_ok (h0 := h) (l := l) (f := fun v => v.tag) (lo := lo) (R := 2) (e := 60) (z := [.int .i64 0, .int .i64 0]) rfl hl
    (fun i hh => L_impl_Store_tags_0 lo a l.length c (l.length : Nat) (i : Nat) 0 none 0 (some 0) (some (h.length, 0)) 4 (some 4) hh) (fun i hi hh hm => by
      obtain ⟨o, s, b, d, G, rfl, ho, es, _, _⟩ := (hm.keep0 rvers_ok hs).get hi
      refine ⟨[.int .i64 l[i].tag.time, .int .i64 l[i].tag.place], [], hh, ⟨rfl, rfl⟩, Mv.nil, rfl, ?_⟩
      rw [L_impl_Store_tags_0.e, br_pos (by omega), inB_nat hi]
      simp only [eO_s, Int.toNat_natCast, ho, eC_c, eI_int, es, eT_s, eBv_b, eN_n, inB_nat (show i < 4 by omega), Nat.zero_add, wr_succ (show i < 9223372036854775807 by omega)])
  rw [h4] at r
  refine ⟨_, h', F', E_impl_Store_tags ?_, r, m⟩
  rw [E_impl_PastNone (r := (.agg [.sl 2 (some (h.length, 0)) 4 (some 4)], h ++ [.rows 2 60 false (List.replicate l.length [.int .i64 0, .int .i64 0])])) (by rw [h4]; rfl)]
  simp only [cal_s, eA_a, eC_c, eS_sl, eN_n]
  refine e.trans ?_
  rw [L_impl_Store_tags_0.e, br_neg (by omega)]
/-- what all nodes have -/
def stable (l : List Node) : List Tag := match l.getLast? with | some x => tagsOf x.store | none => []
theorem last_get {l : List Node} (h0 : 0 < l.length) : stable l = tagsOf (l[l.length - 1]'(by omega)).store := by
  unfold stable
  rw [List.getLast?_eq_getElem?, List.getElem?_eq_getElem (by omega)]
theorem spec_l3Stable {l : List Node} (hs : RNodes ro h [.sl 2 a l.length c] l F) (hl : lo ≤ h.length) (hn : smNodes l) (h0 : 0 < l.length) :
    ∃ v h' F', evl lo 156 [.agg [.sl 2 a l.length c]] h = some (.agg [v], h') ∧ RTags false h' [v] (stable l) F' ∧ Mv h [] h' F' := by
  have hn1 := hn.1
  obtain ⟨o, s1, s2, a1, c1, a2, c2, F1, F2, ha, _, ho1, _, e1, _, p1, _⟩ := hs.get (show l.length - 1 < l.length by omega)
  obtain ⟨v, h', F', e, r, m⟩ := spec_l2Tags (lo := lo) p1 hl (hn.2 _ (List.getElem_mem _)).1.1
  obtain ⟨a', c', es, r'⟩ := r.form
  rw [last_get h0]
  refine ⟨_, h', F', E_spec_l3Stable ?_, r', m⟩
  rw [wr (by omega) (by omega), inB_in ⟨by omega, by omega⟩, ha, eO_s, show ((l.length : Int) - 1).toNat = l.length - 1 by omega, ho1]
  simp only [eO_s, eC_c, eN_n, e1]
  rw [e]
  simp only [cal_s, eA_a, eC_c, es, eN_n]
end
end Go.Proofs.YthdfojchihooeaaGreat
namespace Go.Proofs.YthdfojchihooeaaGreat
open Go T
set_option linter.unusedVariables false
set_option linter.unusedSimpArgs false
abbrev tx (l : List UInt8) : ByteArray := ⟨⟨l⟩⟩
theorem tx_app {a b : List UInt8} : tx a ++ tx b = tx (a ++ b) := by
  apply ByteArray.ext
  simp [tx]
theorem tx_size {a : List UInt8} : (tx a).size = a.length := rfl
theorem tx_toList {a : List UInt8} : (tx a).toList = a := by rw [ByteArray.toList_eq]
theorem tx_eta (s : ByteArray) : tx s.data.toList = s := rfl
/-- a number's figures -/
def decL (n : Nat) : List UInt8 := if n < 10 then [UInt8.ofNat (48 + n)] else decL (n / 10) ++ [UInt8.ofNat (48 + n % 10)]
termination_by n
decreasing_by omega
theorem decL_len (n : Nat) : (decL n).length ≤ n + 1 := by
  induction n using Nat.strongRecOn with
  | ind n ih =>
    unfold decL
    split
    · simp
    · have := ih (n / 10) (by omega)
      simp only [List.length_append, List.length_singleton]; omega
def valL (l : List UInt8) : Nat := l.foldl (fun a c => a * 10 + (c.toNat - 48)) 0
theorem dig_val {k : Nat} (h : k < 10) : (UInt8.ofNat (48 + k)).toNat = 48 + k := by
  rw [UInt8.toNat_ofNat']; omega
theorem decL_val (n : Nat) : valL (decL n) = n := by
  induction n using Nat.strongRecOn with
  | ind n ih =>
    unfold decL
    split
    · rename_i h; simp only [valL, List.foldl_cons, List.foldl_nil, dig_val h]; omega
    · have := ih (n / 10) (by omega)
      simp only [valL, List.foldl_append, List.foldl_cons, List.foldl_nil] at this ⊢
      rw [this, dig_val (Nat.mod_lt _ (by decide))]; omega
theorem decL_inj {n m : Nat} (h : decL n = decL m) : n = m := by rw [← decL_val n, ← decL_val m, h]
theorem decL_dig (n : Nat) : ∀ c ∈ decL n, 48 ≤ c.toNat ∧ c.toNat ≤ 57 := by
  induction n using Nat.strongRecOn with
  | ind n ih =>
    unfold decL
    split
    · rename_i h
      intro c hc
      simp only [List.mem_singleton] at hc
      subst hc
      rw [dig_val h]; omega
    · intro c hc
      rw [List.mem_append] at hc
      rcases hc with hc | hc
      · exact ih (n / 10) (by omega) c hc
      · simp only [List.mem_singleton] at hc
        subst hc
        rw [dig_val (Nat.mod_lt _ (by decide))]; omega
theorem decL_not {n : Nat} {c : UInt8} (hc : c.toNat < 48) : c ∉ decL n := fun h => by have := decL_dig n c h; omega
def putTag (t : Tag) : List UInt8 := decL t.time.toNat ++ 46 :: decL t.place.toNat
def putPast (l : List Tag) : List UInt8 := l.flatMap fun t => 32 :: putTag t
def putRest (v : Ver) : List UInt8 := bif v.gone then [45] else 61 :: v.text.data.toList
def putVer (v : Ver) : List UInt8 := decL v.key.toNat ++ 32 :: (putTag v.tag ++ putPast v.past ++ 32 :: putRest v)
theorem cut_inj {x : UInt8} : ∀ {a a' b b' : List UInt8}, a ++ x :: b = a' ++ x :: b' → x ∉ a → x ∉ a' → a = a' ∧ b = b'
  | [], [], b, b', h, _, _ => ⟨rfl, by simpa using h⟩
  | [], y :: a', b, b', h, _, h' => by simp only [List.nil_append, List.cons_append, List.cons.injEq] at h; exact absurd (by simp [h.1]) h'
  | y :: a, [], b, b', h, h', _ => by simp only [List.nil_append, List.cons_append, List.cons.injEq] at h; exact absurd (by simp [h.1]) h'
  | y :: a, z :: a', b, b', h, h1, h2 => by
    simp only [List.cons_append, List.cons.injEq] at h
    simp only [List.mem_cons, not_or] at h1 h2
    obtain ⟨e1, e2⟩ := cut_inj h.2 h1.2 h2.2
    exact ⟨by rw [h.1, e1], e2⟩
theorem putTag_not {t : Tag} : (32 : UInt8) ∉ putTag t := by
  unfold putTag
  simp only [List.mem_append, List.mem_cons, not_or]
  exact ⟨decL_not (by decide), by decide, decL_not (by decide)⟩
theorem putTag_inj {t u : Tag} (ht : tagOk t.time t.place = true) (hu : tagOk u.time u.place = true) (h : putTag t = putTag u) : t = u := by
  have h1 := tagOk_time ht
  have h2 := tagOk_time hu
  obtain ⟨e1, e2⟩ := cut_inj h (decL_not (by decide)) (decL_not (by decide))
  have e1 := decL_inj e1
  have e2 := decL_inj e2
  cases t; cases u
  simp only [Tag.mk.injEq] at *
  omega
theorem putPast_inj : ∀ {p q : List Tag} {r s : List UInt8}, p.length = q.length → (∀ t ∈ p, tagOk t.time t.place = true) → (∀ t ∈ q, tagOk t.time t.place = true) →
    putPast p ++ 32 :: r = putPast q ++ 32 :: s → p = q ∧ r = s
  | [], [], r, s, _, _, _, h => ⟨rfl, by simpa [putPast] using h⟩
  | [], _ :: _, _, _, h, _, _, _ => by simp at h
  | _ :: _, [], _, _, h, _, _, _ => by simp at h
  | t :: p, u :: q, r, s, hl, hp, hq, h => by
    have e : ∀ (x : List Tag) (z : List UInt8), ∃ w, putPast x ++ 32 :: z = 32 :: w := by
      intro x z
      cases x with
      | nil => exact ⟨z, rfl⟩
      | cons a x => exact ⟨_, by simp only [putPast, List.flatMap_cons, List.cons_append]; rfl⟩
    obtain ⟨w1, hw1⟩ := e p r
    obtain ⟨w2, hw2⟩ := e q s
    have h0 : putTag t ++ (putPast p ++ 32 :: r) = putTag u ++ (putPast q ++ 32 :: s) := by
      simpa [putPast, List.flatMap_cons] using h
    rw [hw1, hw2] at h0
    obtain ⟨e1, e2⟩ := cut_inj h0 putTag_not putTag_not
    have et := putTag_inj (hp t (by simp)) (hq u (by simp)) e1
    obtain ⟨e3, e4⟩ := putPast_inj (by simpa using hl) (fun x hx => hp x (by simp [hx])) (fun x hx => hq x (by simp [hx])) (show putPast p ++ 32 :: r = putPast q ++ 32 :: s by rw [hw1, hw2, e2])
    exact ⟨by rw [et, e3], e4⟩
theorem pastOk_all {p : List Tag} (h : pastOk p = true) : ∀ t ∈ p, tagOk t.time t.place = true := by
  simp only [pastOk, Bool.and_eq_true, List.all_eq_true] at h; exact h.2
theorem verOk_parts {v : Ver} (h : verOk v = true) : (0 ≤ v.key ∧ v.key ≤ 3) ∧ textOk v.text = true ∧ (v.gone = true → v.text.size = 0) ∧ pastOk v.past = true ∧ tagOk v.tag.time v.tag.place = true ∧ latest v.past < v.tag.time := by
  simp only [verOk, written, within, Bool.and_eq_true, decide_eq_true_eq, Bool.or_eq_true, Bool.not_eq_true', noText] at h
  obtain ⟨⟨⟨⟨⟨⟨h1, h2⟩, h3⟩, h4⟩, h5⟩, h6⟩, h7⟩ := h
  refine ⟨⟨h1, h2⟩, h3, fun hg => ?_, h5, h6, h7⟩
  rcases h4 with h4 | h4
  · rw [hg] at h4; cases h4
  · exact h4
theorem bytes_ext {s t : ByteArray} (h : s.data.toList = t.data.toList) : s = t := by
  rw [← tx_eta s, ← tx_eta t, h]
theorem bytes_nil {s : ByteArray} (h : s.size = 0) : s.data.toList = [] := List.eq_nil_of_length_eq_zero (by simpa using h)
theorem putVer_inj {v u : Ver} (hv : verOk v = true) (hu : verOk u = true) (h : putVer v = putVer u) : v = u := by
  obtain ⟨⟨k1, k2⟩, _, g1, p1, t1, _⟩ := verOk_parts hv
  obtain ⟨⟨k3, k4⟩, _, g2, p2, t2, _⟩ := verOk_parts hu
  obtain ⟨e1, e2⟩ := cut_inj h (decL_not (by decide)) (decL_not (by decide))
  have e1 := decL_inj e1
  have l1 := pastOk_len p1
  have l2 := pastOk_len p2
  have e3 : putPast (v.tag :: v.past) ++ 32 :: putRest v = putPast (u.tag :: u.past) ++ 32 :: putRest u := by
    simp only [putPast, List.flatMap_cons, List.cons_append, List.append_assoc] at e2 ⊢
    rw [e2]
  obtain ⟨e4, e5⟩ := putPast_inj (by simp [l1, l2]) (fun t ht => by
    rcases List.mem_cons.1 ht with rfl | ht
    · exact t1
    · exact pastOk_all p1 t ht) (fun t ht => by
    rcases List.mem_cons.1 ht with rfl | ht
    · exact t2
    · exact pastOk_all p2 t ht) e3
  injection e4 with e6 e7
  have e8 : v.gone = u.gone ∧ v.text = u.text := by
    unfold putRest at e5
    cases hg : v.gone <;> cases hg2 : u.gone <;> simp only [hg, hg2, cond_true, cond_false, List.cons.injEq] at e5
    · exact ⟨rfl, bytes_ext e5.2⟩
    · exact absurd e5.1 (by decide)
    · exact absurd e5.1 (by decide)
    · exact ⟨rfl, bytes_ext (by rw [bytes_nil (g1 hg), bytes_nil (g2 hg2)])⟩
  cases v; cases u
  simp only [Ver.mk.injEq] at *
  exact ⟨by omega, e6, e7, e8.2, e8.1⟩
theorem same_iff {v u : Ver} : sameVer v u = true ↔ v = u := by
  cases v with | mk k1 t1 p1 s1 g1 => cases u with | mk k2 t2 p2 s2 g2 =>
  cases t1; cases t2
  simp only [sameVer, Bool.and_eq_true, beq_iff_eq, decide_eq_true_eq, Ver.mk.injEq, Tag.mk.injEq]
  constructor
  · rintro ⟨⟨⟨⟨h1, h2⟩, h3⟩, h4⟩, h5⟩
    exact ⟨h1, h2, h3, bytes_ext (by rwa [ByteArray.toList_eq, ByteArray.toList_eq] at h4), h5⟩
  · rintro ⟨h1, h2, h3, h4, h5⟩
    exact ⟨⟨⟨⟨h1, h2⟩, h3⟩, by rw [h4]⟩, h5⟩
theorem putVer_same {v u : Ver} (hv : verOk v = true) (hu : verOk u = true) : (putVer v == putVer u) = sameVer v u := by
  rw [Bool.eq_iff_iff, beq_iff_eq, same_iff]
  exact ⟨putVer_inj hv hu, fun h => by rw [h]⟩

section
variable {lo : Nat} {ro ro' : Bool} {h : Heap} {F F' : List Nat} {a a' : Option (Nat × Nat)} {c c' : Option Nat}
theorem dig_bytes {n : Int} (h0 : 0 ≤ n) (h1 : n < 10) : bytesOf [IntKind.wrap .u8 (IntKind.wrap .i64 (48 + n))] = tx [UInt8.ofNat (48 + n.toNat)] := by
  have e : IntKind.wrap .u8 (IntKind.wrap .i64 (48 + n)) = ((48 + n.toNat : Nat) : Int) := by
    rw [wr (by omega) (by omega)]
    obtain ⟨k, rfl⟩ := Int.eq_ofNat_of_zero_le h0
    have : k < 10 := by omega
    rcases k with _ | _ | _ | _ | _ | _ | _ | _ | _ | _ | k <;> first | rfl | omega
  rw [e]
  rfl
theorem spec_l1Dec : ∀ {n : Int}, 0 ≤ n → n ≤ 1000000000 → ∀ {lo : Nat} {h : Heap}, evl lo 354 [.int .i64 n] h = some (.str (tx (decL n.toNat)), h) := by
  suffices ∀ (m : Nat) (n : Int), n.toNat = m → 0 ≤ n → n ≤ 1000000000 → ∀ {lo : Nat} {h : Heap}, evl lo 354 [.int .i64 n] h = some (.str (tx (decL n.toNat)), h) from fun {n} h0 h1 {lo} {h} => this n.toNat n rfl h0 h1
  intro m
  induction m using Nat.strongRecOn with
  | ind m ih =>
    intro n hm h0 h1 lo h
    by_cases h10 : n < 10
    · refine E_spec_l1Dec (h' := h ++ [.rows 1 5 false [[.int .u8 (IntKind.wrap .u8 (IntKind.wrap .i64 (48 + n)))]]]) ?_
      rw [br_neg (by omega), br_neg (by omega), br_pos h10]
      simp only [rows_one, byteRows, eO_s]
      rw [dig_bytes h0 h10]
      unfold decL
      rw [if_pos (by omega)]
    · have e1 : n.tdiv 10 = n / 10 := Int.tdiv_eq_ediv_of_nonneg h0
      have e2 : n.tmod 10 = n % 10 := Int.tmod_eq_emod_of_nonneg h0
      refine E_spec_l1Dec (h' := h ++ [.rows 1 5 false [[.int .u8 (IntKind.wrap .u8 (IntKind.wrap .i64 (48 + n.tmod 10)))]]]) ?_
      have hl := decL_len (n / 10).toNat
      rw [br_neg (by omega), br_neg (by omega), br_neg h10, e1, wr (by omega) (by omega), ih (n / 10).toNat (by omega) (n / 10) rfl (by omega) (by omega)]
      simp only [cal_s, eT_s, rows_one, byteRows, eO_s]
      rw [e2, dig_bytes (by omega) (by omega), cat_of (by rw [tx_size, tx_size]; simp only [List.length_singleton]; omega), tx_app]
      conv => rhs; unfold decL
      rw [if_neg (by omega), show (n / 10).toNat = n.toNat / 10 by omega, show (n % 10).toNat = n.toNat % 10 by omega]
theorem putTag_len {t : Tag} (h : tagOk t.time t.place = true) : (putTag t).length ≤ 1010 := by
  have h1 := tagOk_time h
  have h2 := decL_len t.time.toNat
  have h3 := decL_len t.place.toNat
  simp only [putTag, List.length_append, List.length_cons]; omega
theorem spec_l1Put {t : Tag} (ht : tagOk t.time t.place = true) : evl lo 355 [.agg [.int .i64 t.time, .int .i64 t.place]] h = some (.str (tx (putTag t)), h) := by
  have h1 := tagOk_time ht
  have h2 := decL_len t.time.toNat
  have h3 := decL_len t.place.toNat
  refine E_spec_l1Put (h' := h) ?_
  rw [spec_l1Dec (by omega) (by omega)]
  simp only [cal_s, eT_s]
  rw [cat_of (by rw [tx_size, tx_size]; simp only [List.length_singleton]; omega), tx_app, spec_l1Dec (by omega) (by omega)]
  simp only [cal_s, eT_s]
  rw [cat_of (by rw [tx_size, tx_size]; simp only [List.length_append, List.length_singleton]; omega), tx_app]
  simp [putTag]
theorem putPast_len {l : List Tag} (h : ∀ t ∈ l, tagOk t.time t.place = true) : (putPast l).length ≤ 1011 * l.length := by
  induction l with
  | nil => simp [putPast]
  | cons t l ih =>
    have h1 := ih fun x hx => h x (by simp [hx])
    have h2 := putTag_len (h t (by simp))
    simp only [putPast, List.flatMap_cons, List.length_append, List.length_cons] at h1 ⊢; omega
theorem spec_l2Past {l : List Tag} (hs : RTags ro h [.sl 2 a l.length c] l F) (hp : ∀ t ∈ l, tagOk t.time t.place = true) (hn : l.length ≤ 1048576) : evl lo 356 [.agg [.sl 2 a l.length c]] h = some (.str (tx (putPast l)), h) := by
  refine E_spec_l2Past (h' := h) ?_
  have loop : ∀ m i, m + i = l.length → L_spec_l2Past_0 (List.length h) (tx (putPast (l.take i))) (i : Nat) a l.length c h = some (.str (tx (putPast l)), h) := by
    intro m
    induction m with
    | zero =>
      intro i hi
      have : i = l.length := by omega
      subst this
      rw [L_spec_l2Past_0.e, br_neg (by omega), List.take_length]
    | succ m ih =>
      intro i hi
      have hlt : i < l.length := by omega
      obtain ⟨o, ha, ho⟩ := hs.get hlt
      have hl := putPast_len (l := l.take i) fun t ht => hp t (List.mem_of_mem_take ht)
      have hl2 := putTag_len (hp _ (List.getElem_mem hlt))
      simp only [List.length_take] at hl
      rw [L_spec_l2Past_0.e, br_pos (by omega), cat_of (by rw [tx_size, tx_size]; simp only [List.length_singleton]; omega), inB_nat hlt]
      simp only [ha, eO_s, Int.toNat_natCast, ho, eC_c, eI_int, eN_n]
      rw [spec_l1Put (hp _ (List.getElem_mem hlt))]
      simp only [cal_s, eT_s]
      rw [tx_app, cat_of (by rw [tx_size, tx_size]; simp only [List.length_append, List.length_singleton]; omega), tx_app, wr_succ (by omega), ← ha]
      have e9 : putPast (l.take (i + 1)) = putPast (l.take i) ++ [32] ++ putTag l[i] := by
        rw [List.take_add_one, List.getElem?_eq_getElem hlt]
        simp only [putPast, Option.toList, List.flatMap_append, List.flatMap_cons, List.flatMap_nil, List.append_nil, List.append_assoc, List.singleton_append]
      have := ih (i + 1) (by omega)
      rw [e9] at this
      exact this
  simpa [putPast] using loop l.length 0 (by omega)
theorem textOk_size {s : ByteArray} (h : textOk s = true) : s.size ≤ 8 := by
  simp only [textOk, Bool.and_eq_true, decide_eq_true_eq] at h; omega
theorem spec_l2Put {v : Ver} (hs : RTags ro h [.sl 2 a v.past.length c] v.past F) (hv : verOk v = true) : evl lo 330 [.agg (v.cs a c)] h = some (.str (tx (putVer v)), h) := by
  obtain ⟨⟨k1, k2⟩, ht, _, hp, htg, _⟩ := verOk_parts hv
  have h0 := textOk_size ht
  have h4 := pastOk_len hp
  have h1 := decL_len v.key.toNat
  have h2 := putTag_len htg
  have h3 := putPast_len (pastOk_all hp)
  rw [h4] at h3
  have e := fun lo => spec_l2Past (lo := lo) hs (pastOk_all hp) (by omega)
  have hts : (⟨⟨[61]⟩⟩ : ByteArray) ++ v.text = tx (61 :: v.text.data.toList) := by rw [← tx_eta v.text]; exact tx_app
  have key : ∀ (r : List UInt8) {T : Type} (K : ByteArray → Heap → Option T), r.length ≤ 9 → (cal (evl (List.length h) 354 [.int .i64 v.key] h) fun v_1 h_2 => eT v_1 fun s_3 => cat s_3 ⟨⟨[32]⟩⟩ fun s_4 => cal (evl (List.length h) 355 [.agg [.int .i64 v.tag.time, .int .i64 v.tag.place]] h_2) fun v_5 h_6 => eT v_5 fun s_7 => cat s_4 s_7 fun s_8 =>
      cal (evl (List.length h) 356 [.agg [.sl 2 a v.past.length c]] h_6) fun v_9 h_10 => eT v_9 fun s_11 => cat s_8 s_11 fun s_12 => cat s_12 ⟨⟨[32]⟩⟩ fun s_13 => cat s_13 (tx r) fun s_14 => K s_14 h_10) = K (tx (decL v.key.toNat ++ 32 :: (putTag v.tag ++ putPast v.past ++ 32 :: r))) h := by
    intro r T K hr
    rw [spec_l1Dec (by omega) (by omega)]
    simp only [cal_s, eT_s]
    rw [cat_of (by rw [tx_size, tx_size]; simp only [List.length_singleton]; omega)]
    rw [spec_l1Put htg]
    simp only [cal_s, eT_s]
    rw [tx_app, cat_of (by rw [tx_size, tx_size]; simp only [List.length_append, List.length_singleton]; omega)]
    rw [e]
    simp only [cal_s, eT_s]
    rw [tx_app, cat_of (by rw [tx_size, tx_size]; simp only [List.length_append, List.length_singleton]; omega)]
    rw [tx_app, cat_of (by rw [tx_size, tx_size]; simp only [List.length_append, List.length_singleton]; omega)]
    rw [tx_app, cat_of (by rw [tx_size, tx_size]; simp only [List.length_append, List.length_singleton]; omega)]
    rw [tx_app]
    simp
  refine E_spec_l2Put (h' := h) ?_
  rw [cat_of (by rw [tx_size]; simp only [List.length_singleton]; omega), hts]
  cases hg : v.gone
  · rw [br_f]
    refine (key (61 :: v.text.data.toList) (T := V × Heap) (fun s h => some (V.str s, h)) (by simp; omega)).trans ?_
    simp [putVer, putRest, hg]
  · rw [br_t]
    refine (key [45] (T := V × Heap) (fun s h => some (V.str s, h)) (by simp)).trans ?_
    simp [putVer, putRest, hg]
theorem spec_l2Same {v u : Ver} (hs : RTags ro h [.sl 2 a v.past.length c] v.past F) (hs' : RTags ro' h [.sl 2 a' u.past.length c'] u.past F') (hv : verOk v = true) (hu : verOk u = true) :
    evl lo 275 [.agg (v.cs a c), .agg (u.cs a' c')] h = some (.bool (sameVer v u), h) := by
  refine E_spec_l2Same (h' := h) ?_
  rw [spec_l2Put hs hv]; simp only [cal_s, eT_s]
  rw [spec_l2Put hs' hu]; simp only [cal_s, eT_s, tx_toList]
  rw [putVer_same hv hu]
  cases sameVer v u <;> rfl
end
end Go.Proofs.YthdfojchihooeaaGreat
namespace Go.Proofs.YthdfojchihooeaaGreat
open Go T
set_option linter.unusedVariables false
set_option linter.unusedSimpArgs false
/-- an element of a slice, to be changed: what it holds, or its row anew -/
theorem Sli.at {α : Type} {El : Rel α} (ok : El.Ok) {h : Heap} {R R' e n k lo : Nat} {a : Option (Nat × Nat)} {c : Option Nat} {l : List α} {F : List Nat} (hs : Sli false R e El h [.sl R' a n c] l F) (hk : k < l.length) (hnd : F.Nodup) (hlo : ∀ b ∈ F, lo ≤ b) :
    ∃ b i rs row G, a = some (b, i) ∧ b ∈ F ∧ b ∉ G ∧ h[b]? = some (.rows R e false rs) ∧ rs[i + k]? = some row ∧ El h row l[k] G ∧ (∀ y ∈ G, y ∈ F) ∧ G.Nodup ∧
      (∀ h' x' G', Mv h G h' G' → El h' row x' G' → ∃ F', Sli false R e El h' [.sl R' a n c] (l.set k x') F' ∧ Mv h F h' F') ∧
      (∀ h1 G1 j cs row' x', Mv h G h1 G1 → paste row j cs = some row' → El h1 row' x' G1 →
        ∃ h2 F', st lo h1 b (i + k) j cs = some h2 ∧ Sli false R e El h2 [.sl R' a n c] (l.set k x') F' ∧ Mv h F h2 F' ∧ h2[b]? = some (.rows R e false (rs.set (i + k) row')) ∧ (∀ y, y ≠ b → h2[y]? = h1[y]?) ∧ h2.length = h1.length) := by
  have hbd := (Sli.ok ok).bd _ _ _ _ hs
  obtain ⟨b, i, rs, row, G, ha, hbF, hbG, hb, hrow, hel, hGF, hGn, put⟩ := hs.put ok.fr hk hnd
  have hblt : b < h.length := hbd b hbF
  refine ⟨b, i, rs, row, G, ha, hbF, hbG, hb, hrow, hel, hGF, hGn, fun h' x' G' m hx => ?_, fun h1 G1 j cs row' x' m hp hx => ?_⟩
  · obtain ⟨F', p1, p2, p3, _⟩ := put h' row x' G' (by rw [set_same hrow, m.fr b hblt hbG]; exact hb) (fun y hy _ hyG => m.fr y (hbd y hy) hyG) hx m.nd (fun y hy hyF => by
      rcases m.sub y hy with h1 | h1
      · exact h1
      · have := hbd y hyF; omega)
    refine ⟨F', p1, m.le, fun y hy hyF => m.fr y hy fun hg => hyF (hGF y hg), p3, fun y hy => ?_⟩
    rcases p2 y hy with h1 | h1
    · exact .inl h1.1
    · exact (m.sub y h1).imp (hGF y) id
  · have hbG1 : b ∉ G1 := fun hm => by
      rcases m.sub b hm with h1 | h1
      · exact hbG h1
      · omega
    have hb1 : h1[b]? = some (.rows R e false rs) := by rw [m.fr b hblt hbG]; exact hb
    have hb1lt : b < h1.length := Nat.lt_of_lt_of_le hblt m.le
    have e2 := st_first hb1 (hlo b hbF) hrow hp
    have fr2 : ∀ y, y ≠ b → (h1.set b (.rows R e false (rs.set (i + k) row')))[y]? = h1[y]? := fun y hy => List.getElem?_set_ne (Ne.symm hy)
    obtain ⟨F', p1, p2, p3, _⟩ := put (h1.set b (.rows R e false (rs.set (i + k) row'))) row' x' G1 (by simp [hb1lt]) (fun y hy hyb hyG => by rw [fr2 y hyb]; exact m.fr y (hbd y hy) hyG)
      (ok.fr _ _ _ _ _ hx fun y hy => fr2 y fun e => hbG1 (e ▸ hy)) m.nd (fun y hy hyF => by
      rcases m.sub y hy with h1 | h1
      · exact h1
      · have := hbd y hyF; omega)
    refine ⟨_, F', e2, p1, ⟨by simpa using m.le, fun y hy hyF => ?_, p3, fun y hy => ?_⟩, by simp [hb1lt], fr2, by simp⟩
    · rw [fr2 y fun e => hyF (e ▸ hbF)]
      exact m.fr y hy fun hg => hyF (hGF y hg)
    · rcases p2 y hy with h1 | h1
      · exact .inl h1.1
      · refine (m.sub y h1).imp (hGF y) fun h => by simpa using h

def lessV (v u : Ver) : Bool := less v.tag.time v.tag.place u.tag.time u.tag.place
def sameVers (s t : List Ver) : Bool := decide (s.length = t.length) && (s.zip t).all fun x => sameVer x.1 x.2
theorem sameVers_iff {s t : List Ver} : sameVers s t = true ↔ s = t := by
  unfold sameVers
  rw [Bool.and_eq_true, decide_eq_true_eq, List.all_eq_true]
  constructor
  · rintro ⟨hl, hx⟩
    apply List.ext_getElem hl
    intro i h1 h2
    have := hx (s[i], t[i]) (by rw [List.mem_iff_getElem]; exact ⟨i, by simp; omega, by simp⟩)
    exact same_iff.1 this
  · rintro rfl
    refine ⟨rfl, fun x hx => ?_⟩
    obtain ⟨i, hi, rfl⟩ := List.mem_iff_getElem.1 hx
    simp [same_iff]
def addVer (l : List Ver) (v : Ver) : List Ver := match l[v.key.toNat]? with
  | some x => bif lessV x v then l.set v.key.toNat v else l
  | none => l
theorem addVer_get {l : List Ver} {v : Ver} (h : v.key.toNat < l.length) : addVer l v = bif lessV l[v.key.toNat] v then l.set v.key.toNat v else l := by
  unfold addVer; rw [List.getElem?_eq_getElem h]
theorem verAt_ok {v : Ver} (h : verOk v = true) : verAt v.key.toNat v = true := by
  have := (verOk_parts h).1
  unfold verAt
  rw [h, show (v.key == ((v.key.toNat : Nat) : Int)) = true by rw [beq_iff_eq]; omega]; simp
theorem storeOk_set {l : List Ver} {v : Ver} (hl : storeOk l = true) (hv : verOk v = true) : storeOk (l.set v.key.toNat v) = true := by
  have h4 := storeOk_len hl
  unfold storeOk
  rw [Bool.and_eq_true, List.all_eq_true, decide_eq_true_eq]
  refine ⟨fun x hx => ?_, by simpa using h4⟩
  rw [List.mem_zipIdx_iff_getElem?] at hx
  have hi := (List.getElem?_eq_some_iff.1 hx).1
  rw [List.getElem?_set] at hx
  split at hx
  · rename_i he
    split at hx
    · injection hx with hx
      rw [← hx, ← he]; exact verAt_ok hv
    · cases hx
  · rw [List.getElem?_eq_getElem (by simpa using hi)] at hx
    injection hx with hx
    rw [← hx]
    exact storeOk_get hl _
/-- what waits, laid upon a store; nothing if something is not later -/
def fitsL : List Ver → List Ver → Option (List Ver)
  | s, [] => some s
  | s, v :: r => match s[v.key.toNat]? with
    | some x => bif lessV x v then fitsL (s.set v.key.toNat v) r else none
    | none => none
def fits (x : Node) (next : List Ver) : Bool := match fitsL next x.wait with
  | some s => sameVers s x.store
  | none => false
def nodeOk (x : Node) : Bool := storeOk x.store && decide ((x.wait.length : Int) ≤ 6) && x.wait.all verOk
def linkAt (l : List Node) (k : Nat) (x : Node) : Bool := match l[k + 1]? with
  | some y => fits x y.store
  | none => decide (x.wait.length = 0)
def chainOk (l : List Node) : Bool := within l.length 1 4 && l.all nodeOk && l.zipIdx.all fun x => linkAt l x.2 x.1
theorem nodeOk_parts {x : Node} (h : nodeOk x = true) : storeOk x.store = true ∧ x.wait.length ≤ 6 ∧ ∀ v ∈ x.wait, verOk v = true := by
  simp only [nodeOk, Bool.and_eq_true, decide_eq_true_eq, List.all_eq_true] at h
  exact ⟨h.1.1, by have := h.1.2; omega, h.2⟩

section
variable {lo : Nat} {h : Heap} {F F' : List Nat} {a a' : Option (Nat × Nat)} {c c' : Option Nat}
theorem impl_later {l : List Ver} {v : Ver} {ro : Bool} {ca : Option (Nat × Nat)} {cc : Option Nat} {n : Nat} (hs : RVers ro h [.sl 6 a l.length c] l F) (hk : 0 ≤ v.key ∧ v.key < l.length) :
    evl lo 239 [.agg [.sl 6 a l.length c], .agg [.int .i64 v.key, .int .i64 v.tag.time, .int .i64 v.tag.place, .sl 2 ca n cc, .str v.text, .bool v.gone]] h = some (.bool (lessV (l[v.key.toNat]'(by omega)) v), h) := by
  refine E_impl_Store_later (h' := h) ?_
  obtain ⟨o, s, b, d, G, ha, _, _, _, _, _, _, ho12, _⟩ := hs.all (show v.key.toNat < l.length by omega)
  rw [inB_in ⟨by omega, by omega⟩, ha]
  simp only [eO_s, ho12, eC_c, eI_int, eN_n, impl_TagLess, cal_s, eB_b]
  unfold lessV
  cases less _ _ _ _ <;> rfl
theorem impl_EqualFunc {l l' : List Ver} {ro ro' : Bool} (hs : RVers ro h [.sl 6 a l.length c] l F) (hs' : RVers ro' h [.sl 6 a' l'.length c'] l' F') (hn : smVers l) :
    evl lo 266 [.sl 6 a l.length c, .sl 6 a' l'.length c', .fn 233 []] h = some (.bool (sameVers l l'), h) := by
  have hn1 := hn.1
  refine E_slices_EqualFunc_impl_Ver_impl_Ver_impl_Ver_impl_Ver (h' := h) ?_
  unfold sameVers
  by_cases hl : l.length = l'.length
  · rw [show ((l.length : Int) == (l'.length : Int)) = true by simp; omega, br_t, decide_eq_true hl]
    have hz : (l.zip l').length = l.length := by simp; omega
    refine (all_loop (p := fun x : Ver × Ver => sameVer x.1 x.2) (l := l.zip l') (fun i => L_slices_EqualFunc_impl_Ver_impl_Ver_impl_Ver_impl_Ver_0 (List.length h) a' l'.length c' 233 [] false a l.length c (l.length : Nat) (i : Nat) h) (some (.bool false, h)) (some (.bool true, h)) (fun i hi => ?_) ?_).trans ?_
    · have hil : i < l.length := by omega
      have hil' : i < l'.length := by omega
      obtain ⟨o, s, b, d, G, ha, ho, es, hp, _⟩ := hs.get hil
      obtain ⟨o', s', b', d', G', ha', ho', es', hp', _⟩ := hs'.get hil'
      rw [L_slices_EqualFunc_impl_Ver_impl_Ver_impl_Ver_impl_Ver_0.e, br_pos (by omega), inB_nat hil]
      simp only [ha, ha', eO_s, Int.toNat_natCast, ho, ho', eC_c, eI_int, es, es', eT_s, eBv_b, eN_n, inB_nat hil', fnArgs, List.append_nil]
      rw [impl_same hp hp' (hn.2 _ (List.getElem_mem hil)).1]
      simp only [cal_s, eB_b, List.getElem_zip, wr_succ (show i < 9223372036854775807 by omega)]
      cases sameVer l[i] l'[i] <;> simp
    · rw [hz, L_slices_EqualFunc_impl_Ver_impl_Ver_impl_Ver_impl_Ver_0.e, br_neg (by omega)]
    · cases (l.zip l').all fun x => sameVer x.1 x.2 <;> rfl
  · rw [show ((l.length : Int) == (l'.length : Int)) = false by simp; omega, br_f, decide_eq_false hl]; rfl
theorem impl_Store_same {l l' : List Ver} {ro ro' : Bool} (hs : RVers ro h [.sl 6 a l.length c] l F) (hs' : RVers ro' h [.sl 6 a' l'.length c'] l' F') (hn : smVers l) :
    evl lo 240 [.agg [.sl 6 a l.length c], .agg [.sl 6 a' l'.length c']] h = some (.bool (sameVers l l'), h) := by
  refine E_impl_Store_same (h' := h) ?_
  rw [impl_EqualFunc hs hs' hn]; simp only [cal_s, eB_b]
  cases sameVers l l' <;> rfl
theorem spec_l2Add {l : List Ver} {v : Ver} {av : Option (Nat × Nat)} {cv : Option Nat} {G : List Nat} (hs : RVers false h [.sl 6 a l.length c] l F) (hv : RTags false h [.sl 2 av v.past.length cv] v.past G)
    (hnd : F.Nodup) (hlo : ∀ b ∈ F, lo ≤ b) (hl : lo ≤ h.length) (hk : 0 ≤ v.key ∧ v.key < l.length) (hn : v.past.length ≤ 1048576) :
    ∃ h' F', evl lo 312 [.agg [.sl 6 a l.length c], .agg (v.cs av cv)] h = some (.agg [.sl 6 a l.length c], h') ∧ RVers false h' [.sl 6 a l.length c] (addVer l v) F' ∧ Mv h F h' F' := by
  have hkl : v.key.toNat < l.length := by omega
  obtain ⟨o, s, b, d, G1, ha, _, _, _, _, _, _, ho12, _⟩ := hs.all hkl
  suffices hk : ∃ h' F', _ = some (V.agg [.sl 6 a l.length c], h') ∧ RVers false h' [.sl 6 a l.length c] (addVer l v) F' ∧ Mv h F h' F' from hk.imp fun h' hk => hk.imp fun F' hk => ⟨E_spec_l2Add hk.1, hk.2⟩
  rw [inB_in ⟨by omega, by omega⟩]
  simp only [ha, eO_s, ho12, eC_c, eI_int, eN_n, spec_l1Less, cal_s, eB_b]
  rw [addVer_get hkl]
  show ∃ h' F', br (lessV l[v.key.toNat] v) _ _ = _ ∧ _
  cases hle : lessV l[v.key.toNat] v with
  | false => exact ⟨h, F, rfl, by rw [← ha]; exact hs, Mv.refl hnd⟩
  | true =>
    obtain ⟨b2, i2, rs, row, G2, ha2, hb2, hbG2, hbb, hrow, hel, hGF, hGn, _, wr⟩ := hs.at rver_ok hkl hnd hlo
    obtain ⟨a3, c3, h3, F3, e3, r3, m3⟩ := spec_l2Copy (lo := lo) (v := v) hv hl hn
    have hab : o = (b2, i2) := by rw [ha] at ha2; injection ha2
    subst hab
    obtain ⟨h4, F4, e4, r4, m4, _⟩ := wr h3 F3 0 (v.cs a3 c3) (v.cs a3 c3) v (m3.wide (by simp)) (paste_all (by obtain ⟨s, rfl, _⟩ := hel; rfl)) ⟨_, rfl, r3⟩
    rw [br_t, e3]
    simp only [cal_s, eA_a, eC_c, eI_int, eS_sl, eT_s, eBv_b, eN_n]
    rw [inB_in ⟨by omega, by omega⟩, e4]
    exact ⟨h4, F4, rfl, by rw [← ha]; exact r4, m4⟩
end
end Go.Proofs.YthdfojchihooeaaGreat
namespace Go.Proofs.YthdfojchihooeaaGreat
open Go T
set_option linter.unusedVariables false
set_option linter.unusedSimpArgs false
theorem br_if {T : Type} {b : Bool} {x y : Option T} : br b x y = if b = true then x else y := by cases b <;> rfl
/-- a row laid anew, whole; its data may be another's, too -/
theorem Sli.row {α : Type} {El : Rel α} (hfr : El.Fr) {R R' e n k lo b i : Nat} (hln : El.Ln R) {h : Heap} {c : Option Nat} {l : List α} {G Gx : List Nat} {row : List V} {x : α} (hs : Sli false R e El h [.sl R' (some (b, i)) n c] l (b :: G)) (hb : b ∉ G) (hk : k < l.length) (hlo : lo ≤ b)
    (hx : El h row x Gx) (hbx : b ∉ Gx) : ∃ h' G', st lo h b (i + k) 0 row = some h' ∧ Sli false R e El h' [.sl R' (some (b, i)) n c] (l.set k x) (b :: G') ∧ b ∉ G' ∧ h'.length = h.length ∧ ∀ y, y ≠ b → h'[y]? = h[y]? := by
  have hn := hs.val
  subst hn
  obtain ⟨R1, a1, c1, e1, e2⟩ := hs
  injection e1 with e1 _; injection e1 with e0 e3 _ e4
  subst e0; subst e3; subst e4
  obtain ⟨hR, rs, Fs, g1, g2, g3, g4, g5, g6⟩ := e2
  injection g6 with _ g6
  subst g6
  obtain ⟨row0, G0, k1, k2, k3⟩ := g5.get (List.getElem?_eq_getElem hk)
  have hblt : b < h.length := (List.getElem?_eq_some_iff.1 g1).1
  have hrow : rs[i + k]? = some row0 := by rw [List.getElem?_take_of_lt hk, List.getElem?_drop] at k1; exact k1
  have hp : paste row0 0 row = some row := paste_all (by rw [hln _ _ _ _ k3, hln _ _ _ _ hx])
  have fr2 : ∀ y, y ≠ b → (h.set b (.rows R e false (rs.set (i + k) row)))[y]? = h[y]? := fun y hy => List.getElem?_set_ne (Ne.symm hy)
  have hl1 : ((rs.set (i + k) row).drop i).take l.length = ((rs.drop i).take l.length).set k row := by
    rw [List.drop_set, if_neg (by omega), show i + k - i = k by omega, List.take_set]
  refine ⟨_, (Fs.set k Gx).flatten, st_first g1 hlo hrow hp, ⟨R', some (b, i), c, by simp, hR, rs.set (i + k) row, Fs.set k Gx, by simp [hblt], by simpa using g2, fun q hq => by simpa using g3 q hq, g4, ?_, rfl⟩, fun hm => ?_, by simp, fr2⟩
  · rw [List.length_set, hl1]
    exact EAll.set (g5.fr hfr fun y hy => fr2 y fun e => hb (e ▸ hy)) (hfr _ _ _ _ _ hx fun y hy => fr2 y fun e => hbx (e ▸ hy))
  · rcases flatten_set_mem hm with h6 | h6
    · exact hb h6
    · exact hbx h6
theorem rver_ln {ro : Bool} : (RVer ro).Ln 6 := by rintro h cs x F ⟨s, rfl, _⟩; rfl
theorem zero_is {v : Ver} (h : zeroVer v = true) : v = ⟨0, ⟨0, 0⟩, [], ⟨⟨[]⟩⟩, false⟩ := by
  obtain ⟨k, ⟨t1, t2⟩, p, s, g⟩ := v
  simp only [zeroVer, noText, Bool.and_eq_true, beq_iff_eq, decide_eq_true_eq, Bool.not_eq_true'] at h
  obtain ⟨⟨⟨⟨h1, h2, h3⟩, h4⟩, h5⟩, h6⟩ := h
  simp only [Ver.mk.injEq, Tag.mk.injEq]
  exact ⟨h1, ⟨h2, h3⟩, List.eq_nil_of_length_eq_zero h4, bytes_ext (by rw [bytes_nil h5]), h6⟩
theorem verAt_case {i : Nat} {v : Ver} (h : verAt i v = true) : zeroVer v = true ∨ (verOk v = true ∧ v.key = i) := by
  simp only [verAt, Bool.or_eq_true, Bool.and_eq_true, beq_iff_eq] at h; exact h
theorem zero_time {v : Ver} (h : zeroVer v = true) : v.tag.time = 0 ∧ v.tag.place = 0 := by rw [zero_is h]; exact ⟨rfl, rfl⟩
theorem storeOk_sm {l : List Ver} (h : storeOk l = true) : smVers l := by
  refine ⟨by have := storeOk_len h; omega, fun v hv => ?_⟩
  obtain ⟨i, hi, rfl⟩ := List.mem_iff_getElem.1 hv
  rcases verAt_case (storeOk_get h hi) with h1 | ⟨h1, _⟩
  · rw [zero_is h1]; exact ⟨by simp, by show 0 ≤ _; omega⟩
  · obtain ⟨_, h2, _, h3, _⟩ := verOk_parts h1
    have := textOk_size h2
    have := pastOk_len h3
    omega

section
variable {lo : Nat} {h : Heap} {F F' : List Nat} {a a' : Option (Nat × Nat)} {c c' : Option Nat}
theorem impl_nodesOk {n : Int} : evl lo 118 [.int .i64 n] h = some (.bool (within n 1 4), h) := E_impl_nodesOk (h' := h) (by simp [impl_within])
theorem impl_last {n k : Nat} (hn : n ≤ 1048576) : evl lo 123 [.agg [.sl 2 a n c], .int .i64 (k : Nat)] h = some (.bool (decide (k + 1 = n)), h) := by
  refine E_impl_Chain_last (h' := h) ?_
  rw [wr (by omega) (by omega)]
  by_cases hk : k + 1 = n
  · rw [show ((k : Int) == (n : Int) - 1) = true by rw [beq_iff_eq]; omega, decide_eq_true hk]; rfl
  · rw [show ((k : Int) == (n : Int) - 1) = false by rw [beq_eq_false_iff_ne]; omega, decide_eq_false hk]; rfl
theorem impl_fits {x : Node} {next : List Ver} {a1 a2 a3 : Option (Nat × Nat)} {c1 c2 c3 : Option Nat} {F1 F2 F3 : List Nat} (hs1 : RVers false h [.sl 6 a1 x.store.length c1] x.store F1) (hs2 : RVers false h [.sl 6 a2 x.wait.length c2] x.wait F2)
    (hs3 : RVers false h [.sl 6 a3 next.length c3] next F3) (hx : nodeOk x = true) (hnx : storeOk next = true) :
    evl lo 124 [.agg [.sl 6 a1 x.store.length c1, .sl 6 a2 x.wait.length c2], .agg [.sl 6 a3 next.length c3]] h = some (.bool (fits x next), h) := by
  obtain ⟨hx1, hx2, hx3⟩ := nodeOk_parts hx
  obtain ⟨a5, c5, h5, F5, e5, r5, m5⟩ := impl_Store_copied (lo := h.length) hs3 (Nat.le_refl _) (storeOk_sm hnx)
  have h4 := storeOk_len hnx
  suffices hk : ∃ h', _ = some (V.bool (fits x next), h') from hk.elim fun h' hk => E_impl_Node_fits hk
  rw [e5]; simp only [cal_s, eA_a, eC_c, eS_sl, eN_n]
  have loop : ∀ m i s hh b j G, m + i = x.wait.length → storeOk s = true → RVers false hh [.sl 6 (some (b, j)) s.length c5] s (b :: G) → b ∉ G → h.length ≤ b → Mv h [] hh [] →
      ∃ h', L_impl_Node_fits_0 (List.length h) false a2 x.wait.length c2 (x.wait.length : Nat) (i : Nat) a1 x.store.length c1 a2 x.wait.length c2 (some (b, j)) s.length c5 hh = some (V.bool (match fitsL s (x.wait.drop i) with | some s => sameVers s x.store | none => false), h') := by
    intro m
    induction m with
    | zero =>
      intro i s hh b j G hi hso hs hb hbl hm
      rw [L_impl_Node_fits_0.e, br_neg (by omega), impl_Store_same hs (hm.keep0 rvers_ok hs1) (storeOk_sm hso), show i = x.wait.length by omega, List.drop_length]
      simp only [cal_s, eB_b, fitsL]
      exact ⟨hh, by cases sameVers s x.store <;> rfl⟩
    | succ m ih =>
      intro i s hh b j G hi hso hs hb hbl hm
      have hlt : i < x.wait.length := by omega
      have hvo := hx3 _ (List.getElem_mem hlt)
      have hk := (verOk_parts hvo).1
      have hs4 := storeOk_len hso
      have hkl : x.wait[i].key.toNat < s.length := by omega
      obtain ⟨o, sv, b', d', G', ha, ho, es, hp, hG'⟩ := (hm.keep0 rvers_ok hs2).get hlt
      have hbl2 := rvers_ok.bd _ _ _ _ hs2
      rw [L_impl_Node_fits_0.e, br_pos (by omega), inB_nat hlt]
      simp only [ha, eO_s, Int.toNat_natCast, ho, eC_c, eI_int, es, eT_s, eBv_b, eN_n]
      rw [impl_later (v := x.wait[i]) hs ⟨by omega, by omega⟩]
      simp only [cal_s, eB_b]
      rw [List.drop_eq_getElem_cons hlt]
      simp only [fitsL, List.getElem?_eq_getElem hkl]
      cases hle : lessV s[x.wait[i].key.toNat] x.wait[i] with
      | false => exact ⟨hh, rfl⟩
      | true =>
        obtain ⟨h6, G6, e6, r6, n6, l6, f6⟩ := Sli.row rver_ok.fr rver_ln hs hb hkl hbl (row := x.wait[i].cs b' d') (x := x.wait[i]) ⟨_, rfl, hp⟩ (fun hm' => by have := hbl2 _ (hG' _ hm'); omega)
        rw [br_t, inB_in ⟨by omega, by omega⟩, e6, cond_true]
        simp only [eO_s]
        rw [← ha, wr_succ (by omega)]
        have m6 : Mv h [] h6 [] := ⟨by rw [l6]; exact hm.le, fun y hy hF => by rw [f6 y (by omega)]; exact hm.fr y hy hF, by simp, by simp⟩
        have := ih (i + 1) (s.set x.wait[i].key.toNat x.wait[i]) h6 b j G6 (by omega) (storeOk_set hso hvo) (by rw [List.length_set]; exact r6) n6 hbl m6
        rw [List.length_set] at this
        exact this
  have : ∃ b j G, a5 = some (b, j) ∧ F5 = b :: G ∧ b ∉ G ∧ h.length ≤ b := by
    obtain ⟨b, i, rs, Fs, h1, h2, _, _, _, _, rfl⟩ := r5.data (k := 0) (by omega)
    exact ⟨b, i, _, h1, rfl, (List.nodup_cons.1 m5.nd).1, m5.new b (by simp)⟩
  obtain ⟨b, j, G, rfl, rfl, hb, hbl⟩ := this
  have := loop x.wait.length 0 next h5 b j G (by omega) hnx r5 hb hbl m5.drop
  exact this
theorem impl_ChainOk {l : List Node} (hs : RNodes false h [.sl 2 a l.length c] l F) (hn : smNodes l) : evl lo 40 [.agg [.sl 2 a l.length c]] h = some (.bool (chainOk l), h) := by
  have hn1 := hn.1
  refine E_impl_ChainOk (h' := h) ?_
  rw [impl_nodesOk]; simp only [cal_s, eB_b]
  unfold chainOk
  cases hw : within (l.length : Int) 1 4 with
  | false => rfl
  | true =>
    have hl4 : 1 ≤ l.length ∧ l.length ≤ 4 := by simp [within] at hw; omega
    rw [br_t]
    refine (all_loop (p := nodeOk) (l := l) (fun i => L_impl_ChainOk_0 (List.length h) false a l.length c (l.length : Nat) (i : Nat) a l.length c h) (some (.bool false, h)) (L_impl_ChainOk_0 (List.length h) false a l.length c (l.length : Nat) (l.length : Nat) a l.length c h) (fun i hi => ?_) rfl).trans ?_
    · obtain ⟨o, s1, s2, a1, c1, a2, c2, F1, F2, ha, ho, _, _, e1, e2, p1, p2, _⟩ := hs.get hi
      have hm := hn.2 _ (List.getElem_mem hi)
      rw [L_impl_ChainOk_0.e, br_pos (by omega), inB_nat hi]
      simp only [ha, eO_s, Int.toNat_natCast, ho, eC_c, e1, e2, eN_n]
      rw [impl_StoreOk p1 hm.1]
      simp only [cal_s, eB_b]
      rw [ContainsFunc_Ver (p := fun v => !verOk v) p2 hm.2.1 (fun lo v av cv Gv hv hvp => E_impl_ChainOk_1 (h' := h) (by rw [impl_VerOk hvp (hm.2.2 v hv)]; simp only [cal_s, eB_b]; cases verOk v <;> rfl))]
      simp only [cal_s, eB_b, wr_succ (show i < 9223372036854775807 by omega), ← ha]
      unfold nodeOk
      rw [List.any_eq_not_all_not]
      simp only [Bool.not_not]
      by_cases h6 : (l[i].wait.length : Int) ≤ 6
      · rw [br_neg (by omega), decide_eq_true h6]
        cases storeOk l[i].store <;> cases l[i].wait.all verOk <;> simp
      · rw [br_pos (by omega), decide_eq_false h6]
        cases storeOk l[i].store <;> simp
    · cases hall : l.all nodeOk with
      | false => rfl
      | true =>
        rw [if_pos rfl, L_impl_ChainOk_0.e, br_neg (by omega)]
        have hno := List.all_eq_true.1 hall
        refine (all_idx (p := linkAt l) (l := l) (fun i => L_impl_ChainOk_2 (List.length h) false a l.length c (l.length : Nat) (i : Nat) a l.length c h) (some (.bool false, h)) (some (.bool true, h)) (fun i hi => ?_) ?_).trans ?_
        · obtain ⟨o, s1, s2, a1, c1, a2, c2, F1, F2, ha, ho, _, _, e1, e2, p1, p2, _⟩ := hs.get hi
          have hm := hn.2 _ (List.getElem_mem hi)
          rw [L_impl_ChainOk_2.e, br_pos (by omega), inB_nat hi]
          simp only [ha, eO_s, Int.toNat_natCast, ho, eC_c, e1, e2, eN_n, impl_last hn1, cal_s, eB_b]
          by_cases hk : i + 1 = l.length
          · rw [decide_eq_true hk, br_t, br_t]
            unfold linkAt
            rw [List.getElem?_eq_none (by omega)]
            simp only [wr_succ (show i < 9223372036854775807 by omega)]
            by_cases h0 : l[i].wait.length = 0
            · rw [br_neg (by omega), decide_eq_true h0]; rfl
            · rw [br_pos (by omega), decide_eq_false h0]; rfl
          · have hi1 : i + 1 < l.length := by omega
            obtain ⟨o', s1', s2', a1', c1', a2', c2', F1', F2', ha', _, ho1', _, e1', _, p1', _⟩ := hs.get hi1
            have hoo : o' = o := by rw [ha] at ha'; injection ha' with ha'; exact ha'.symm
            subst hoo
            rw [decide_eq_false hk, br_f]
            unfold linkAt
            rw [List.getElem?_eq_getElem hi1]
            simp only [br_f, wr_succ (show i < 9223372036854775807 by omega)]
            rw [inB_nat hi1]
            simp only [Int.toNat_natCast, ho1', eO_s, eC_c, e1', eN_n]
            rw [impl_fits p1 p2 p1' (hno _ (List.getElem_mem hi)) (nodeOk_parts (hno _ (List.getElem_mem hi1))).1]
            simp only [cal_s, eB_b]
            exact br_if
        · rw [L_impl_ChainOk_2.e, br_neg (by omega)]
        · cases (l.zipIdx.all fun x => linkAt l x.2 x.1) <;> simp
end
end Go.Proofs.YthdfojchihooeaaGreat
namespace Go.Proofs.YthdfojchihooeaaGreat
open Go T
set_option linter.unusedVariables false
set_option linter.unusedSimpArgs false
theorem chainOk_all {l : List Node} (h : chainOk l = true) : (1 ≤ l.length ∧ l.length ≤ 4) ∧ ∀ x ∈ l, nodeOk x = true := by
  simp only [chainOk, within, Bool.and_eq_true, decide_eq_true_eq, List.all_eq_true] at h
  exact ⟨⟨by omega, by omega⟩, h.1.2⟩
theorem chainOk_link {l : List Node} (h : chainOk l = true) {i : Nat} (hi : i < l.length) : linkAt l i l[i] = true := by
  simp only [chainOk, Bool.and_eq_true, List.all_eq_true] at h
  exact h.2 (l[i], i) (by rw [List.mem_zipIdx_iff_getElem?]; simp [hi])
theorem all_zipIdx {α : Type} {p : Nat → α → Bool} {l : List α} : (l.zipIdx.all fun x => p x.2 x.1) = true ↔ ∀ i (hi : i < l.length), p i l[i] = true := by
  rw [List.all_eq_true]
  constructor
  · intro h i hi
    exact h (l[i], i) (by rw [List.mem_zipIdx_iff_getElem?]; simp [hi])
  · rintro h ⟨x, i⟩ hx
    rw [List.mem_zipIdx_iff_getElem?] at hx
    obtain ⟨hi, hx⟩ := List.getElem?_eq_some_iff.1 hx
    have := h i hi
    simp only at hx
    rw [hx] at this; exact this
theorem all_get {α : Type} {p : α → Bool} {l : List α} : l.all p = true ↔ ∀ i (hi : i < l.length), p l[i] = true := by
  rw [List.all_eq_true]
  exact ⟨fun h i hi => h _ (List.getElem_mem hi), fun h x hx => by obtain ⟨i, hi, rfl⟩ := List.mem_iff_getElem.1 hx; exact h i hi⟩
/-- as the reference goes along -/
def nextAt (l : List Node) (k : Nat) (x : Node) : Bool := nodeOk x && match l[k + 1]? with
  | some y => storeOk y.store && fits x y.store
  | none => true
theorem chainOk_alt {l : List Node} : chainOk l = ((l.zipIdx.all fun x => nextAt l x.2 x.1) && (within l.length 1 4 && match l.getLast? with | some x => decide (x.wait.length = 0) | none => false)) := by
  rw [Bool.eq_iff_iff]
  unfold chainOk
  simp only [Bool.and_eq_true]
  rw [all_zipIdx (p := linkAt l), all_zipIdx (p := nextAt l), all_get (l := l)]
  constructor
  · rintro ⟨⟨h1, h2⟩, h3⟩
    have hl : 1 ≤ l.length := by simp [within] at h1; omega
    refine ⟨fun i hi => ?_, h1, ?_⟩
    · have := h3 i hi
      unfold linkAt at this
      unfold nextAt
      rw [h2 i hi]
      by_cases hi1 : i + 1 < l.length
      · rw [List.getElem?_eq_getElem hi1] at this ⊢
        simp only at this
        simp only [this, (nodeOk_parts (h2 _ hi1)).1, Bool.and_self]
      · rw [List.getElem?_eq_none (by omega)]; rfl
    · have := h3 (l.length - 1) (by omega)
      unfold linkAt at this
      rw [List.getElem?_eq_none (by omega)] at this
      rw [List.getLast?_eq_getElem?, List.getElem?_eq_getElem (by omega)]
      exact this
  · rintro ⟨h1, h2, h3⟩
    have hno : ∀ i (hi : i < l.length), nodeOk l[i] = true := fun i hi => by
      have := h1 i hi
      simp only [nextAt, Bool.and_eq_true] at this; exact this.1
    refine ⟨⟨h2, hno⟩, fun i hi => ?_⟩
    have := h1 i hi
    unfold nextAt at this
    unfold linkAt
    by_cases hi1 : i + 1 < l.length
    · rw [List.getElem?_eq_getElem hi1] at this ⊢
      simp only [Bool.and_eq_true] at this
      exact this.2.2
    · rw [List.getElem?_eq_none (by omega)]
      rw [List.getLast?_eq_getElem?, List.getElem?_eq_getElem (by omega)] at h3
      have e : l.length - 1 = i := by omega
      simp only [e] at h3
      exact h3

section
variable {lo : Nat} {h : Heap} {F F' : List Nat} {a a' : Option (Nat × Nat)} {c c' : Option Nat}
theorem spec_l3SameStore {s t : List Ver} (hs : RVers false h [.sl 6 a s.length c] s F) (hs' : RVers false h [.sl 6 a' t.length c'] t F') (h1 : storeOk s = true) (h2 : storeOk t = true) :
    evl lo 313 [.agg [.sl 6 a s.length c], .agg [.sl 6 a' t.length c']] h = some (.bool (sameVers s t), h) := by
  have l1 := storeOk_len h1
  have l2 := storeOk_len h2
  have hz : (s.zip t).length = 4 := by simp; omega
  refine E_spec_l3SameStore (h' := h) ?_
  refine (all_loop (p := fun x : Ver × Ver => sameVer x.1 x.2) (l := s.zip t) (fun i => L_spec_l3SameStore_0 (List.length h) false (i : Nat) a s.length c a' t.length c' h) (some (.bool false, h)) (some (.bool true, h)) (fun i hi => ?_) ?_).trans ?_
  · have hi1 : i < s.length := by omega
    have hi2 : i < t.length := by omega
    obtain ⟨o, sv, b, d, G, ha, _, ho1, _, _, _, _, ho12, ho, es, hp, _⟩ := hs.all hi1
    obtain ⟨o', sv', b', d', G', ha', _, _, _, _, _, _, ho12', ho', es', hp', _⟩ := hs'.all hi2
    rw [L_spec_l3SameStore_0.e, br_pos (by omega), inB_nat hi1]
    simp only [ha, ha', eO_s, Int.toNat_natCast, ho12, ho12', ho1, ho, ho', eC_c, eI_int, es, es', eT_s, eBv_b, eN_n, inB_nat hi1, inB_nat hi2, Bool.and_true, List.getElem_zip, wr_succ (show i < 9223372036854775807 by omega)]
    have g1 := verAt_case (storeOk_get h1 hi1)
    have g2 := verAt_case (storeOk_get h2 hi2)
    cases htag : (s[i].tag.time == t[i].tag.time && s[i].tag.place == t[i].tag.place) with
    | false =>
      have : sameVer s[i] t[i] = false := by unfold sameVer; rw [htag]; simp
      rw [this, br_f]; rfl
    | true =>
      rw [br_t]
      by_cases htm : s[i].tag.time > 0
      · rw [br_pos htm]
        have o1 : verOk s[i] = true := by
          rcases g1 with g | g
          · have := zero_time g; omega
          · exact g.1
        have o2 : verOk t[i] = true := by
          rcases g2 with g | g
          · have := zero_time g; simp at htag; omega
          · exact g.1
        rw [spec_l2Same hp hp' o1 o2]
        simp only [cal_s, eB_b]
        exact br_if
      · rw [br_neg htm]
        have o1 : zeroVer s[i] = true := by
          rcases g1 with g | g
          · exact g
          · have := verOk_time g.1; omega
        have o2 : zeroVer t[i] = true := by
          rcases g2 with g | g
          · exact g
          · have := verOk_time g.1; simp at htag; omega
        rw [if_pos (same_iff.2 (by rw [zero_is o1, zero_is o2]))]
  · rw [hz, L_spec_l3SameStore_0.e, br_neg (by omega)]
  · unfold sameVers
    rw [decide_eq_true (by omega)]
    cases (s.zip t).all fun x => sameVer x.1 x.2 <;> rfl
theorem spec_l3Next {x y : Node} {a1 a2 a3 a4 : Option (Nat × Nat)} {c1 c2 c3 c4 : Option Nat} {F1 F2 F3 : List Nat} (hs1 : RVers false h [.sl 6 a1 x.store.length c1] x.store F1) (hs2 : RVers false h [.sl 6 a2 x.wait.length c2] x.wait F2)
    (hs3 : RVers false h [.sl 6 a3 y.store.length c3] y.store F3) (hx : nodeOk x = true) (hy : smVers y.store) {n4 : Nat} :
    evl lo 222 [.agg [.sl 6 a1 x.store.length c1, .sl 6 a2 x.wait.length c2], .agg [.sl 6 a3 y.store.length c3, .sl 6 a4 n4 c4]] h = some (.bool (storeOk y.store && fits x y.store), h) := by
  obtain ⟨hx1, hx2, hx3⟩ := nodeOk_parts hx
  suffices hk : ∃ h', _ = some (V.bool (storeOk y.store && fits x y.store), h') from hk.elim fun h' hk => E_spec_l3Next hk
  rw [spec_l2StoreOk hs3 hy]; simp only [cal_s, eB_b]
  cases hyo : storeOk y.store with
  | false => exact ⟨h, rfl⟩
  | true =>
    obtain ⟨v5, h5, F5, e5, r5, m5⟩ := spec_l2CopyStore (lo := h.length) hs3 (Nat.le_refl _) hy
    obtain ⟨a5, c5, es5, r5⟩ := r5.form
    rw [br_t, e5]; simp only [cal_s, eA_a, eC_c, es5, eN_n]
    have loop : ∀ m i s hh G, m + i = x.wait.length → storeOk s = true → RVers false hh [.sl 6 a5 s.length c5] s G → Mv h [] hh G →
        ∃ h', L_spec_l3Next_0 (List.length h) false (i : Nat) a1 x.store.length c1 a2 x.wait.length c2 a5 s.length c5 hh = some (V.bool (match fitsL s (x.wait.drop i) with | some s => sameVers s x.store | none => false), h') := by
      intro m
      induction m with
      | zero =>
        intro i s hh G hi hso hs hm
        rw [L_spec_l3Next_0.e, br_neg (by omega), spec_l3SameStore hs (hm.keep0 rvers_ok hs1) hso hx1, show i = x.wait.length by omega, List.drop_length]
        simp only [cal_s, eB_b, fitsL]
        exact ⟨hh, by cases sameVers s x.store <;> rfl⟩
      | succ m ih =>
        intro i s hh G hi hso hs hm
        have hlt : i < x.wait.length := by omega
        have hvo := hx3 _ (List.getElem_mem hlt)
        have hk := (verOk_parts hvo).1
        have hs4 := storeOk_len hso
        have hkl : x.wait[i].key.toNat < s.length := by omega
        obtain ⟨o, sv, b', d', G', ha, ho0, _, _, _, _, _, ho12, ho, es, hp, hG'⟩ := (hm.keep0 rvers_ok hs2).all hlt
        obtain ⟨o2, sv2, b2, d2, G2, ha2, _, _, _, _, _, _, ho122, _⟩ := hs.all hkl
        rw [L_spec_l3Next_0.e, br_pos (by omega), inB_nat hlt]
        simp only [ha, eO_s, Int.toNat_natCast, ho0, eC_c, eI_int, eN_n]
        rw [inB_in ⟨by omega, by omega⟩]
        simp only [ha2, eO_s, ho122, eC_c, eI_int, eN_n, inB_nat hlt, ho12, spec_l1Less, cal_s, eB_b]
        rw [List.drop_eq_getElem_cons hlt]
        simp only [fitsL, List.getElem?_eq_getElem hkl]
        show ∃ h', br (lessV s[x.wait[i].key.toNat] x.wait[i]) _ _ = _
        cases hle : lessV s[x.wait[i].key.toNat] x.wait[i] with
        | false => exact ⟨hh, rfl⟩
        | true =>
          obtain ⟨h6, F6, e6, r6, m6⟩ := spec_l2Add (lo := h.length) (v := x.wait[i]) hs hp hm.nd (hm.ge (Nat.le_refl _) (by simp)) hm.le ⟨by omega, by omega⟩ (by have := pastOk_len (verOk_parts hvo).2.2.2.1; omega)
          rw [br_t, cond_true]
          simp only [ho, eO_s, eC_c, eI_int, es, eT_s, eBv_b, eN_n]
          rw [← ha2, e6]
          simp only [cal_s, eA_a, eC_c, eS_sl, eN_n]
          rw [← ha, wr_succ (by omega)]
          have hadd : addVer s x.wait[i] = s.set x.wait[i].key.toNat x.wait[i] := by rw [addVer_get hkl, hle]; rfl
          rw [hadd] at r6
          have := ih (i + 1) (s.set x.wait[i].key.toNat x.wait[i]) h6 F6 (by omega) (storeOk_set hso hvo) (by rw [List.length_set]; exact r6) (hm.trans m6)
          rw [List.length_set] at this
          exact this
    obtain ⟨h', e⟩ := loop x.wait.length 0 y.store h5 F5 (by omega) hyo r5 m5
    exact ⟨h', e⟩
theorem spec_l3Ok {l : List Node} (hs : RNodes false h [.sl 2 a l.length c] l F) (hn : smNodes l) : evl lo 111 [.agg [.sl 2 a l.length c]] h = some (.bool (chainOk l), h) := by
  have hn1 := hn.1
  refine E_spec_l3Ok (h' := h) ?_
  rw [chainOk_alt]
  have inner : ∀ i (hi : i < l.length), storeOk l[i].store = true → (l[i].wait.length : Int) ≤ 6 → L_spec_l3Ok_2 (List.length h) false (i : Nat) 0 a l.length c h = if nextAt l i l[i] = true then L_spec_l3Ok_0 (List.length h) false ((i + 1 : Nat) : Int) a l.length c h else some (.bool false, h) := by
    intro i hi hst h6
    obtain ⟨o, s1, s2, a1, c1, a2, c2, F1, F2, ha, ho, ho1, ho2, e1, e2, p1, p2, _⟩ := hs.get hi
    have hm := hn.2 _ (List.getElem_mem hi)
    refine (all_loop (p := verOk) (l := l[i].wait) (fun k => L_spec_l3Ok_2 (List.length h) false (i : Nat) (k : Nat) a l.length c h) (some (.bool false, h)) (L_spec_l3Ok_2 (List.length h) false (i : Nat) (l[i].wait.length : Nat) a l.length c h) (fun k hk => ?_) rfl).trans ?_
    · obtain ⟨o', s, b, d, G, ha', ho', es, hp, _⟩ := p2.get hk
      rw [L_spec_l3Ok_2.e, inB_nat hi]
      simp only [ha, eO_s, Int.toNat_natCast, ho2, eC_c, e2, eN_n]
      rw [br_pos (by omega), inB_nat hi]
      simp only [e2, inB_nat hk, ha', eO_s, ho', eC_c, eI_int, es, eT_s, eBv_b, eN_n]
      rw [spec_l2Ok hp (hm.2.2 _ (List.getElem_mem hk))]
      simp only [cal_s, eB_b, wr_succ (show k < 9223372036854775807 by have := hm.2.1; omega), ← ha]
      exact br_if
    · by_cases hall : l[i].wait.all verOk = true
      · rw [if_pos hall, L_spec_l3Ok_2.e, inB_nat hi]
        simp only [ha, eO_s, Int.toNat_natCast, ho2, eC_c, e2, eN_n]
        rw [br_neg (by omega)]
        have hno : nodeOk l[i] = true := by unfold nodeOk; rw [hst, decide_eq_true h6, hall]; rfl
        rw [wr_succ (by omega)]
        unfold nextAt
        rw [hno]
        by_cases hi1 : i + 1 < l.length
        · obtain ⟨o', s1', s2', a1', c1', a2', c2', F1', F2', ha', ho', _, _, e1', e2', p1', p2', _⟩ := hs.get hi1
          have hoo : o' = o := by rw [ha] at ha'; injection ha' with ha'; exact ha'.symm
          subst hoo
          rw [br_pos (by omega), inB_nat hi]
          simp only [ho, eO_s, eC_c, e1, e2, eN_n, inB_nat hi1, Int.toNat_natCast, ho', e1', e2']
          rw [spec_l3Next p1 p2 p1' hno (hn.2 _ (List.getElem_mem hi1)).1, List.getElem?_eq_getElem hi1]
          simp only [cal_s, eB_b, Bool.true_and]
          exact br_if
        · rw [br_neg (by omega), List.getElem?_eq_none (by omega)]; rfl
      · rw [if_neg hall, if_neg]
        unfold nextAt nodeOk
        simp [hall]
  refine (all_idx (p := nextAt l) (l := l) (fun i => L_spec_l3Ok_0 (List.length h) false (i : Nat) a l.length c h) (some (.bool false, h)) (some (.bool (within l.length 1 4 && match l.getLast? with | some x => decide (x.wait.length = 0) | none => false), h)) (fun i hi => ?_) ?_).trans ?_
  · obtain ⟨o, s1, s2, a1, c1, a2, c2, F1, F2, ha, ho, ho1, ho2, e1, e2, p1, p2, _⟩ := hs.get hi
    have hm := hn.2 _ (List.getElem_mem hi)
    rw [L_spec_l3Ok_0.e, br_pos (by omega), inB_nat hi]
    simp only [ha, eO_s, Int.toNat_natCast, ho1, eC_c, e1, eN_n]
    rw [spec_l2StoreOk p1 hm.1]
    simp only [cal_s, eB_b]
    cases hst : storeOk l[i].store with
    | false =>
      rw [if_neg (by unfold nextAt nodeOk; simp [hst])]; rfl
    | true =>
      rw [br_t, inB_nat hi]
      simp only [ho2, eO_s, eC_c, e2, eN_n]
      by_cases h6 : (l[i].wait.length : Int) ≤ 6
      · rw [br_neg (by omega), ← ha]; exact inner i hi hst h6
      · rw [br_pos (by omega), if_neg]
        unfold nextAt nodeOk
        rw [decide_eq_false h6]; simp
  · rw [L_spec_l3Ok_0.e, br_neg (by omega), spec_l1In]
    simp only [cal_s, eB_b]
    cases hw : within (l.length : Int) 1 4 with
    | false => rfl
    | true =>
      have hl : 1 ≤ l.length := by simp [within] at hw; omega
      obtain ⟨o, s1, s2, a1, c1, a2, c2, F1, F2, ha, ho, ho1, ho2, e1, e2, p1, p2, _⟩ := hs.get (show l.length - 1 < l.length by omega)
      rw [br_t, wr (by omega) (by omega), inB_in ⟨by omega, by omega⟩, show ((l.length : Int) - 1).toNat = l.length - 1 by omega]
      simp only [ha, eO_s, ho2, eC_c, e2, eN_n]
      rw [List.getLast?_eq_getElem?, List.getElem?_eq_getElem (by omega)]
      simp only [Bool.true_and]
      by_cases h0 : l[l.length - 1].wait.length = 0
      · rw [h0]; rfl
      · rw [show ((l[l.length - 1].wait.length : Int) == 0) = false by rw [beq_eq_false_iff_ne]; omega, decide_eq_false h0]; rfl
  · cases (l.zipIdx.all fun x => nextAt l x.2 x.1) <;> simp
end
end Go.Proofs.YthdfojchihooeaaGreat
namespace Go.Proofs.YthdfojchihooeaaGreat
open Go T
set_option linter.unusedVariables false
set_option linter.unusedSimpArgs false
def nodeCauses (st : List Tag) (x : Node) : Bool := (x.store.all fun v => !decide (v.tag.time > 0) || under v.past st) && x.wait.all fun v => under v.past st
def causesOk (l : List Node) : Bool := l.all (nodeCauses (stable l))
def headOk (l : List Node) (clock : Int) : Bool := match l[0]? with
  | some x => x.store.all fun v => decide (v.tag.time ≤ clock)
  | none => false
def gotAt (me : Int) (i : Nat) (l : List Ver) : Bool := logOk i l && (!((i : Int) == me) || decide (l.length = 0))
def placeOk (p : Place) : Bool := within p.me 0 2 && within p.clock 0 999 && decide (p.got.length = 3) && chainOk p.chain && causesOk p.chain && logOk p.me p.log && (p.got.zipIdx.all fun x => gotAt p.me x.2 x.1) && headOk p.chain p.clock

theorem if_some {b : Bool} {h : Heap} : (if b = true then some (V.bool true, h) else some (V.bool false, h)) = some (V.bool b, h) := by cases b <;> rfl
theorem chainOk_sm {l : List Node} (h : chainOk l = true) : smNodes l := by
  obtain ⟨h1, h2⟩ := chainOk_all h
  refine ⟨by omega, fun x hx => ?_⟩
  obtain ⟨g1, g2, g3⟩ := nodeOk_parts (h2 x hx)
  refine ⟨storeOk_sm g1, by omega, fun v hv => ?_⟩
  obtain ⟨_, h2, _, h3, _⟩ := verOk_parts (g3 v hv)
  have := textOk_size h2
  have := pastOk_len h3
  omega
theorem stable_len {l : List Node} (h : chainOk l = true) : (stable l).length = 4 := by
  obtain ⟨h1, h2⟩ := chainOk_all h
  rw [last_get (by omega)]
  simp only [tagsOf, List.length_map]
  exact storeOk_len (nodeOk_parts (h2 _ (List.getElem_mem _))).1
theorem ld_of {h : Heap} {b i j n R e : Nat} {ro : Bool} {rs : List (List V)} {row : List V} (hb : h[b]? = some (.rows R e ro rs)) (hi : rs[i]? = some row) : ld h b i j n = cut row j n := by
  simp [ld, Heap.rows?, hb, hi]
theorem store_past {x : Node} (h : nodeOk x = true) {i : Nat} (hi : i < x.store.length) (ht : x.store[i].tag.time > 0) : x.store[i].past.length = 4 := by
  rcases verAt_case (storeOk_get (nodeOk_parts h).1 hi) with g | g
  · have := zero_time g; omega
  · exact pastOk_len (verOk_parts g.1).2.2.2.1
theorem wait_past {x : Node} (h : nodeOk x = true) {i : Nat} (hi : i < x.wait.length) : x.wait[i].past.length = 4 := pastOk_len (verOk_parts ((nodeOk_parts h).2.2 _ (List.getElem_mem hi))).2.2.2.1

section
variable {lo : Nat} {h : Heap} {F F' : List Nat} {a a' : Option (Nat × Nat)} {c c' : Option Nat}
theorem spec_l4Causes {l : List Node} (hs : RNodes false h [.sl 2 a l.length c] l F) (hc : chainOk l = true) : evl lo 248 [.agg [.sl 2 a l.length c]] h = some (.bool (causesOk l), h) := by
  obtain ⟨hl4, hno⟩ := chainOk_all hc
  have hst := stable_len hc
  obtain ⟨v1, h1, F1, e1, r1, m1⟩ := spec_l3Stable (lo := h.length) hs (Nat.le_refl _) (chainOk_sm hc) (by omega)
  obtain ⟨a3, c3, es3, r1⟩ := r1.form
  refine E_spec_l4Causes (h' := h1) ?_
  rw [e1]; simp only [cal_s, eA_a, eC_c, es3, eN_n]
  have hs1 := m1.keep0 rnodes_ok hs
  refine (all_loop (p := nodeCauses (stable l)) (l := l) (fun i => L_spec_l4Causes_0 (List.length h) false (i : Nat) a l.length c a3 (stable l).length c3 h1) (some (.bool false, h1)) (some (.bool true, h1)) (fun i hi => ?_) ?_).trans ?_
  · have hno := hno _ (List.getElem_mem hi)
    have hsl := storeOk_len (nodeOk_parts hno).1
    have hwl := (nodeOk_parts hno).2.1
    obtain ⟨o, s1, s2, b1, d1, b2, d2, G1, G2, ha, ho, ho1, ho2, e1, e2, p1, p2, _⟩ := hs1.get hi
    rw [L_spec_l4Causes_0.e, br_pos (by omega)]
    refine (all_loop (p := fun v : Ver => !decide (v.tag.time > 0) || under v.past (stable l)) (l := l[i].store) (fun k => L_spec_l4Causes_2 (List.length h) false (i : Nat) (k : Nat) a l.length c a3 (stable l).length c3 h1) (some (.bool false, h1)) (L_spec_l4Causes_4 (List.length h) false (i : Nat) 0 a l.length c a3 (stable l).length c3 h1) (fun k hk => ?_) ?_).trans ?_
    · obtain ⟨o', s, b, d, G, ha', ho', es, hp, _⟩ := p1.get hk
      rw [L_spec_l4Causes_2.e, br_pos (by omega), inB_nat hi]
      simp only [ha, eO_s, Int.toNat_natCast, ho1, eC_c, e1, eN_n, inB_nat hk, ha', ho', eI_int, es, eT_s, eBv_b, wr_succ (show k < 9223372036854775807 by omega)]
      by_cases ht : l[i].store[k].tag.time > 0
      · rw [br_pos ht, spec_l1Within hp r1 (store_past hno hk ht) hst]
        simp only [cal_s, eB_b, decide_eq_true ht, Bool.not_true, Bool.false_or, ← ha]
        exact br_if
      · rw [br_neg ht, decide_eq_false ht, ← ha]; rfl
    · rw [L_spec_l4Causes_2.e, br_neg (by omega)]
    · unfold nodeCauses
      cases hall : l[i].store.all fun v : Ver => !decide (v.tag.time > 0) || under v.past (stable l) with
      | false => rw [if_neg Bool.false_ne_true, Bool.false_and, if_neg Bool.false_ne_true]
      | true =>
        rw [if_pos rfl, Bool.true_and]
        refine all_loop (p := fun v : Ver => under v.past (stable l)) (l := l[i].wait) (fun k => L_spec_l4Causes_4 (List.length h) false (i : Nat) (k : Nat) a l.length c a3 (stable l).length c3 h1) (some (.bool false, h1)) (L_spec_l4Causes_0 (List.length h) false ((i + 1 : Nat) : Int) a l.length c a3 (stable l).length c3 h1) (fun k hk => ?_) ?_
        · obtain ⟨o', s, b, d, G, ha', _, _, _, ho3, _, _, _, _, es, hp, _⟩ := p2.all hk
          rw [L_spec_l4Causes_4.e, inB_nat hi]
          simp only [ha, eO_s, Int.toNat_natCast, ho2, eC_c, e2, eN_n]
          rw [br_pos (by omega), inB_nat hi]
          simp only [e2, inB_nat hk, ha', eO_s, ho3, eC_c, es, eN_n]
          rw [spec_l1Within hp r1 (wait_past hno hk) hst]
          simp only [cal_s, eB_b, wr_succ (show k < 9223372036854775807 by omega), ← ha]
          exact br_if
        · rw [L_spec_l4Causes_4.e, inB_nat hi]
          simp only [ha, eO_s, Int.toNat_natCast, ho2, eC_c, e2, eN_n]
          rw [br_neg (by omega), wr_succ (by omega)]
  · rw [L_spec_l4Causes_0.e, br_neg (by omega)]
  · unfold causesOk
    cases l.all (nodeCauses (stable l)) <;> rfl
theorem spec_l4Ok {p : Place} {a1 a2 a3 : Option (Nat × Nat)} {c1 c2 c3 : Option Nat} {F1 F2 F3 : List Nat} (hs1 : RNodes false h [.sl 2 a1 p.chain.length c1] p.chain F1) (hs2 : RVers false h [.sl 6 a2 p.log.length c2] p.log F2)
    (hs3 : RVss false h [.sl 1 a3 p.got.length c3] p.got F3) (hn : smPlace p) : evl lo 136 [.agg (p.cs a1 c1 a2 c2 a3 c3)] h = some (.bool (placeOk p), h) := by
  refine E_spec_l4Ok (h' := h) ?_
  simp only [spec_l1In, cal_s, eB_b]
  unfold placeOk
  cases within p.me 0 2 with
  | false => rfl
  | true =>
  cases within p.clock 0 999 with
  | false => rfl
  | true =>
  by_cases hg : ¬ p.got.length = 3
  · rw [show ((p.got.length : Int) == 3) = false by rw [beq_eq_false_iff_ne]; omega, decide_eq_false hg]; rfl
  have hg : p.got.length = 3 := by omega
  rw [show ((p.got.length : Int) == 3) = true by rw [beq_iff_eq]; omega, decide_eq_true hg]
  simp only [br_t]
  rw [spec_l3Ok hs1 hn.1]
  simp only [cal_s, eB_b]
  cases hc : chainOk p.chain with
  | false => rfl
  | true =>
  rw [br_t, spec_l4Causes hs1 hc]
  simp only [cal_s, eB_b]
  cases causesOk p.chain with
  | false => rfl
  | true =>
  rw [br_t, spec_l4Log hs2 hn.2.1]
  simp only [cal_s, eB_b]
  cases logOk p.me p.log with
  | false => rfl
  | true =>
  obtain ⟨hl4, hno⟩ := chainOk_all hc
  simp only [br_t, Bool.true_and, Bool.and_true]
  refine (all_idx (p := gotAt p.me) (l := p.got) (fun i => L_spec_l4Ok_0 (List.length h) false (i : Nat) p.me p.clock a1 p.chain.length c1 a2 p.log.length c2 a3 p.got.length c3 p.fell h) (some (.bool false, h)) (some (.bool (headOk p.chain p.clock), h)) (fun i hi => ?_) ?_).trans ?_
  · obtain ⟨o, s, b, d, G, ha, ho, es, hp, _⟩ := hs3.get hi
    rw [L_spec_l4Ok_0.e, br_pos (by omega), inB_nat hi]
    simp only [ha, eO_s, Int.toNat_natCast, ho, eC_c, es, eN_n]
    rw [spec_l4Log hp (hn.2.2.2 _ (List.getElem_mem hi))]
    simp only [cal_s, eB_b, inB_nat hi, ho, eO_s, eC_c, es, eN_n, wr_succ (show i < 9223372036854775807 by omega), ← ha]
    unfold gotAt
    by_cases h0 : p.got[i].length = 0
    · rw [br_neg (by omega), decide_eq_true h0]
      cases logOk i p.got[i] <;> cases ((i : Int) == p.me) <;> rfl
    · rw [br_pos (by omega), decide_eq_false h0]
      cases logOk i p.got[i] <;> cases ((i : Int) == p.me) <;> rfl
  · obtain ⟨o, s1, s2, b1, d1, b2, d2, G1, G2, ha, ho, ho1, ho2, e1, e2, q1, q2, _⟩ := hs1.get (show 0 < p.chain.length by omega)
    have hsl := storeOk_len (nodeOk_parts (hno _ (List.getElem_mem (show 0 < p.chain.length by omega)))).1
    rw [L_spec_l4Ok_0.e, br_neg (by omega), show (0 : Int) = ((0 : Nat) : Int) from rfl, inB_nat (by omega)]
    simp only [ha, eO_s, ho1, eC_c, e1, eN_n]
    unfold headOk
    rw [List.getElem?_eq_getElem (show 0 < p.chain.length by omega)]
    refine (all_loop (p := fun v : Ver => decide (v.tag.time ≤ p.clock)) (l := p.chain[0].store) (fun k => L_spec_l4Ok_2 (List.length h) false (k : Nat) p.me p.clock (some o) p.chain.length c1 a2 p.log.length c2 a3 p.got.length c3 p.fell b1 p.chain[0].store.length d1 h) (some (.bool false, h)) (some (.bool true, h)) (fun k hk => ?_) ?_).trans ?_
    · obtain ⟨o', s, b, d, G, ha', _, ho1', _⟩ := q1.all hk
      rw [L_spec_l4Ok_2.e, br_pos (by omega), inB_nat hk]
      simp only [ha', eO_s, Int.toNat_natCast, ho1', eC_c, eI_int, eN_n, wr_succ (show k < 9223372036854775807 by omega)]
      by_cases ht : p.chain[0].store[k].tag.time ≤ p.clock
      · rw [br_neg (by omega), decide_eq_true ht]; rfl
      · rw [br_pos (by omega), decide_eq_false ht]; rfl
    · rw [L_spec_l4Ok_2.e, br_neg (by omega)]
    · exact if_some
  · cases (p.got.zipIdx.all fun x => gotAt p.me x.2 x.1) <;> cases headOk p.chain p.clock <;> rfl
end
end Go.Proofs.YthdfojchihooeaaGreat
namespace Go.Proofs.YthdfojchihooeaaGreat
open Go T
set_option linter.unusedVariables false
set_option linter.unusedSimpArgs false
/-- all hold, one by one, while memory grows -/
theorem all_mv {α : Type} {p : Nat → α → Bool} {l : List α} {h0 : Heap} (L : Nat → Heap → Option (V × Heap)) (res : Bool)
    (step : ∀ i (hi : i < l.length) hh, Mv h0 [] hh [] → ∃ h2, Mv hh [] h2 [] ∧ L i hh = if p i l[i] = true then L (i + 1) h2 else some (.bool false, h2))
    (done : ∀ hh, Mv h0 [] hh [] → ∃ h2, L l.length hh = some (.bool res, h2)) : ∃ h', L 0 h0 = some (.bool ((l.zipIdx.all fun x => p x.2 x.1) && res), h') := by
  have loop : ∀ m i hh, m + i = l.length → Mv h0 [] hh [] → ∃ h', L i hh = some (.bool (((l.zipIdx.drop i).all fun x => p x.2 x.1) && res), h') := by
    intro m
    induction m with
    | zero =>
      intro i hh hi hm
      have : i = l.length := by omega
      subst this
      obtain ⟨h2, e⟩ := done hh hm
      exact ⟨h2, by rw [e, List.drop_of_length_le (by simp)]; rfl⟩
    | succ m ih =>
      intro i hh hi hm
      have hlt : i < l.length := by omega
      obtain ⟨h2, m2, e⟩ := step i hlt hh hm
      rw [e, List.drop_eq_getElem_cons (show i < l.zipIdx.length by simpa using hlt), List.all_cons]
      simp only [List.getElem_zipIdx, Nat.zero_add]
      cases hp : p i l[i] with
      | false => exact ⟨h2, by rw [if_neg Bool.false_ne_true]; rfl⟩
      | true =>
        obtain ⟨h', e'⟩ := ih (i + 1) h2 (by omega) (hm.trans m2)
        exact ⟨h', by rw [if_pos rfl, e']; rfl⟩
  exact loop l.length 0 h0 (by omega) Mv.nil
/-- a slice's own rows -/
theorem rowsOf_sli {α : Type} {El : Rel α} {R e : Nat} {h : Heap} {a : Option (Nat × Nat)} {c : Option Nat} {l : List α} {F : List Nat} (hs : Sli false R e El h [.sl R a l.length c] l F) :
    ∃ rows Fs, (∀ {T : Type} (K : List (List V) → Option T), rowsOf R h (.sl R a l.length c) K = K rows) ∧ EAll El h rows l Fs ∧ (∀ b ∈ Fs.flatten, b ∈ F) ∧ (F.Nodup → Fs.flatten.Nodup) := by
  obtain ⟨R', a', c', e1, e2⟩ := hs
  injection e1 with e1 _; injection e1 with e0 e3 _ e4
  subst e0; subst e3; subst e4
  cases a with
  | none =>
    obtain ⟨rfl, _, _⟩ := e2
    exact ⟨[], [], fun K => rfl, trivial, by simp, by simp⟩
  | some q =>
    obtain ⟨b, i⟩ := q
    obtain ⟨hR, rs, Fs, g1, g2, g3, g4, g5, rfl⟩ := e2
    refine ⟨_, Fs, fun K => ?_, g5, fun b hb => by simp only [List.mem_cons]; exact .inr hb, fun hn => (List.nodup_cons.1 hn).2⟩
    simp only [rowsOf, beq_of, need_t]
    cases hl : l.length with
    | zero => simp
    | succ n => simp only [ldRows, Heap.rows?, g1, Option.bind_some, ble_of (show i + (n + 1) ≤ rs.length by omega), eO_s]
def zeroTag (v : Ver) : Bool := v.tag.time == 0 && v.tag.place == 0
def elemOk (st : List Tag) (clock : Int) (k : Nat) (v : Ver) : Bool := (zeroTag v || under v.past st) && (!decide (k = 0) || decide (v.tag.time ≤ clock))
theorem lessV_time {v u : Ver} (h : lessV v u = true) : v.tag.time ≤ u.tag.time := by
  simp [lessV, less] at h; omega
/-- what waits is no later than what it makes -/
theorem fitsL_time : ∀ {w s t : List Ver}, fitsL s w = some t → s.length = t.length ∧ (∀ k (h1 : k < s.length) (h2 : k < t.length), s[k].tag.time ≤ t[k].tag.time) ∧ ∀ v ∈ w, ∃ h2 : v.key.toNat < t.length, v.tag.time ≤ t[v.key.toNat].tag.time
  | [], s, t, h => by injection h with h; subst h; exact ⟨rfl, fun k _ _ => Int.le_refl _, by simp⟩
  | v :: w, s, t, h => by
    simp only [fitsL] at h
    by_cases hk : v.key.toNat < s.length
    · rw [List.getElem?_eq_getElem hk] at h
      cases hl : lessV s[v.key.toNat] v with
      | false => simp [hl] at h
      | true =>
        simp only [hl, cond_true] at h
        obtain ⟨i1, i2, i3⟩ := fitsL_time h
        rw [List.length_set] at i1
        have ht := lessV_time hl
        refine ⟨i1, fun k h1 h2 => ?_, fun u hu => ?_⟩
        · have := i2 k (by simpa using h1) h2
          rw [List.getElem_set] at this
          split at this
          · rename_i he; subst he; omega
          · exact this
        · rcases List.mem_cons.1 hu with rfl | hu
          · have := i2 u.key.toNat (by simpa using hk) (by omega)
            rw [List.getElem_set_self] at this
            exact ⟨by omega, this⟩
          · exact i3 u hu
    · rw [List.getElem?_eq_none (by omega)] at h; cases h
theorem zeroTag_iff {x : Node} (h : nodeOk x = true) {v : Ver} (hv : v ∈ x.store) : zeroTag v = !decide (v.tag.time > 0) := by
  obtain ⟨i, hi, rfl⟩ := List.mem_iff_getElem.1 hv
  rcases verAt_case (storeOk_get (nodeOk_parts h).1 hi) with g | g
  · have := zero_time g
    unfold zeroTag; rw [this.1, this.2]; rfl
  · have := verOk_time g.1
    unfold zeroTag
    rw [decide_eq_true this, show (x.store[i].tag.time == 0) = false by rw [beq_eq_false_iff_ne]; omega]; rfl
theorem zeroTag_ok {v : Ver} (h : verOk v = true) : zeroTag v = false := by
  have := verOk_time h
  unfold zeroTag
  rw [show (v.tag.time == 0) = false by rw [beq_eq_false_iff_ne]; omega]; rfl
theorem causes_alt {l : List Node} {clock : Int} (hc : chainOk l = true) : (l.zipIdx.all fun x => (x.1.store ++ x.1.wait).all (elemOk (stable l) clock x.2)) = (causesOk l && headOk l clock) := by
  obtain ⟨hl4, hno⟩ := chainOk_all hc
  rw [Bool.eq_iff_iff, Bool.and_eq_true]
  rw [all_zipIdx (p := fun i (x : Node) => (x.store ++ x.wait).all (elemOk (stable l) clock i))]
  unfold causesOk headOk
  rw [List.getElem?_eq_getElem (show 0 < l.length by omega), all_get]
  simp only [List.all_append, Bool.and_eq_true, List.all_eq_true]
  constructor
  · intro hx
    refine ⟨fun i hi => ?_, fun v hv => ?_⟩
    · have hi' := hno _ (List.getElem_mem hi)
      unfold nodeCauses
      simp only [Bool.and_eq_true, List.all_eq_true]
      refine ⟨fun v hv => ?_, fun v hv => ?_⟩
      · have := (hx i hi).1 v hv
        simp only [elemOk, Bool.and_eq_true] at this
        rw [← zeroTag_iff hi' hv]; exact this.1
      · have := (hx i hi).2 v hv
        simp only [elemOk, Bool.and_eq_true, zeroTag_ok ((nodeOk_parts hi').2.2 v hv), Bool.false_or] at this
        exact this.1
    · have := (hx 0 (by omega)).1 v hv
      simp only [elemOk, Bool.and_eq_true] at this
      simpa using this.2
  · rintro ⟨h1, h2⟩ i hi
    have hi' := hno _ (List.getElem_mem hi)
    have h3 := h1 i hi
    unfold nodeCauses at h3
    simp only [Bool.and_eq_true, List.all_eq_true] at h3
    refine ⟨fun v hv => ?_, fun v hv => ?_⟩
    · unfold elemOk
      rw [zeroTag_iff hi' hv, h3.1 v hv, Bool.true_and]
      by_cases h0 : i = 0
      · subst h0; simpa using h2 v hv
      · simp [h0]
    · unfold elemOk
      rw [h3.2 v hv, Bool.or_true, Bool.true_and]
      by_cases h0 : i = 0
      · subst h0
        have hlk := chainOk_link hc hi
        unfold linkAt at hlk
        by_cases h10 : 0 + 1 < l.length
        · rw [List.getElem?_eq_getElem h10] at hlk
          simp only [fits] at hlk
          cases hf : fitsL l[0 + 1].store l[0].wait with
          | none => simp [hf] at hlk
          | some t =>
            simp only [hf] at hlk
            have e := sameVers_iff.1 hlk
            obtain ⟨_, _, g3⟩ := fitsL_time hf
            obtain ⟨g4, g5⟩ := g3 v hv
            have := h2 (l[0].store[v.key.toNat]'(by rw [← e]; exact g4)) (List.getElem_mem _)
            simp only [decide_eq_true_eq] at this
            simp only [← e] at this
            simp only [decide_true, Bool.not_true, Bool.false_or, decide_eq_true_eq]
            omega
        · rw [List.getElem?_eq_none (by omega)] at hlk
          simp only [decide_eq_true_eq] at hlk
          have : l[0].wait = [] := List.eq_nil_of_length_eq_zero hlk
          rw [this] at hv; simp at hv
      · simp [h0]

section
variable {lo : Nat} {h : Heap} {F F' : List Nat} {a a' : Option (Nat × Nat)} {c c' : Option Nat}
theorem impl_tail {b i j : Nat} {l : List Node} (hld : ld h b i j 1 = some [.sl 2 a l.length c]) (hs : RNodes false h [.sl 2 a l.length c] l F) (h0 : 0 < l.length) (hn : l.length ≤ 1048576) :
    ∃ a' c' G, evl lo 127 [.ptr (some (b, i, j))] h = some (.agg [.sl 6 a' (l[l.length - 1]'(by omega)).store.length c'], h) ∧ RVers false h [.sl 6 a' (l[l.length - 1]'(by omega)).store.length c'] (l[l.length - 1]'(by omega)).store G ∧ ∀ y ∈ G, y ∈ F := by
  obtain ⟨o, s1, s2, b1, d1, b2, d2, G1, G2, ha, ho, ho1, ho2, e1, e2, q1, q2, q3, _⟩ := hs.get (show l.length - 1 < l.length by omega)
  refine ⟨b1, d1, G1, E_impl_Chain_tail ?_, q1, q3⟩
  simp only [Nat.add_zero, hld, eO_s, eC_c, eS_sl, eN_n]
  rw [wr (by omega) (by omega), inB_in ⟨by omega, by omega⟩, show ((l.length : Int) - 1).toNat = l.length - 1 by omega]
  simp only [ha, eO_s, ho1, eC_c, e1, eN_n]
theorem app_in {T : Type} {e R bytes b i len : Nat} {rs xs : List (List V)} {K : V → Heap → Option T} (hb : h[b]? = some (.rows R e false rs)) (hl : lo ≤ b) (hf : i + len + xs.length ≤ rs.length) (h0 : 0 < bytes) (hsz : (len + xs.length) * bytes ≤ 140737488355328) :
    app lo e R bytes (.sl R (some (b, i)) len none) xs h K = K (.sl R (some (b, i)) (len + xs.length) none) (h.set b (.rows R e false (rs.take (i + len) ++ xs ++ rs.drop (i + len + xs.length)))) := by
  cases xs with
  | nil =>
    simp only [app, List.length_nil, Nat.add_zero, List.append_nil, List.take_append_drop]
    rw [set_same hb]
  | cons x xs =>
    have hbl : Nat.blt 0 bytes = true := by simpa [Nat.blt_eq] using h0
    have hsz' : decide ((len + (x :: xs).length) * bytes ≤ maxBytes) = true := decide_eq_true hsz
    have hown : Heap.own? lo e h b = some rs := by simp only [Heap.own?, hb, ble_of hl, beq_of]
    have hst : stRows lo h b (i + len) (x :: xs) = some (h.set b (.rows R e false (rs.take (i + len) ++ (x :: xs) ++ rs.drop (i + len + (x :: xs).length)))) := by
      simp only [stRows, hb, ble_of hl, ble_of hf]
    simp only [app, hbl, hsz', need_t, beq_of, hown, eO_s, ble_of hf, hst]
theorem impl_Concat {l1 l2 : List Ver} {a1 a2 : Option (Nat × Nat)} {c1 c2 : Option Nat} {F1 F2 : List Nat} (hs1 : RVers false h [.sl 6 a1 l1.length c1] l1 F1) (hs2 : RVers false h [.sl 6 a2 l2.length c2] l2 F2) (hl1 : l1.length = 4) (hl2 : l2.length ≤ 6) (hlo : lo ≤ h.length) :
    ∃ a' F' h', evl lo 142 [.sl 1 (some (h.length, 0)) 2 (some 2)] (h ++ [.rows 1 72 false [[.sl 6 a1 l1.length c1], [.sl 6 a2 l2.length c2]]]) = some (.sl 6 a' (l1 ++ l2).length none, h') ∧
      RVers false h' [.sl 6 a' (l1 ++ l2).length none] (l1 ++ l2) F' ∧ Mv h [] h' [] := by
  have m0 : Mv h [] (h ++ [.rows 1 72 false [[.sl 6 a1 l1.length c1], [.sl 6 a2 l2.length c2]]]) [] := Mv.snoc
  have hbB : (h ++ [Blk.rows 1 72 false [[.sl 6 a1 l1.length c1], [.sl 6 a2 l2.length c2]]])[h.length]? = some (.rows 1 72 false [[.sl 6 a1 l1.length c1], [.sl 6 a2 l2.length c2]]) := by simp
  have hBl : h.length < (h ++ [Blk.rows 1 72 false [[.sl 6 a1 l1.length c1], [.sl 6 a2 l2.length c2]]]).length := by simp
  generalize hB : h ++ [Blk.rows 1 72 false [[.sl 6 a1 l1.length c1], [.sl 6 a2 l2.length c2]]] = B at *
  have r1 := m0.keep0 rvers_ok hs1
  have r2 := m0.keep0 rvers_ok hs2
  obtain ⟨n, hn⟩ : ∃ n, l1.length + l2.length = n + 1 := ⟨l1.length + l2.length - 1, by omega⟩
  have m1 : Mv B [] (B ++ [.rows 6 65 false (List.replicate (n + 1) [.int .i64 0, .int .i64 0, .int .i64 0, .sl 0 none 0 (some 0), .str ⟨⟨[]⟩⟩, .bool false])]) [] := Mv.snoc
  have hC0 : (B ++ [Blk.rows 6 65 false (List.replicate (n + 1) [V.int .i64 0, .int .i64 0, .int .i64 0, .sl 0 none 0 (some 0), .str ⟨⟨[]⟩⟩, .bool false])])[B.length]? = some (.rows 6 65 false (List.replicate (n + 1) [.int .i64 0, .int .i64 0, .int .i64 0, .sl 0 none 0 (some 0), .str ⟨⟨[]⟩⟩, .bool false])) := by simp
  have grow : evl lo 253 [.sl 0 none 0 (some 0), .int .i64 ((n + 1 : Nat) : Int)] B = some (.sl 6 (some (B.length, 0)) 0 none, B ++ [.rows 6 65 false (List.replicate (n + 1) [.int .i64 0, .int .i64 0, .int .i64 0, .sl 0 none 0 (some 0), .str ⟨⟨[]⟩⟩, .bool false])]) := by
    refine E_slices_Grow_impl_Ver_impl_Ver_z ?_
    have e1 : IntKind.i64.wrap (((0 : Nat) : Int) - ((0 : Nat) : Int)) = 0 := by decide
    have e2 : IntKind.i64.wrap (((n + 1 : Nat) : Int) - 0) = ((n + 1 : Nat) : Int) := by rw [wr (by omega) (by omega)]; omega
    rw [br_neg (by omega)]
    simp only [eO_s, e1, e2]
    rw [br_pos (by omega)]
    have e3 : ∀ {T : Type} (K : Option (Nat × Nat) → Nat → Option Nat → Option T), reslice none 0 (some 0) none (some (.int .i64 0)) none K = K none 0 (some 0) := by
      intro T K
      unfold reslice slMax slHi slLo
      simp only [eI_int]
      rw [inS_in ⟨by decide, by decide⟩]; rfl
    rw [e3, need_of ⟨by omega, by omega⟩, Int.toNat_natCast, List.replicate_succ]
    simp only [app, show Nat.blt 0 72 = true from rfl, need_t]
    rw [need_of (by simp [maxBytes]; omega)]
    simp only [eS_sl]
    unfold reslice slMax slHi slLo
    simp only [eI_int]
    rw [inS_in ⟨by omega, by omega⟩]
    simp [List.replicate_succ]
  have hBle : B.length < (B ++ [Blk.rows 6 65 false (List.replicate (n + 1) [V.int .i64 0, .int .i64 0, .int .i64 0, .sl 0 none 0 (some 0), .str ⟨⟨[]⟩⟩, .bool false])]).length := by simp
  generalize hC : B ++ [Blk.rows 6 65 false (List.replicate (n + 1) [V.int .i64 0, .int .i64 0, .int .i64 0, .sl 0 none 0 (some 0), .str ⟨⟨[]⟩⟩, .bool false])] = C at *
  generalize hz : [V.int .i64 0, .int .i64 0, .int .i64 0, .sl 0 none 0 (some 0), .str ⟨⟨[]⟩⟩, .bool false] = z at hC0
  obtain ⟨rows1, Fs1, er1, ea1, sub1, _⟩ := rowsOf_sli (m1.keep0 rvers_ok r1)
  have len1 := ea1.len.1
  have bd1 := fun y hy => rvers_ok.bd _ _ _ _ r1 y (sub1 y hy)
  -- the first behind nothing
  have frD : ∀ y, y ≠ B.length → (C.set B.length (.rows 6 65 false ((List.replicate (n + 1) z).take (0 + 0) ++ rows1 ++ (List.replicate (n + 1) z).drop (0 + 0 + rows1.length))))[y]? = C[y]? := fun y hy => List.getElem?_set_ne (Ne.symm hy)
  have hD0 : (C.set B.length (.rows 6 65 false ((List.replicate (n + 1) z).take (0 + 0) ++ rows1 ++ (List.replicate (n + 1) z).drop (0 + 0 + rows1.length))))[B.length]? = some (.rows 6 65 false (rows1 ++ List.replicate l2.length z)) := by
    rw [List.getElem?_set_self hBle]
    simp only [Nat.add_zero, List.take_zero, List.nil_append, Nat.zero_add, List.drop_replicate]
    rw [show n + 1 - rows1.length = l2.length by omega]
  have hDl : (C.set B.length (.rows 6 65 false ((List.replicate (n + 1) z).take (0 + 0) ++ rows1 ++ (List.replicate (n + 1) z).drop (0 + 0 + rows1.length)))).length = C.length := by simp
  have e5 := fun {T : Type} (K : V → Heap → Option T) => app_in (lo := lo) (e := 65) (bytes := 72) (i := 0) (len := 0) (xs := rows1) (K := K) hC0 (by omega) (by simp; omega) (by decide) (by omega)
  generalize hD : C.set B.length (.rows 6 65 false ((List.replicate (n + 1) z).take (0 + 0) ++ rows1 ++ (List.replicate (n + 1) z).drop (0 + 0 + rows1.length))) = D at *
  have mD : Mv B [] D [] := ⟨by omega, fun y hy _ => by rw [frD y (by omega)]; exact m1.fr y hy (by simp), by simp, by simp⟩
  obtain ⟨rows2, Fs2, er2, ea2, sub2, _⟩ := rowsOf_sli (mD.keep0 rvers_ok r2)
  have len2 := ea2.len.1
  have bd2 := fun y hy => rvers_ok.bd _ _ _ _ r2 y (sub2 y hy)
  have e6 := fun {T : Type} (K : V → Heap → Option T) => app_in (lo := lo) (e := 65) (bytes := 72) (i := 0) (len := 4) (xs := rows2) (K := K) hD0 (by omega) (by simp; omega) (by decide) (by omega)
  have hDle : B.length < D.length := by omega
  have hE0 : (D.set B.length (.rows 6 65 false ((rows1 ++ List.replicate l2.length z).take (0 + 4) ++ rows2 ++ (rows1 ++ List.replicate l2.length z).drop (0 + 4 + rows2.length))))[B.length]? = some (.rows 6 65 false (rows1 ++ rows2)) := by
    rw [List.getElem?_set_self hDle]
    rw [List.take_append_of_le_length (by omega), List.take_of_length_le (by omega), List.drop_of_length_le (by simp; omega), List.append_nil]
  have frE : ∀ y, y ≠ B.length → (D.set B.length (.rows 6 65 false ((rows1 ++ List.replicate l2.length z).take (0 + 4) ++ rows2 ++ (rows1 ++ List.replicate l2.length z).drop (0 + 4 + rows2.length))))[y]? = D[y]? := fun y hy => List.getElem?_set_ne (Ne.symm hy)
  have hEl : (D.set B.length (.rows 6 65 false ((rows1 ++ List.replicate l2.length z).take (0 + 4) ++ rows2 ++ (rows1 ++ List.replicate l2.length z).drop (0 + 4 + rows2.length)))).length = D.length := by simp
  generalize hE : D.set B.length (.rows 6 65 false ((rows1 ++ List.replicate l2.length z).take (0 + 4) ++ rows2 ++ (rows1 ++ List.replicate l2.length z).drop (0 + 4 + rows2.length))) = E at *
  have ldB : ∀ {X : Heap} (k : Nat) {v : V}, X[h.length]? = some (.rows 1 72 false [[.sl 6 a1 l1.length c1], [.sl 6 a2 l2.length c2]]) → ([[V.sl 6 a1 l1.length c1], [.sl 6 a2 l2.length c2]] : List (List V))[k]? = some [v] → ld X h.length k 0 1 = some [v] := fun k v hb hk => by rw [ld_of hb hk]; rfl
  refine ⟨some (B.length, 0), B.length :: (Fs1 ++ Fs2).flatten, E, E_slices_Concat_impl_Ver_impl_Ver ?_, ⟨6, some (B.length, 0), none, by simp, rfl, rows1 ++ rows2, Fs1 ++ Fs2, hE0, by simp; omega, fun k hk => (by cases hk), fun _ => rfl, ?_, rfl⟩, ⟨by omega, fun y hy _ => by rw [frE y (by omega), frD y (by omega), m1.fr y (by omega) (by simp)]; exact m0.fr y hy (by simp), by simp, by simp⟩⟩
  · have hBC : C[h.length]? = some (.rows 1 72 false [[.sl 6 a1 l1.length c1], [.sl 6 a2 l2.length c2]]) := by rw [m1.fr _ hBl (by simp)]; exact hbB
    have hBD : D[h.length]? = some (.rows 1 72 false [[.sl 6 a1 l1.length c1], [.sl 6 a2 l2.length c2]]) := by rw [frD _ (by omega)]; exact hBC
    have w1 : IntKind.i64.wrap (0 + (l1.length : Int)) = (l1.length : Int) := by rw [wr (by omega) (by omega)]; omega
    have w2 : IntKind.i64.wrap ((l1.length : Int) + (l2.length : Int)) = ((n + 1 : Nat) : Int) := by rw [wr (by omega) (by omega)]; omega
    have w3 : IntKind.i64.wrap (0 + 1) = 1 := by decide
    have w4 : IntKind.i64.wrap (1 + 1) = 2 := by decide
    rw [L_slices_Concat_impl_Ver_impl_Ver_0.e, br_pos (by decide), inB_in ⟨by decide, by decide⟩]
    simp only [eO_s, Nat.zero_add, show Int.toNat 0 = 0 from rfl]
    rw [ldB 0 hbB rfl]
    simp only [eO_s, eC_c, eN_n, eS_sl, w1, w3]
    rw [br_neg (by omega), L_slices_Concat_impl_Ver_impl_Ver_0.e, br_pos (by decide), inB_in ⟨by decide, by decide⟩]
    simp only [eO_s, Nat.zero_add, show Int.toNat 1 = 1 from rfl]
    rw [ldB 1 hbB rfl]
    simp only [eO_s, eC_c, eN_n, eS_sl, w2, w4]
    rw [br_neg (by omega), L_slices_Concat_impl_Ver_impl_Ver_0.e, br_neg (by decide), grow]
    simp only [cal_s, eS_sl]
    rw [L_slices_Concat_impl_Ver_impl_Ver_2.e, br_pos (by decide), inB_in ⟨by decide, by decide⟩]
    simp only [eO_s, Nat.zero_add, show Int.toNat 0 = 0 from rfl]
    rw [ldB 0 hBC rfl]
    simp only [eO_s, eC_c, eN_n, eS_sl, w3]
    rw [er1, e5]
    simp only [eS_sl]
    rw [L_slices_Concat_impl_Ver_impl_Ver_2.e, br_pos (by decide), inB_in ⟨by decide, by decide⟩]
    simp only [eO_s, Nat.zero_add, show Int.toNat 1 = 1 from rfl]
    rw [ldB 1 hBD rfl]
    simp only [eO_s, eC_c, eN_n, eS_sl, w4]
    rw [er2, show rows1.length = 4 by omega, e6]
    simp only [eS_sl]
    rw [L_slices_Concat_impl_Ver_impl_Ver_2.e, br_neg (by decide)]
    rw [show 4 + rows2.length = (l1 ++ l2).length by simp; omega]
  · rw [List.drop_zero, List.take_of_length_le (by simp; omega)]
    refine EAll.append (ea1.fr rver_ok.fr fun y hy => ?_) (ea2.fr rver_ok.fr fun y hy => frE y ?_)
    · have := bd1 y hy
      rw [frE y (by omega), frD y (by omega)]
    · have := bd2 y hy; omega
end
end Go.Proofs.YthdfojchihooeaaGreat
namespace Go.Proofs.YthdfojchihooeaaGreat
open Go T
set_option linter.unusedVariables false
set_option linter.unusedSimpArgs false
section
variable {lo : Nat} {h : Heap} {F F' : List Nat} {a a' : Option (Nat × Nat)} {c c' : Option Nat}
theorem impl_PlaceOk {p : Place} {a1 a2 a3 : Option (Nat × Nat)} {c1 c2 c3 : Option Nat} {F1 F2 F3 : List Nat} (hs1 : RNodes false h [.sl 2 a1 p.chain.length c1] p.chain F1) (hs2 : RVers false h [.sl 6 a2 p.log.length c2] p.log F2)
    (hs3 : RVss false h [.sl 1 a3 p.got.length c3] p.got F3) (hn : smPlace p) : evl lo 52 [.agg (p.cs a1 c1 a2 c2 a3 c3)] h = some (.bool (placeOk p), h) := by
  suffices hk : ∃ h', _ = some (V.bool (placeOk p), h') from hk.elim fun h' hk => E_impl_PlaceOk hk
  have m0 : Mv h [] (h ++ [.rows 6 89 false [p.cs a1 c1 a2 c2 a3 c3]]) [] := Mv.snoc
  have hB0 : (h ++ [Blk.rows 6 89 false [p.cs a1 c1 a2 c2 a3 c3]])[h.length]? = some (.rows 6 89 false [p.cs a1 c1 a2 c2 a3 c3]) := by simp
  have hBl : h.length < (h ++ [Blk.rows 6 89 false [p.cs a1 c1 a2 c2 a3 c3]]).length := by simp
  generalize hB : h ++ [Blk.rows 6 89 false [p.cs a1 c1 a2 c2 a3 c3]] = B at *
  have r1 := m0.keep0 rnodes_ok hs1
  have r2 := m0.keep0 rvers_ok hs2
  have r3 := m0.keep0 rvss_ok hs3
  have ld1 : ∀ {X : Heap} (j : Nat) {v : V}, X[h.length]? = some (.rows 6 89 false [p.cs a1 c1 a2 c2 a3 c3]) → (p.cs a1 c1 a2 c2 a3 c3)[j]? = some v → ld X h.length 0 j 1 = some [v] := fun j v hb hv => by
    rw [ld_of hb rfl]; exact cut_one hv
  rw [ld1 0 hB0 rfl]; simp only [eO_s, eC_c, eN_n, eI_int]
  rw [impl_placeOk]; simp only [cal_s, eB_b]
  unfold placeOk
  cases within p.me 0 2 with
  | false => exact ⟨_, rfl⟩
  | true =>
  rw [br_t, ld1 1 hB0 rfl]; simp only [eO_s, eC_c, eN_n, eI_int]
  rw [impl_within]; simp only [cal_s, eB_b]
  cases within p.clock 0 999 with
  | false => exact ⟨_, rfl⟩
  | true =>
  rw [br_t, ld1 2 hB0 rfl]; simp only [eO_s, eC_c, eN_n, eS_sl]
  rw [impl_ChainOk r1 hn.1]; simp only [cal_s, eB_b]
  cases hc : chainOk p.chain with
  | false => exact ⟨_, by rw [Bool.and_false]; rfl⟩
  | true =>
  rw [br_t, ld1 3 hB0 rfl]; simp only [eO_s, eC_c, eN_n, eS_sl]
  rw [ld1 0 hB0 rfl]; simp only [eO_s, eC_c, eN_n, eI_int]
  rw [impl_logOk r2 hn.2.1]; simp only [cal_s, eB_b]
  cases logOk p.me p.log with
  | false => exact ⟨_, by rw [Bool.and_false]; rfl⟩
  | true =>
  rw [br_t, ld1 4 hB0 rfl]; simp only [eO_s, eC_c, eN_n, eS_sl]
  by_cases hg : ¬ p.got.length = 3
  · rw [show ((p.got.length : Int) == 3) = false by rw [beq_eq_false_iff_ne]; omega, decide_eq_false hg]
    exact ⟨_, by rw [Bool.and_false]; rfl⟩
  have hg : p.got.length = 3 := by omega
  rw [show ((p.got.length : Int) == 3) = true by rw [beq_iff_eq]; omega, decide_eq_true hg, br_t]
  obtain ⟨hl4, hno⟩ := chainOk_all hc
  obtain ⟨at', ct, Gt, et, rt, _⟩ := impl_tail (lo := h.length) (ld1 2 hB0 rfl) r1 (by omega) (by omega)
  rw [et]; simp only [cal_s, eA_a, eC_c, eS_sl, eN_n]
  have hsl := storeOk_len (nodeOk_parts (hno _ (List.getElem_mem (show p.chain.length - 1 < p.chain.length by omega)))).1
  obtain ⟨vg, hg1, Gg, eg, rg, mg⟩ := impl_tags (lo := h.length) rt m0.le hsl
  obtain ⟨ag, cg, esg, rg⟩ := rg.form
  rw [← last_get (by omega)] at rg esg
  have hst := stable_len hc
  rw [eg]; simp only [cal_s, eA_a, eC_c, esg, eN_n]
  have hG0 : hg1[h.length]? = some (.rows 6 89 false [p.cs a1 c1 a2 c2 a3 c3]) := by rw [mg.fr _ hBl (by simp)]; exact hB0
  rw [ld1 2 hG0 rfl]; simp only [eO_s, eC_c, eN_n, eS_sl]
  have r1' := mg.keep0 rnodes_ok r1
  have r3' := mg.keep0 rvss_ok r3
  have key := all_mv (p := fun i (x : Node) => (x.store ++ x.wait).all (elemOk (stable p.chain) p.clock i)) (l := p.chain) (h0 := hg1) (fun i hh => L_impl_PlaceOk_0 (List.length h) (List.length h) 0 0 false a1 p.chain.length c1 (p.chain.length : Nat) (i : Nat) ag (stable p.chain).length cg hh)
    (p.got.zipIdx.all fun x => gotAt p.me x.2 x.1) (fun i hi hh hm => by
      have hni := hno _ (List.getElem_mem hi)
      obtain ⟨g1, g2, g3⟩ := nodeOk_parts hni
      obtain ⟨o, s1, s2, b1, d1, b2, d2, G1, G2, ha, ho, _, _, e1, e2, q1, q2, _⟩ := (hm.keep0 rnodes_ok r1').get hi
      obtain ⟨a5, F5, h5, e5, r5, m5⟩ := impl_Concat (lo := h.length) q1 q2 (storeOk_len g1) g2 (Nat.le_trans (Nat.le_of_lt hBl) (Nat.le_trans mg.le hm.le))
      have hmh : Mv hg1 [] h5 [] := hm.trans m5
      have hH0 : h5[h.length]? = some (.rows 6 89 false [p.cs a1 c1 a2 c2 a3 c3]) := by rw [hmh.fr _ (Nat.lt_of_lt_of_le hBl mg.le) (by simp)]; exact hG0
      have rgs := hmh.keep0 rtags_ok rg
      refine ⟨h5, m5, ?_⟩
      rw [L_impl_PlaceOk_0.e, br_pos (by omega), inB_nat hi]
      simp only [ha, eO_s, Int.toNat_natCast, ho, eC_c, e1, e2, eN_n]
      rw [e5]
      simp only [cal_s, eS_sl]
      rw [← ha]
      have hlen : (p.chain[i].store ++ p.chain[i].wait).length ≤ 10 := by rw [List.length_append, storeOk_len g1]; omega
      refine (all_loop (p := elemOk (stable p.chain) p.clock i) (l := p.chain[i].store ++ p.chain[i].wait) (fun k => L_impl_PlaceOk_2 (List.length h) (List.length h) 0 0 false (i : Nat) a1 p.chain.length c1 (p.chain.length : Nat) (i : Nat) a5 (p.chain[i].store ++ p.chain[i].wait).length none ((p.chain[i].store ++ p.chain[i].wait).length : Nat) (k : Nat) ag (stable p.chain).length cg h5) (some (.bool false, h5)) (L_impl_PlaceOk_0 (List.length h) (List.length h) 0 0 false a1 p.chain.length c1 (p.chain.length : Nat) ((i + 1 : Nat) : Int) ag (stable p.chain).length cg h5) (fun k hk => ?_) ?_).trans ?_
      · obtain ⟨o', s, b, d, G, ha', ho', es, hp, _⟩ := r5.get hk
        rw [L_impl_PlaceOk_2.e, br_pos (by omega), inB_nat hk]
        simp only [ha', eO_s, Int.toNat_natCast, ho', eC_c, eI_int, es, eT_s, eBv_b, eN_n, Bool.and_true, wr_succ (show k < 9223372036854775807 by omega), Nat.zero_add]
        rw [ld1 1 hH0 rfl]
        simp only [eO_s, eC_c, eN_n, eI_int]
        have hk0 : ((i : Int) == 0) = decide (i = 0) := by rw [Bool.eq_iff_iff, beq_iff_eq, decide_eq_true_eq]; omega
        rw [hk0]
        have elem : elemOk (stable p.chain) p.clock i (p.chain[i].store ++ p.chain[i].wait)[k] = ((zeroTag (p.chain[i].store ++ p.chain[i].wait)[k] || under (p.chain[i].store ++ p.chain[i].wait)[k].past (stable p.chain)) && (!decide (i = 0) || decide ((p.chain[i].store ++ p.chain[i].wait)[k].tag.time ≤ p.clock))) := rfl
        have past4 : zeroTag (p.chain[i].store ++ p.chain[i].wait)[k] = false → (p.chain[i].store ++ p.chain[i].wait)[k].past.length = 4 := by
          intro hz
          have hmem : (p.chain[i].store ++ p.chain[i].wait)[k] ∈ p.chain[i].store ++ p.chain[i].wait := List.getElem_mem hk
          rw [List.mem_append] at hmem
          rcases hmem with hmem | hmem
          · obtain ⟨j, hj, ej⟩ := List.mem_iff_getElem.1 hmem
            rw [← ej] at hz ⊢
            exact store_past hni hj (by have := zeroTag_iff hni (List.getElem_mem hj); rw [hz] at this; simpa using this)
          · obtain ⟨j, hj, ej⟩ := List.mem_iff_getElem.1 hmem
            rw [← ej]; exact wait_past hni hj
        rw [elem]
        generalize (p.chain[i].store ++ p.chain[i].wait)[k] = u at *
        have htm : ∀ {T : Type} (x y : Option T), br (decide (u.tag.time > p.clock)) x y = br (!decide (u.tag.time ≤ p.clock)) x y := by
          intro T x y
          by_cases ht : u.tag.time ≤ p.clock
          · rw [br_neg (by omega), decide_eq_true ht]; rfl
          · rw [br_pos (by omega), decide_eq_false ht]; rfl
        simp only [htm]
        show br (zeroTag u) _ _ = _
        cases hz : zeroTag u with
        | true =>
          cases decide (i = 0) <;> cases decide (u.tag.time ≤ p.clock) <;> simp only [br_t, br_f, Bool.not_true, Bool.not_false, Bool.true_and, Bool.false_and, Bool.and_true, Bool.and_false, Bool.true_or, Bool.false_or, Bool.or_true, Bool.or_false, cond_true, cond_false, if_true, if_false, Bool.false_eq_true]
        | false =>
          have hu4 := past4 hz
          rw [br_f, impl_under hp rgs (by omega) (by omega)]
          simp only [cal_s, eB_b]
          rw [ld1 1 hH0 rfl]
          simp only [eO_s, eC_c, eN_n, eI_int, htm]
          cases under u.past (stable p.chain) <;> cases decide (i = 0) <;> cases decide (u.tag.time ≤ p.clock) <;> simp only [br_t, br_f, Bool.not_true, Bool.not_false, Bool.true_and, Bool.false_and, Bool.and_true, Bool.and_false, Bool.true_or, Bool.false_or, Bool.or_true, Bool.or_false, cond_true, cond_false, if_true, if_false, Bool.false_eq_true]
      · rw [L_impl_PlaceOk_2.e, br_neg (by omega), wr_succ (by omega)]
      · rfl) (fun hh hm => by
      have hH0 : hh[h.length]? = some (.rows 6 89 false [p.cs a1 c1 a2 c2 a3 c3]) := by rw [hm.fr _ (Nat.lt_of_lt_of_le hBl mg.le) (by simp)]; exact hG0
      have r3s := hm.keep0 rvss_ok r3'
      refine ⟨hh, ?_⟩
      rw [L_impl_PlaceOk_0.e, br_neg (by omega)]
      simp only [Nat.zero_add]
      rw [ld1 4 hH0 rfl]; simp only [eO_s, eC_c, eN_n, eS_sl]
      refine (all_idx (p := gotAt p.me) (l := p.got) (fun i => L_impl_PlaceOk_4 (List.length h) (List.length h) 0 0 false a3 p.got.length c3 (p.got.length : Nat) (i : Nat) hh) (some (.bool false, hh)) (some (.bool true, hh)) (fun i hi => ?_) ?_).trans if_some
      · obtain ⟨o, s, b, d, G, ha, ho, es, hp, _⟩ := r3s.get hi
        rw [L_impl_PlaceOk_4.e, br_pos (by omega), inB_nat hi]
        simp only [ha, eO_s, Int.toNat_natCast, ho, eC_c, es, eN_n, Nat.add_zero]
        rw [impl_logOk hp (hn.2.2.2 _ (List.getElem_mem hi)), ]
        simp only [cal_s, eB_b]
        rw [ld1 0 hH0 rfl]
        simp only [eO_s, eC_c, eN_n, eI_int, wr_succ (show i < 9223372036854775807 by omega)]
        unfold gotAt
        by_cases h0 : p.got[i].length = 0
        · rw [br_neg (by omega), decide_eq_true h0]
          cases logOk i p.got[i] <;> cases ((i : Int) == p.me) <;> rfl
        · rw [br_pos (by omega), decide_eq_false h0]
          cases logOk i p.got[i] <;> cases ((i : Int) == p.me) <;> rfl
      · rw [L_impl_PlaceOk_4.e, br_neg (by omega)])
  rw [causes_alt hc] at key
  obtain ⟨h', e⟩ := key
  refine ⟨h', e.trans ?_⟩
  cases causesOk p.chain <;> cases headOk p.chain p.clock <;> cases (p.got.zipIdx.all fun x => gotAt p.me x.2 x.1) <;> rfl
end
end Go.Proofs.YthdfojchihooeaaGreat
namespace Go.Proofs.YthdfojchihooeaaGreat
open Go T
set_option linter.unusedVariables false
set_option linter.unusedSimpArgs false
section
variable {h h' h'' : Heap} {F F' F'' G : List Nat}
/-- what lies below stays -/
theorem Mv.keepB {α : Type} {El : Rel α} {cs : List V} {x : α} (a : Mv h F h' F') (ok : El.Ok) (he : El h cs x G) {m : Nat} (hG : ∀ b ∈ G, b < m) (hF : ∀ b ∈ F, m ≤ b) : El h' cs x G :=
  a.keep ok he fun b hb hm => by have := hG b hb; have := hF b hm; omega
theorem Mv.keepA {α : Type} {El : Rel α} {cs : List V} {x : α} (a : Mv h F h' F') (ok : El.Ok) (he : El h cs x G) {m : Nat} (hG : ∀ b ∈ G, m ≤ b) (hF : ∀ b ∈ F, b < m) : El h' cs x G :=
  a.keep ok he fun b hb hm => by have := hG b hb; have := hF b hm; omega
theorem Mv.inv (a : Mv h [] h' F') : ∀ b ∈ F', h.length ≤ b ∧ b < h'.length := fun b hb => by
  rcases a.sub b hb with h1 | h1
  · simp at h1
  · exact h1
end
theorem exact_story {α β : Type} {Ra Rx : Rel α} {Rr : Rel β} (okA : Ra.Ok) (okX : Rx.Ok) (okR : Rr.Ok) {h : Heap} {a0 : List V} {x : α} {y y' : β} {F0 : List Nat} (ha : Ra h a0 x F0)
    {TO TO' : Heap → List V → Heap → Prop} {SP IM : List V → Heap → List V → Heap → Prop} {MX MR : List V → Heap → Heap → Prop}
    (hto : ∀ hh F, h.length ≤ hh.length → Ra hh a0 x F → ∃ cs h' F', TO hh cs h' ∧ Rx h' cs x F' ∧ Mv hh [] h' F')
    (hto' : ∀ hh F, h.length ≤ hh.length → Ra hh a0 x F → ∃ cs h' F', TO' hh cs h' ∧ Rx h' cs x F' ∧ Mv hh [] h' F')
    (hsp : ∀ cs hh F, h.length ≤ hh.length → Rx hh cs x F → F.Nodup → (∀ b ∈ F, h.length ≤ b) → ∃ r h' F', SP cs hh r h' ∧ Rr h' r y F' ∧ Mv hh [] h' F')
    (him : ∀ cs hh F, h.length ≤ hh.length → Rx hh cs x F → F.Nodup → (∀ b ∈ F, h.length ≤ b) → ∃ r h' F', IM cs hh r h' ∧ Rr h' r y F' ∧ Mv hh [] h' F')
    (hmx : ∀ cs hh F, Rx hh cs x F → F.Nodup → (∀ b ∈ F, h.length ≤ b) → ∃ h', MX cs hh h' ∧ Mv hh F h' F)
    (hmr : ∀ cs hh F, Rr hh cs y F → F.Nodup → (∀ b ∈ F, h.length ≤ b) → ∃ h', MR cs hh h' ∧ Rr h' cs y' F ∧ Mv hh F h' F) :
    ∃ c1 h1 w h2 c3 h3 g h4 c5 h5 h6 h7 c8 h8 g9 h9, TO h c1 h1 ∧ SP c1 h1 w h2 ∧ TO h2 c3 h3 ∧ IM c3 h3 g h4 ∧ TO' h4 c5 h5 ∧ MX c3 h5 h6 ∧ MR g h6 h7 ∧ TO h7 c8 h8 ∧ IM c8 h8 g9 h9 ∧
      ((∃ F, Rx h1 c1 x F) ∧ (∃ F, Rx h3 c3 x F) ∧ (∃ F, Rx h8 c8 x F)) ∧ ((∃ F, Rr h2 w y F) ∧ (∃ F, Rr h4 g y F) ∧ (∃ F, Rr h4 w y F)) ∧ ((∀ hm, Mv h4 [] hm [] → ∃ F, Rx hm c3 x F) ∧ (∃ F, Rx h5 c3 x F) ∧ (∃ F, Rx h5 c5 x F)) ∧ ((∃ F, Rr h6 g y F) ∧ (∃ F, Rr h6 w y F)) ∧
      (∃ F, Rr h7 g y' F) ∧ ((∃ F, Rr h9 g9 y F) ∧ (∃ F, Rr h9 w y F)) ∧ (∃ F, Rr h9 g y' F) := by
  obtain ⟨c1, h1, X1, t1, x1, m1⟩ := hto h F0 (Nat.le_refl _) ha
  have b1 := m1.inv
  obtain ⟨w, h2, W, s2, w2, m2⟩ := hsp c1 h1 X1 m1.le x1 m1.nd (fun b hb => (b1 b hb).1)
  have b2 := m2.inv
  have l1 := m1.le
  have l2 := m2.le
  have a2 := m2.keep0 okA (m1.keep0 okA ha)
  obtain ⟨c3, h3, X3, t3, x3, m3⟩ := hto h2 F0 (by omega) a2
  have b3 := m3.inv
  have l3 := m3.le
  obtain ⟨g, h4, G, i4, g4, m4⟩ := him c3 h3 X3 (by omega) x3 m3.nd (fun b hb => by have := b3 b hb; omega)
  have b4 := m4.inv
  have l4 := m4.le
  have w4 := m4.keep0 okR (m3.keep0 okR w2)
  have x4 := m4.keep0 okX x3
  have a4 := m4.keep0 okA (m3.keep0 okA a2)
  obtain ⟨c5, h5, X5, t5, x5, m5⟩ := hto' h4 F0 (by omega) a4
  have l5 := m5.le
  have w5 := m5.keep0 okR w4
  have g5 := m5.keep0 okR g4
  have x35 := m5.keep0 okX x4
  have a5 := m5.keep0 okA a4
  have bA := okA.bd _ _ _ _ ha
  obtain ⟨h6, p6, m6⟩ := hmx c3 h5 X3 x35 m3.nd (fun b hb => by have := b3 b hb; omega)
  have w6 := m6.keepB okR w5 (m := h2.length) (fun b hb => (b2 b hb).2) (fun b hb => (b3 b hb).1)
  have g6 := m6.keepA okR g5 (m := h3.length) (fun b hb => (b4 b hb).1) (fun b hb => (b3 b hb).2)
  have a6 := m6.keepB okA a5 (m := h.length) bA (fun b hb => by have := b3 b hb; omega)
  obtain ⟨h7, p7, g7, m7⟩ := hmr g h6 G g6 m4.nd (fun b hb => by have := b4 b hb; omega)
  have w7 := m7.keepB okR w6 (m := h2.length) (fun b hb => (b2 b hb).2) (fun b hb => by have := b4 b hb; omega)
  have a7 := m7.keepB okA a6 (m := h.length) bA (fun b hb => by have := b4 b hb; omega)
  have l6 := m6.le
  have l7 := m7.le
  obtain ⟨c8, h8, X8, t8, x8, m8⟩ := hto h7 F0 (by omega) a7
  have b8 := m8.inv
  have l8 := m8.le
  obtain ⟨g9, h9, G9, i9, r9, m9⟩ := him c8 h8 X8 (by omega) x8 m8.nd (fun b hb => by have := b8 b hb; omega)
  exact ⟨c1, h1, w, h2, c3, h3, g, h4, c5, h5, h6, h7, c8, h8, g9, h9, t1, s2, t3, i4, t5, p6, p7, t8, i9, ⟨⟨_, x1⟩, ⟨_, x3⟩, ⟨_, x8⟩⟩, ⟨⟨_, w2⟩, ⟨_, g4⟩, ⟨_, w4⟩⟩, ⟨fun hm mm => ⟨_, mm.keep0 okX x4⟩, ⟨_, x35⟩, ⟨_, x5⟩⟩, ⟨⟨_, g6⟩, ⟨_, w6⟩⟩, ⟨_, g7⟩,
    ⟨⟨_, r9⟩, ⟨_, m9.keep0 okR (m8.keep0 okR w7)⟩⟩, ⟨_, m9.keep0 okR (m8.keep0 okR g7)⟩⟩
end Go.Proofs.YthdfojchihooeaaGreat
namespace Go.Proofs.YthdfojchihooeaaGreat
open Go T
set_option linter.unusedVariables false
set_option linter.unusedSimpArgs false
set_option maxRecDepth 100000
section
variable {h : Heap}
theorem tv_struct {n t : Nat} {fs : Array Field} {xs : List V} (hu : Tryz.prog.underlying t = some (.struct fs)) (hx : TV Tryz.prog h (n + 1) t xs) : TVs Tryz.prog (TV Tryz.prog h n) fs.toList xs := by
  simp only [TV, hu] at hx; exact hx
theorem tv_int {n t : Nat} {xs : List V} (hu : Tryz.prog.underlying t = some (.int .i64)) (hx : TV Tryz.prog h (n + 1) t xs) : ∃ i : Int, xs = [.int .i64 i] ∧ -9223372036854775808 ≤ i ∧ i ≤ 9223372036854775807 := by
  simp only [TV, hu] at hx
  obtain ⟨i, h1, h2⟩ := hx
  refine ⟨i, h1, ?_⟩
  have e1 : IntKind.i64.min = -9223372036854775808 := by decide
  have e2 : IntKind.i64.max = 9223372036854775807 := by decide
  simp only [Lit.wf, Bool.and_eq_true, decide_eq_true_eq] at h2
  omega
theorem tv_str {n t : Nat} {xs : List V} (hu : Tryz.prog.underlying t = some .string) (hx : TV Tryz.prog h (n + 1) t xs) : ∃ s : ByteArray, xs = [.str s] ∧ s.size ≤ maxLen := by
  simp only [TV, hu] at hx; exact hx
theorem tv_bool {n t : Nat} {xs : List V} (hu : Tryz.prog.underlying t = some .bool) (hx : TV Tryz.prog h (n + 1) t xs) : ∃ b : Bool, xs = [.bool b] := by
  simp only [TV, hu] at hx; exact hx
theorem tv_sli {α : Type} {El : Rel α} {bd : α → Prop} {n t e ee R : Nat} {xs : List V} (hu : Tryz.prog.underlying t = some (.slice e)) (hR : Tryz.prog.cellsOf e = R) (hel : ∀ row, TV Tryz.prog h n e row → ∃ x F, El h row x F ∧ bd x) (hx : TV Tryz.prog h (n + 1) t xs) :
    ∃ l F, Sli true R ee El h xs l F ∧ l.length ≤ maxLen ∧ ∀ x ∈ l, bd x := by
  simp only [TV, hu] at hx
  obtain ⟨a, c, rs, rfl, h2, h3, h4⟩ := hx
  have all : ∀ rs : List (List V), (∀ row ∈ rs, TV Tryz.prog h n e row) → ∃ l Fs, EAll El h rs l Fs ∧ l.length = rs.length ∧ ∀ x ∈ l, bd x := by
    intro rs
    induction rs with
    | nil => intro _; exact ⟨[], [], trivial, rfl, by simp⟩
    | cons r rs ih =>
      intro hr
      obtain ⟨l, Fs, g1, g2, g3⟩ := ih fun row hrow => hr row (by simp [hrow])
      obtain ⟨x, F, g4, g5⟩ := hel r (hr r (by simp))
      exact ⟨x :: l, F :: Fs, ⟨g4, g1⟩, by simp [g2], fun y hy => by
        rcases List.mem_cons.1 hy with rfl | hy
        · exact g5
        · exact g3 y hy⟩
  obtain ⟨l, Fs, g1, g2, g3⟩ := all rs fun row hr => (h3 row hr).2
  rcases h4 with rfl | ⟨b, rfl, hb⟩
  · have : l = [] := List.eq_nil_of_length_eq_zero (by simpa using g2)
    subst this
    exact ⟨[], [], ⟨R, a, c, by rw [hR]; rfl, rfl, .inl ⟨rfl, rfl⟩⟩, Nat.zero_le _, by simp⟩
  · refine ⟨l, b :: Fs.flatten, ⟨R, some (b, 0), c, by rw [hR, g2], rfl, .inr ⟨b, 0, rs, Fs, rfl, hb, by omega, ?_, rfl⟩⟩, by omega, g3⟩
    rw [List.drop_zero, List.take_of_length_le (by omega)]; exact g1
theorem av_agg {n t : Nat} {fs : Array Field} {x : V} (hu : Tryz.prog.underlying t = some (.struct fs)) (hx : ArgV Tryz.prog h n t x) : ∃ xs, x = .agg xs ∧ TV Tryz.prog h n t xs := by
  unfold ArgV at hx
  rw [hu] at hx; exact hx
theorem av_int {n : Nat} {x : V} (hx : ArgV Tryz.prog h (n + 1) 3 x) : ∃ i : Int, x = .int .i64 i ∧ -9223372036854775808 ≤ i ∧ i ≤ 9223372036854775807 := by
  obtain ⟨i, hi, hb⟩ := tv_int Tryz.underlying3 (by unfold ArgV at hx; rw [Tryz.underlying3] at hx; exact hx)
  injection hi with hi _
  exact ⟨i, hi, hb⟩
theorem tv_Tag {n : Nat} {xs : List V} (hx : TV Tryz.prog h (n + 2) 192 xs) : ∃ t : Tag, xs = t.cs := by
  obtain ⟨y1, z1, rfl, _, g1, y2, z2, rfl, _, g2, rfl⟩ := tv_struct Tryz.underlying192 hx
  obtain ⟨i, rfl, _⟩ := tv_int Tryz.underlying3 g1
  obtain ⟨j, rfl, _⟩ := tv_int Tryz.underlying3 g2
  exact ⟨⟨i, j⟩, rfl⟩
theorem tv_TagS {n : Nat} {xs : List V} (hx : TV Tryz.prog h (n + 3) 189 xs) : ∃ l F, RTags true h xs l F ∧ l.length ≤ maxLen := by
  obtain ⟨l, F, h1, h2, _⟩ := tv_sli (El := flat Tag.cs) (bd := fun _ => True) (ee := eTag true) (R := 2) Tryz.underlying189 (by kernel_rfl) (fun row hr => by obtain ⟨t, rfl⟩ := tv_Tag (n := n) hr; exact ⟨t, [], ⟨rfl, rfl⟩, trivial⟩) hx
  exact ⟨l, F, h1, h2⟩
theorem tv_Past {n : Nat} {xs : List V} (hx : TV Tryz.prog h (n + 4) 191 xs) : ∃ l F, RTags true h xs l F ∧ l.length ≤ maxLen := by
  obtain ⟨y1, z1, rfl, _, g1, rfl⟩ := tv_struct Tryz.underlying191 hx
  rw [List.append_nil]; exact tv_TagS g1
theorem tv_Ver {n : Nat} {xs : List V} (hx : TV Tryz.prog h (n + 5) 197 xs) : ∃ v F, RVer true h xs v F ∧ bdVer v := by
  obtain ⟨y1, z1, rfl, _, g1, y2, z2, rfl, _, g2, y3, z3, rfl, _, g3, y4, z4, rfl, _, g4, y5, z5, rfl, _, g5, rfl⟩ := tv_struct Tryz.underlying197 hx
  obtain ⟨i, rfl, _⟩ := tv_int Tryz.underlying3 g1
  obtain ⟨t, rfl⟩ := tv_Tag g2
  obtain ⟨l, F, g3, g3'⟩ := tv_Past (n := n) g3
  obtain ⟨s, rfl, g4'⟩ := tv_str Tryz.underlying9 g4
  obtain ⟨b, rfl⟩ := tv_bool Tryz.underlying4 g5
  have : ∃ v, y3 = [v] := by obtain ⟨R', a, c, e, _⟩ := g3; exact ⟨_, e⟩
  obtain ⟨v, rfl⟩ := this
  exact ⟨⟨i, t, l, s, b⟩, F, ⟨v, rfl, g3⟩, g3', g4'⟩
theorem tv_VerS {n : Nat} {xs : List V} (hx : TV Tryz.prog h (n + 6) 184 xs) : ∃ l F, RVers true h xs l F ∧ bdVers l :=
  tv_sli (El := RVer true) (bd := bdVer) (ee := eVer true) (R := 6) Tryz.underlying184 (by kernel_rfl) (fun row hr => tv_Ver (n := n) hr) hx
theorem tv_VerSS {n : Nat} {xs : List V} (hx : TV Tryz.prog h (n + 7) 185 xs) : ∃ l F, RVss true h xs l F ∧ bdVss l :=
  tv_sli (El := RVers true) (bd := bdVers) (ee := eVers true) (R := 1) Tryz.underlying185 (by kernel_rfl) (fun row hr => tv_VerS (n := n) hr) hx
theorem tv_Store {n : Nat} {xs : List V} (hx : TV Tryz.prog h (n + 7) 328 xs) : ∃ l F, RVers true h xs l F ∧ bdVers l := by
  obtain ⟨y1, z1, rfl, _, g1, rfl⟩ := tv_struct Tryz.underlying328 hx
  rw [List.append_nil]; exact tv_VerS (n := n) g1
theorem sli_one {α : Type} {El : Rel α} {ro : Bool} {R e : Nat} {xs : List V} {l : List α} {F : List Nat} (hs : Sli ro R e El h xs l F) : ∃ v, xs = [v] := by
  obtain ⟨R', a, c, e, _⟩ := hs; exact ⟨_, e⟩
theorem tv_Node {n : Nat} {xs : List V} (hx : TV Tryz.prog h (n + 8) 330 xs) : ∃ x F, RNode true h xs x F ∧ bdNode x := by
  obtain ⟨y1, z1, rfl, _, g1, y2, z2, rfl, _, g2, rfl⟩ := tv_struct Tryz.underlying330 hx
  obtain ⟨l1, F1, r1, b1⟩ := tv_Store (n := n) g1
  obtain ⟨l2, F2, r2, b2⟩ := tv_VerS (n := n + 1) g2
  obtain ⟨v1, rfl⟩ := sli_one r1
  obtain ⟨v2, rfl⟩ := sli_one r2
  exact ⟨⟨l1, l2⟩, F1 ++ F2, ⟨v1, v2, F1, F2, rfl, rfl, r1, r2⟩, b1, b2⟩
theorem tv_NodeS {n : Nat} {xs : List V} (hx : TV Tryz.prog h (n + 9) 181 xs) : ∃ l F, RNodes true h xs l F ∧ bdNodes l :=
  tv_sli (El := RNode true) (bd := bdNode) (ee := eNode true) (R := 2) Tryz.underlying181 (by kernel_rfl) (fun row hr => tv_Node (n := n) hr) hx
theorem tv_Chain {n : Nat} {xs : List V} (hx : TV Tryz.prog h (n + 10) 183 xs) : ∃ l F, RNodes true h xs l F ∧ bdNodes l := by
  obtain ⟨y1, z1, rfl, _, g1, rfl⟩ := tv_struct Tryz.underlying183 hx
  rw [List.append_nil]; exact tv_NodeS (n := n) g1
theorem tv_Place {n : Nat} {xs : List V} (hx : TV Tryz.prog h (n + 11) 187 xs) : ∃ p F, RPlace true h xs p F ∧ bdPlace p := by
  obtain ⟨y1, z1, rfl, _, g1, y2, z2, rfl, _, g2, y3, z3, rfl, _, g3, y4, z4, rfl, _, g4, y5, z5, rfl, _, g5, y6, z6, rfl, _, g6, rfl⟩ := tv_struct Tryz.underlying187 hx
  obtain ⟨i, rfl, _⟩ := tv_int Tryz.underlying3 g1
  obtain ⟨j, rfl, _⟩ := tv_int Tryz.underlying3 g2
  obtain ⟨l1, F1, r1, b1⟩ := tv_Chain (n := n) g3
  obtain ⟨l2, F2, r2, b2⟩ := tv_VerS (n := n + 4) g4
  obtain ⟨l3, F3, r3, b3⟩ := tv_VerSS (n := n + 3) g5
  obtain ⟨b, rfl⟩ := tv_bool Tryz.underlying4 g6
  obtain ⟨v1, rfl⟩ := sli_one r1
  obtain ⟨v2, rfl⟩ := sli_one r2
  obtain ⟨v3, rfl⟩ := sli_one r3
  exact ⟨⟨i, j, l1, l2, l3, b⟩, F1 ++ (F2 ++ F3), ⟨v1, v2, v3, F1, F2, F3, rfl, rfl, r1, r2, r3⟩, b1, b2, b3⟩
end
end Go.Proofs.YthdfojchihooeaaGreat
namespace Go.Proofs.YthdfojchihooeaaGreat
open Go T
set_option linter.unusedVariables false
set_option linter.unusedSimpArgs false
theorem sli_true {α : Type} {El : Rel α} {R e : Nat} {h : Heap} {v : V} {l : List α} {F : List Nat} (hs : Sli true R e El h [v] l F) : ∃ a c, v = .sl R a l.length c := by
  obtain ⟨R', a, c, e1, rfl, _⟩ := hs
  injection e1 with e1 _
  exact ⟨a, c, e1⟩
theorem mkN_bound {α : Type} {w sz : α → Nat} {c : Nat} : ∀ {l : List α}, (∀ x ∈ l, w x ≤ c * (1 + sz x)) → mkN w l ≤ c * (l.length + (l.map sz).sum)
  | [], _ => by simp [mkN]
  | x :: l, h => by
    have h1 := mkN_bound (l := l) fun y hy => h y (by simp [hy])
    have h2 := h x (by simp)
    simp only [mkN, List.map_cons, List.sum_cons, List.length_cons] at h1 ⊢
    rw [Nat.mul_add] at h1 h2 ⊢
    rw [Nat.mul_add, Nat.mul_add]
    omega
theorem mkN_tag : ∀ {l : List Tag}, mkN wTag l = 2 * l.length
  | [] => rfl
  | t :: l => by
    have h1 := mkN_tag (l := l)
    have h2 : mkN wTag (t :: l) = 2 + mkN wTag l := by simp only [mkN, List.map_cons, List.sum_cons]
    rw [h2, h1, List.length_cons]; omega
theorem wVer_le {v : Ver} : wVer v ≤ 5 * (1 + szVer v) := by
  have := mkN_tag (l := v.past)
  simp only [wVer, szVer, this]; omega
theorem wVers_le {l : List Ver} : wVers l ≤ 5 * szVers l := mkN_bound fun v _ => wVer_le
theorem wVss_le {l : List (List Ver)} : wVss l ≤ 5 * szVss l := mkN_bound fun v _ => by have := wVers_le (l := v); omega
theorem wNodes_le {l : List Node} : wNodes l ≤ 5 * szNodes l := mkN_bound fun x _ => by
  have h1 := wVers_le (l := x.store)
  have h2 := wVers_le (l := x.wait)
  simp only [wNode, szNode]; omega
theorem wPlace_le {p : Place} : wPlace p ≤ 5 * szPlace p := by
  have h1 := wNodes_le (l := p.chain)
  have h2 := wVers_le (l := p.log)
  have h3 := wVss_le (l := p.got)
  simp only [wPlace, szPlace]; omega
theorem szN_small {s : Nat} (h : ¬ szN 1048576 s < 0) : s ≤ 1048576 := by
  unfold szN at h; split at h <;> omega
section
variable {lo : Nat} {h : Heap} {F F' : List Nat} {a a' : Option (Nat × Nat)} {c c' : Option Nat}
end
end Go.Proofs.YthdfojchihooeaaGreat
namespace Go.Proofs.YthdfojchihooeaaGreat
open Go T
set_option linter.unusedVariables false
set_option linter.unusedSimpArgs false
theorem Mv.swap {h h' : Heap} {A B A' B' : List Nat} (m : Mv h (A ++ B) h' (A' ++ B')) : Mv h (B ++ A) h' (B' ++ A') := by
  refine ⟨m.le, fun b hb hn => m.fr b hb fun hm => hn ?_, ?_, fun b hb => ?_⟩
  · rw [List.mem_append] at hm ⊢; exact hm.symm
  · have := m.nd
    rw [List.nodup_append] at this ⊢
    exact ⟨this.2.1, this.1, fun x hx y hy e => this.2.2 y hy x hx e.symm⟩
  · rw [List.mem_append] at hb
    refine (m.sub b (by rw [List.mem_append]; exact hb.symm)).imp (fun h => ?_) id
    rw [List.mem_append] at h ⊢; exact h.symm
section
variable {lo : Nat} {h : Heap} {F F' : List Nat} {a a' : Option (Nat × Nat)} {c c' : Option Nat}
end
end Go.Proofs.YthdfojchihooeaaGreat
namespace Go.Proofs.YthdfojchihooeaaGreat
open Go T
set_option linter.unusedVariables false
set_option linter.unusedSimpArgs false
theorem br_some {b : Bool} {h : Heap} : br b (some (V.bool true, h)) (some (V.bool false, h)) = some (V.bool b, h) := by cases b <;> rfl

section
variable {lo : Nat} {h : Heap} {F F' : List Nat} {a a' : Option (Nat × Nat)} {c c' : Option Nat}
end
end Go.Proofs.YthdfojchihooeaaGreat
namespace Go.Proofs.YthdfojchihooeaaGreat
open Go T
set_option linter.unusedVariables false
set_option linter.unusedSimpArgs false
/-- a block of one's own, written to -/
theorem Mv.store {h h' : Heap} {F F' : List Nat} {b : Nat} (m : Mv h F h' F') (hb : b < h.length) (hbF : b ∉ F) (X : Blk) :
    Mv h (b :: F) (h'.set b X) (b :: F') ∧ (h'.set b X)[b]? = some X ∧ (∀ y, y ≠ b → (h'.set b X)[y]? = h'[y]?) ∧ b ∉ F' := by
  have hbF' : b ∉ F' := fun hm => by
    rcases m.sub b hm with g | g
    · exact hbF g
    · omega
  have hb' : b < h'.length := Nat.lt_of_lt_of_le hb m.le
  refine ⟨⟨by simpa using m.le, fun y hy hF => ?_, by rw [List.nodup_cons]; exact ⟨hbF', m.nd⟩, fun y hy => ?_⟩, by simp [hb'], fun y hy => List.getElem?_set_ne (Ne.symm hy), hbF'⟩
  · rw [List.mem_cons, not_or] at hF
    rw [List.getElem?_set_ne (Ne.symm hF.1)]
    exact m.fr y hy hF.2
  · rw [List.mem_cons] at hy
    rcases hy with rfl | hy
    · exact .inl (by simp)
    · refine (m.sub y hy).imp (fun g => by simp [g]) fun g => by simpa using g

section
variable {lo : Nat} {ro : Bool} {h : Heap} {F F' : List Nat} {a a' : Option (Nat × Nat)} {c c' : Option Nat}
end
end Go.Proofs.YthdfojchihooeaaGreat
namespace Go.Proofs.YthdfojchihooeaaGreat
open Go T
set_option linter.unusedVariables false
set_option linter.unusedSimpArgs false
theorem log_parts {m : Int} {l : List Ver} (h : logOk m l = true) : l.length ≤ 60 ∧ ∀ i (hi : i < l.length), verOk l[i] = true ∧ l[i].tag.place = m ∧ hasTag (l.take i) l[i].tag = false := by
  unfold logOk at h
  rw [Bool.and_eq_true, all_zipIdx, decide_eq_true_eq] at h
  refine ⟨by omega, fun i hi => ?_⟩
  have := h.1 i hi
  simp only [logAt, Bool.and_eq_true, beq_iff_eq, Bool.not_eq_true'] at this
  exact ⟨this.1.1, this.1.2, this.2⟩
theorem ok_parts {p : Place} (h : placeOk p = true) : (0 ≤ p.me ∧ p.me ≤ 2) ∧ (0 ≤ p.clock ∧ p.clock ≤ 999) ∧ p.got.length = 3 ∧ chainOk p.chain = true ∧ causesOk p.chain = true ∧ logOk p.me p.log = true ∧
    (∀ i (hi : i < p.got.length), gotAt p.me i p.got[i] = true) ∧ headOk p.chain p.clock = true := by
  unfold placeOk at h
  simp only [Bool.and_eq_true, all_zipIdx, decide_eq_true_eq, within] at h
  obtain ⟨⟨⟨⟨⟨⟨⟨h1, h2⟩, h3⟩, h4⟩, h5⟩, h6⟩, h7⟩, h8⟩ := h
  exact ⟨h1, h2, h3, h4, h5, h6, h7, h8⟩
theorem got_log {p : Place} (h : placeOk p = true) {i : Nat} (hi : i < p.got.length) : logOk i p.got[i] = true := by
  have := (ok_parts h).2.2.2.2.2.2.1 i hi
  unfold gotAt at this
  rw [Bool.and_eq_true] at this
  exact this.1
theorem mkN_all {α : Type} {w : α → Nat} {c : Nat} : ∀ {l : List α}, (∀ v ∈ l, w v ≤ c) → mkN w l ≤ c * l.length
  | [], _ => by simp [mkN]
  | x :: l, h => by
    have h1 := mkN_all (w := w) (l := l) fun v hv => h v (by simp [hv])
    have h2 := h x (by simp)
    simp only [mkN, List.map_cons, List.sum_cons, List.length_cons, Nat.mul_add, Nat.mul_one] at h1 ⊢
    omega
end Go.Proofs.YthdfojchihooeaaGreat
namespace Go.Proofs.YthdfojchihooeaaGreat
open Go T
set_option linter.unusedVariables false
set_option linter.unusedSimpArgs false
theorem three {h h1 h2 : Heap} {b : Nat} {G1 G1' G2 G2' G3 : List Nat} (m1 : Mv h G1 h1 G1') (m2 : Mv h1 (b :: G2) h2 (b :: G2')) (hnd : (b :: (G1 ++ (G2 ++ G3))).Nodup) (hb : ∀ y ∈ b :: (G1 ++ (G2 ++ G3)), y < h.length) :
    Mv h (b :: (G1 ++ (G2 ++ G3))) h2 (b :: (G1' ++ (G2' ++ G3))) ∧ (∀ y ∈ G1', y ∉ b :: G2) ∧ (∀ y ∈ G3, y ∉ G1) ∧ ∀ y ∈ G3, y ∉ b :: G2 := by
  rw [List.nodup_cons, List.nodup_append, List.mem_append, List.mem_append, List.nodup_append] at hnd
  obtain ⟨n1, n2, ⟨n3, n4, n5⟩, n6⟩ := hnd
  simp only [not_or] at n1
  have hbb := hb b (by simp)
  have hb1 : ∀ y ∈ G1, y < h.length := fun y hy => hb y (by simp [hy])
  have hb2 : ∀ y ∈ G2, y < h.length := fun y hy => hb y (by simp [hy])
  have hb3 : ∀ y ∈ G3, y < h.length := fun y hy => hb y (by simp [hy])
  have l1 := m1.le
  have l2 := m2.le
  have d1 : ∀ y ∈ G1', y ∉ b :: G2 := fun y hy hm => by
    rcases m1.sub y hy with g | g
    · rcases List.mem_cons.1 hm with rfl | hm
      · exact n1.1 g
      · exact n6 y g y (by simp [hm]) rfl
    · rcases List.mem_cons.1 hm with rfl | hm
      · omega
      · have := hb2 y hm; omega
  have d2 : ∀ y ∈ G3, y ∉ G1 := fun y hy hm => n6 y hm y (by simp [hy]) rfl
  have d3 : ∀ y ∈ G3, y ∉ b :: G2 := fun y hy hm => by
    rcases List.mem_cons.1 hm with rfl | hm
    · exact n1.2.2 hy
    · exact n5 y hm y hy rfl
  have nd2 := m2.nd
  rw [List.nodup_cons] at nd2
  have s1 : ∀ y ∈ G1', y < h1.length := m1.lt hb1
  refine ⟨⟨by omega, fun y hy hF => ?_, ?_, fun y hy => ?_⟩, d1, d2, d3⟩
  · simp only [List.mem_cons, List.mem_append, not_or] at hF
    rw [m2.fr y (by omega) (by simp only [List.mem_cons, not_or]; exact ⟨hF.1, hF.2.2.1⟩), m1.fr y hy hF.2.1]
  · rw [List.nodup_cons, List.nodup_append, List.mem_append, List.mem_append, List.nodup_append]
    refine ⟨?_, m1.nd, ⟨nd2.2, n4, fun x hx y hy e => ?_⟩, fun x hx y hy e => ?_⟩
    · simp only [not_or]
      exact ⟨fun g => d1 b g (by simp), nd2.1, n1.2.2⟩
    · subst e
      rcases m2.sub x (by simp [hx]) with g | g
      · exact d3 x hy g
      · have := hb3 x hy; omega
    · subst e
      rcases List.mem_append.1 hy with hy | hy
      · rcases m2.sub x (by simp [hy]) with g | g
        · exact d1 x hx g
        · have := s1 x hx; omega
      · rcases m1.sub x hx with g | g
        · exact d2 x hy g
        · have := hb3 x hy; omega
  · simp only [List.mem_cons, List.mem_append] at hy ⊢
    rcases hy with hy | hy | hy | hy
    · exact .inl (.inl hy)
    · rcases m1.sub y hy with g | g
      · exact .inl (.inr (.inl g))
      · exact .inr ⟨g.1, by omega⟩
    · rcases m2.sub y (by simp [hy]) with g | g
      · rcases List.mem_cons.1 g with g | g
        · exact .inl (.inl g)
        · exact .inl (.inr (.inr (.inl g)))
      · exact .inr ⟨by omega, g.2⟩
    · exact .inl (.inr (.inr (.inr hy)))

section
variable {lo : Nat} {ro : Bool} {h : Heap} {F F' : List Nat} {a a' : Option (Nat × Nat)} {c c' : Option Nat}
end
end Go.Proofs.YthdfojchihooeaaGreat
namespace Go.Proofs.YthdfojchihooeaaGreat
open Go T
set_option linter.unusedVariables false
set_option linter.unusedSimpArgs false
theorem EAll.mono {α : Type} {A B : Rel α} {h : Heap} (hAB : ∀ row x F, A h row x F → B h row x F) : ∀ {rows : List (List V)} {l : List α} {Fs : List (List Nat)}, EAll A h rows l Fs → EAll B h rows l Fs
  | [], [], [], _ => trivial
  | _ :: _, _ :: _, _ :: _, ⟨h1, h2⟩ => ⟨hAB _ _ _ h1, EAll.mono hAB h2⟩
  | [], [], _ :: _, h => h.elim
  | [], _ :: _, _, h => h.elim
  | _ :: _, [], _, h => h.elim
  | _ :: _, _ :: _, [], h => h.elim
theorem Sli.mono {α : Type} {A B : Rel α} {h : Heap} {R e : Nat} {cs : List V} {l : List α} {F : List Nat} (hAB : ∀ row x F, A h row x F → B h row x F) (hs : Sli false R e A h cs l F) : Sli false R e B h cs l F := by
  obtain ⟨R', a, c, e1, g⟩ := hs
  refine ⟨R', a, c, e1, ?_⟩
  cases a with
  | none => exact g
  | some p =>
    obtain ⟨b, i⟩ := p
    obtain ⟨g0, rs, Fs, g1, g2, g3, g4, g5, g6⟩ := g
    exact ⟨g0, rs, Fs, g1, g2, g3, g4, g5.mono hAB, g6⟩
/-- a node whose waiting versions' room is known -/
def RNodeC : Rel Node := fun h row x F => RNode false h row x F ∧ ∃ s a n k, row = [s, .sl 6 a n (some k)]
abbrev RNodesC : Rel (List Node) := Sli false 2 (eNode false) RNodeC
theorem RNodesC.up {h : Heap} {cs : List V} {l : List Node} {F : List Nat} (hs : RNodesC h cs l F) : RNodes false h cs l F := Sli.mono (fun _ _ _ h => h.1) hs

section
variable {lo : Nat} {h : Heap} {F F' G : List Nat} {a a' av : Option (Nat × Nat)} {c c' cv : Option Nat}
end
end Go.Proofs.YthdfojchihooeaaGreat
namespace Go.Proofs.YthdfojchihooeaaGreat
open Go T
set_option linter.unusedVariables false
set_option linter.unusedSimpArgs false
def storeAtN (l : List Node) (k : Nat) : List Ver := match l[k]? with
  | some x => x.store
  | none => []
theorem storeAtN_get {l : List Node} {k : Nat} (hk : k < l.length) : storeAtN l k = l[k].store := by unfold storeAtN; rw [List.getElem?_eq_getElem hk]
section
variable {lo : Nat} {h : Heap} {F F' G : List Nat} {a a' av : Option (Nat × Nat)} {c c' cv : Option Nat}
end
end Go.Proofs.YthdfojchihooeaaGreat
namespace Go.Proofs.YthdfojchihooeaaGreat
open Go T
set_option linter.unusedVariables false
set_option linter.unusedSimpArgs false
set_option maxRecDepth 100000
section
variable {lo : Nat} {h : Heap} {F F' G : List Nat} {a a' av : Option (Nat × Nat)} {c c' cv : Option Nat}
theorem Mv.cons {h h' : Heap} {F F' : List Nat} {b : Nat} (m : Mv h F h' F') (hb : b < h.length) (hbF : b ∉ F) (hnd : F.Nodup) : Mv h (b :: F) h' (b :: F') :=
  (m.aside (G := [b]) (by rw [List.nodup_append]; exact ⟨hnd, by simp, fun x hx y hy e => by rw [List.mem_singleton] at hy; subst hy; subst e; exact hbF hx⟩) (by simpa using hb)).swap
end
end Go.Proofs.YthdfojchihooeaaGreat
namespace Go.Proofs.YthdfojchihooeaaGreat
open Go T
set_option linter.unusedVariables false
set_option linter.unusedSimpArgs false
structure Sess where
  place : Int
  past : List Tag
  wait : Tag
  key : Int
structure Done where
  sess : Int
  kind : Int
  key : Int
  tag : Tag
structure World where
  places : List Place
  sess : List Sess
  net : List Frame
  hist : List Done
abbrev ePlace (ro : Bool) : Nat := bif ro then 187 else 89
abbrev eSess (ro : Bool) : Nat := bif ro then 194 else 115
abbrev eFrame (ro : Bool) : Nat := bif ro then 199 else 173
abbrev eDone (ro : Bool) : Nat := bif ro then 208 else 179
abbrev Sess.cs (s : Sess) (a : Option (Nat × Nat)) (c : Option Nat) : List V := [.int .i64 s.place, .sl 2 a s.past.length c, .int .i64 s.wait.time, .int .i64 s.wait.place, .int .i64 s.key]
abbrev Done.cs (d : Done) : List V := [.int .i64 d.sess, .int .i64 d.kind, .int .i64 d.key, .int .i64 d.tag.time, .int .i64 d.tag.place]
abbrev World.cs (w : World) (a1 : Option (Nat × Nat)) (c1 : Option Nat) (a2 : Option (Nat × Nat)) (c2 : Option Nat) (a3 : Option (Nat × Nat)) (c3 : Option Nat) (a4 : Option (Nat × Nat)) (c4 : Option Nat) : List V :=
  [.sl 6 a1 w.places.length c1, .sl 5 a2 w.sess.length c2, .sl 9 a3 w.net.length c3, .sl 5 a4 w.hist.length c4]
abbrev RPlaces (ro : Bool) : Rel (List Place) := Sli ro 6 (ePlace ro) (RPlace ro)
def RSess (ro : Bool) : Rel Sess := fun h cs s F => ∃ v, cs = [.int .i64 s.place, v, .int .i64 s.wait.time, .int .i64 s.wait.place, .int .i64 s.key] ∧ RTags ro h [v] s.past F
abbrev RSesss (ro : Bool) : Rel (List Sess) := Sli ro 5 (eSess ro) (RSess ro)
abbrev RFrames (ro : Bool) : Rel (List Frame) := Sli ro 9 (eFrame ro) (RFrame ro)
abbrev RDones (ro : Bool) : Rel (List Done) := Sli ro 5 (eDone ro) (flat Done.cs)
def RWorld (ro : Bool) : Rel World := fun h cs w F => ∃ s1 s2 s3 s4 F1 F2 F3 F4, cs = [s1, s2, s3, s4] ∧ F = F1 ++ (F2 ++ (F3 ++ F4)) ∧ RPlaces ro h [s1] w.places F1 ∧ RSesss ro h [s2] w.sess F2 ∧ RFrames ro h [s3] w.net F3 ∧ RDones ro h [s4] w.hist F4
/-- a world with lengths in its cells -/
def RWorldN (ro : Bool) : Rel World := fun h cs w F => ∃ a1 c1 a2 c2 a3 c3 a4 c4 F1 F2 F3 F4, cs = w.cs a1 c1 a2 c2 a3 c3 a4 c4 ∧ F = F1 ++ (F2 ++ (F3 ++ F4)) ∧ RPlaces ro h [.sl 6 a1 w.places.length c1] w.places F1 ∧ RSesss ro h [.sl 5 a2 w.sess.length c2] w.sess F2 ∧ RFrames ro h [.sl 9 a3 w.net.length c3] w.net F3 ∧ RDones ro h [.sl 5 a4 w.hist.length c4] w.hist F4
theorem rplaces_ok {ro : Bool} : (RPlaces ro).Ok := Sli.ok rplace_ok
theorem rsess_ok {ro : Bool} : (RSess ro).Ok :=
  ⟨fun h h' cs x F ⟨s, h1, h2⟩ hb => ⟨s, h1, rtags_ok.fr _ _ _ _ _ h2 hb⟩, fun h cs x F ⟨s, _, h2⟩ => rtags_ok.bd _ _ _ _ h2⟩
theorem rsesss_ok {ro : Bool} : (RSesss ro).Ok := Sli.ok rsess_ok
theorem rframes_ok {ro : Bool} : (RFrames ro).Ok := Sli.ok rframe_ok
theorem rdones_ok {ro : Bool} : (RDones ro).Ok := Sli.ok flat_ok
theorem rworldN_ok {ro : Bool} : (RWorldN ro).Ok := by
  refine ⟨?_, ?_⟩
  · rintro h h' cs x F ⟨a1, c1, a2, c2, a3, c3, a4, c4, F1, F2, F3, F4, e, rfl, h1, h2, h3, h4⟩ hb
    exact ⟨a1, c1, a2, c2, a3, c3, a4, c4, F1, F2, F3, F4, e, rfl, rplaces_ok.fr _ _ _ _ _ h1 fun b hm => hb b (by simp [hm]), rsesss_ok.fr _ _ _ _ _ h2 fun b hm => hb b (by simp [hm]), rframes_ok.fr _ _ _ _ _ h3 fun b hm => hb b (by simp [hm]), rdones_ok.fr _ _ _ _ _ h4 fun b hm => hb b (by simp [hm])⟩
  · rintro h cs x F ⟨a1, c1, a2, c2, a3, c3, a4, c4, F1, F2, F3, F4, e, rfl, h1, h2, h3, h4⟩ b hb
    simp only [List.mem_append] at hb
    rcases hb with hb | hb | hb | hb
    · exact rplaces_ok.bd _ _ _ _ h1 b hb
    · exact rsesss_ok.bd _ _ _ _ h2 b hb
    · exact rframes_ok.bd _ _ _ _ h3 b hb
    · exact rdones_ok.bd _ _ _ _ h4 b hb
theorem rworld_true {h : Heap} {cs : List V} {w : World} {F : List Nat} (hp : RWorld true h cs w F) : RWorldN true h cs w F := by
  obtain ⟨s1, s2, s3, s4, F1, F2, F3, F4, rfl, rfl, h1, h2, h3, h4⟩ := hp
  obtain ⟨a1, c1, rfl⟩ := sli_true h1
  obtain ⟨a2, c2, rfl⟩ := sli_true h2
  obtain ⟨a3, c3, rfl⟩ := sli_true h3
  obtain ⟨a4, c4, rfl⟩ := sli_true h4
  exact ⟨_, _, _, _, _, _, _, _, _, _, _, _, rfl, rfl, h1, h2, h3, h4⟩

section
variable {ro : Bool} {h : Heap} {F : List Nat} {a : Option (Nat × Nat)} {c : Option Nat} {n k : Nat}
theorem RPlaces.get {l : List Place} (hs : RPlaces ro h [.sl 6 a n c] l F) (hk : k < l.length) : ∃ o s1 s2 s3 a1 c1 a2 c2 a3 c3 F1 F2 F3, a = some o ∧
    ld h o.1 (o.2 + k) 0 6 = some [.int .i64 l[k].me, .int .i64 l[k].clock, s1, s2, s3, .bool l[k].fell] ∧ ld h o.1 (o.2 + k) 0 1 = some [.int .i64 l[k].me] ∧ ld h o.1 (o.2 + k) 2 1 = some [s1] ∧ ld h o.1 (o.2 + k) 3 1 = some [s2] ∧ ld h o.1 (o.2 + k) 4 1 = some [s3] ∧
    (∀ {R' : Type} (K : Option (Nat × Nat) → Nat → Option Nat → Option R'), eS 2 s1 K = K a1 l[k].chain.length c1) ∧ (∀ {R' : Type} (K : Option (Nat × Nat) → Nat → Option Nat → Option R'), eS 6 s2 K = K a2 l[k].log.length c2) ∧
    (∀ {R' : Type} (K : Option (Nat × Nat) → Nat → Option Nat → Option R'), eS 1 s3 K = K a3 l[k].got.length c3) ∧
    RNodes ro h [.sl 2 a1 l[k].chain.length c1] l[k].chain F1 ∧ RVers ro h [.sl 6 a2 l[k].log.length c2] l[k].log F2 ∧ RVss ro h [.sl 1 a3 l[k].got.length c3] l[k].got F3 ∧ (∀ b, b ∈ F1 ∨ b ∈ F2 ∨ b ∈ F3 → b ∈ F) := by
  obtain ⟨o, row, G, h1, h2, hv, hG, _⟩ := hs.read hk
  obtain ⟨s1, s2, s3, a1, c1, a2, c2, a3, c3, F1, F2, F3, rfl, rfl, e1, e2, e3, g1, g2, g3⟩ := hv.form
  exact ⟨o, s1, s2, s3, a1, c1, a2, c2, a3, c3, F1, F2, F3, h1, by rw [h2]; rfl, by rw [h2]; rfl, by rw [h2]; rfl, by rw [h2]; rfl, by rw [h2]; rfl, e1, e2, e3, g1, g2, g3, fun b hb => hG b (by simpa using hb)⟩
theorem RSess.form {row : List V} {s : Sess} (hv : RSess ro h row s F) : ∃ v a c, row = [.int .i64 s.place, v, .int .i64 s.wait.time, .int .i64 s.wait.place, .int .i64 s.key] ∧
    (∀ {R' : Type} (K : Option (Nat × Nat) → Nat → Option Nat → Option R'), eS 2 v K = K a s.past.length c) ∧ RTags ro h [.sl 2 a s.past.length c] s.past F := by
  obtain ⟨v, rfl, hp⟩ := hv
  obtain ⟨a, c, es, hp2⟩ := hp.form
  exact ⟨v, a, c, rfl, es, hp2⟩
theorem RSesss.get {l : List Sess} (hs : RSesss ro h [.sl 5 a n c] l F) (hk : k < l.length) : ∃ o v a' c' G, a = some o ∧ ld h o.1 (o.2 + k) 0 5 = some [.int .i64 l[k].place, v, .int .i64 l[k].wait.time, .int .i64 l[k].wait.place, .int .i64 l[k].key] ∧
    ld h o.1 (o.2 + k) 0 1 = some [.int .i64 l[k].place] ∧ ld h o.1 (o.2 + k) 1 1 = some [v] ∧
    (∀ {R' : Type} (K : Option (Nat × Nat) → Nat → Option Nat → Option R'), eS 2 v K = K a' l[k].past.length c') ∧ RTags ro h [.sl 2 a' l[k].past.length c'] l[k].past G ∧ (∀ b ∈ G, b ∈ F) := by
  obtain ⟨o, row, G, h1, h2, hv, hG, _⟩ := hs.read hk
  obtain ⟨v, a', c', rfl, es, hp⟩ := hv.form
  exact ⟨o, v, a', c', G, h1, by rw [h2]; rfl, by rw [h2]; rfl, by rw [h2]; rfl, es, hp, hG⟩
theorem RFrames.get {l : List Frame} (hs : RFrames ro h [.sl 9 a n c] l F) (hk : k < l.length) : ∃ o s a' c' G, a = some o ∧
    ld h o.1 (o.2 + k) 0 9 = some [.int .i64 l[k].fro, .int .i64 l[k].to, .int .i64 l[k].at', .int .i64 l[k].ver.key, .int .i64 l[k].ver.tag.time, .int .i64 l[k].ver.tag.place, s, .str l[k].ver.text, .bool l[k].ver.gone] ∧
    (∀ {R' : Type} (K : Option (Nat × Nat) → Nat → Option Nat → Option R'), eS 2 s K = K a' l[k].ver.past.length c') ∧ RTags ro h [.sl 2 a' l[k].ver.past.length c'] l[k].ver.past G ∧ (∀ b ∈ G, b ∈ F) := by
  obtain ⟨o, row, G, h1, h2, ⟨vs, rfl, hv⟩, hG, _⟩ := hs.read hk
  obtain ⟨s, a', c', rfl, es, hp⟩ := hv.form
  exact ⟨o, s, a', c', G, h1, by rw [h2]; rfl, es, hp, hG⟩
theorem RDones.get {l : List Done} (hs : RDones ro h [.sl 5 a n c] l F) (hk : k < l.length) : ∃ o, a = some o ∧ ld h o.1 (o.2 + k) 0 5 = some l[k].cs := by
  obtain ⟨o, row, G, h1, h2, ⟨rfl, _⟩, _⟩ := hs.read hk
  exact ⟨o, h1, by rw [h2]; rfl⟩
end
def szPlaces (l : List Place) : Nat := l.length + (l.map szPlace).sum
def szSess (s : Sess) : Nat := s.past.length
def szSesss (l : List Sess) : Nat := l.length + (l.map szSess).sum
def szFrame (f : Frame) : Nat := szVer f.ver
def szFrames (l : List Frame) : Nat := l.length + (l.map szFrame).sum
def szWorld (w : World) : Nat := szPlaces w.places + szSesss w.sess + szFrames w.net + w.hist.length
def bdWorld (w : World) : Prop := (w.places.length ≤ maxLen ∧ ∀ p ∈ w.places, bdPlace p) ∧ (w.sess.length ≤ maxLen ∧ ∀ s ∈ w.sess, s.past.length ≤ maxLen) ∧ (w.net.length ≤ maxLen ∧ ∀ f ∈ w.net, bdVer f.ver) ∧ w.hist.length ≤ maxLen
def smWorld (w : World) : Prop := (w.places.length ≤ 1048576 ∧ ∀ p ∈ w.places, smPlace p) ∧ (w.sess.length ≤ 1048576 ∧ ∀ s ∈ w.sess, s.past.length ≤ 1048576) ∧ (w.net.length ≤ 1048576 ∧ ∀ f ∈ w.net, f.ver.past.length ≤ 1048576 ∧ f.ver.text.size ≤ 1048576) ∧ w.hist.length ≤ 1048576
theorem sm_world {w : World} (h : szWorld w ≤ 1048576) : smWorld w := by
  unfold szWorld szPlaces szSesss szFrames at h
  refine ⟨⟨by omega, fun p hp => sm_place ?_⟩, ⟨by omega, fun s hs => ?_⟩, ⟨by omega, fun f hf => ?_⟩, by omega⟩
  · have := le_sum (f := szPlace) hp; omega
  · have := le_sum (f := szSess) hs
    have e : szSess s = s.past.length := rfl
    omega
  · have := le_sum (f := szFrame) hf
    have e : szFrame f = f.ver.past.length + f.ver.text.size := rfl
    omega

section
variable {lo : Nat} {ro ro' : Bool} {h : Heap} {F F' : List Nat} {a a' : Option (Nat × Nat)} {c c' : Option Nat} {left : Int}
theorem laws_szPlaceS {l : List Place} (hs : RPlaces ro h [.sl 6 a l.length c] l F) (hb : l.length ≤ maxLen ∧ ∀ p ∈ l, bdPlace p) (h0 : 0 ≤ left) (h1 : left ≤ 1048576) : evl lo 73 [.sl 6 a l.length c, .int .i64 left] h = some (.int .i64 (szN left (szPlaces l)), h) := by
  refine E_laws_szPlaceS (h' := h) ?_
  unfold szPlaces
  rw [sz_sub h0 h1 hb.1, ← szN_add h0]
  by_cases hn : szN left l.length < 0
  · rw [if_pos hn, if_pos hn]
  · rw [if_neg hn, if_neg hn, szN_wrap h0 h1 hb.1 hn]
    have hle := szN_le (s := l.length) h0
    have hbig : l.length ≤ 1048576 := by unfold szN at hn; split at hn <;> omega
    refine sz_loop (sz := szPlace) (L := fun left i => L_laws_szPlaceS_0 (List.length h) a l.length c left 0 (i : Nat) h) (fun i hi left g0 g1 => ?_) (fun left => ?_) (by omega) (by omega)
    · obtain ⟨o, s1, s2, s3, a1, c1, a2, c2, a3, c3, F1, F2, F3, rfl, ho, _, _, _, _, e1, e2, e3, r1, r2, r3, _⟩ := hs.get hi
      rw [L_laws_szPlaceS_0.e, br_pos (by omega), inB_nat hi]
      simp only [eO_s, Int.toNat_natCast, ho, eC_c, eI_int, e1, e2, e3, eBv_b, eN_n]
      rw [laws_szPlace r1 r2 r3 (hb.2 _ (List.getElem_mem hi)) g0 g1]
      simp only [cal_s, eI_int, br_lt, wr_succ (show i < 9223372036854775807 by omega)]
    · rw [L_laws_szPlaceS_0.e, br_neg (by omega)]
theorem laws_szSess {s : Sess} (hb : s.past.length ≤ maxLen) (h0 : 0 ≤ left) (h1 : left ≤ 1048576) : evl lo 175 [.agg (s.cs a c), .int .i64 left] h = some (.int .i64 (szN left (szSess s)), h) := by
  refine E_laws_szSess (h' := h) ?_
  rw [laws_szPast hb h0 h1]; simp only [cal_s, eI_int, br_lt]
  exact szN_if h0
theorem laws_szSessS {l : List Sess} (hs : RSesss ro h [.sl 5 a l.length c] l F) (hb : l.length ≤ maxLen ∧ ∀ s ∈ l, s.past.length ≤ maxLen) (h0 : 0 ≤ left) (h1 : left ≤ 1048576) : evl lo 74 [.sl 5 a l.length c, .int .i64 left] h = some (.int .i64 (szN left (szSesss l)), h) := by
  refine E_laws_szSessS (h' := h) ?_
  unfold szSesss
  rw [sz_sub h0 h1 hb.1, ← szN_add h0]
  by_cases hn : szN left l.length < 0
  · rw [if_pos hn, if_pos hn]
  · rw [if_neg hn, if_neg hn, szN_wrap h0 h1 hb.1 hn]
    have hle := szN_le (s := l.length) h0
    have hbig : l.length ≤ 1048576 := by unfold szN at hn; split at hn <;> omega
    refine sz_loop (sz := szSess) (L := fun left i => L_laws_szSessS_0 (List.length h) a l.length c left 0 (i : Nat) h) (fun i hi left g0 g1 => ?_) (fun left => ?_) (by omega) (by omega)
    · obtain ⟨o, v, a1, c1, G, rfl, ho, _, _, es, r1, _⟩ := hs.get hi
      rw [L_laws_szSessS_0.e, br_pos (by omega), inB_nat hi]
      simp only [eO_s, Int.toNat_natCast, ho, eC_c, eI_int, es, eN_n]
      rw [laws_szSess (hb.2 _ (List.getElem_mem hi)) g0 g1]
      simp only [cal_s, eI_int, br_lt, wr_succ (show i < 9223372036854775807 by omega)]
    · rw [L_laws_szSessS_0.e, br_neg (by omega)]
theorem laws_szFrame {f : Frame} (hb : bdVer f.ver) (h0 : 0 ≤ left) (h1 : left ≤ 1048576) : evl lo 176 [.agg (f.cs a c), .int .i64 left] h = some (.int .i64 (szN left (szFrame f)), h) := by
  refine E_laws_szFrame (h' := h) ?_
  rw [laws_szVer (v := f.ver) hb h0 h1]; simp only [cal_s, eI_int, br_lt]
  exact szN_if h0
theorem laws_szFrameS {l : List Frame} (hs : RFrames ro h [.sl 9 a l.length c] l F) (hb : l.length ≤ maxLen ∧ ∀ f ∈ l, bdVer f.ver) (h0 : 0 ≤ left) (h1 : left ≤ 1048576) : evl lo 75 [.sl 9 a l.length c, .int .i64 left] h = some (.int .i64 (szN left (szFrames l)), h) := by
  refine E_laws_szFrameS (h' := h) ?_
  unfold szFrames
  rw [sz_sub h0 h1 hb.1, ← szN_add h0]
  by_cases hn : szN left l.length < 0
  · rw [if_pos hn, if_pos hn]
  · rw [if_neg hn, if_neg hn, szN_wrap h0 h1 hb.1 hn]
    have hle := szN_le (s := l.length) h0
    have hbig : l.length ≤ 1048576 := by unfold szN at hn; split at hn <;> omega
    refine sz_loop (sz := szFrame) (L := fun left i => L_laws_szFrameS_0 (List.length h) a l.length c left 0 (i : Nat) h) (fun i hi left g0 g1 => ?_) (fun left => ?_) (by omega) (by omega)
    · obtain ⟨o, s, a1, c1, G, rfl, ho, es, r1, _⟩ := hs.get hi
      rw [L_laws_szFrameS_0.e, br_pos (by omega), inB_nat hi]
      simp only [eO_s, Int.toNat_natCast, ho, eC_c, eI_int, es, eT_s, eBv_b, eN_n]
      rw [laws_szFrame (hb.2 _ (List.getElem_mem hi)) g0 g1]
      simp only [cal_s, eI_int, br_lt, wr_succ (show i < 9223372036854775807 by omega)]
    · rw [L_laws_szFrameS_0.e, br_neg (by omega)]
theorem laws_szDoneS {n : Nat} (hn : n ≤ maxLen) (h0 : 0 ≤ left) (h1 : left ≤ 1048576) : evl lo 76 [.sl 5 a n c, .int .i64 left] h = some (.int .i64 (szN left n), h) := by
  refine E_laws_szDoneS (h' := h) ?_
  rw [sz_sub h0 h1 hn]
  by_cases hh : szN left n < 0
  · rw [if_pos hh]; unfold szN at hh ⊢; split <;> simp_all; omega
  · rw [if_neg hh, szN_wrap h0 h1 hn hh]
theorem sz_world {w : World} {cs : List V} (hs : RWorldN ro h cs w F) (hb : bdWorld w) : evl lo 15 [.agg cs, .int .i64 1048576] h = some (.int .i64 (szN 1048576 (szWorld w)), h) := by
  obtain ⟨a1, c1, a2, c2, a3, c3, a4, c4, F1, F2, F3, F4, rfl, rfl, r1, r2, r3, r4⟩ := hs
  obtain ⟨b1, b2, b3, b4⟩ := hb
  refine E_laws_szWorld (h' := h) ?_
  unfold szWorld
  rw [laws_szPlaceS r1 b1 (by decide) (by decide)]; simp only [cal_s, eI_int, br_lt]
  rw [← szN_add (by decide), ← szN_add (by decide), ← szN_add (by decide)]
  generalize hp : szN 1048576 (szPlaces w.places) = l1
  have hle1 : l1 ≤ 1048576 := by rw [← hp]; exact szN_le (by decide)
  by_cases hn1 : l1 < 0
  · simp [hn1]
  · rw [if_neg hn1, if_neg hn1, laws_szSessS r2 b2 (by omega) (by omega)]; simp only [cal_s, eI_int, br_lt]
    generalize hp2 : szN l1 (szSesss w.sess) = l2
    have hle2 : l2 ≤ l1 := by rw [← hp2]; exact szN_le (by omega)
    by_cases hn2 : l2 < 0
    · rw [if_pos hn2, if_pos hn2, if_pos (by decide)]
    · rw [if_neg hn2, if_neg hn2, laws_szFrameS r3 b3 (by omega) (by omega)]; simp only [cal_s, eI_int, br_lt]
      generalize hp3 : szN l2 (szFrames w.net) = l3
      have hle3 : l3 ≤ l2 := by rw [← hp3]; exact szN_le (by omega)
      by_cases hn3 : l3 < 0
      · rw [if_pos hn3, if_pos hn3]
      · rw [if_neg hn3, if_neg hn3, laws_szDoneS b4 (by omega) (by omega)]; simp only [cal_s, eI_int, br_lt]
        exact szN_if (by omega)

theorem laws_toPlaceS {l : List Place} (hs : RPlaces true h [.sl 6 a l.length c] l F) (hl : lo ≤ h.length) (hn : l.length ≤ 1048576 ∧ ∀ p ∈ l, smPlace p) :
    ∃ a' h' F', evl lo 81 [.sl 6 a l.length c] h = some (.sl 6 a' l.length (some l.length), h') ∧ RPlaces false h' [.sl 6 a' l.length (some l.length)] l F' ∧ Mv h [] h' F' := by
  have hn1 := hn.1
  obtain ⟨h', F', e, r, m⟩ := fill_loop (El := RPlace false) rplace_ok (h0 := h) (l := l) (f := id) (lo := lo) (R := 6) (e := ePlace false) (z := [.int .i64 0, .int .i64 0, .sl 0 none 0 (some 0), .sl 0 none 0 (some 0), .sl 0 none 0 (some 0), .bool false]) rfl hl
    (fun i hh => L_laws_toPlaceS_0 lo a l.length c (some (h.length, 0)) l.length (some l.length) (i : Nat) hh) (fun i hi hh m => by
      obtain ⟨o, s1, s2, s3, a1, c1, a2, c2, a3, c3, F1, F2, F3, rfl, ho, _, _, _, _, e1, e2, e3, r1, r2, r3, _⟩ := (m.keep0 rplaces_ok hs).get hi
      obtain ⟨a4, c4, a5, c5, a6, c6, h3, F3, e4, r4, m4⟩ := laws_toPlace (lo := lo) r1 r2 r3 (Nat.le_trans hl m.le) (hn.2 _ (List.getElem_mem hi))
      refine ⟨l[i].cs a4 c4 a5 c5 a6 c6, F3, h3, r4, m4, rfl, ?_⟩
      rw [L_laws_toPlaceS_0.e, br_pos (by omega), inB_nat hi]
      simp only [eO_s, Int.toNat_natCast, ho, eC_c, eI_int, e1, e2, e3, eBv_b, eN_n]
      rw [e4]
      simp only [eO_s, Int.toNat_natCast, eC_c, eI_int, eS_sl, eBv_b, eN_n, cal_s, eA_a, inB_nat hi, Nat.zero_add, wr_succ (show i < 9223372036854775807 by omega)])
  refine ⟨some (h.length, 0), h', F', E_laws_toPlaceS ?_, by rw [List.map_id] at r; exact r, m⟩
  rw [need_of (by omega)]
  refine e.trans ?_
  rw [L_laws_toPlaceS_0.e, br_neg (by omega)]
theorem laws_toSess {s : Sess} (hs : RTags true h [.sl 2 a s.past.length c] s.past F) (hl : lo ≤ h.length) (hn : s.past.length ≤ 1048576) :
    ∃ a' c' h' F', evl lo 183 [.agg (s.cs a c)] h = some (.agg (s.cs a' c'), h') ∧ RTags false h' [.sl 2 a' s.past.length c'] s.past F' ∧ Mv h [] h' F' := by
  obtain ⟨a', h', F', e, r⟩ := laws_toPast hs hl hn
  refine ⟨a', _, h', F', E_laws_toSess ?_, r⟩
  rw [e]; simp only [cal_s, eA_a, eC_c, eS_sl, eI_int, eN_n, laws_toTag]
theorem laws_toSessS {l : List Sess} (hs : RSesss true h [.sl 5 a l.length c] l F) (hl : lo ≤ h.length) (hn : l.length ≤ 1048576 ∧ ∀ s ∈ l, s.past.length ≤ 1048576) :
    ∃ a' h' F', evl lo 82 [.sl 5 a l.length c] h = some (.sl 5 a' l.length (some l.length), h') ∧ RSesss false h' [.sl 5 a' l.length (some l.length)] l F' ∧ Mv h [] h' F' := by
  have hn1 := hn.1
  obtain ⟨h', F', e, r, m⟩ := fill_loop (El := RSess false) rsess_ok (h0 := h) (l := l) (f := id) (lo := lo) (R := 5) (e := eSess false) (z := [.int .i64 0, .sl 0 none 0 (some 0), .int .i64 0, .int .i64 0, .int .i64 0]) rfl hl
    (fun i hh => L_laws_toSessS_0 lo a l.length c (some (h.length, 0)) l.length (some l.length) (i : Nat) hh) (fun i hi hh m => by
      obtain ⟨o, v, a1, c1, G, rfl, ho, _, _, es, r1, _⟩ := (m.keep0 rsesss_ok hs).get hi
      obtain ⟨a3, c3, h3, F3, e3, r3, m3⟩ := laws_toSess (lo := lo) (s := l[i]) r1 (Nat.le_trans hl m.le) (hn.2 _ (List.getElem_mem hi))
      refine ⟨l[i].cs a3 c3, F3, h3, ⟨_, rfl, r3⟩, m3, rfl, ?_⟩
      rw [L_laws_toSessS_0.e, br_pos (by omega), inB_nat hi]
      simp only [eO_s, Int.toNat_natCast, ho, eC_c, eI_int, es, eN_n]
      rw [e3]
      simp only [eO_s, Int.toNat_natCast, eC_c, eI_int, eS_sl, eN_n, cal_s, eA_a, inB_nat hi, Nat.zero_add, wr_succ (show i < 9223372036854775807 by omega)])
  refine ⟨some (h.length, 0), h', F', E_laws_toSessS ?_, by rw [List.map_id] at r; exact r, m⟩
  rw [need_of (by omega)]
  refine e.trans ?_
  rw [L_laws_toSessS_0.e, br_neg (by omega)]
theorem laws_toFrame {f : Frame} (hs : RTags true h [.sl 2 a f.ver.past.length c] f.ver.past F) (hl : lo ≤ h.length) (hn : f.ver.past.length ≤ 1048576) :
    ∃ a' c' h' F', evl lo 184 [.agg (f.cs a c)] h = some (.agg (f.cs a' c'), h') ∧ RTags false h' [.sl 2 a' f.ver.past.length c'] f.ver.past F' ∧ Mv h [] h' F' := by
  obtain ⟨a', c', h', F', e, r⟩ := laws_toVer (v := f.ver) hs hl hn
  refine ⟨a', c', h', F', E_laws_toFrame ?_, r⟩
  rw [e]; simp only [cal_s, eA_a, eC_c, eS_sl, eI_int, eT_s, eBv_b, eN_n]
theorem laws_toFrameS {l : List Frame} (hs : RFrames true h [.sl 9 a l.length c] l F) (hl : lo ≤ h.length) (hn : l.length ≤ 1048576 ∧ ∀ f ∈ l, f.ver.past.length ≤ 1048576 ∧ f.ver.text.size ≤ 1048576) :
    ∃ a' h' F', evl lo 83 [.sl 9 a l.length c] h = some (.sl 9 a' l.length (some l.length), h') ∧ RFrames false h' [.sl 9 a' l.length (some l.length)] l F' ∧ Mv h [] h' F' := by
  have hn1 := hn.1
  obtain ⟨h', F', e, r, m⟩ := fill_loop (El := RFrame false) rframe_ok (h0 := h) (l := l) (f := id) (lo := lo) (R := 9) (e := eFrame false) (z := [.int .i64 0, .int .i64 0, .int .i64 0, .int .i64 0, .int .i64 0, .int .i64 0, .sl 0 none 0 (some 0), .str ⟨⟨[]⟩⟩, .bool false]) rfl hl
    (fun i hh => L_laws_toFrameS_0 lo a l.length c (some (h.length, 0)) l.length (some l.length) (i : Nat) hh) (fun i hi hh m => by
      obtain ⟨o, s, a1, c1, G, rfl, ho, es, r1, _⟩ := (m.keep0 rframes_ok hs).get hi
      obtain ⟨a3, c3, h3, F3, e3, r3, m3⟩ := laws_toFrame (lo := lo) (f := l[i]) r1 (Nat.le_trans hl m.le) (hn.2 _ (List.getElem_mem hi)).1
      refine ⟨l[i].cs a3 c3, F3, h3, ⟨_, rfl, _, rfl, r3⟩, m3, rfl, ?_⟩
      rw [L_laws_toFrameS_0.e, br_pos (by omega), inB_nat hi]
      simp only [eO_s, Int.toNat_natCast, ho, eC_c, eI_int, es, eT_s, eBv_b, eN_n]
      rw [e3]
      simp only [eO_s, Int.toNat_natCast, eC_c, eI_int, eS_sl, eT_s, eBv_b, eN_n, cal_s, eA_a, inB_nat hi, Nat.zero_add, wr_succ (show i < 9223372036854775807 by omega)])
  refine ⟨some (h.length, 0), h', F', E_laws_toFrameS ?_, by rw [List.map_id] at r; exact r, m⟩
  rw [need_of (by omega)]
  refine e.trans ?_
  rw [L_laws_toFrameS_0.e, br_neg (by omega)]
theorem laws_toDone {d : Done} : evl lo 185 [.agg d.cs] h = some (.agg d.cs, h) := E_laws_toDone (h' := h) (by simp only [laws_toTag, cal_s, eA_a, eC_c, eI_int, eN_n])
theorem laws_toDoneS {l : List Done} (hs : RDones true h [.sl 5 a l.length c] l F) (hl : lo ≤ h.length) (hn : l.length ≤ 1048576) :
    ∃ a' h' F', evl lo 84 [.sl 5 a l.length c] h = some (.sl 5 a' l.length (some l.length), h') ∧ RDones false h' [.sl 5 a' l.length (some l.length)] l F' ∧ Mv h [] h' F' := by
  obtain ⟨h', F', e, r, m⟩ := fill_loop (El := flat Done.cs) flat_ok (h0 := h) (l := l) (f := id) (lo := lo) (R := 5) (e := eDone false) (z := [.int .i64 0, .int .i64 0, .int .i64 0, .int .i64 0, .int .i64 0]) rfl hl
    (fun i hh => L_laws_toDoneS_0 lo a l.length c (some (h.length, 0)) l.length (some l.length) (i : Nat) hh) (fun i hi hh m => by
      obtain ⟨o, rfl, ho⟩ := (m.keep0 rdones_ok hs).get hi
      refine ⟨l[i].cs, [], hh, ⟨rfl, rfl⟩, Mv.nil, rfl, ?_⟩
      rw [L_laws_toDoneS_0.e, br_pos (by omega), inB_nat hi]
      simp only [eO_s, Int.toNat_natCast, ho, eC_c, eI_int, eN_n]
      rw [laws_toDone]
      simp only [eO_s, Int.toNat_natCast, eC_c, eI_int, eN_n, cal_s, eA_a, inB_nat hi, Nat.zero_add, wr_succ (show i < 9223372036854775807 by omega)])
  refine ⟨some (h.length, 0), h', F', E_laws_toDoneS ?_, by rw [List.map_id] at r; exact r, m⟩
  rw [need_of (by omega)]
  refine e.trans ?_
  rw [L_laws_toDoneS_0.e, br_neg (by omega)]
theorem to_world {w : World} {cs : List V} (hs : RWorldN true h cs w F) (hl : lo ≤ h.length) (hn : smWorld w) : ∃ cs' h' F', evl lo 17 [.agg cs] h = some (.agg cs', h') ∧ RWorldN false h' cs' w F' ∧ Mv h [] h' F' := by
  obtain ⟨a1, c1, a2, c2, a3, c3, a4, c4, F1, F2, F3, F4, rfl, rfl, r1, r2, r3, r4⟩ := hs
  obtain ⟨b1, b2, b3, b4⟩ := hn
  obtain ⟨x1, h1, G1, e1, q1, m1⟩ := laws_toPlaceS r1 hl b1
  obtain ⟨x2, h2, G2, e2, q2, m2⟩ := laws_toSessS (lo := lo) (m1.keep0 rsesss_ok r2) (Nat.le_trans hl m1.le) b2
  have m12 := m1.join m2 (rplaces_ok.bd _ _ _ _ q1)
  obtain ⟨x3, h3, G3, e3, q3, m3⟩ := laws_toFrameS (lo := lo) (m2.keep0 rframes_ok (m1.keep0 rframes_ok r3)) (Nat.le_trans hl m12.le) b3
  have q1' := m2.keep0 rplaces_ok q1
  have m13 := m12.join m3 (fun b hb => by
    rw [List.mem_append] at hb
    exact hb.elim (rplaces_ok.bd _ _ _ _ q1' b) (rsesss_ok.bd _ _ _ _ q2 b))
  have q1'' := m3.keep0 rplaces_ok q1'
  have q2'' := m3.keep0 rsesss_ok q2
  obtain ⟨x4, h4, G4, e4, q4, m4⟩ := laws_toDoneS (lo := lo) (m3.keep0 rdones_ok (m2.keep0 rdones_ok (m1.keep0 rdones_ok r4))) (Nat.le_trans hl m13.le) b4
  have m14 := m13.join m4 (fun b hb => by
    simp only [List.mem_append] at hb
    rcases hb with (hb | hb) | hb
    · exact rplaces_ok.bd _ _ _ _ q1'' b hb
    · exact rsesss_ok.bd _ _ _ _ q2'' b hb
    · exact rframes_ok.bd _ _ _ _ q3 b hb)
  refine ⟨w.cs x1 _ x2 _ x3 _ x4 _, h4, G1 ++ (G2 ++ (G3 ++ G4)), E_laws_toWorld ?_, ⟨_, _, _, _, _, _, _, _, G1, G2, G3, G4, rfl, rfl, m4.keep0 rplaces_ok q1'', m4.keep0 rsesss_ok q2'', m4.keep0 rframes_ok q3, q4⟩, by
    rw [List.append_assoc, List.append_assoc] at m14; exact m14⟩
  rw [e1, cal_s, eS_sl, e2, cal_s, eS_sl, e3, cal_s, eS_sl, e4, cal_s, eS_sl]

theorem eqPlaceS {l : List Place} (h1 : RPlaces ro h [.sl 6 a l.length c] l F) (h2 : RPlaces ro' h [.sl 6 a' l.length c'] l F') (hn : l.length ≤ 1048576 ∧ ∀ p ∈ l, smPlace p) : evl lo 88 [.sl 6 a l.length c, .sl 6 a' l.length c'] h = some (.bool true, h) := by
  have hn1 := hn.1
  refine E_laws_eqPlaceS (h' := h) ?_
  rw [beqI, br_t]
  refine (go_loop (n := l.length) (fun i => L_laws_eqPlaceS_0 (List.length h) a l.length c a' l.length c' false (i : Nat) h) fun i hi => ?_).trans ?_
  · obtain ⟨o, s1, s2, s3, a1, c1, a2, c2, a3, c3, F1, F2, F3, rfl, ho, _, _, _, _, e1, e2, e3, r1, r2, r3, _⟩ := h1.get hi
    obtain ⟨o', s1', s2', s3', a1', c1', a2', c2', a3', c3', F1', F2', F3', rfl, ho', _, _, _, _, e1', e2', e3', r1', r2', r3', _⟩ := h2.get hi
    rw [L_laws_eqPlaceS_0.e, br_pos (by omega), inB_nat hi]
    simp only [eO_s, Int.toNat_natCast, ho, ho', eC_c, eI_int, e1, e2, e3, e1', e2', e3', eBv_b, eN_n, inB_nat hi]
    have he := eqPlace (lo := List.length h) (p := l[i]) (h := h) (F := F1 ++ (F2 ++ F3)) (F' := F1' ++ (F2' ++ F3')) (a1 := a1) (c1 := c1) (a2 := a2) (c2 := c2) (a3 := a3) (c3 := c3) (a1' := a1') (c1' := c1') (a2' := a2') (c2' := c2') (a3' := a3') (c3' := c3') ⟨_, _, _, _, _, _, rfl, rfl, r1, r2, r3⟩ ⟨_, _, _, _, _, _, rfl, rfl, r1', r2', r3'⟩ (hn.2 _ (List.getElem_mem hi))
    rw [he]
    simp only [cal_s, eB_b, br_t, wr_succ (show i < 9223372036854775807 by omega)]
  · rw [L_laws_eqPlaceS_0.e, br_neg (by omega)]
theorem eqSess {s : Sess} (h1 : RTags ro h [.sl 2 a s.past.length c] s.past F) (h2 : RTags ro' h [.sl 2 a' s.past.length c'] s.past F') (hn : s.past.length ≤ 1048576) : evl lo 188 [.agg (s.cs a c), .agg (s.cs a' c')] h = some (.bool true, h) :=
  E_laws_eqSess (h' := h) (by simp only [eqPast h1 h2 hn, cal_s, eB_b, br_t, beqI, laws_eqTag, Bool.and_self])
theorem eqSessS {l : List Sess} (h1 : RSesss ro h [.sl 5 a l.length c] l F) (h2 : RSesss ro' h [.sl 5 a' l.length c'] l F') (hn : l.length ≤ 1048576 ∧ ∀ s ∈ l, s.past.length ≤ 1048576) : evl lo 89 [.sl 5 a l.length c, .sl 5 a' l.length c'] h = some (.bool true, h) := by
  have hn1 := hn.1
  refine E_laws_eqSessS (h' := h) ?_
  rw [beqI, br_t]
  refine (go_loop (n := l.length) (fun i => L_laws_eqSessS_0 (List.length h) a l.length c a' l.length c' false (i : Nat) h) fun i hi => ?_).trans ?_
  · obtain ⟨o, v, a1, c1, G, rfl, ho, _, _, es, r1, _⟩ := h1.get hi
    obtain ⟨o', v', a1', c1', G', rfl, ho', _, _, es', r1', _⟩ := h2.get hi
    rw [L_laws_eqSessS_0.e, br_pos (by omega), inB_nat hi]
    simp only [eO_s, Int.toNat_natCast, ho, ho', eC_c, eI_int, es, es', eN_n, inB_nat hi]
    rw [eqSess r1 r1' (hn.2 _ (List.getElem_mem hi))]
    simp only [cal_s, eB_b, br_t, wr_succ (show i < 9223372036854775807 by omega)]
  · rw [L_laws_eqSessS_0.e, br_neg (by omega)]
theorem eqFrameS {l : List Frame} (h1 : RFrames ro h [.sl 9 a l.length c] l F) (h2 : RFrames ro' h [.sl 9 a' l.length c'] l F') (hn : l.length ≤ 1048576 ∧ ∀ f ∈ l, f.ver.past.length ≤ 1048576 ∧ f.ver.text.size ≤ 1048576) : evl lo 90 [.sl 9 a l.length c, .sl 9 a' l.length c'] h = some (.bool true, h) := by
  have hn1 := hn.1
  refine E_laws_eqFrameS (h' := h) ?_
  rw [beqI, br_t]
  refine (go_loop (n := l.length) (fun i => L_laws_eqFrameS_0 (List.length h) a l.length c a' l.length c' false (i : Nat) h) fun i hi => ?_).trans ?_
  · obtain ⟨o, s, a1, c1, G, rfl, ho, es, r1, _⟩ := h1.get hi
    obtain ⟨o', s', a1', c1', G', rfl, ho', es', r1', _⟩ := h2.get hi
    rw [L_laws_eqFrameS_0.e, br_pos (by omega), inB_nat hi]
    simp only [eO_s, Int.toNat_natCast, ho, ho', eC_c, eI_int, es, es', eT_s, eBv_b, eN_n, inB_nat hi]
    rw [eqFrame (f := l[i]) r1 r1' (hn.2 _ (List.getElem_mem hi)).1]
    simp only [cal_s, eB_b, br_t, wr_succ (show i < 9223372036854775807 by omega)]
  · rw [L_laws_eqFrameS_0.e, br_neg (by omega)]
theorem eqDone {d : Done} : evl lo 190 [.agg d.cs, .agg d.cs] h = some (.bool true, h) :=
  E_laws_eqDone (h' := h) (by simp only [cal_s, eB_b, br_t, beqI, laws_eqTag, Bool.and_self])
theorem eqDoneS {l : List Done} (h1 : RDones ro h [.sl 5 a l.length c] l F) (h2 : RDones ro' h [.sl 5 a' l.length c'] l F') (hn1 : l.length ≤ 1048576) : evl lo 91 [.sl 5 a l.length c, .sl 5 a' l.length c'] h = some (.bool true, h) := by
  refine E_laws_eqDoneS (h' := h) ?_
  rw [beqI, br_t]
  refine (go_loop (n := l.length) (fun i => L_laws_eqDoneS_0 (List.length h) a l.length c a' l.length c' false (i : Nat) h) fun i hi => ?_).trans ?_
  · obtain ⟨o, rfl, ho⟩ := h1.get hi
    obtain ⟨o', rfl, ho'⟩ := h2.get hi
    rw [L_laws_eqDoneS_0.e, br_pos (by omega), inB_nat hi]
    simp only [eO_s, Int.toNat_natCast, ho, ho', eC_c, eI_int, eN_n, inB_nat hi]
    rw [eqDone]
    simp only [cal_s, eB_b, br_t, wr_succ (show i < 9223372036854775807 by omega)]
  · rw [L_laws_eqDoneS_0.e, br_neg (by omega)]
theorem eq_world {w : World} {cs cs' : List V} (h1 : RWorldN ro h cs w F) (h2 : RWorldN ro' h cs' w F') (hn : smWorld w) : evl lo 20 [.agg cs, .agg cs'] h = some (.bool true, h) := by
  obtain ⟨a1, c1, a2, c2, a3, c3, a4, c4, F1, F2, F3, F4, rfl, rfl, r1, r2, r3, r4⟩ := h1
  obtain ⟨a1', c1', a2', c2', a3', c3', a4', c4', F1', F2', F3', F4', rfl, rfl, q1, q2, q3, q4⟩ := h2
  refine E_laws_eqWorld (h' := h) ?_
  rw [eqPlaceS r1 q1 hn.1, cal_s, eB_b, br_t, eqSessS r2 q2 hn.2.1, cal_s, eB_b, br_t, eqFrameS r3 q3 hn.2.2.1, cal_s, eB_b, br_t, eqDoneS r4 q4 hn.2.2.2, cal_s, eB_b, br_t]
end
end Go.Proofs.YthdfojchihooeaaGreat
namespace Go.Proofs.YthdfojchihooeaaGreat
open Go T
set_option linter.unusedVariables false
set_option linter.unusedSimpArgs false
section
variable {lo : Nat} {h : Heap} {F F' : List Nat} {a a' : Option (Nat × Nat)} {c c' : Option Nat}
theorem impl_apart {x y : Int} : evl lo 269 [.int .i64 x, .int .i64 y] h = some (.bool (within x 0 2 && within y 0 2 && !(x == y)), h) :=
  E_impl_apart (h' := h) (by
    simp only [impl_placeOk, cal_s, eB_b]
    cases within x 0 2 <;> cases within y 0 2 <;> cases (x == y) <;> rfl)
end
end Go.Proofs.YthdfojchihooeaaGreat
namespace Go.Proofs.YthdfojchihooeaaGreat
open Go T
set_option linter.unusedVariables false
set_option linter.unusedSimpArgs false
def sessOk (s : Sess) : Bool := within s.place 0 2 && pastOk s.past && tagOk s.wait.time s.wait.place && within s.key 0 3 && (decide (s.wait.time > 0) || s.key == 0) && (s.wait.time == 0 || s.wait.place == s.place)
def doneOk (d : Done) : Bool := within d.sess 0 3 && within d.kind 1 3 && within d.key 0 3 && tagOk d.tag.time d.tag.place && (d.kind == 2 || decide (d.tag.time > 0))
def logOf (l : List Place) (k : Nat) : List Ver := match l[k]? with
  | some p => p.log
  | none => []
theorem logOf_get {l : List Place} {k : Nat} (hk : k < l.length) : logOf l k = l[k].log := by unfold logOf; rw [List.getElem?_eq_getElem hk]
def frameOk (l : List Place) (f : Frame) : Bool := within f.fro 0 2 && within f.to 0 2 && !(f.fro == f.to) && within f.at' 0 (((logOf l f.fro.toNat).length : Int) - 1) && (match (logOf l f.fro.toNat)[f.at'.toNat]? with | some v => sameVer v f.ver | none => false)
def begins (log head : List Ver) : Bool := decide (head.length ≤ log.length) && sameVers (log.take head.length) head
theorem sess_eq {s : Sess} : (within s.place 0 2 && (pastOk s.past && (tagOk s.wait.time s.wait.place && (bif ((s.wait.time == 0) && ((s.wait.place == 0) && true)) then s.key == 0 else (s.wait.place == s.place && within s.key 0 3))))) = sessOk s := by
  unfold sessOk
  cases within s.place 0 2 with
  | false => rfl
  | true =>
  cases pastOk s.past with
  | false => rfl
  | true =>
  cases ht : tagOk s.wait.time s.wait.place with
  | false => simp
  | true =>
    simp [tagOk, within] at ht
    by_cases h0 : s.wait.time = 0
    · have hp : s.wait.place = 0 := by omega
      rw [Bool.eq_iff_iff]
      simp [h0, hp, within]
      omega
    · have h1 : 0 < s.wait.time := by omega
      rw [Bool.eq_iff_iff]
      simp [h0, h1, within, and_comm]

section
variable {lo : Nat} {ro ro' : Bool} {h : Heap} {F F' : List Nat} {a a' : Option (Nat × Nat)} {c c' : Option Nat}
theorem ContainsFunc_Sess {l : List Sess} {g : Nat} {cl : List V} {p : Sess → Bool} (hs : RSesss ro h [.sl 5 a l.length c] l F) (hn : l.length ≤ 1048576)
    (hp : ∀ lo x a1 c1 G, x ∈ l → RTags ro h [.sl 2 a1 x.past.length c1] x.past G → evl lo g (fnArgs [.agg (x.cs a1 c1)] cl) h = some (.bool (p x), h)) :
    evl lo 168 [.sl 5 a l.length c, .fn g cl] h = some (.bool (l.any p), h) := by
  have loop : ∀ m k x, m + k = l.length → L_slices_IndexFunc_impl_Sess_impl_Sess_0 (List.length h) a l.length c g cl x (l.length : Nat) (k : Nat) h = some (.int .i64 (firstAt p (l.drop k) k), h) := by
    intro m
    induction m with
    | zero =>
      intro k x hk
      rw [L_slices_IndexFunc_impl_Sess_impl_Sess_0.e, br_neg (by omega), show k = l.length by omega]
      simp [firstAt]
    | succ m ih =>
      intro k x hk
      have hlt : k < l.length := by omega
      obtain ⟨o, v, b1, d1, G, rfl, ho, _, _, es, hpp, _⟩ := hs.get hlt
      rw [L_slices_IndexFunc_impl_Sess_impl_Sess_0.e, br_pos (by omega), inB_nat (by omega)]
      simp only [eO_s, Int.toNat_natCast, ho, eC_c, eI_int, eN_n, es]
      rw [hp (List.length h) l[k] b1 d1 G (List.getElem_mem hlt) hpp, cal_s, eB_b, List.drop_eq_getElem_cons hlt]
      simp only [firstAt]
      cases p l[k]
      · simp only [br_f, cond_false]; rw [wr_succ (by omega)]; exact ih (k + 1) _ (by omega)
      · simp
  exact E_slices_ContainsFunc_impl_Sess_impl_Sess (h' := h) (by rw [E_slices_IndexFunc_impl_Sess_impl_Sess (loop l.length 0 0 (by omega))]; simp only [cal_s, eI_int, br_bool]; rw [firstAt_pos]; simp)
theorem ContainsFunc_Frame {l : List Frame} {g : Nat} {cl : List V} {p : Frame → Bool} (hs : RFrames ro h [.sl 9 a l.length c] l F) (hn : l.length ≤ 1048576)
    (hp : ∀ lo x a1 c1 G, x ∈ l → RTags ro h [.sl 2 a1 x.ver.past.length c1] x.ver.past G → evl lo g (fnArgs [.agg (x.cs a1 c1)] cl) h = some (.bool (p x), h)) :
    evl lo 171 [.sl 9 a l.length c, .fn g cl] h = some (.bool (l.any p), h) := by
  have loop : ∀ m k x, m + k = l.length → L_slices_IndexFunc_impl_Frame_impl_Frame_0 (List.length h) a l.length c g cl x (l.length : Nat) (k : Nat) h = some (.int .i64 (firstAt p (l.drop k) k), h) := by
    intro m
    induction m with
    | zero =>
      intro k x hk
      rw [L_slices_IndexFunc_impl_Frame_impl_Frame_0.e, br_neg (by omega), show k = l.length by omega]
      simp [firstAt]
    | succ m ih =>
      intro k x hk
      have hlt : k < l.length := by omega
      obtain ⟨o, s, b1, d1, G, rfl, ho, es, hpp, _⟩ := hs.get hlt
      rw [L_slices_IndexFunc_impl_Frame_impl_Frame_0.e, br_pos (by omega), inB_nat (by omega)]
      simp only [eO_s, Int.toNat_natCast, ho, eC_c, eI_int, eN_n, es, eT_s, eBv_b]
      rw [hp (List.length h) l[k] b1 d1 G (List.getElem_mem hlt) hpp, cal_s, eB_b, List.drop_eq_getElem_cons hlt]
      simp only [firstAt]
      cases p l[k]
      · simp only [br_f, cond_false]; rw [wr_succ (by omega)]; exact ih (k + 1) _ (by omega)
      · simp
  exact E_slices_ContainsFunc_impl_Frame_impl_Frame (h' := h) (by rw [E_slices_IndexFunc_impl_Frame_impl_Frame (loop l.length 0 0 (by omega))]; simp only [cal_s, eI_int, br_bool]; rw [firstAt_pos]; simp)
theorem ContainsFunc_Done {l : List Done} {g : Nat} {cl : List V} {p : Done → Bool} (hs : RDones ro h [.sl 5 a l.length c] l F) (hn : l.length ≤ 1048576)
    (hp : ∀ lo x, x ∈ l → evl lo g (fnArgs [.agg (x.cs)] cl) h = some (.bool (p x), h)) :
    evl lo 264 [.sl 5 a l.length c, .fn g cl] h = some (.bool (l.any p), h) := by
  have loop : ∀ m k x, m + k = l.length → L_slices_IndexFunc_impl_Done_impl_Done_0 (List.length h) a l.length c g cl x (l.length : Nat) (k : Nat) h = some (.int .i64 (firstAt p (l.drop k) k), h) := by
    intro m
    induction m with
    | zero =>
      intro k x hk
      rw [L_slices_IndexFunc_impl_Done_impl_Done_0.e, br_neg (by omega), show k = l.length by omega]
      simp [firstAt]
    | succ m ih =>
      intro k x hk
      have hlt : k < l.length := by omega
      obtain ⟨o, rfl, ho⟩ := hs.get hlt
      rw [L_slices_IndexFunc_impl_Done_impl_Done_0.e, br_pos (by omega), inB_nat (by omega)]
      simp only [eO_s, Int.toNat_natCast, ho, eC_c, eI_int, eN_n]
      rw [hp (List.length h) l[k] (List.getElem_mem hlt), cal_s, eB_b, List.drop_eq_getElem_cons hlt]
      simp only [firstAt]
      cases p l[k]
      · simp only [br_f, cond_false]; rw [wr_succ (by omega)]; exact ih (k + 1) _ (by omega)
      · simp
  exact E_slices_ContainsFunc_impl_Done_impl_Done (h' := h) (by rw [E_slices_IndexFunc_impl_Done_impl_Done (loop l.length 0 0 (by omega))]; simp only [cal_s, eI_int, br_bool]; rw [firstAt_pos]; simp)

theorem spec_SessOk {s : Sess} (hs : RTags ro h [.sl 2 a s.past.length c] s.past F) (hn : s.past.length ≤ 1048576) : evl lo 177 [.agg (s.cs a c)] h = some (.bool (sessOk s), h) := by
  refine E_spec_l5SessOk (h' := h) ?_
  rw [spec_l1In, cal_s, eB_b, spec_l1PastOk hs hn, cal_s, eB_b, spec_l1TagOk, cal_s, eB_b, spec_l1In, cal_s, eB_b]
  unfold sessOk
  cases within s.place 0 2 <;> cases pastOk s.past <;> cases tagOk s.wait.time s.wait.place <;> cases within s.key 0 3 <;> cases decide (s.wait.time > 0) <;> cases (s.key == 0) <;> cases (s.wait.time == 0) <;> cases (s.wait.place == s.place) <;> rfl
theorem impl_SessOk {s : Sess} (hs : RTags ro h [.sl 2 a s.past.length c] s.past F) (hn : s.past.length ≤ 1048576) : evl lo 170 [.agg (s.cs a c)] h = some (.bool (sessOk s), h) := by
  refine E_impl_Sess_valid (h' := h) ?_
  rw [impl_placeOk, cal_s, eB_b, impl_PastOk hs hn, cal_s, eB_b, impl_TagOk, cal_s, eB_b, impl_keyOk, cal_s, eB_b, ← sess_eq]
  cases within s.place 0 2 <;> cases pastOk s.past <;> cases tagOk s.wait.time s.wait.place <;> cases within s.key 0 3 <;> cases ((s.wait.time == 0) && ((s.wait.place == 0) && true)) <;> cases (s.key == 0) <;> cases (s.wait.place == s.place) <;> rfl
theorem spec_OpOk {d : Done} : evl lo 179 [.agg d.cs] h = some (.bool (doneOk d), h) := by
  refine E_spec_l5OpOk (h' := h) ?_
  rw [spec_l1In, cal_s, eB_b, spec_l1In, cal_s, eB_b, spec_l1In, cal_s, eB_b, spec_l1TagOk, cal_s, eB_b]
  unfold doneOk
  cases within d.sess 0 3 <;> cases within d.kind 1 3 <;> cases within d.key 0 3 <;> cases tagOk d.tag.time d.tag.place <;> cases (d.kind == 2) <;> cases decide (d.tag.time > 0) <;> rfl
theorem done_eq {d : Done} : (within d.sess 0 3 && (within d.kind 1 3 && (within d.key 0 3 && (tagOk d.tag.time d.tag.place && (bif ((d.tag.time == 0) && ((d.tag.place == 0) && true)) then d.kind == 2 else true))))) = doneOk d := by
  unfold doneOk
  cases within d.sess 0 3 with
  | false => rfl
  | true =>
  cases within d.kind 1 3 with
  | false => rfl
  | true =>
  cases within d.key 0 3 with
  | false => rfl
  | true =>
  cases ht : tagOk d.tag.time d.tag.place with
  | false => rfl
  | true =>
    simp [tagOk, within] at ht
    by_cases h0 : d.tag.time = 0
    · have hp : d.tag.place = 0 := by omega
      rw [Bool.eq_iff_iff]
      simp [h0, hp]
    · have h1 : 0 < d.tag.time := by omega
      rw [Bool.eq_iff_iff]
      simp [h0, h1]
theorem impl_formed {l : List Done} (hs : RDones ro h [.sl 5 a l.length c] l F) (hn : l.length ≤ 1048576) : evl lo 166 [.sl 5 a l.length c] h = some (.bool (decide (l.length ≤ 80) && l.all doneOk), h) := by
  refine E_impl_formed (h' := h) ?_
  by_cases h8 : l.length ≤ 80
  · rw [br_pos (by omega), decide_eq_true h8, ContainsFunc_Done hs hn (p := fun d => !doneOk d) (fun lo d _ => by
      rw [show ∀ x : List V, fnArgs x [] = x from fun x => by simp [fnArgs]]
      refine E_impl_formed_1 (h' := h) ?_
      rw [impl_within, cal_s, eB_b, impl_within, cal_s, eB_b, impl_keyOk, cal_s, eB_b, impl_TagOk, cal_s, eB_b, ← done_eq]
      cases within d.sess 0 3 <;> cases within d.kind 1 3 <;> cases within d.key 0 3 <;> cases tagOk d.tag.time d.tag.place <;> cases ((d.tag.time == 0) && ((d.tag.place == 0) && true)) <;> cases (d.kind == 2) <;> rfl), cal_s, eB_b]
    rw [List.any_eq_not_all_not]
    simp only [Bool.not_not, Bool.true_and]
    cases l.all doneOk <;> rfl
  · rw [br_neg (by omega), decide_eq_false h8]; rfl
theorem impl_beginsWith {l l' : List Ver} (hs : RVers false h [.sl 6 a l.length c] l F) (hs' : RVers false h [.sl 6 a' l'.length c'] l' F') (hn : smVers l) : evl lo 167 [.sl 6 a l.length c, .sl 6 a' l'.length c'] h = some (.bool (begins l l'), h) := by
  refine E_impl_beginsWith (h' := h) ?_
  unfold begins
  by_cases hl : l'.length ≤ l.length
  · obtain ⟨G, hp⟩ := Sli.pre hs hl
    have htl : (l.take l'.length).length = l'.length := by rw [List.length_take]; omega
    rw [br_pos (by omega), reslice_pre hs hl, decide_eq_true hl]
    have hp' : RVers false h [.sl 6 a (l.take l'.length).length c] (l.take l'.length) G := by rw [htl]; exact hp
    have hsm : smVers (l.take l'.length) := ⟨by rw [htl]; have := hn.1; omega, fun v hv => hn.2 v (List.mem_of_mem_take hv)⟩
    have e := impl_EqualFunc (lo := List.length h) hp' hs' hsm
    rw [htl] at e
    rw [e, cal_s, eB_b, Bool.true_and]
    exact br_some
  · rw [br_neg (by omega), decide_eq_false hl]; rfl
end
end Go.Proofs.YthdfojchihooeaaGreat
