/- Part 4 of what is shown for the law FnExactPlaceJoin, whatever the input; no condition of its own. -/
import Derived.Test.YtfhnofppfacemaaGreatBXPlaceJoin3
namespace Go.Proofs.YtfhnofppfacemaaGreat
open Go T
set_option linter.unusedVariables false
set_option linter.unusedSimpArgs false
def nodeCauses (st : List Tag) (x : Node) : Bool := (x.store.all fun v => !decide (v.tag.time > 0) || under v.past st) && x.wait.all fun v => under v.past st
def causesOk (l : List Node) : Bool := l.all (nodeCauses (stable l))
def headOk (l : List Node) (clock : Int) : Bool := match l[0]? with
  | some x => x.store.all fun v => decide (v.tag.time ≤ clock)
  | none => false
def gotAt (me : Int) (i : Nat) (l : List Ver) : Bool := logOk i l && (!((i : Int) == me) || decide (l.length = 0))
def placeOk (p : Place) : Bool := within p.me 0 2 && within p.clock 0 999 && decide (p.got.length = 3) && chainOk p.chain && causesOk p.chain && logOk p.me p.log && (p.got.zipIdx.all fun x => gotAt p.me x.2 x.1) && headOk p.chain p.clock

theorem if_some {b : Bool} {h : Heap} : (if b = true then some (V.bool true, h) else some (V.bool false, h)) = some (V.bool b, h) := by cases b <;> rfl
theorem chainOk_sm {l : List Node} (h : chainOk l = true) : smNodes l := by
  obtain ⟨h1, h2⟩ := chainOk_all h
  refine ⟨by omega, fun x hx => ?_⟩
  obtain ⟨g1, g2, g3⟩ := nodeOk_parts (h2 x hx)
  refine ⟨storeOk_sm g1, by omega, fun v hv => ?_⟩
  obtain ⟨_, h2, _, h3, _⟩ := verOk_parts (g3 v hv)
  have := textOk_size h2
  have := pastOk_len h3
  omega
theorem stable_len {l : List Node} (h : chainOk l = true) : (stable l).length = 4 := by
  obtain ⟨h1, h2⟩ := chainOk_all h
  rw [last_get (by omega)]
  simp only [tagsOf, List.length_map]
  exact storeOk_len (nodeOk_parts (h2 _ (List.getElem_mem _))).1
theorem ld_of {h : Heap} {b i j n R e : Nat} {ro : Bool} {rs : List (List V)} {row : List V} (hb : h[b]? = some (.rows R e ro rs)) (hi : rs[i]? = some row) : ld h b i j n = cut row j n := by
  simp [ld, Heap.rows?, hb, hi]
theorem store_past {x : Node} (h : nodeOk x = true) {i : Nat} (hi : i < x.store.length) (ht : x.store[i].tag.time > 0) : x.store[i].past.length = 4 := by
  rcases verAt_case (storeOk_get (nodeOk_parts h).1 hi) with g | g
  · have := zero_time g; omega
  · exact pastOk_len (verOk_parts g.1).2.2.2.1
theorem wait_past {x : Node} (h : nodeOk x = true) {i : Nat} (hi : i < x.wait.length) : x.wait[i].past.length = 4 := pastOk_len (verOk_parts ((nodeOk_parts h).2.2 _ (List.getElem_mem hi))).2.2.2.1

section
variable {lo : Nat} {h : Heap} {F F' : List Nat} {a a' : Option (Nat × Nat)} {c c' : Option Nat}
theorem spec_l4Causes {l : List Node} (hs : RNodes false h [.sl 2 a l.length c] l F) (hc : chainOk l = true) : evl lo 162 [.agg [.sl 2 a l.length c]] h = some (.bool (causesOk l), h) := by
  obtain ⟨hl4, hno⟩ := chainOk_all hc
  have hst := stable_len hc
  obtain ⟨v1, h1, F1, e1, r1, m1⟩ := spec_l3Stable (lo := h.length) hs (Nat.le_refl _) (chainOk_sm hc) (by omega)
  obtain ⟨a3, c3, es3, r1⟩ := r1.form
  refine E_spec_l4Causes (h' := h1) ?_
  rw [e1]; simp only [cal_s, eA_a, eC_c, es3, eN_n]
  have hs1 := m1.keep0 rnodes_ok hs
  refine (all_loop (p := nodeCauses (stable l)) (l := l) (fun i => L_spec_l4Causes_0 (List.length h) false (i : Nat) a l.length c a3 (stable l).length c3 h1) (some (.bool false, h1)) (some (.bool true, h1)) (fun i hi => ?_) ?_).trans ?_
  · have hno := hno _ (List.getElem_mem hi)
    have hsl := storeOk_len (nodeOk_parts hno).1
    have hwl := (nodeOk_parts hno).2.1
    obtain ⟨o, s1, s2, b1, d1, b2, d2, G1, G2, ha, ho, ho1, ho2, e1, e2, p1, p2, _⟩ := hs1.get hi
    rw [L_spec_l4Causes_0.e, br_pos (by omega)]
    refine (all_loop (p := fun v : Ver => !decide (v.tag.time > 0) || under v.past (stable l)) (l := l[i].store) (fun k => L_spec_l4Causes_2 (List.length h) false (i : Nat) (k : Nat) a l.length c a3 (stable l).length c3 h1) (some (.bool false, h1)) (L_spec_l4Causes_4 (List.length h) false (i : Nat) 0 a l.length c a3 (stable l).length c3 h1) (fun k hk => ?_) ?_).trans ?_
    · obtain ⟨o', s, b, d, G, ha', ho', es, hp, _⟩ := p1.get hk
      rw [L_spec_l4Causes_2.e, br_pos (by omega), inB_nat hi]
      simp only [ha, eO_s, Int.toNat_natCast, ho1, eC_c, e1, eN_n, inB_nat hk, ha', ho', eI_int, es, eT_s, eBv_b, wr_succ (show k < 9223372036854775807 by omega)]
      by_cases ht : l[i].store[k].tag.time > 0
      · rw [br_pos ht, spec_l1Within hp r1 (store_past hno hk ht) hst]
        simp only [cal_s, eB_b, decide_eq_true ht, Bool.not_true, Bool.false_or, ← ha]
        exact br_if
      · rw [br_neg ht, decide_eq_false ht, ← ha]; rfl
    · rw [L_spec_l4Causes_2.e, br_neg (by omega)]
    · unfold nodeCauses
      cases hall : l[i].store.all fun v : Ver => !decide (v.tag.time > 0) || under v.past (stable l) with
      | false => rw [if_neg Bool.false_ne_true, Bool.false_and, if_neg Bool.false_ne_true]
      | true =>
        rw [if_pos rfl, Bool.true_and]
        refine all_loop (p := fun v : Ver => under v.past (stable l)) (l := l[i].wait) (fun k => L_spec_l4Causes_4 (List.length h) false (i : Nat) (k : Nat) a l.length c a3 (stable l).length c3 h1) (some (.bool false, h1)) (L_spec_l4Causes_0 (List.length h) false ((i + 1 : Nat) : Int) a l.length c a3 (stable l).length c3 h1) (fun k hk => ?_) ?_
        · obtain ⟨o', s, b, d, G, ha', _, _, _, ho3, _, _, _, _, es, hp, _⟩ := p2.all hk
          rw [L_spec_l4Causes_4.e, inB_nat hi]
          simp only [ha, eO_s, Int.toNat_natCast, ho2, eC_c, e2, eN_n]
          rw [br_pos (by omega), inB_nat hi]
          simp only [e2, inB_nat hk, ha', eO_s, ho3, eC_c, es, eN_n]
          rw [spec_l1Within hp r1 (wait_past hno hk) hst]
          simp only [cal_s, eB_b, wr_succ (show k < 9223372036854775807 by omega), ← ha]
          exact br_if
        · rw [L_spec_l4Causes_4.e, inB_nat hi]
          simp only [ha, eO_s, Int.toNat_natCast, ho2, eC_c, e2, eN_n]
          rw [br_neg (by omega), wr_succ (by omega)]
  · rw [L_spec_l4Causes_0.e, br_neg (by omega)]
  · unfold causesOk
    cases l.all (nodeCauses (stable l)) <;> rfl
theorem spec_l4Ok {p : Place} {a1 a2 a3 : Option (Nat × Nat)} {c1 c2 c3 : Option Nat} {F1 F2 F3 : List Nat} (hs1 : RNodes false h [.sl 2 a1 p.chain.length c1] p.chain F1) (hs2 : RVers false h [.sl 6 a2 p.log.length c2] p.log F2)
    (hs3 : RVss false h [.sl 1 a3 p.got.length c3] p.got F3) (hn : smPlace p) : evl lo 70 [.agg (p.cs a1 c1 a2 c2 a3 c3)] h = some (.bool (placeOk p), h) := by
  refine E_spec_l4Ok (h' := h) ?_
  simp only [spec_l1In, cal_s, eB_b]
  unfold placeOk
  cases within p.me 0 2 with
  | false => rfl
  | true =>
  cases within p.clock 0 999 with
  | false => rfl
  | true =>
  by_cases hg : ¬ p.got.length = 3
  · rw [show ((p.got.length : Int) == 3) = false by rw [beq_eq_false_iff_ne]; omega, decide_eq_false hg]; rfl
  have hg : p.got.length = 3 := by omega
  rw [show ((p.got.length : Int) == 3) = true by rw [beq_iff_eq]; omega, decide_eq_true hg]
  simp only [br_t]
  rw [spec_l3Ok hs1 hn.1]
  simp only [cal_s, eB_b]
  cases hc : chainOk p.chain with
  | false => rfl
  | true =>
  rw [br_t, spec_l4Causes hs1 hc]
  simp only [cal_s, eB_b]
  cases causesOk p.chain with
  | false => rfl
  | true =>
  rw [br_t, spec_l4Log hs2 hn.2.1]
  simp only [cal_s, eB_b]
  cases logOk p.me p.log with
  | false => rfl
  | true =>
  obtain ⟨hl4, hno⟩ := chainOk_all hc
  simp only [br_t, Bool.true_and, Bool.and_true]
  refine (all_idx (p := gotAt p.me) (l := p.got) (fun i => L_spec_l4Ok_0 (List.length h) false (i : Nat) p.me p.clock a1 p.chain.length c1 a2 p.log.length c2 a3 p.got.length c3 p.fell h) (some (.bool false, h)) (some (.bool (headOk p.chain p.clock), h)) (fun i hi => ?_) ?_).trans ?_
  · obtain ⟨o, s, b, d, G, ha, ho, es, hp, _⟩ := hs3.get hi
    rw [L_spec_l4Ok_0.e, br_pos (by omega), inB_nat hi]
    simp only [ha, eO_s, Int.toNat_natCast, ho, eC_c, es, eN_n]
    rw [spec_l4Log hp (hn.2.2.2 _ (List.getElem_mem hi))]
    simp only [cal_s, eB_b, inB_nat hi, ho, eO_s, eC_c, es, eN_n, wr_succ (show i < 9223372036854775807 by omega), ← ha]
    unfold gotAt
    by_cases h0 : p.got[i].length = 0
    · rw [br_neg (by omega), decide_eq_true h0]
      cases logOk i p.got[i] <;> cases ((i : Int) == p.me) <;> rfl
    · rw [br_pos (by omega), decide_eq_false h0]
      cases logOk i p.got[i] <;> cases ((i : Int) == p.me) <;> rfl
  · obtain ⟨o, s1, s2, b1, d1, b2, d2, G1, G2, ha, ho, ho1, ho2, e1, e2, q1, q2, _⟩ := hs1.get (show 0 < p.chain.length by omega)
    have hsl := storeOk_len (nodeOk_parts (hno _ (List.getElem_mem (show 0 < p.chain.length by omega)))).1
    rw [L_spec_l4Ok_0.e, br_neg (by omega), show (0 : Int) = ((0 : Nat) : Int) from rfl, inB_nat (by omega)]
    simp only [ha, eO_s, ho1, eC_c, e1, eN_n]
    unfold headOk
    rw [List.getElem?_eq_getElem (show 0 < p.chain.length by omega)]
    refine (all_loop (p := fun v : Ver => decide (v.tag.time ≤ p.clock)) (l := p.chain[0].store) (fun k => L_spec_l4Ok_2 (List.length h) false (k : Nat) p.me p.clock (some o) p.chain.length c1 a2 p.log.length c2 a3 p.got.length c3 p.fell b1 p.chain[0].store.length d1 h) (some (.bool false, h)) (some (.bool true, h)) (fun k hk => ?_) ?_).trans ?_
    · obtain ⟨o', s, b, d, G, ha', _, ho1', _⟩ := q1.all hk
      rw [L_spec_l4Ok_2.e, br_pos (by omega), inB_nat hk]
      simp only [ha', eO_s, Int.toNat_natCast, ho1', eC_c, eI_int, eN_n, wr_succ (show k < 9223372036854775807 by omega)]
      by_cases ht : p.chain[0].store[k].tag.time ≤ p.clock
      · rw [br_neg (by omega), decide_eq_true ht]; rfl
      · rw [br_pos (by omega), decide_eq_false ht]; rfl
    · rw [L_spec_l4Ok_2.e, br_neg (by omega)]
    · exact if_some
  · cases (p.got.zipIdx.all fun x => gotAt p.me x.2 x.1) <;> cases headOk p.chain p.clock <;> rfl
end
end Go.Proofs.YtfhnofppfacemaaGreat
namespace Go.Proofs.YtfhnofppfacemaaGreat
open Go T
set_option linter.unusedVariables false
set_option linter.unusedSimpArgs false
/-- all hold, one by one, while memory grows -/
theorem all_mv {α : Type} {p : Nat → α → Bool} {l : List α} {h0 : Heap} (L : Nat → Heap → Option (V × Heap)) (res : Bool)
    (step : ∀ i (hi : i < l.length) hh, Mv h0 [] hh [] → ∃ h2, Mv hh [] h2 [] ∧ L i hh = if p i l[i] = true then L (i + 1) h2 else some (.bool false, h2))
    (done : ∀ hh, Mv h0 [] hh [] → ∃ h2, L l.length hh = some (.bool res, h2)) : ∃ h', L 0 h0 = some (.bool ((l.zipIdx.all fun x => p x.2 x.1) && res), h') := by
  have loop : ∀ m i hh, m + i = l.length → Mv h0 [] hh [] → ∃ h', L i hh = some (.bool (((l.zipIdx.drop i).all fun x => p x.2 x.1) && res), h') := by
    intro m
    induction m with
    | zero =>
      intro i hh hi hm
      have : i = l.length := by omega
      subst this
      obtain ⟨h2, e⟩ := done hh hm
      exact ⟨h2, by rw [e, List.drop_of_length_le (by simp)]; rfl⟩
    | succ m ih =>
      intro i hh hi hm
      have hlt : i < l.length := by omega
      obtain ⟨h2, m2, e⟩ := step i hlt hh hm
      rw [e, List.drop_eq_getElem_cons (show i < l.zipIdx.length by simpa using hlt), List.all_cons]
      simp only [List.getElem_zipIdx, Nat.zero_add]
      cases hp : p i l[i] with
      | false => exact ⟨h2, by rw [if_neg Bool.false_ne_true]; rfl⟩
      | true =>
        obtain ⟨h', e'⟩ := ih (i + 1) h2 (by omega) (hm.trans m2)
        exact ⟨h', by rw [if_pos rfl, e']; rfl⟩
  exact loop l.length 0 h0 (by omega) Mv.nil
/-- a slice's own rows -/
theorem rowsOf_sli {α : Type} {El : Rel α} {R e : Nat} {h : Heap} {a : Option (Nat × Nat)} {c : Option Nat} {l : List α} {F : List Nat} (hs : Sli false R e El h [.sl R a l.length c] l F) :
    ∃ rows Fs, (∀ {T : Type} (K : List (List V) → Option T), rowsOf R h (.sl R a l.length c) K = K rows) ∧ EAll El h rows l Fs ∧ (∀ b ∈ Fs.flatten, b ∈ F) ∧ (F.Nodup → Fs.flatten.Nodup) := by
  obtain ⟨R', a', c', e1, e2⟩ := hs
  injection e1 with e1 _; injection e1 with e0 e3 _ e4
  subst e0; subst e3; subst e4
  cases a with
  | none =>
    obtain ⟨rfl, _, _⟩ := e2
    exact ⟨[], [], fun K => rfl, trivial, by simp, by simp⟩
  | some q =>
    obtain ⟨b, i⟩ := q
    obtain ⟨hR, rs, Fs, g1, g2, g3, g4, g5, rfl⟩ := e2
    refine ⟨_, Fs, fun K => ?_, g5, fun b hb => by simp only [List.mem_cons]; exact .inr hb, fun hn => (List.nodup_cons.1 hn).2⟩
    simp only [rowsOf, beq_of, need_t]
    cases hl : l.length with
    | zero => simp
    | succ n => simp only [ldRows, Heap.rows?, g1, Option.bind_some, ble_of (show i + (n + 1) ≤ rs.length by omega), eO_s]
def zeroTag (v : Ver) : Bool := v.tag.time == 0 && v.tag.place == 0
def elemOk (st : List Tag) (clock : Int) (k : Nat) (v : Ver) : Bool := (zeroTag v || under v.past st) && (!decide (k = 0) || decide (v.tag.time ≤ clock))
theorem lessV_time {v u : Ver} (h : lessV v u = true) : v.tag.time ≤ u.tag.time := by
  simp [lessV, less] at h; omega
/-- what waits is no later than what it makes -/
theorem fitsL_time : ∀ {w s t : List Ver}, fitsL s w = some t → s.length = t.length ∧ (∀ k (h1 : k < s.length) (h2 : k < t.length), s[k].tag.time ≤ t[k].tag.time) ∧ ∀ v ∈ w, ∃ h2 : v.key.toNat < t.length, v.tag.time ≤ t[v.key.toNat].tag.time
  | [], s, t, h => by injection h with h; subst h; exact ⟨rfl, fun k _ _ => Int.le_refl _, by simp⟩
  | v :: w, s, t, h => by
    simp only [fitsL] at h
    by_cases hk : v.key.toNat < s.length
    · rw [List.getElem?_eq_getElem hk] at h
      cases hl : lessV s[v.key.toNat] v with
      | false => simp [hl] at h
      | true =>
        simp only [hl, cond_true] at h
        obtain ⟨i1, i2, i3⟩ := fitsL_time h
        rw [List.length_set] at i1
        have ht := lessV_time hl
        refine ⟨i1, fun k h1 h2 => ?_, fun u hu => ?_⟩
        · have := i2 k (by simpa using h1) h2
          rw [List.getElem_set] at this
          split at this
          · rename_i he; subst he; omega
          · exact this
        · rcases List.mem_cons.1 hu with rfl | hu
          · have := i2 u.key.toNat (by simpa using hk) (by omega)
            rw [List.getElem_set_self] at this
            exact ⟨by omega, this⟩
          · exact i3 u hu
    · rw [List.getElem?_eq_none (by omega)] at h; cases h
theorem zeroTag_iff {x : Node} (h : nodeOk x = true) {v : Ver} (hv : v ∈ x.store) : zeroTag v = !decide (v.tag.time > 0) := by
  obtain ⟨i, hi, rfl⟩ := List.mem_iff_getElem.1 hv
  rcases verAt_case (storeOk_get (nodeOk_parts h).1 hi) with g | g
  · have := zero_time g
    unfold zeroTag; rw [this.1, this.2]; rfl
  · have := verOk_time g.1
    unfold zeroTag
    rw [decide_eq_true this, show (x.store[i].tag.time == 0) = false by rw [beq_eq_false_iff_ne]; omega]; rfl
theorem zeroTag_ok {v : Ver} (h : verOk v = true) : zeroTag v = false := by
  have := verOk_time h
  unfold zeroTag
  rw [show (v.tag.time == 0) = false by rw [beq_eq_false_iff_ne]; omega]; rfl
theorem causes_alt {l : List Node} {clock : Int} (hc : chainOk l = true) : (l.zipIdx.all fun x => (x.1.store ++ x.1.wait).all (elemOk (stable l) clock x.2)) = (causesOk l && headOk l clock) := by
  obtain ⟨hl4, hno⟩ := chainOk_all hc
  rw [Bool.eq_iff_iff, Bool.and_eq_true]
  rw [all_zipIdx (p := fun i (x : Node) => (x.store ++ x.wait).all (elemOk (stable l) clock i))]
  unfold causesOk headOk
  rw [List.getElem?_eq_getElem (show 0 < l.length by omega), all_get]
  simp only [List.all_append, Bool.and_eq_true, List.all_eq_true]
  constructor
  · intro hx
    refine ⟨fun i hi => ?_, fun v hv => ?_⟩
    · have hi' := hno _ (List.getElem_mem hi)
      unfold nodeCauses
      simp only [Bool.and_eq_true, List.all_eq_true]
      refine ⟨fun v hv => ?_, fun v hv => ?_⟩
      · have := (hx i hi).1 v hv
        simp only [elemOk, Bool.and_eq_true] at this
        rw [← zeroTag_iff hi' hv]; exact this.1
      · have := (hx i hi).2 v hv
        simp only [elemOk, Bool.and_eq_true, zeroTag_ok ((nodeOk_parts hi').2.2 v hv), Bool.false_or] at this
        exact this.1
    · have := (hx 0 (by omega)).1 v hv
      simp only [elemOk, Bool.and_eq_true] at this
      simpa using this.2
  · rintro ⟨h1, h2⟩ i hi
    have hi' := hno _ (List.getElem_mem hi)
    have h3 := h1 i hi
    unfold nodeCauses at h3
    simp only [Bool.and_eq_true, List.all_eq_true] at h3
    refine ⟨fun v hv => ?_, fun v hv => ?_⟩
    · unfold elemOk
      rw [zeroTag_iff hi' hv, h3.1 v hv, Bool.true_and]
      by_cases h0 : i = 0
      · subst h0; simpa using h2 v hv
      · simp [h0]
    · unfold elemOk
      rw [h3.2 v hv, Bool.or_true, Bool.true_and]
      by_cases h0 : i = 0
      · subst h0
        have hlk := chainOk_link hc hi
        unfold linkAt at hlk
        by_cases h10 : 0 + 1 < l.length
        · rw [List.getElem?_eq_getElem h10] at hlk
          simp only [fits] at hlk
          cases hf : fitsL l[0 + 1].store l[0].wait with
          | none => simp [hf] at hlk
          | some t =>
            simp only [hf] at hlk
            have e := sameVers_iff.1 hlk
            obtain ⟨_, _, g3⟩ := fitsL_time hf
            obtain ⟨g4, g5⟩ := g3 v hv
            have := h2 (l[0].store[v.key.toNat]'(by rw [← e]; exact g4)) (List.getElem_mem _)
            simp only [decide_eq_true_eq] at this
            simp only [← e] at this
            simp only [decide_true, Bool.not_true, Bool.false_or, decide_eq_true_eq]
            omega
        · rw [List.getElem?_eq_none (by omega)] at hlk
          simp only [decide_eq_true_eq] at hlk
          have : l[0].wait = [] := List.eq_nil_of_length_eq_zero hlk
          rw [this] at hv; simp at hv
      · simp [h0]

section
variable {lo : Nat} {h : Heap} {F F' : List Nat} {a a' : Option (Nat × Nat)} {c c' : Option Nat}
theorem impl_tail {b i j : Nat} {l : List Node} (hld : ld h b i j 1 = some [.sl 2 a l.length c]) (hs : RNodes false h [.sl 2 a l.length c] l F) (h0 : 0 < l.length) (hn : l.length ≤ 1048576) :
    ∃ a' c' G, evl lo 166 [.ptr (some (b, i, j))] h = some (.agg [.sl 6 a' (l[l.length - 1]'(by omega)).store.length c'], h) ∧ RVers false h [.sl 6 a' (l[l.length - 1]'(by omega)).store.length c'] (l[l.length - 1]'(by omega)).store G ∧ ∀ y ∈ G, y ∈ F := by
  obtain ⟨o, s1, s2, b1, d1, b2, d2, G1, G2, ha, ho, ho1, ho2, e1, e2, q1, q2, q3, _⟩ := hs.get (show l.length - 1 < l.length by omega)
  refine ⟨b1, d1, G1, E_impl_Chain_tail ?_, q1, q3⟩
  simp only [Nat.add_zero, hld, eO_s, eC_c, eS_sl, eN_n]
  rw [wr (by omega) (by omega), inB_in ⟨by omega, by omega⟩, show ((l.length : Int) - 1).toNat = l.length - 1 by omega]
  simp only [ha, eO_s, ho1, eC_c, e1, eN_n]
theorem app_in {T : Type} {e R bytes b i len : Nat} {rs xs : List (List V)} {K : V → Heap → Option T} (hb : h[b]? = some (.rows R e false rs)) (hl : lo ≤ b) (hf : i + len + xs.length ≤ rs.length) (h0 : 0 < bytes) (hsz : (len + xs.length) * bytes ≤ 140737488355328) :
    app lo e R bytes (.sl R (some (b, i)) len none) xs h K = K (.sl R (some (b, i)) (len + xs.length) none) (h.set b (.rows R e false (rs.take (i + len) ++ xs ++ rs.drop (i + len + xs.length)))) := by
  cases xs with
  | nil =>
    simp only [app, List.length_nil, Nat.add_zero, List.append_nil, List.take_append_drop]
    rw [set_same hb]
  | cons x xs =>
    have hbl : Nat.blt 0 bytes = true := by simpa [Nat.blt_eq] using h0
    have hsz' : decide ((len + (x :: xs).length) * bytes ≤ maxBytes) = true := decide_eq_true hsz
    have hown : Heap.own? lo e h b = some rs := by simp only [Heap.own?, hb, ble_of hl, beq_of]
    have hst : stRows lo h b (i + len) (x :: xs) = some (h.set b (.rows R e false (rs.take (i + len) ++ (x :: xs) ++ rs.drop (i + len + (x :: xs).length)))) := by
      simp only [stRows, hb, ble_of hl, ble_of hf]
    simp only [app, hbl, hsz', need_t, beq_of, hown, eO_s, ble_of hf, hst]
theorem impl_Concat {l1 l2 : List Ver} {a1 a2 : Option (Nat × Nat)} {c1 c2 : Option Nat} {F1 F2 : List Nat} (hs1 : RVers false h [.sl 6 a1 l1.length c1] l1 F1) (hs2 : RVers false h [.sl 6 a2 l2.length c2] l2 F2) (hl1 : l1.length = 4) (hl2 : l2.length ≤ 6) (hlo : lo ≤ h.length) :
    ∃ a' F' h', evl lo 168 [.sl 1 (some (h.length, 0)) 2 (some 2)] (h ++ [.rows 1 44 false [[.sl 6 a1 l1.length c1], [.sl 6 a2 l2.length c2]]]) = some (.sl 6 a' (l1 ++ l2).length none, h') ∧
      RVers false h' [.sl 6 a' (l1 ++ l2).length none] (l1 ++ l2) F' ∧ Mv h [] h' [] := by
  have m0 : Mv h [] (h ++ [.rows 1 44 false [[.sl 6 a1 l1.length c1], [.sl 6 a2 l2.length c2]]]) [] := Mv.snoc
  have hbB : (h ++ [Blk.rows 1 44 false [[.sl 6 a1 l1.length c1], [.sl 6 a2 l2.length c2]]])[h.length]? = some (.rows 1 44 false [[.sl 6 a1 l1.length c1], [.sl 6 a2 l2.length c2]]) := by simp
  have hBl : h.length < (h ++ [Blk.rows 1 44 false [[.sl 6 a1 l1.length c1], [.sl 6 a2 l2.length c2]]]).length := by simp
  generalize hB : h ++ [Blk.rows 1 44 false [[.sl 6 a1 l1.length c1], [.sl 6 a2 l2.length c2]]] = B at *
  have r1 := m0.keep0 rvers_ok hs1
  have r2 := m0.keep0 rvers_ok hs2
  obtain ⟨n, hn⟩ : ∃ n, l1.length + l2.length = n + 1 := ⟨l1.length + l2.length - 1, by omega⟩
  have m1 : Mv B [] (B ++ [.rows 6 36 false (List.replicate (n + 1) [.int .i64 0, .int .i64 0, .int .i64 0, .sl 0 none 0 (some 0), .str ⟨⟨[]⟩⟩, .bool false])]) [] := Mv.snoc
  have hC0 : (B ++ [Blk.rows 6 36 false (List.replicate (n + 1) [V.int .i64 0, .int .i64 0, .int .i64 0, .sl 0 none 0 (some 0), .str ⟨⟨[]⟩⟩, .bool false])])[B.length]? = some (.rows 6 36 false (List.replicate (n + 1) [.int .i64 0, .int .i64 0, .int .i64 0, .sl 0 none 0 (some 0), .str ⟨⟨[]⟩⟩, .bool false])) := by simp
  have grow : evl lo 241 [.sl 0 none 0 (some 0), .int .i64 ((n + 1 : Nat) : Int)] B = some (.sl 6 (some (B.length, 0)) 0 none, B ++ [.rows 6 36 false (List.replicate (n + 1) [.int .i64 0, .int .i64 0, .int .i64 0, .sl 0 none 0 (some 0), .str ⟨⟨[]⟩⟩, .bool false])]) := by
    refine E_slices_Grow_impl_Ver_impl_Ver_z ?_
    have e1 : IntKind.i64.wrap (((0 : Nat) : Int) - ((0 : Nat) : Int)) = 0 := by decide
    have e2 : IntKind.i64.wrap (((n + 1 : Nat) : Int) - 0) = ((n + 1 : Nat) : Int) := by rw [wr (by omega) (by omega)]; omega
    rw [br_neg (by omega)]
    simp only [eO_s, e1, e2]
    rw [br_pos (by omega)]
    have e3 : ∀ {T : Type} (K : Option (Nat × Nat) → Nat → Option Nat → Option T), reslice none 0 (some 0) none (some (.int .i64 0)) none K = K none 0 (some 0) := by
      intro T K
      unfold reslice slMax slHi slLo
      simp only [eI_int]
      rw [inS_in ⟨by decide, by decide⟩]; rfl
    rw [e3, need_of ⟨by omega, by omega⟩, Int.toNat_natCast, List.replicate_succ]
    simp only [app, show Nat.blt 0 72 = true from rfl, need_t]
    rw [need_of (by simp [maxBytes]; omega)]
    simp only [eS_sl]
    unfold reslice slMax slHi slLo
    simp only [eI_int]
    rw [inS_in ⟨by omega, by omega⟩]
    simp [List.replicate_succ]
  have hBle : B.length < (B ++ [Blk.rows 6 36 false (List.replicate (n + 1) [V.int .i64 0, .int .i64 0, .int .i64 0, .sl 0 none 0 (some 0), .str ⟨⟨[]⟩⟩, .bool false])]).length := by simp
  generalize hC : B ++ [Blk.rows 6 36 false (List.replicate (n + 1) [V.int .i64 0, .int .i64 0, .int .i64 0, .sl 0 none 0 (some 0), .str ⟨⟨[]⟩⟩, .bool false])] = C at *
  generalize hz : [V.int .i64 0, .int .i64 0, .int .i64 0, .sl 0 none 0 (some 0), .str ⟨⟨[]⟩⟩, .bool false] = z at hC0
  obtain ⟨rows1, Fs1, er1, ea1, sub1, _⟩ := rowsOf_sli (m1.keep0 rvers_ok r1)
  have len1 := ea1.len.1
  have bd1 := fun y hy => rvers_ok.bd _ _ _ _ r1 y (sub1 y hy)
  -- the first behind nothing
  have frD : ∀ y, y ≠ B.length → (C.set B.length (.rows 6 36 false ((List.replicate (n + 1) z).take (0 + 0) ++ rows1 ++ (List.replicate (n + 1) z).drop (0 + 0 + rows1.length))))[y]? = C[y]? := fun y hy => List.getElem?_set_ne (Ne.symm hy)
  have hD0 : (C.set B.length (.rows 6 36 false ((List.replicate (n + 1) z).take (0 + 0) ++ rows1 ++ (List.replicate (n + 1) z).drop (0 + 0 + rows1.length))))[B.length]? = some (.rows 6 36 false (rows1 ++ List.replicate l2.length z)) := by
    rw [List.getElem?_set_self hBle]
    simp only [Nat.add_zero, List.take_zero, List.nil_append, Nat.zero_add, List.drop_replicate]
    rw [show n + 1 - rows1.length = l2.length by omega]
  have hDl : (C.set B.length (.rows 6 36 false ((List.replicate (n + 1) z).take (0 + 0) ++ rows1 ++ (List.replicate (n + 1) z).drop (0 + 0 + rows1.length)))).length = C.length := by simp
  have e5 := fun {T : Type} (K : V → Heap → Option T) => app_in (lo := lo) (e := 36) (bytes := 72) (i := 0) (len := 0) (xs := rows1) (K := K) hC0 (by omega) (by simp; omega) (by decide) (by omega)
  generalize hD : C.set B.length (.rows 6 36 false ((List.replicate (n + 1) z).take (0 + 0) ++ rows1 ++ (List.replicate (n + 1) z).drop (0 + 0 + rows1.length))) = D at *
  have mD : Mv B [] D [] := ⟨by omega, fun y hy _ => by rw [frD y (by omega)]; exact m1.fr y hy (by simp), by simp, by simp⟩
  obtain ⟨rows2, Fs2, er2, ea2, sub2, _⟩ := rowsOf_sli (mD.keep0 rvers_ok r2)
  have len2 := ea2.len.1
  have bd2 := fun y hy => rvers_ok.bd _ _ _ _ r2 y (sub2 y hy)
  have e6 := fun {T : Type} (K : V → Heap → Option T) => app_in (lo := lo) (e := 36) (bytes := 72) (i := 0) (len := 4) (xs := rows2) (K := K) hD0 (by omega) (by simp; omega) (by decide) (by omega)
  have hDle : B.length < D.length := by omega
  have hE0 : (D.set B.length (.rows 6 36 false ((rows1 ++ List.replicate l2.length z).take (0 + 4) ++ rows2 ++ (rows1 ++ List.replicate l2.length z).drop (0 + 4 + rows2.length))))[B.length]? = some (.rows 6 36 false (rows1 ++ rows2)) := by
    rw [List.getElem?_set_self hDle]
    rw [List.take_append_of_le_length (by omega), List.take_of_length_le (by omega), List.drop_of_length_le (by simp; omega), List.append_nil]
  have frE : ∀ y, y ≠ B.length → (D.set B.length (.rows 6 36 false ((rows1 ++ List.replicate l2.length z).take (0 + 4) ++ rows2 ++ (rows1 ++ List.replicate l2.length z).drop (0 + 4 + rows2.length))))[y]? = D[y]? := fun y hy => List.getElem?_set_ne (Ne.symm hy)
  have hEl : (D.set B.length (.rows 6 36 false ((rows1 ++ List.replicate l2.length z).take (0 + 4) ++ rows2 ++ (rows1 ++ List.replicate l2.length z).drop (0 + 4 + rows2.length)))).length = D.length := by simp
  generalize hE : D.set B.length (.rows 6 36 false ((rows1 ++ List.replicate l2.length z).take (0 + 4) ++ rows2 ++ (rows1 ++ List.replicate l2.length z).drop (0 + 4 + rows2.length))) = E at *
  have ldB : ∀ {X : Heap} (k : Nat) {v : V}, X[h.length]? = some (.rows 1 44 false [[.sl 6 a1 l1.length c1], [.sl 6 a2 l2.length c2]]) → ([[V.sl 6 a1 l1.length c1], [.sl 6 a2 l2.length c2]] : List (List V))[k]? = some [v] → ld X h.length k 0 1 = some [v] := fun k v hb hk => by rw [ld_of hb hk]; rfl
  refine ⟨some (B.length, 0), B.length :: (Fs1 ++ Fs2).flatten, E, E_slices_Concat_impl_Ver_impl_Ver ?_, ⟨6, some (B.length, 0), none, by simp, rfl, rows1 ++ rows2, Fs1 ++ Fs2, hE0, by simp; omega, fun k hk => (by cases hk), fun _ => rfl, ?_, rfl⟩, ⟨by omega, fun y hy _ => by rw [frE y (by omega), frD y (by omega), m1.fr y (by omega) (by simp)]; exact m0.fr y hy (by simp), by simp, by simp⟩⟩
  · have hBC : C[h.length]? = some (.rows 1 44 false [[.sl 6 a1 l1.length c1], [.sl 6 a2 l2.length c2]]) := by rw [m1.fr _ hBl (by simp)]; exact hbB
    have hBD : D[h.length]? = some (.rows 1 44 false [[.sl 6 a1 l1.length c1], [.sl 6 a2 l2.length c2]]) := by rw [frD _ (by omega)]; exact hBC
    have w1 : IntKind.i64.wrap (0 + (l1.length : Int)) = (l1.length : Int) := by rw [wr (by omega) (by omega)]; omega
    have w2 : IntKind.i64.wrap ((l1.length : Int) + (l2.length : Int)) = ((n + 1 : Nat) : Int) := by rw [wr (by omega) (by omega)]; omega
    have w3 : IntKind.i64.wrap (0 + 1) = 1 := by decide
    have w4 : IntKind.i64.wrap (1 + 1) = 2 := by decide
    rw [L_slices_Concat_impl_Ver_impl_Ver_0.e, br_pos (by decide), inB_in ⟨by decide, by decide⟩]
    simp only [eO_s, Nat.zero_add, show Int.toNat 0 = 0 from rfl]
    rw [ldB 0 hbB rfl]
    simp only [eO_s, eC_c, eN_n, eS_sl, w1, w3]
    rw [br_neg (by omega), L_slices_Concat_impl_Ver_impl_Ver_0.e, br_pos (by decide), inB_in ⟨by decide, by decide⟩]
    simp only [eO_s, Nat.zero_add, show Int.toNat 1 = 1 from rfl]
    rw [ldB 1 hbB rfl]
    simp only [eO_s, eC_c, eN_n, eS_sl, w2, w4]
    rw [br_neg (by omega), L_slices_Concat_impl_Ver_impl_Ver_0.e, br_neg (by decide), grow]
    simp only [cal_s, eS_sl]
    rw [L_slices_Concat_impl_Ver_impl_Ver_2.e, br_pos (by decide), inB_in ⟨by decide, by decide⟩]
    simp only [eO_s, Nat.zero_add, show Int.toNat 0 = 0 from rfl]
    rw [ldB 0 hBC rfl]
    simp only [eO_s, eC_c, eN_n, eS_sl, w3]
    rw [er1, e5]
    simp only [eS_sl]
    rw [L_slices_Concat_impl_Ver_impl_Ver_2.e, br_pos (by decide), inB_in ⟨by decide, by decide⟩]
    simp only [eO_s, Nat.zero_add, show Int.toNat 1 = 1 from rfl]
    rw [ldB 1 hBD rfl]
    simp only [eO_s, eC_c, eN_n, eS_sl, w4]
    rw [er2, show rows1.length = 4 by omega, e6]
    simp only [eS_sl]
    rw [L_slices_Concat_impl_Ver_impl_Ver_2.e, br_neg (by decide)]
    rw [show 4 + rows2.length = (l1 ++ l2).length by simp; omega]
  · rw [List.drop_zero, List.take_of_length_le (by simp; omega)]
    refine EAll.append (ea1.fr rver_ok.fr fun y hy => ?_) (ea2.fr rver_ok.fr fun y hy => frE y ?_)
    · have := bd1 y hy
      rw [frE y (by omega), frD y (by omega)]
    · have := bd2 y hy; omega
end
end Go.Proofs.YtfhnofppfacemaaGreat
namespace Go.Proofs.YtfhnofppfacemaaGreat
open Go T
set_option linter.unusedVariables false
set_option linter.unusedSimpArgs false
section
variable {lo : Nat} {h : Heap} {F F' : List Nat} {a a' : Option (Nat × Nat)} {c c' : Option Nat}
theorem impl_PlaceOk {p : Place} {a1 a2 a3 : Option (Nat × Nat)} {c1 c2 c3 : Option Nat} {F1 F2 F3 : List Nat} (hs1 : RNodes false h [.sl 2 a1 p.chain.length c1] p.chain F1) (hs2 : RVers false h [.sl 6 a2 p.log.length c2] p.log F2)
    (hs3 : RVss false h [.sl 1 a3 p.got.length c3] p.got F3) (hn : smPlace p) : evl lo 75 [.agg (p.cs a1 c1 a2 c2 a3 c3)] h = some (.bool (placeOk p), h) := by
  suffices hk : ∃ h', _ = some (V.bool (placeOk p), h') from hk.elim fun h' hk => E_impl_PlaceOk hk
  have m0 : Mv h [] (h ++ [.rows 6 47 false [p.cs a1 c1 a2 c2 a3 c3]]) [] := Mv.snoc
  have hB0 : (h ++ [Blk.rows 6 47 false [p.cs a1 c1 a2 c2 a3 c3]])[h.length]? = some (.rows 6 47 false [p.cs a1 c1 a2 c2 a3 c3]) := by simp
  have hBl : h.length < (h ++ [Blk.rows 6 47 false [p.cs a1 c1 a2 c2 a3 c3]]).length := by simp
  generalize hB : h ++ [Blk.rows 6 47 false [p.cs a1 c1 a2 c2 a3 c3]] = B at *
  have r1 := m0.keep0 rnodes_ok hs1
  have r2 := m0.keep0 rvers_ok hs2
  have r3 := m0.keep0 rvss_ok hs3
  have ld1 : ∀ {X : Heap} (j : Nat) {v : V}, X[h.length]? = some (.rows 6 47 false [p.cs a1 c1 a2 c2 a3 c3]) → (p.cs a1 c1 a2 c2 a3 c3)[j]? = some v → ld X h.length 0 j 1 = some [v] := fun j v hb hv => by
    rw [ld_of hb rfl]; exact cut_one hv
  rw [ld1 0 hB0 rfl]; simp only [eO_s, eC_c, eN_n, eI_int]
  rw [impl_placeOk]; simp only [cal_s, eB_b]
  unfold placeOk
  cases within p.me 0 2 with
  | false => exact ⟨_, rfl⟩
  | true =>
  rw [br_t, ld1 1 hB0 rfl]; simp only [eO_s, eC_c, eN_n, eI_int]
  rw [impl_within]; simp only [cal_s, eB_b]
  cases within p.clock 0 999 with
  | false => exact ⟨_, rfl⟩
  | true =>
  rw [br_t, ld1 2 hB0 rfl]; simp only [eO_s, eC_c, eN_n, eS_sl]
  rw [impl_ChainOk r1 hn.1]; simp only [cal_s, eB_b]
  cases hc : chainOk p.chain with
  | false => exact ⟨_, by rw [Bool.and_false]; rfl⟩
  | true =>
  rw [br_t, ld1 3 hB0 rfl]; simp only [eO_s, eC_c, eN_n, eS_sl]
  rw [ld1 0 hB0 rfl]; simp only [eO_s, eC_c, eN_n, eI_int]
  rw [impl_logOk r2 hn.2.1]; simp only [cal_s, eB_b]
  cases logOk p.me p.log with
  | false => exact ⟨_, by rw [Bool.and_false]; rfl⟩
  | true =>
  rw [br_t, ld1 4 hB0 rfl]; simp only [eO_s, eC_c, eN_n, eS_sl]
  by_cases hg : ¬ p.got.length = 3
  · rw [show ((p.got.length : Int) == 3) = false by rw [beq_eq_false_iff_ne]; omega, decide_eq_false hg]
    exact ⟨_, by rw [Bool.and_false]; rfl⟩
  have hg : p.got.length = 3 := by omega
  rw [show ((p.got.length : Int) == 3) = true by rw [beq_iff_eq]; omega, decide_eq_true hg, br_t]
  obtain ⟨hl4, hno⟩ := chainOk_all hc
  obtain ⟨at', ct, Gt, et, rt, _⟩ := impl_tail (lo := h.length) (ld1 2 hB0 rfl) r1 (by omega) (by omega)
  rw [et]; simp only [cal_s, eA_a, eC_c, eS_sl, eN_n]
  have hsl := storeOk_len (nodeOk_parts (hno _ (List.getElem_mem (show p.chain.length - 1 < p.chain.length by omega)))).1
  obtain ⟨vg, hg1, Gg, eg, rg, mg⟩ := impl_tags (lo := h.length) rt m0.le hsl
  obtain ⟨ag, cg, esg, rg⟩ := rg.form
  rw [← last_get (by omega)] at rg esg
  have hst := stable_len hc
  rw [eg]; simp only [cal_s, eA_a, eC_c, esg, eN_n]
  have hG0 : hg1[h.length]? = some (.rows 6 47 false [p.cs a1 c1 a2 c2 a3 c3]) := by rw [mg.fr _ hBl (by simp)]; exact hB0
  rw [ld1 2 hG0 rfl]; simp only [eO_s, eC_c, eN_n, eS_sl]
  have r1' := mg.keep0 rnodes_ok r1
  have r3' := mg.keep0 rvss_ok r3
  have key := all_mv (p := fun i (x : Node) => (x.store ++ x.wait).all (elemOk (stable p.chain) p.clock i)) (l := p.chain) (h0 := hg1) (fun i hh => L_impl_PlaceOk_0 (List.length h) (List.length h) 0 0 false a1 p.chain.length c1 (p.chain.length : Nat) (i : Nat) ag (stable p.chain).length cg hh)
    (p.got.zipIdx.all fun x => gotAt p.me x.2 x.1) (fun i hi hh hm => by
      have hni := hno _ (List.getElem_mem hi)
      obtain ⟨g1, g2, g3⟩ := nodeOk_parts hni
      obtain ⟨o, s1, s2, b1, d1, b2, d2, G1, G2, ha, ho, _, _, e1, e2, q1, q2, _⟩ := (hm.keep0 rnodes_ok r1').get hi
      obtain ⟨a5, F5, h5, e5, r5, m5⟩ := impl_Concat (lo := h.length) q1 q2 (storeOk_len g1) g2 (Nat.le_trans (Nat.le_of_lt hBl) (Nat.le_trans mg.le hm.le))
      have hmh : Mv hg1 [] h5 [] := hm.trans m5
      have hH0 : h5[h.length]? = some (.rows 6 47 false [p.cs a1 c1 a2 c2 a3 c3]) := by rw [hmh.fr _ (Nat.lt_of_lt_of_le hBl mg.le) (by simp)]; exact hG0
      have rgs := hmh.keep0 rtags_ok rg
      refine ⟨h5, m5, ?_⟩
      rw [L_impl_PlaceOk_0.e, br_pos (by omega), inB_nat hi]
      simp only [ha, eO_s, Int.toNat_natCast, ho, eC_c, e1, e2, eN_n]
      rw [e5]
      simp only [cal_s, eS_sl]
      rw [← ha]
      have hlen : (p.chain[i].store ++ p.chain[i].wait).length ≤ 10 := by rw [List.length_append, storeOk_len g1]; omega
      refine (all_loop (p := elemOk (stable p.chain) p.clock i) (l := p.chain[i].store ++ p.chain[i].wait) (fun k => L_impl_PlaceOk_2 (List.length h) (List.length h) 0 0 false (i : Nat) a1 p.chain.length c1 (p.chain.length : Nat) (i : Nat) a5 (p.chain[i].store ++ p.chain[i].wait).length none ((p.chain[i].store ++ p.chain[i].wait).length : Nat) (k : Nat) ag (stable p.chain).length cg h5) (some (.bool false, h5)) (L_impl_PlaceOk_0 (List.length h) (List.length h) 0 0 false a1 p.chain.length c1 (p.chain.length : Nat) ((i + 1 : Nat) : Int) ag (stable p.chain).length cg h5) (fun k hk => ?_) ?_).trans ?_
      · obtain ⟨o', s, b, d, G, ha', ho', es, hp, _⟩ := r5.get hk
        rw [L_impl_PlaceOk_2.e, br_pos (by omega), inB_nat hk]
        simp only [ha', eO_s, Int.toNat_natCast, ho', eC_c, eI_int, es, eT_s, eBv_b, eN_n, Bool.and_true, wr_succ (show k < 9223372036854775807 by omega), Nat.zero_add]
        rw [ld1 1 hH0 rfl]
        simp only [eO_s, eC_c, eN_n, eI_int]
        have hk0 : ((i : Int) == 0) = decide (i = 0) := by rw [Bool.eq_iff_iff, beq_iff_eq, decide_eq_true_eq]; omega
        rw [hk0]
        have elem : elemOk (stable p.chain) p.clock i (p.chain[i].store ++ p.chain[i].wait)[k] = ((zeroTag (p.chain[i].store ++ p.chain[i].wait)[k] || under (p.chain[i].store ++ p.chain[i].wait)[k].past (stable p.chain)) && (!decide (i = 0) || decide ((p.chain[i].store ++ p.chain[i].wait)[k].tag.time ≤ p.clock))) := rfl
        have past4 : zeroTag (p.chain[i].store ++ p.chain[i].wait)[k] = false → (p.chain[i].store ++ p.chain[i].wait)[k].past.length = 4 := by
          intro hz
          have hmem : (p.chain[i].store ++ p.chain[i].wait)[k] ∈ p.chain[i].store ++ p.chain[i].wait := List.getElem_mem hk
          rw [List.mem_append] at hmem
          rcases hmem with hmem | hmem
          · obtain ⟨j, hj, ej⟩ := List.mem_iff_getElem.1 hmem
            rw [← ej] at hz ⊢
            exact store_past hni hj (by have := zeroTag_iff hni (List.getElem_mem hj); rw [hz] at this; simpa using this)
          · obtain ⟨j, hj, ej⟩ := List.mem_iff_getElem.1 hmem
            rw [← ej]; exact wait_past hni hj
        rw [elem]
        generalize (p.chain[i].store ++ p.chain[i].wait)[k] = u at *
        have htm : ∀ {T : Type} (x y : Option T), br (decide (u.tag.time > p.clock)) x y = br (!decide (u.tag.time ≤ p.clock)) x y := by
          intro T x y
          by_cases ht : u.tag.time ≤ p.clock
          · rw [br_neg (by omega), decide_eq_true ht]; rfl
          · rw [br_pos (by omega), decide_eq_false ht]; rfl
        simp only [htm]
        show br (zeroTag u) _ _ = _
        cases hz : zeroTag u with
        | true =>
          cases decide (i = 0) <;> cases decide (u.tag.time ≤ p.clock) <;> simp only [br_t, br_f, Bool.not_true, Bool.not_false, Bool.true_and, Bool.false_and, Bool.and_true, Bool.and_false, Bool.true_or, Bool.false_or, Bool.or_true, Bool.or_false, cond_true, cond_false, if_true, if_false, Bool.false_eq_true]
        | false =>
          have hu4 := past4 hz
          rw [br_f, impl_under hp rgs (by omega) (by omega)]
          simp only [cal_s, eB_b]
          rw [ld1 1 hH0 rfl]
          simp only [eO_s, eC_c, eN_n, eI_int, htm]
          cases under u.past (stable p.chain) <;> cases decide (i = 0) <;> cases decide (u.tag.time ≤ p.clock) <;> simp only [br_t, br_f, Bool.not_true, Bool.not_false, Bool.true_and, Bool.false_and, Bool.and_true, Bool.and_false, Bool.true_or, Bool.false_or, Bool.or_true, Bool.or_false, cond_true, cond_false, if_true, if_false, Bool.false_eq_true]
      · rw [L_impl_PlaceOk_2.e, br_neg (by omega), wr_succ (by omega)]
      · rfl) (fun hh hm => by
      have hH0 : hh[h.length]? = some (.rows 6 47 false [p.cs a1 c1 a2 c2 a3 c3]) := by rw [hm.fr _ (Nat.lt_of_lt_of_le hBl mg.le) (by simp)]; exact hG0
      have r3s := hm.keep0 rvss_ok r3'
      refine ⟨hh, ?_⟩
      rw [L_impl_PlaceOk_0.e, br_neg (by omega)]
      simp only [Nat.zero_add]
      rw [ld1 4 hH0 rfl]; simp only [eO_s, eC_c, eN_n, eS_sl]
      refine (all_idx (p := gotAt p.me) (l := p.got) (fun i => L_impl_PlaceOk_4 (List.length h) (List.length h) 0 0 false a3 p.got.length c3 (p.got.length : Nat) (i : Nat) hh) (some (.bool false, hh)) (some (.bool true, hh)) (fun i hi => ?_) ?_).trans if_some
      · obtain ⟨o, s, b, d, G, ha, ho, es, hp, _⟩ := r3s.get hi
        rw [L_impl_PlaceOk_4.e, br_pos (by omega), inB_nat hi]
        simp only [ha, eO_s, Int.toNat_natCast, ho, eC_c, es, eN_n, Nat.add_zero]
        rw [impl_logOk hp (hn.2.2.2 _ (List.getElem_mem hi)), ]
        simp only [cal_s, eB_b]
        rw [ld1 0 hH0 rfl]
        simp only [eO_s, eC_c, eN_n, eI_int, wr_succ (show i < 9223372036854775807 by omega)]
        unfold gotAt
        by_cases h0 : p.got[i].length = 0
        · rw [br_neg (by omega), decide_eq_true h0]
          cases logOk i p.got[i] <;> cases ((i : Int) == p.me) <;> rfl
        · rw [br_pos (by omega), decide_eq_false h0]
          cases logOk i p.got[i] <;> cases ((i : Int) == p.me) <;> rfl
      · rw [L_impl_PlaceOk_4.e, br_neg (by omega)])
  rw [causes_alt hc] at key
  obtain ⟨h', e⟩ := key
  refine ⟨h', e.trans ?_⟩
  cases causesOk p.chain <;> cases headOk p.chain p.clock <;> cases (p.got.zipIdx.all fun x => gotAt p.me x.2 x.1) <;> rfl
end
end Go.Proofs.YtfhnofppfacemaaGreat
namespace Go.Proofs.YtfhnofppfacemaaGreat
open Go T
set_option linter.unusedVariables false
set_option linter.unusedSimpArgs false
section
variable {h h' h'' : Heap} {F F' F'' G : List Nat}
/-- what lies below stays -/
theorem Mv.keepB {α : Type} {El : Rel α} {cs : List V} {x : α} (a : Mv h F h' F') (ok : El.Ok) (he : El h cs x G) {m : Nat} (hG : ∀ b ∈ G, b < m) (hF : ∀ b ∈ F, m ≤ b) : El h' cs x G :=
  a.keep ok he fun b hb hm => by have := hG b hb; have := hF b hm; omega
theorem Mv.keepA {α : Type} {El : Rel α} {cs : List V} {x : α} (a : Mv h F h' F') (ok : El.Ok) (he : El h cs x G) {m : Nat} (hG : ∀ b ∈ G, m ≤ b) (hF : ∀ b ∈ F, b < m) : El h' cs x G :=
  a.keep ok he fun b hb hm => by have := hG b hb; have := hF b hm; omega
theorem Mv.inv (a : Mv h [] h' F') : ∀ b ∈ F', h.length ≤ b ∧ b < h'.length := fun b hb => by
  rcases a.sub b hb with h1 | h1
  · simp at h1
  · exact h1
end
theorem exact_story {α β : Type} {Ra Rx : Rel α} {Rr : Rel β} (okA : Ra.Ok) (okX : Rx.Ok) (okR : Rr.Ok) {h : Heap} {a0 : List V} {x : α} {y y' : β} {F0 : List Nat} (ha : Ra h a0 x F0)
    {TO TO' : Heap → List V → Heap → Prop} {SP IM : List V → Heap → List V → Heap → Prop} {MX MR : List V → Heap → Heap → Prop}
    (hto : ∀ hh F, h.length ≤ hh.length → Ra hh a0 x F → ∃ cs h' F', TO hh cs h' ∧ Rx h' cs x F' ∧ Mv hh [] h' F')
    (hto' : ∀ hh F, h.length ≤ hh.length → Ra hh a0 x F → ∃ cs h' F', TO' hh cs h' ∧ Rx h' cs x F' ∧ Mv hh [] h' F')
    (hsp : ∀ cs hh F, h.length ≤ hh.length → Rx hh cs x F → F.Nodup → (∀ b ∈ F, h.length ≤ b) → ∃ r h' F', SP cs hh r h' ∧ Rr h' r y F' ∧ Mv hh [] h' F')
    (him : ∀ cs hh F, h.length ≤ hh.length → Rx hh cs x F → F.Nodup → (∀ b ∈ F, h.length ≤ b) → ∃ r h' F', IM cs hh r h' ∧ Rr h' r y F' ∧ Mv hh [] h' F')
    (hmx : ∀ cs hh F, Rx hh cs x F → F.Nodup → (∀ b ∈ F, h.length ≤ b) → ∃ h', MX cs hh h' ∧ Mv hh F h' F)
    (hmr : ∀ cs hh F, Rr hh cs y F → F.Nodup → (∀ b ∈ F, h.length ≤ b) → ∃ h', MR cs hh h' ∧ Rr h' cs y' F ∧ Mv hh F h' F) :
    ∃ c1 h1 w h2 c3 h3 g h4 c5 h5 h6 h7 c8 h8 g9 h9, TO h c1 h1 ∧ SP c1 h1 w h2 ∧ TO h2 c3 h3 ∧ IM c3 h3 g h4 ∧ TO' h4 c5 h5 ∧ MX c3 h5 h6 ∧ MR g h6 h7 ∧ TO h7 c8 h8 ∧ IM c8 h8 g9 h9 ∧
      ((∃ F, Rx h1 c1 x F) ∧ (∃ F, Rx h3 c3 x F) ∧ (∃ F, Rx h8 c8 x F)) ∧ ((∃ F, Rr h2 w y F) ∧ (∃ F, Rr h4 g y F) ∧ (∃ F, Rr h4 w y F)) ∧ ((∀ hm, Mv h4 [] hm [] → ∃ F, Rx hm c3 x F) ∧ (∃ F, Rx h5 c3 x F) ∧ (∃ F, Rx h5 c5 x F)) ∧ ((∃ F, Rr h6 g y F) ∧ (∃ F, Rr h6 w y F)) ∧
      (∃ F, Rr h7 g y' F) ∧ ((∃ F, Rr h9 g9 y F) ∧ (∃ F, Rr h9 w y F)) ∧ (∃ F, Rr h9 g y' F) := by
  obtain ⟨c1, h1, X1, t1, x1, m1⟩ := hto h F0 (Nat.le_refl _) ha
  have b1 := m1.inv
  obtain ⟨w, h2, W, s2, w2, m2⟩ := hsp c1 h1 X1 m1.le x1 m1.nd (fun b hb => (b1 b hb).1)
  have b2 := m2.inv
  have l1 := m1.le
  have l2 := m2.le
  have a2 := m2.keep0 okA (m1.keep0 okA ha)
  obtain ⟨c3, h3, X3, t3, x3, m3⟩ := hto h2 F0 (by omega) a2
  have b3 := m3.inv
  have l3 := m3.le
  obtain ⟨g, h4, G, i4, g4, m4⟩ := him c3 h3 X3 (by omega) x3 m3.nd (fun b hb => by have := b3 b hb; omega)
  have b4 := m4.inv
  have l4 := m4.le
  have w4 := m4.keep0 okR (m3.keep0 okR w2)
  have x4 := m4.keep0 okX x3
  have a4 := m4.keep0 okA (m3.keep0 okA a2)
  obtain ⟨c5, h5, X5, t5, x5, m5⟩ := hto' h4 F0 (by omega) a4
  have l5 := m5.le
  have w5 := m5.keep0 okR w4
  have g5 := m5.keep0 okR g4
  have x35 := m5.keep0 okX x4
  have a5 := m5.keep0 okA a4
  have bA := okA.bd _ _ _ _ ha
  obtain ⟨h6, p6, m6⟩ := hmx c3 h5 X3 x35 m3.nd (fun b hb => by have := b3 b hb; omega)
  have w6 := m6.keepB okR w5 (m := h2.length) (fun b hb => (b2 b hb).2) (fun b hb => (b3 b hb).1)
  have g6 := m6.keepA okR g5 (m := h3.length) (fun b hb => (b4 b hb).1) (fun b hb => (b3 b hb).2)
  have a6 := m6.keepB okA a5 (m := h.length) bA (fun b hb => by have := b3 b hb; omega)
  obtain ⟨h7, p7, g7, m7⟩ := hmr g h6 G g6 m4.nd (fun b hb => by have := b4 b hb; omega)
  have w7 := m7.keepB okR w6 (m := h2.length) (fun b hb => (b2 b hb).2) (fun b hb => by have := b4 b hb; omega)
  have a7 := m7.keepB okA a6 (m := h.length) bA (fun b hb => by have := b4 b hb; omega)
  have l6 := m6.le
  have l7 := m7.le
  obtain ⟨c8, h8, X8, t8, x8, m8⟩ := hto h7 F0 (by omega) a7
  have b8 := m8.inv
  have l8 := m8.le
  obtain ⟨g9, h9, G9, i9, r9, m9⟩ := him c8 h8 X8 (by omega) x8 m8.nd (fun b hb => by have := b8 b hb; omega)
  exact ⟨c1, h1, w, h2, c3, h3, g, h4, c5, h5, h6, h7, c8, h8, g9, h9, t1, s2, t3, i4, t5, p6, p7, t8, i9, ⟨⟨_, x1⟩, ⟨_, x3⟩, ⟨_, x8⟩⟩, ⟨⟨_, w2⟩, ⟨_, g4⟩, ⟨_, w4⟩⟩, ⟨fun hm mm => ⟨_, mm.keep0 okX x4⟩, ⟨_, x35⟩, ⟨_, x5⟩⟩, ⟨⟨_, g6⟩, ⟨_, w6⟩⟩, ⟨_, g7⟩,
    ⟨⟨_, r9⟩, ⟨_, m9.keep0 okR (m8.keep0 okR w7)⟩⟩, ⟨_, m9.keep0 okR (m8.keep0 okR g7)⟩⟩
end Go.Proofs.YtfhnofppfacemaaGreat
namespace Go.Proofs.YtfhnofppfacemaaGreat
open Go T
set_option linter.unusedVariables false
set_option linter.unusedSimpArgs false
set_option maxRecDepth 100000
section
variable {h : Heap}
theorem tv_struct {n t : Nat} {fs : Array Field} {xs : List V} (hu : Tryz.prog.underlying t = some (.struct fs)) (hx : TV Tryz.prog h (n + 1) t xs) : TVs Tryz.prog (TV Tryz.prog h n) fs.toList xs := by
  simp only [TV, hu] at hx; exact hx
theorem tv_int {n t : Nat} {xs : List V} (hu : Tryz.prog.underlying t = some (.int .i64)) (hx : TV Tryz.prog h (n + 1) t xs) : ∃ i : Int, xs = [.int .i64 i] ∧ -9223372036854775808 ≤ i ∧ i ≤ 9223372036854775807 := by
  simp only [TV, hu] at hx
  obtain ⟨i, h1, h2⟩ := hx
  refine ⟨i, h1, ?_⟩
  have e1 : IntKind.i64.min = -9223372036854775808 := by decide
  have e2 : IntKind.i64.max = 9223372036854775807 := by decide
  simp only [Lit.wf, Bool.and_eq_true, decide_eq_true_eq] at h2
  omega
theorem tv_str {n t : Nat} {xs : List V} (hu : Tryz.prog.underlying t = some .string) (hx : TV Tryz.prog h (n + 1) t xs) : ∃ s : ByteArray, xs = [.str s] ∧ s.size ≤ maxLen := by
  simp only [TV, hu] at hx; exact hx
theorem tv_bool {n t : Nat} {xs : List V} (hu : Tryz.prog.underlying t = some .bool) (hx : TV Tryz.prog h (n + 1) t xs) : ∃ b : Bool, xs = [.bool b] := by
  simp only [TV, hu] at hx; exact hx
theorem tv_sli {α : Type} {El : Rel α} {bd : α → Prop} {n t e ee R : Nat} {xs : List V} (hu : Tryz.prog.underlying t = some (.slice e)) (hR : Tryz.prog.cellsOf e = R) (hel : ∀ row, TV Tryz.prog h n e row → ∃ x F, El h row x F ∧ bd x) (hx : TV Tryz.prog h (n + 1) t xs) :
    ∃ l F, Sli true R ee El h xs l F ∧ l.length ≤ maxLen ∧ ∀ x ∈ l, bd x := by
  simp only [TV, hu] at hx
  obtain ⟨a, c, rs, rfl, h2, h3, h4⟩ := hx
  have all : ∀ rs : List (List V), (∀ row ∈ rs, TV Tryz.prog h n e row) → ∃ l Fs, EAll El h rs l Fs ∧ l.length = rs.length ∧ ∀ x ∈ l, bd x := by
    intro rs
    induction rs with
    | nil => intro _; exact ⟨[], [], trivial, rfl, by simp⟩
    | cons r rs ih =>
      intro hr
      obtain ⟨l, Fs, g1, g2, g3⟩ := ih fun row hrow => hr row (by simp [hrow])
      obtain ⟨x, F, g4, g5⟩ := hel r (hr r (by simp))
      exact ⟨x :: l, F :: Fs, ⟨g4, g1⟩, by simp [g2], fun y hy => by
        rcases List.mem_cons.1 hy with rfl | hy
        · exact g5
        · exact g3 y hy⟩
  obtain ⟨l, Fs, g1, g2, g3⟩ := all rs fun row hr => (h3 row hr).2
  rcases h4 with rfl | ⟨b, rfl, hb⟩
  · have : l = [] := List.eq_nil_of_length_eq_zero (by simpa using g2)
    subst this
    exact ⟨[], [], ⟨R, a, c, by rw [hR]; rfl, rfl, .inl ⟨rfl, rfl⟩⟩, Nat.zero_le _, by simp⟩
  · refine ⟨l, b :: Fs.flatten, ⟨R, some (b, 0), c, by rw [hR, g2], rfl, .inr ⟨b, 0, rs, Fs, rfl, hb, by omega, ?_, rfl⟩⟩, by omega, g3⟩
    rw [List.drop_zero, List.take_of_length_le (by omega)]; exact g1
theorem av_agg {n t : Nat} {fs : Array Field} {x : V} (hu : Tryz.prog.underlying t = some (.struct fs)) (hx : ArgV Tryz.prog h n t x) : ∃ xs, x = .agg xs ∧ TV Tryz.prog h n t xs := by
  unfold ArgV at hx
  rw [hu] at hx; exact hx
theorem tv_Tag {n : Nat} {xs : List V} (hx : TV Tryz.prog h (n + 2) 57 xs) : ∃ t : Tag, xs = t.cs := by
  obtain ⟨y1, z1, rfl, _, g1, y2, z2, rfl, _, g2, rfl⟩ := tv_struct Tryz.underlying57 hx
  obtain ⟨i, rfl, _⟩ := tv_int Tryz.underlying3 g1
  obtain ⟨j, rfl, _⟩ := tv_int Tryz.underlying3 g2
  exact ⟨⟨i, j⟩, rfl⟩
theorem tv_TagS {n : Nat} {xs : List V} (hx : TV Tryz.prog h (n + 3) 58 xs) : ∃ l F, RTags true h xs l F ∧ l.length ≤ maxLen := by
  obtain ⟨l, F, h1, h2, _⟩ := tv_sli (El := flat Tag.cs) (bd := fun _ => True) (ee := eTag true) (R := 2) Tryz.underlying58 (by kernel_rfl) (fun row hr => by obtain ⟨t, rfl⟩ := tv_Tag (n := n) hr; exact ⟨t, [], ⟨rfl, rfl⟩, trivial⟩) hx
  exact ⟨l, F, h1, h2⟩
theorem tv_Past {n : Nat} {xs : List V} (hx : TV Tryz.prog h (n + 4) 60 xs) : ∃ l F, RTags true h xs l F ∧ l.length ≤ maxLen := by
  obtain ⟨y1, z1, rfl, _, g1, rfl⟩ := tv_struct Tryz.underlying60 hx
  rw [List.append_nil]; exact tv_TagS g1
theorem tv_Ver {n : Nat} {xs : List V} (hx : TV Tryz.prog h (n + 5) 62 xs) : ∃ v F, RVer true h xs v F ∧ bdVer v := by
  obtain ⟨y1, z1, rfl, _, g1, y2, z2, rfl, _, g2, y3, z3, rfl, _, g3, y4, z4, rfl, _, g4, y5, z5, rfl, _, g5, rfl⟩ := tv_struct Tryz.underlying62 hx
  obtain ⟨i, rfl, _⟩ := tv_int Tryz.underlying3 g1
  obtain ⟨t, rfl⟩ := tv_Tag g2
  obtain ⟨l, F, g3, g3'⟩ := tv_Past (n := n) g3
  obtain ⟨s, rfl, g4'⟩ := tv_str Tryz.underlying9 g4
  obtain ⟨b, rfl⟩ := tv_bool Tryz.underlying4 g5
  have : ∃ v, y3 = [v] := by obtain ⟨R', a, c, e, _⟩ := g3; exact ⟨_, e⟩
  obtain ⟨v, rfl⟩ := this
  exact ⟨⟨i, t, l, s, b⟩, F, ⟨v, rfl, g3⟩, g3', g4'⟩
theorem tv_VerS {n : Nat} {xs : List V} (hx : TV Tryz.prog h (n + 6) 25 xs) : ∃ l F, RVers true h xs l F ∧ bdVers l :=
  tv_sli (El := RVer true) (bd := bdVer) (ee := eVer true) (R := 6) Tryz.underlying25 (by kernel_rfl) (fun row hr => tv_Ver (n := n) hr) hx
theorem tv_VerSS {n : Nat} {xs : List V} (hx : TV Tryz.prog h (n + 7) 26 xs) : ∃ l F, RVss true h xs l F ∧ bdVss l :=
  tv_sli (El := RVers true) (bd := bdVers) (ee := eVers true) (R := 1) Tryz.underlying26 (by kernel_rfl) (fun row hr => tv_VerS (n := n) hr) hx
theorem tv_Store {n : Nat} {xs : List V} (hx : TV Tryz.prog h (n + 7) 202 xs) : ∃ l F, RVers true h xs l F ∧ bdVers l := by
  obtain ⟨y1, z1, rfl, _, g1, rfl⟩ := tv_struct Tryz.underlying202 hx
  rw [List.append_nil]; exact tv_VerS (n := n) g1
theorem sli_one {α : Type} {El : Rel α} {ro : Bool} {R e : Nat} {xs : List V} {l : List α} {F : List Nat} (hs : Sli ro R e El h xs l F) : ∃ v, xs = [v] := by
  obtain ⟨R', a, c, e, _⟩ := hs; exact ⟨_, e⟩
theorem tv_Node {n : Nat} {xs : List V} (hx : TV Tryz.prog h (n + 8) 204 xs) : ∃ x F, RNode true h xs x F ∧ bdNode x := by
  obtain ⟨y1, z1, rfl, _, g1, y2, z2, rfl, _, g2, rfl⟩ := tv_struct Tryz.underlying204 hx
  obtain ⟨l1, F1, r1, b1⟩ := tv_Store (n := n) g1
  obtain ⟨l2, F2, r2, b2⟩ := tv_VerS (n := n + 1) g2
  obtain ⟨v1, rfl⟩ := sli_one r1
  obtain ⟨v2, rfl⟩ := sli_one r2
  exact ⟨⟨l1, l2⟩, F1 ++ F2, ⟨v1, v2, F1, F2, rfl, rfl, r1, r2⟩, b1, b2⟩
theorem tv_NodeS {n : Nat} {xs : List V} (hx : TV Tryz.prog h (n + 9) 22 xs) : ∃ l F, RNodes true h xs l F ∧ bdNodes l :=
  tv_sli (El := RNode true) (bd := bdNode) (ee := eNode true) (R := 2) Tryz.underlying22 (by kernel_rfl) (fun row hr => tv_Node (n := n) hr) hx
theorem tv_Chain {n : Nat} {xs : List V} (hx : TV Tryz.prog h (n + 10) 24 xs) : ∃ l F, RNodes true h xs l F ∧ bdNodes l := by
  obtain ⟨y1, z1, rfl, _, g1, rfl⟩ := tv_struct Tryz.underlying24 hx
  rw [List.append_nil]; exact tv_NodeS (n := n) g1
theorem tv_Place {n : Nat} {xs : List V} (hx : TV Tryz.prog h (n + 11) 28 xs) : ∃ p F, RPlace true h xs p F ∧ bdPlace p := by
  obtain ⟨y1, z1, rfl, _, g1, y2, z2, rfl, _, g2, y3, z3, rfl, _, g3, y4, z4, rfl, _, g4, y5, z5, rfl, _, g5, y6, z6, rfl, _, g6, rfl⟩ := tv_struct Tryz.underlying28 hx
  obtain ⟨i, rfl, _⟩ := tv_int Tryz.underlying3 g1
  obtain ⟨j, rfl, _⟩ := tv_int Tryz.underlying3 g2
  obtain ⟨l1, F1, r1, b1⟩ := tv_Chain (n := n) g3
  obtain ⟨l2, F2, r2, b2⟩ := tv_VerS (n := n + 4) g4
  obtain ⟨l3, F3, r3, b3⟩ := tv_VerSS (n := n + 3) g5
  obtain ⟨b, rfl⟩ := tv_bool Tryz.underlying4 g6
  obtain ⟨v1, rfl⟩ := sli_one r1
  obtain ⟨v2, rfl⟩ := sli_one r2
  obtain ⟨v3, rfl⟩ := sli_one r3
  exact ⟨⟨i, j, l1, l2, l3, b⟩, F1 ++ (F2 ++ F3), ⟨v1, v2, v3, F1, F2, F3, rfl, rfl, r1, r2, r3⟩, b1, b2, b3⟩
end
end Go.Proofs.YtfhnofppfacemaaGreat
namespace Go.Proofs.YtfhnofppfacemaaGreat
open Go T
set_option linter.unusedVariables false
set_option linter.unusedSimpArgs false
def RPlaceN (ro : Bool) : Rel Place := fun h cs p F => ∃ a1 c1 a2 c2 a3 c3, cs = p.cs a1 c1 a2 c2 a3 c3 ∧ RPlace ro h cs p F
theorem rplaceN_ok {ro : Bool} : (RPlaceN ro).Ok :=
  ⟨fun h h' cs p F ⟨a1, c1, a2, c2, a3, c3, e, hp⟩ hb => ⟨a1, c1, a2, c2, a3, c3, e, rplace_ok.fr _ _ _ _ _ hp hb⟩, fun h cs p F ⟨_, _, _, _, _, _, _, hp⟩ => rplace_ok.bd _ _ _ _ hp⟩
theorem sli_true {α : Type} {El : Rel α} {R e : Nat} {h : Heap} {v : V} {l : List α} {F : List Nat} (hs : Sli true R e El h [v] l F) : ∃ a c, v = .sl R a l.length c := by
  obtain ⟨R', a, c, e1, rfl, _⟩ := hs
  injection e1 with e1 _
  exact ⟨a, c, e1⟩
theorem rplace_true {h : Heap} {cs : List V} {p : Place} {F : List Nat} (hp : RPlace true h cs p F) : RPlaceN true h cs p F := by
  have hp2 := hp
  obtain ⟨s1, s2, s3, F1, F2, F3, rfl, rfl, h1, h2, h3⟩ := hp
  obtain ⟨a1, c1, rfl⟩ := sli_true h1
  obtain ⟨a2, c2, rfl⟩ := sli_true h2
  obtain ⟨a3, c3, rfl⟩ := sli_true h3
  exact ⟨_, _, _, _, _, _, rfl, hp2⟩
theorem mkN_bound {α : Type} {w sz : α → Nat} {c : Nat} : ∀ {l : List α}, (∀ x ∈ l, w x ≤ c * (1 + sz x)) → mkN w l ≤ c * (l.length + (l.map sz).sum)
  | [], _ => by simp [mkN]
  | x :: l, h => by
    have h1 := mkN_bound (l := l) fun y hy => h y (by simp [hy])
    have h2 := h x (by simp)
    simp only [mkN, List.map_cons, List.sum_cons, List.length_cons] at h1 ⊢
    rw [Nat.mul_add] at h1 h2 ⊢
    rw [Nat.mul_add, Nat.mul_add]
    omega
theorem mkN_tag : ∀ {l : List Tag}, mkN wTag l = 2 * l.length
  | [] => rfl
  | t :: l => by
    have h1 := mkN_tag (l := l)
    have h2 : mkN wTag (t :: l) = 2 + mkN wTag l := by simp only [mkN, List.map_cons, List.sum_cons]
    rw [h2, h1, List.length_cons]; omega
theorem wVer_le {v : Ver} : wVer v ≤ 5 * (1 + szVer v) := by
  have := mkN_tag (l := v.past)
  simp only [wVer, szVer, this]; omega
theorem wVers_le {l : List Ver} : wVers l ≤ 5 * szVers l := mkN_bound fun v _ => wVer_le
theorem wVss_le {l : List (List Ver)} : wVss l ≤ 5 * szVss l := mkN_bound fun v _ => by have := wVers_le (l := v); omega
theorem wNodes_le {l : List Node} : wNodes l ≤ 5 * szNodes l := mkN_bound fun x _ => by
  have h1 := wVers_le (l := x.store)
  have h2 := wVers_le (l := x.wait)
  simp only [wNode, szNode]; omega
theorem wPlace_le {p : Place} : wPlace p ≤ 5 * szPlace p := by
  have h1 := wNodes_le (l := p.chain)
  have h2 := wVers_le (l := p.log)
  have h3 := wVss_le (l := p.got)
  simp only [wPlace, szPlace]; omega
theorem szN_small {s : Nat} (h : ¬ szN 1048576 s < 0) : s ≤ 1048576 := by
  unfold szN at h; split at h <;> omega
abbrev zPlace : Place := ⟨0, 0, [], [], [], false⟩

section
variable {lo : Nat} {h : Heap} {F F' : List Nat} {a a' : Option (Nat × Nat)} {c c' : Option Nat}
/-- a place, copied by the laws -/
theorem to_place {p : Place} {cs : List V} {hh : Heap} (hs : RPlaceN true hh cs p F) (hl : lo ≤ hh.length) (hn : smPlace p) : ∃ cs' h' F', evl lo 17 [.agg cs] hh = some (.agg cs', h') ∧ RPlaceN false h' cs' p F' ∧ Mv hh [] h' F' := by
  obtain ⟨a1, c1, a2, c2, a3, c3, rfl, hp⟩ := hs
  obtain ⟨F1, F2, F3, _, h1, h2, h3⟩ := hp.cells
  obtain ⟨a1', c1', a2', c2', a3', c3', h', F', e, r, m⟩ := laws_toPlace h1 h2 h3 hl hn
  exact ⟨_, h', F', e, ⟨_, _, _, _, _, _, rfl, r⟩, m⟩
theorem sz_place {p : Place} {cs : List V} {hh : Heap} (hs : RPlaceN true hh cs p F) (hb : bdPlace p) : evl lo 15 [.agg cs, .int .i64 1048576] hh = some (.int .i64 (szN 1048576 (szPlace p)), hh) := by
  obtain ⟨a1, c1, a2, c2, a3, c3, rfl, hp⟩ := hs
  obtain ⟨F1, F2, F3, _, h1, h2, h3⟩ := hp.cells
  exact laws_szPlace h1 h2 h3 hb (by decide) (by decide)
theorem eq_place {p : Place} {cs cs' : List V} {hh : Heap} (h1 : RPlaceN false hh cs p F) (h2 : RPlaceN false hh cs' p F') (hn : smPlace p) : evl lo 20 [.agg cs, .agg cs'] hh = some (.bool true, hh) := by
  obtain ⟨a1, c1, a2, c2, a3, c3, rfl, r1⟩ := h1
  obtain ⟨a1', c1', a2', c2', a3', c3', rfl, r2⟩ := h2
  exact eqPlace r1 r2 hn
theorem mark_place {p : Place} {cs : List V} {hh : Heap} (hs : RPlaceN false hh cs p F) (hlo : ∀ b ∈ F, lo ≤ b) (hnd : F.Nodup) (hB : (1 : Int) + wPlace p ≤ big) (hn : smPlace p) :
    ∃ h', evl lo 21 [.agg cs, .int .i64 1] hh = some (.int .i64 (1 + wPlace p), h') ∧ RPlaceN false h' cs (mkPlace 1 p) F ∧ Mv hh F h' F := by
  obtain ⟨a1, c1, a2, c2, a3, c3, rfl, hp⟩ := hs
  obtain ⟨h', e, r, l, m⟩ := laws_markPlace hp hlo hnd (by decide) hB hn
  exact ⟨h', e, ⟨a1, c1, a2, c2, a3, c3, by simp [mkPlace, Place.cs, mkNodes_len, mkVers_len, mkVss_len], r⟩, m⟩
theorem held_place {p : Place} {cs : List V} {hh : Heap} (hs : RPlaceN false hh cs (mkPlace 1 p) F) (hB : (1 : Int) + wPlace p ≤ big) (hn : smPlace p) : evl lo 26 [.agg cs, .int .i64 1] hh = some (.int .i64 (1 + wPlace p), hh) := by
  obtain ⟨a1, c1, a2, c2, a3, c3, rfl, hp⟩ := hs
  have e : (mkPlace 1 p).cs a1 c1 a2 c2 a3 c3 = p.cs a1 c1 a2 c2 a3 c3 := by simp [mkPlace, Place.cs, mkNodes_len, mkVers_len, mkVss_len]
  rw [e] at hp ⊢
  exact laws_heldPlace hp (by decide) hB hn
end
end Go.Proofs.YtfhnofppfacemaaGreat
namespace Go.Proofs.YtfhnofppfacemaaGreat
open Go T
set_option linter.unusedVariables false
set_option linter.unusedSimpArgs false
theorem Mv.swap {h h' : Heap} {A B A' B' : List Nat} (m : Mv h (A ++ B) h' (A' ++ B')) : Mv h (B ++ A) h' (B' ++ A') := by
  refine ⟨m.le, fun b hb hn => m.fr b hb fun hm => hn ?_, ?_, fun b hb => ?_⟩
  · rw [List.mem_append] at hm ⊢; exact hm.symm
  · have := m.nd
    rw [List.nodup_append] at this ⊢
    exact ⟨this.2.1, this.1, fun x hx y hy e => this.2.2 y hy x hx e.symm⟩
  · rw [List.mem_append] at hb
    refine (m.sub b (by rw [List.mem_append]; exact hb.symm)).imp (fun h => ?_) id
    rw [List.mem_append] at h ⊢; exact h.symm
/-- one row put behind a slice -/
theorem push_one {α : Type} {El : Rel α} (ok : El.Ok) {h0 h1 : Heap} {lo R e n bytes : Nat} {a : Option (Nat × Nat)} {c : Option Nat} {l : List α} {F : List Nat} {row : List V} {x : α} {G : List Nat} (hs : Sli false R e El h0 [.sl R a n c] l F) (hx : El h1 row x G) (m : Mv h0 [] h1 G)
    (hnd : F.Nodup) (hlo : ∀ b ∈ F, lo ≤ b) (hl : lo ≤ h0.length) (hb : 0 < bytes) (hsz : (l.length + 1) * bytes ≤ 140737488355328) :
    ∃ a' c' h2 F', (∀ {T : Type} (K : V → Heap → Option T), app lo e R bytes (.sl R a n c) [row] h1 K = K (.sl R a' (l.length + 1) c') h2) ∧ Sli false R e El h2 [.sl R a' (l.length + 1) c'] (l ++ [x]) F' ∧ Mv h0 F h2 F' := by
  have hbd := (Sli.ok ok).bd _ _ _ _ hs
  have hs1 := m.keep0 (Sli.ok ok) hs
  have hGb := m.lt (by simp)
  obtain ⟨a', c', h2, F', p1, p2, p3, p4, p5, p6⟩ := Sli.push (lo := lo) (bytes := bytes) ok.fr hs1 (xs := [row]) (ys := [x]) (Gs := [G]) ⟨hx, trivial⟩ hb hsz hlo (Nat.le_trans hl m.le)
    (by
      rw [List.nodup_append]
      refine ⟨hnd, by simpa using m.nd, fun y hy z hz => ?_⟩
      rintro rfl
      have g1 := hbd y hy
      have g2 := m.new y (by simpa using hz)
      omega)
    (fun b hb' => by
      have g1 := m.le
      rw [List.mem_append] at hb'
      rcases hb' with hb' | hb'
      · have := hbd b hb'; omega
      · exact hGb b (by simpa using hb')) (by simp)
  refine ⟨a', c', h2, F', p1, p2, Nat.le_trans m.le p3, fun b hb' hF => ?_, p6, fun b hb' => ?_⟩
  · rw [p4 b (Nat.lt_of_lt_of_le hb' m.le) hF, m.fr b hb' (by simp)]
  · have g1 := m.le
    rcases p5 b hb' with g | g
    · rw [List.mem_append] at g
      rcases g with g | g
      · exact .inl g
      · have g2 := m.new b (by simpa using g)
        have g3 := hGb b (by simpa using g)
        exact .inr (by omega)
    · exact .inr (by omega)
def joinN (l : List Node) : List Node := match l.getLast? with
  | some x => l ++ [⟨x.store, []⟩]
  | none => l
def canJoin (l : List Node) : Bool := decide ((l.length : Int) < 4)
def tryJoin (l : List Node) : List Node := bif canJoin l then joinN l else l
theorem joinN_get {l : List Node} (h0 : 0 < l.length) : joinN l = l ++ [⟨(l[l.length - 1]'(by omega)).store, []⟩] := by
  unfold joinN; rw [List.getLast?_eq_getElem?, List.getElem?_eq_getElem (by omega)]

/-- normal cells of a place that an answer has -/
def NPlace (raw : List V) (p : Place) (r : List V) : Prop := ∃ s1 s2 s3 a1 c1 a2 c2 a3 c3, raw = [.int .i64 p.me, .int .i64 p.clock, s1, s2, s3, .bool p.fell] ∧
  (∀ {T : Type} (K : Option (Nat × Nat) → Nat → Option Nat → Option T), eS 2 s1 K = K a1 p.chain.length c1) ∧ (∀ {T : Type} (K : Option (Nat × Nat) → Nat → Option Nat → Option T), eS 6 s2 K = K a2 p.log.length c2) ∧
  (∀ {T : Type} (K : Option (Nat × Nat) → Nat → Option Nat → Option T), eS 1 s3 K = K a3 p.got.length c3) ∧ r = p.cs a1 c1 a2 c2 a3 c3
theorem nplace_zero {hh : Heap} : ∃ raw r, raw = [.int .i64 0, .int .i64 0, .sl 0 none 0 (some 0), .sl 0 none 0 (some 0), .sl 0 none 0 (some 0), .bool false] ∧ NPlace raw zPlace r ∧ RPlaceN false hh r zPlace [] :=
  ⟨_, _, rfl, ⟨_, _, _, none, some 0, none, some 0, none, some 0, rfl, fun K => rfl, fun K => rfl, fun K => rfl, rfl⟩, ⟨none, some 0, none, some 0, none, some 0, rfl, _, _, _, [], [], [], rfl, rfl, Sli.nil, Sli.nil, Sli.nil⟩⟩
theorem nplace_self {p : Place} {a1 a2 a3 : Option (Nat × Nat)} {c1 c2 c3 : Option Nat} : NPlace (p.cs a1 c1 a2 c2 a3 c3) p (p.cs a1 c1 a2 c2 a3 c3) :=
  ⟨_, _, _, a1, c1, a2, c2, a3, c3, rfl, fun K => eS_sl _ _ _ _ _, fun K => eS_sl _ _ _ _ _, fun K => eS_sl _ _ _ _ _, rfl⟩
section
variable {lo : Nat} {h : Heap} {F F' : List Nat} {a a' : Option (Nat × Nat)} {c c' : Option Nat}
theorem clip_node {l : List Node} {n : Nat} (hs : RNodes false h [.sl 2 a n c] l F) : evl lo 176 [.sl 2 a n c] h = some (.sl 2 a n (some n), h) := E_slices_Clip_impl_Node_impl_Node (by rw [reslice_clip hs])
theorem spec_l3Join {l : List Node} (hs : RNodes false h [.sl 2 a l.length c] l F) (h0 : 0 < l.length) (hn : smNodes l) (hnd : F.Nodup) (hlo : ∀ b ∈ F, lo ≤ b) (hl : lo ≤ h.length) :
    ∃ a' c' h' F', evl lo 85 [.agg [.sl 2 a l.length c]] h = some (.agg [.sl 2 a' (l.length + 1) c'], h') ∧ RNodes false h' [.sl 2 a' (l.length + 1) c'] (joinN l) F' ∧ Mv h F h' F' := by
  have hn1 := hn.1
  obtain ⟨o, s1, s2, b1, d1, b2, d2, G1, G2, ha, ho, ho1, ho2, e1, e2, q1, q2, _⟩ := hs.get (show l.length - 1 < l.length by omega)
  obtain ⟨v3, h3, F3, e3, r3, m3⟩ := spec_l2CopyStore (lo := lo) q1 hl (hn.2 _ (List.getElem_mem _)).1
  obtain ⟨a4, c4, es4, r4⟩ := r3.form
  obtain ⟨a5, c5, h5, F5, e5, r5, m5⟩ := push_one (lo := lo) (bytes := 48) (e := 175) rnode_ok hs (row := [.sl 6 a4 (l[l.length - 1]'(by omega)).store.length c4, .sl 0 none 0 (some 0)]) (x := ⟨(l[l.length - 1]'(by omega)).store, []⟩) (G := F3) (h1 := h3 ++ [.rows 2 175 false [[.sl 6 a4 (l[l.length - 1]'(by omega)).store.length c4, .sl 0 none 0 (some 0)]]])
    ⟨_, _, F3, [], rfl, by simp, Mv.snoc.keep0 rvers_ok r4, Sli.nil⟩ (m3.trans (Mv.snoc' m3.nd)) hnd hlo hl (by decide) (by omega)
  refine ⟨a5, c5, h5, F5, E_spec_l3Join ?_, by rw [joinN_get h0]; exact r5, m5⟩
  rw [wr (by omega) (by omega), inB_in ⟨by omega, by omega⟩, show ((l.length : Int) - 1).toNat = l.length - 1 by omega]
  simp only [ha, eO_s, ho1, eC_c, e1, eN_n]
  rw [e3]; simp only [cal_s, eA_a, eC_c, es4, eN_n, rows_one]
  rw [← ha, e5]; simp only [eS_sl]
theorem impl_join {b i j R e : Nat} {rs : List (List V)} {row : List V} {l : List Node} (hb : h[b]? = some (.rows R e false rs)) (hrow : rs[i]? = some row) (hcell : row[j]? = some (.sl 2 a l.length c)) (hs : RNodes false h [.sl 2 a l.length c] l F) (h0 : 0 < l.length) (hn : smNodes l)
    (hnd : (b :: F).Nodup) (hlo : ∀ y ∈ b :: F, lo ≤ y) (hl : lo ≤ h.length) :
    ∃ a' n' c' h' F', evl lo 88 [.ptr (some (b, i, j))] h = some (.bool (canJoin l), h') ∧ h'[b]? = some (.rows R e false (rs.set i (row.set j (.sl 2 a' n' c')))) ∧ RNodes false h' [.sl 2 a' n' c'] (tryJoin l) F' ∧ Mv h (b :: F) h' (b :: F') := by
  have hn1 := hn.1
  have hblt : b < h.length := (List.getElem?_eq_some_iff.1 hb).1
  have hld : ld h b i j 1 = some [.sl 2 a l.length c] := by rw [ld_of hb hrow]; exact cut_one hcell
  unfold tryJoin canJoin
  by_cases h4 : (l.length : Int) < 4
  · obtain ⟨at', ct, Gt, et, rt, _⟩ := impl_tail (lo := h.length) hld hs h0 hn1
    obtain ⟨a3, c3, h3, F3, e3, r3, m3⟩ := impl_Store_copied (lo := h.length) rt (Nat.le_refl _) (hn.2 _ (List.getElem_mem _)).1
    rw [List.nodup_cons] at hnd
    obtain ⟨a5, c5, h5, F5, e5, r5, m5⟩ := push_one (lo := lo) (bytes := 48) (e := 175) rnode_ok hs (row := [.sl 6 a3 (l[l.length - 1]'(by omega)).store.length c3, .sl 0 none 0 (some 0)]) (x := ⟨(l[l.length - 1]'(by omega)).store, []⟩) (G := F3) (h1 := h3 ++ [.rows 2 175 false [[.sl 6 a3 (l[l.length - 1]'(by omega)).store.length c3, .sl 0 none 0 (some 0)]]])
      ⟨_, _, F3, [], rfl, by simp, Mv.snoc.keep0 rvers_ok r3, Sli.nil⟩ (m3.trans (Mv.snoc' m3.nd)) hnd.2 (fun y hy => hlo y (by simp [hy])) hl (by decide) (by omega)
    have hb5 : h5[b]? = some (.rows R e false rs) := by rw [m5.fr b hblt hnd.1]; exact hb
    have hbF5 : b ∉ F5 := fun hm => by
      rcases m5.sub b hm with g | g
      · exact hnd.1 g
      · omega
    have hb5lt : b < h5.length := Nat.lt_of_lt_of_le hblt m5.le
    have hjl : j < row.length := (List.getElem?_eq_some_iff.1 hcell).1
    have e6 := st_first hb5 (hlo b (by simp)) hrow (paste_one (v := .sl 2 a5 (l.length + 1) (some (l.length + 1))) hjl)
    refine ⟨a5, l.length + 1, some (l.length + 1), h5.set b (.rows R e false (rs.set i (row.set j (.sl 2 a5 (l.length + 1) (some (l.length + 1)))))), F5, E_impl_Chain_join ?_, by simp [hb5lt], ?_, ?_⟩
    · simp only [Nat.add_zero, hld, eO_s, eC_c, eN_n, eS_sl]
      rw [br_neg (by omega), et]; simp only [cal_s, eA_a, eC_c, eS_sl, eN_n]
      rw [e3]; simp only [cal_s, eA_a, eC_c, eS_sl, eN_n, rows_one]
      rw [e5]; simp only [eS_sl]
      rw [clip_node r5]; simp only [cal_s, eS_sl]
      rw [e6]; simp only [eO_s, decide_eq_true h4]
    · rw [decide_eq_true h4, cond_true, joinN_get h0]
      exact rnodes_ok.fr _ _ _ _ _ r5.clip fun y hy => List.getElem?_set_ne (show b ≠ y from fun e => hbF5 (by rw [e]; exact hy))
    · refine ⟨by simpa using m5.le, fun y hy hF => ?_, by rw [List.nodup_cons]; exact ⟨hbF5, m5.nd⟩, fun y hy => ?_⟩
      · rw [List.mem_cons, not_or] at hF
        rw [List.getElem?_set_ne (Ne.symm hF.1)]
        exact m5.fr y hy hF.2
      · rw [List.mem_cons] at hy
        rcases hy with rfl | hy
        · exact .inl (by simp)
        · refine (m5.sub y hy).imp (fun g => by simp [g]) fun g => by simpa using g
  · refine ⟨a, l.length, c, h, F, E_impl_Chain_join ?_, ?_, ?_, Mv.refl hnd⟩
    · simp only [Nat.add_zero, hld, eO_s, eC_c, eN_n, eS_sl]
      rw [br_pos (by omega), decide_eq_false h4]
    · rw [set_same hcell, set_same hrow]; exact hb
    · rw [decide_eq_false h4]; exact hs
end
end Go.Proofs.YtfhnofppfacemaaGreat
namespace Go.Proofs.YtfhnofppfacemaaGreat
open Go T
set_option linter.unusedVariables false
set_option linter.unusedSimpArgs false
theorem cut_all : ∀ {row : List V} {n : Nat}, row.length = n → cut row 0 n = some row
  | [], 0, _ => rfl
  | v :: r, n + 1, h => by
    have h1 := cut_all (row := r) (n := n) (by simpa using h)
    show (match cut r 0 n with | some l => some (v :: l) | none => none) = _
    rw [h1]
theorem cs_inj {p : Place} {a1 a2 a3 b1 b2 b3 : Option (Nat × Nat)} {c1 c2 c3 d1 d2 d3 : Option Nat} (h : p.cs a1 c1 a2 c2 a3 c3 = p.cs b1 d1 b2 d2 b3 d3) : a1 = b1 ∧ c1 = d1 ∧ a2 = b2 ∧ c2 = d2 ∧ a3 = b3 ∧ c3 = d3 := by
  simp only [Place.cs, List.cons.injEq, V.sl.injEq, true_and, and_true] at h
  obtain ⟨⟨h1, h2⟩, ⟨h3, h4⟩, h5, h6⟩ := h
  exact ⟨h1, h2, h3, h4, h5, h6⟩
/-- what a place is after an attempt -/
def tried (p p' : Place) : Place := bif placeOk p then p' else zPlace
def joinP (p : Place) : Place := ⟨p.me, p.clock, tryJoin p.chain, p.log, p.got, p.fell⟩
theorem chain_pos {p : Place} (h : placeOk p = true) : 0 < p.chain.length := by
  unfold placeOk at h
  simp only [Bool.and_eq_true] at h
  have := (chainOk_all h.1.1.1.1.2).1
  omega

theorem Mv.swapNil {h h' : Heap} {A B : List Nat} (m : Mv h [] h' (A ++ B)) : Mv h [] h' (B ++ A) := Mv.swap (A := []) (B := []) m
theorem br_some {b : Bool} {h : Heap} : br b (some (V.bool true, h)) (some (V.bool false, h)) = some (V.bool b, h) := by cases b <;> rfl

theorem mkN_ge {α : Type} {w : α → Nat} : ∀ {l : List α} {k : Nat} (hk : k < l.length), mkN w l ≥ w l[k]
  | x :: l, 0, _ => by simp [mkN]
  | x :: l, k + 1, hk => by
    have h1 := mkN_ge (w := w) (l := l) (k := k) (by simpa using hk)
    simp only [mkN, List.map_cons, List.sum_cons, List.getElem_cons_succ] at h1 ⊢
    omega
theorem wNode_store {x : Node} : mkN wVer x.store ≤ wNode x := by
  simp only [wNode, wVers]; omega
theorem sm_zero : smPlace zPlace := ⟨⟨Nat.zero_le _, by simp⟩, ⟨Nat.zero_le _, by simp⟩, ⟨Nat.zero_le _, by simp⟩⟩
theorem w_zero : (1 : Int) + wPlace zPlace ≤ big := by decide
theorem sm_PlaceJoin {p : Place} (hn : smPlace p) (hz : szPlace p ≤ 1048576) : smPlace (tried p (joinP p)) ∧ (1 : Int) + wPlace (tried p (joinP p)) ≤ big := by
  unfold tried
  cases hpo : placeOk p with
  | false => exact ⟨sm_zero, w_zero⟩
  | true =>
  rw [cond_true]
  have hwp := wPlace_le (p := p)
  unfold joinP tryJoin
  cases hc : canJoin p.chain with
  | false => exact ⟨hn, by show (1 : Int) + wPlace p ≤ big; simp only [big]; omega⟩
  | true =>
  have h4 : (p.chain.length : Int) < 4 := by simpa [canJoin] using hc
  have h0 := chain_pos hpo
  rw [cond_true, joinN_get h0]
  have hst := (hn.1.2 _ (List.getElem_mem (show p.chain.length - 1 < p.chain.length by omega))).1
  refine ⟨⟨⟨by simp only [List.length_append, List.length_singleton]; omega, fun x hx => ?_⟩, hn.2⟩, ?_⟩
  · rw [List.mem_append, List.mem_singleton] at hx
    rcases hx with hx | rfl
    · exact hn.1.2 x hx
    · exact ⟨hst, Nat.zero_le _, by simp⟩
  · have hle : ∀ (l : List Node) (k : Nat) (hk : k < l.length), mkN wNode l ≥ wNode l[k] := fun l k hk => mkN_ge hk
    have h5 := hle p.chain (p.chain.length - 1) (by omega)
    have h6 := wNode_store (x := p.chain[p.chain.length - 1])
    simp only [wPlace, wNodes, wNode, wVers, mkN, List.map_append, List.map_cons, List.map_nil, List.sum_append, List.sum_cons, List.sum_nil, big] at *
    omega
section
variable {lo : Nat} {h : Heap} {F F' : List Nat} {a a' : Option (Nat × Nat)} {c c' : Option Nat}
theorem impl_attempted {p p' : Place} {cs l1 : List V} {g : Nat} {ok : Bool} (hp : RPlaceN false h cs p F) (hl : lo ≤ h.length) (hn : smPlace p)
    (hg : placeOk p = true → ∀ hh b row F1, h.length ≤ hh.length → Mv h [] hh [] → RPlaceN false hh row p F1 → hh[b]? = some (.rows 6 47 false [row]) → (b :: F1).Nodup → (∀ y ∈ b :: F1, h.length ≤ y) →
      ∃ hh' row' F1', evl lo g (.ptr (some (b, (0, 0))) :: l1) hh = some (.bool ok, hh') ∧ RPlaceN false hh' row' p' F1' ∧ hh'[b]? = some (.rows 6 47 false [row']) ∧ Mv hh (b :: F1) hh' (b :: F1')) :
    ∃ raw r h' F', evl lo 86 [.agg cs, .fn g l1] h = some (.tup [.agg raw, .bool (placeOk p && ok)], h') ∧ NPlace raw (tried p p') r ∧ RPlaceN false h' r (tried p p') F' ∧ Mv h [] h' F' := by
  obtain ⟨a1, c1, a2, c2, a3, c3, rfl, hp⟩ := hp
  obtain ⟨F1, F2, F3, _, h1, h2, h3⟩ := hp.cells
  suffices hk : ∃ raw r h' F', _ = some (V.tup [.agg raw, .bool (placeOk p && ok)], h') ∧ NPlace raw (tried p p') r ∧ RPlaceN false h' r (tried p p') F' ∧ Mv h [] h' F' from by
    obtain ⟨raw, r, h', F', e, hr⟩ := hk
    exact ⟨raw, r, h', F', E_impl_attempted e, hr⟩
  rw [impl_PlaceOk h1 h2 h3 hn]; simp only [cal_s, eB_b]
  unfold tried
  cases hpo : placeOk p with
  | false =>
    rw [br_f]
    obtain ⟨raw, r, rfl, n1, n2⟩ := nplace_zero (hh := h)
    exact ⟨_, r, h, [], rfl, n1, n2, Mv.nil⟩
  | true =>
  obtain ⟨b1, d1, b2, d2, b3, d3, h4, F4, e4, r4, m4⟩ := impl_Place_copied (lo := lo) h1 h2 h3 hl hn
  rw [br_t, e4]; simp only [cal_s, eA_a, eC_c, eI_int, eS_sl, eBv_b, eN_n]
  have m5 : Mv h4 [] (h4 ++ [.rows 6 47 false [p.cs b1 d1 b2 d2 b3 d3]]) [h4.length] := Mv.last
  rw [st_last (row' := p.cs b1 d1 b2 d2 b3 d3) (Nat.le_trans hl m4.le) rfl (paste_all (by simp [Place.cs]))]
  simp only [eO_s, List.set_cons_zero]
  have m45 := (m4.join m5 (rplace_ok.bd _ _ _ _ r4)).swapNil
  obtain ⟨h6, row6, F6, e6, r6, b6, m6⟩ := hg hpo (h4 ++ [.rows 6 47 false [p.cs b1 d1 b2 d2 b3 d3]]) h4.length _ F4 m45.le m45.drop ⟨_, _, _, _, _, _, rfl, m5.keep0 rplace_ok r4⟩ (by simp) m45.nd (fun y hy => m45.new y hy)
  obtain ⟨b4, d4, b5, d5, b7, d7, rfl, r6'⟩ := id r6
  simp only [List.cons_append, List.nil_append]
  rw [e6]; simp only [cal_s, eB_b]
  have e7 : ld h6 h4.length 0 0 6 = some (p'.cs b4 d4 b5 d5 b7 d7) := by rw [ld_of b6 rfl]; exact cut_all rfl
  have m7 : Mv h [] h6 F6 := (m45.trans m6).lean (List.nodup_cons.1 m6.nd).2 fun b hb => by simp [hb]
  rw [e7]
  simp only [eO_s, eC_c, eI_int, eS_sl, eBv_b, eN_n, cond_true]
  cases ok
  all_goals
    first | rw [br_t] | rw [br_f]
    exact ⟨_, _, h6, F6, rfl, nplace_self, r6, m7⟩
theorem spec_l4CopyN {p : Place} {a1 a2 a3 : Option (Nat × Nat)} {c1 c2 c3 : Option Nat} {F1 F2 F3 : List Nat} (hs1 : RNodes false h [.sl 2 a1 p.chain.length c1] p.chain F1) (hs2 : RVers false h [.sl 6 a2 p.log.length c2] p.log F2)
    (hs3 : RVss false h [.sl 1 a3 p.got.length c3] p.got F3) (hl : lo ≤ h.length) (hn : smPlace p) :
    ∃ raw a1' c1' a2' c2' a3' c3' h' F', evl lo 84 [.agg (p.cs a1 c1 a2 c2 a3 c3)] h = some (.agg raw, h') ∧ NPlace raw p (p.cs a1' c1' a2' c2' a3' c3') ∧ RPlace false h' (p.cs a1' c1' a2' c2' a3' c3') p F' ∧ Mv h [] h' F' := by
  obtain ⟨vs, h', F', e, r, m⟩ := spec_l4Copy (lo := lo) hs1 hs2 hs3 hl hn
  obtain ⟨s1, s2, s3, G1, G2, G3, rfl, rfl, g1, g2, g3⟩ := r
  obtain ⟨x1, y1, es1, g1⟩ := g1.form
  obtain ⟨x2, y2, es2, g2⟩ := g2.form
  obtain ⟨x3, y3, es3, g3⟩ := g3.form
  exact ⟨_, x1, y1, x2, y2, x3, y3, h', _, e, ⟨s1, s2, s3, x1, y1, x2, y2, x3, y3, rfl, fun K => es1 K, fun K => es2 K, fun K => es3 K, rfl⟩, ⟨_, _, _, G1, G2, G3, rfl, rfl, g1, g2, g3⟩, m⟩
theorem impl_PlaceJoin {p : Place} {cs : List V} (hp : RPlaceN false h cs p F) (hl : lo ≤ h.length) (hn : smPlace p) :
    ∃ raw r h' F', evl lo 25 [.agg cs] h = some (.tup [.agg raw, .bool (placeOk p && canJoin p.chain)], h') ∧ NPlace raw (tried p (joinP p)) r ∧ RPlaceN false h' r (tried p (joinP p)) F' ∧ Mv h [] h' F' := by
  obtain ⟨raw, r, h', F', e, n, rr, m⟩ := impl_attempted (lo := lo) (p' := joinP p) (l1 := []) (g := 87) (ok := canJoin p.chain) hp hl hn (fun hpo hh b row F1 hhl mm rp hb hnd hlo => by
    obtain ⟨b1, d1, b2, d2, b3, d3, rfl, rp⟩ := rp
    obtain ⟨G1, G2, G3, rfl, g1, g2, g3⟩ := rp.cells
    have nd := hnd
    rw [List.nodup_cons, List.nodup_append] at nd
    have hbn : b ∉ G1 ∧ b ∉ G2 ++ G3 := by have := nd.1; rw [List.mem_append, not_or] at this; exact this
    obtain ⟨a9, n9, c9, h9, F9, e9, q9, r9, m9⟩ := impl_join (lo := lo) (j := 2) hb (i := 0) rfl rfl g1 (chain_pos hpo) hn.1 (by rw [List.nodup_cons]; exact ⟨hbn.1, nd.2.1⟩) (fun y hy => by
      have := hlo y (by rw [List.mem_cons] at hy ⊢; rw [List.mem_append]; exact hy.imp id .inl)
      omega) (by omega)
    have dis : ∀ y ∈ G2 ++ G3, y ∉ b :: G1 := fun y hy hm => by
      rw [List.mem_cons] at hm
      rcases hm with rfl | hm
      · exact hbn.2 hy
      · exact nd.2.2.2 y hm y hy rfl
    obtain rfl := r9.val
    have nd9 : (G2 ++ G3).Nodup := nd.2.2.1
    have bd23 : ∀ y ∈ G2 ++ G3, y < hh.length := fun y hy => by
      rw [List.mem_append] at hy
      exact hy.elim (rvers_ok.bd _ _ _ _ g2 y) (rvss_ok.bd _ _ _ _ g3 y)
    have m8 := m9.aside (G := G2 ++ G3) (by simpa using hnd) bd23
    refine ⟨h9, (joinP p).cs a9 c9 b2 d2 b3 d3, F9 ++ (G2 ++ G3), E_impl_PlaceJoin_1 ?_, ⟨_, _, _, _, _, _, rfl, _, _, _, F9, G2, G3, rfl, rfl, r9, m9.keep rvers_ok g2 fun y hy => dis y (by simp [hy]), m9.keep rvss_ok g3 fun y hy => dis y (by simp [hy])⟩, q9, m8⟩
    simp only [Nat.zero_add]
    rw [e9]; simp only [cal_s, eB_b]
    exact br_some)
  obtain ⟨b1, d1, b2, d2, b3, d3, rfl, _⟩ := hp
  obtain ⟨s1, s2, s3, a1', c1', a2', c2', a3', c3', rfl, n1, n2, n3, rfl⟩ := n
  refine ⟨(tried p (joinP p)).cs a1' c1' a2' c2' a3' c3', _, h', F', E_impl_PlaceJoin ?_, nplace_self, rr, m⟩
  rw [e]
  simp only [cal_s, eU_t, eC_c, eA_a, eI_int, n1, n2, n3, eBv_b, eN_n, eB_b]
  cases (placeOk p && canJoin p.chain) <;> rfl
theorem spec_PlaceJoin {p : Place} {cs : List V} (hp : RPlaceN false h cs p F) (hl : lo ≤ h.length) (hn : smPlace p) :
    ∃ raw r h' F', evl lo 24 [.agg cs] h = some (.tup [.agg raw, .bool (placeOk p && canJoin p.chain)], h') ∧ NPlace raw (tried p (joinP p)) r ∧ RPlaceN false h' r (tried p (joinP p)) F' ∧ Mv h [] h' F' := by
  obtain ⟨a1, c1, a2, c2, a3, c3, rfl, hp⟩ := hp
  obtain ⟨F1, F2, F3, _, h1, h2, h3⟩ := hp.cells
  suffices hk : ∃ raw r h' F', _ = some (V.tup [.agg raw, .bool (placeOk p && canJoin p.chain)], h') ∧ NPlace raw (tried p (joinP p)) r ∧ RPlaceN false h' r (tried p (joinP p)) F' ∧ Mv h [] h' F' from by
    obtain ⟨raw, r, h', F', e, hr⟩ := hk
    exact ⟨raw, r, h', F', E_spec_PlaceJoin e, hr⟩
  rw [spec_l4Ok h1 h2 h3 hn]; simp only [cal_s, eB_b]
  unfold tried
  cases hpo : placeOk p with
  | false =>
    rw [br_f]
    obtain ⟨raw, r, rfl, n1, n2⟩ := nplace_zero (hh := h)
    exact ⟨_, r, h, [], rfl, n1, n2, Mv.nil⟩
  | true =>
  obtain ⟨raw, b1, d1, b2, d2, b3, d3, h4, F4, e4, n4, r4, m4⟩ := spec_l4CopyN (lo := lo) h1 h2 h3 hl hn
  obtain ⟨s1, s2, s3, q1, q2, q3, q4, q5, q6, rfl, n1, n2, n3, eq⟩ := n4
  obtain ⟨rfl, rfl, rfl, rfl, rfl, rfl⟩ := cs_inj eq
  rw [br_t, e4]; simp only [cal_s, eA_a, eC_c, eI_int, n1, n2, n3, eBv_b, eN_n, cond_true]
  have r4' := r4
  obtain ⟨G1, G2, G3, rfl, g1, g2, g3⟩ := r4'.cells
  by_cases h4' : (p.chain.length : Int) < 4
  · rw [br_neg (by omega)]
    have nd := m4.nd
    rw [List.nodup_append] at nd
    obtain ⟨a5, c5, h5, F5, e5, r5, m5⟩ := spec_l3Join (lo := lo) g1 (chain_pos hpo) hn.1 nd.1 (fun y hy => by
      have := m4.new y (by rw [List.mem_append]; exact .inl hy)
      omega) (Nat.le_trans hl m4.le)
    rw [e5]; simp only [cal_s, eA_a, eC_c, eS_sl, eN_n]
    have hj : tryJoin p.chain = joinN p.chain := by unfold tryJoin canJoin; rw [decide_eq_true h4', cond_true]
    have hlen : p.chain.length + 1 = (tryJoin p.chain).length := by rw [hj]; exact r5.val
    have bd23 : ∀ y ∈ G2 ++ G3, y < h4.length := fun y hy => by
      rw [List.mem_append] at hy
      exact hy.elim (rvers_ok.bd _ _ _ _ g2 y) (rvss_ok.bd _ _ _ _ g3 y)
    have m8 := m5.aside (G := G2 ++ G3) m4.nd bd23
    have dis : ∀ y ∈ G2 ++ G3, y ∉ G1 := fun y hy hm => nd.2.2 y hm y hy rfl
    rw [hlen] at r5 ⊢
    rw [← hj] at r5
    have hc : canJoin p.chain = true := decide_eq_true h4'
    rw [hc]
    exact ⟨(joinP p).cs a5 c5 b2 d2 b3 d3, _, h5, _, rfl, nplace_self, ⟨_, _, _, _, _, _, rfl, _, _, _, F5, G2, G3, rfl, rfl, r5, m5.keep rvers_ok g2 fun y hy => dis y (by simp [hy]), m5.keep rvss_ok g3 fun y hy => dis y (by simp [hy])⟩, m4.trans m8⟩
  · rw [br_pos (by omega)]
    have hc : canJoin p.chain = false := decide_eq_false h4'
    have hj : joinP p = p := by unfold joinP tryJoin; rw [hc]; rfl
    rw [hc, hj]
    exact ⟨p.cs b1 d1 b2 d2 b3 d3, _, h4, _, rfl, nplace_self, ⟨_, _, _, _, _, _, rfl, r4⟩, m4⟩
end
end Go.Proofs.YtfhnofppfacemaaGreat
namespace Go.Proofs.YtfhnofppfacemaaGreat
open Go T
set_option linter.unusedVariables false
set_option linter.unusedSimpArgs false
section
variable {lo : Nat} {h : Heap} {F F' : List Nat}
set_option maxRecDepth 100000 in
theorem law_FnExactPlaceJoin {p : Place} {cs : List V} (hs : RPlaceN true h cs p F) (hb : bdPlace p) :
    ∃ h', evl h.length 4 [.agg cs] h = some (.bool true, h') := by
  have hsz := sz_place (lo := h.length) hs hb
  obtain ⟨b1, d1, b2, d2, b3, d3, rfl, _⟩ := id hs
  suffices hk : ∃ h', _ = some (V.bool true, h') from hk.imp fun h' hh => E_laws_FnExactPlaceJoin hh
  rw [hsz]; simp only [cal_s, eI_int]
  by_cases hneg : szN 1048576 (szPlace p) < 0
  · rw [br_pos hneg]; exact ⟨_, rfl⟩
  · rw [br_neg hneg]
    have hsm := szN_small hneg
    have hn := sm_place hsm
    have hw : (1 : Int) + wPlace p ≤ big := by have := wPlace_le (p := p); simp only [big]; omega
    obtain ⟨hq, hwq⟩ := sm_PlaceJoin (p := p) hn hsm
    have hS := fun (x : List V) (hh : Heap) (F : List Nat) (hl : h.length ≤ hh.length) (hr : RPlaceN false hh x p F) => spec_PlaceJoin (lo := h.length) hr hl hn
    have hI := fun (x : List V) (hh : Heap) (F : List Nat) (hl : h.length ≤ hh.length) (hr : RPlaceN false hh x p F) => impl_PlaceJoin (lo := h.length) hr hl hn
    generalize (tried p (joinP p)) = q at hq hwq hS hI
    generalize (placeOk p && canJoin p.chain) = okb at hS hI
    obtain ⟨c1, h1, w, h2, c3, h3, g, h4, c5, h5, h6, h7, c8, h8, g9, h9, t1, s2, t3, i4, t5, p6, p7, t8, i9, ⟨⟨X1, x1⟩, ⟨X3, x3⟩, ⟨X8, x8⟩⟩, ⟨⟨W2, w2⟩, ⟨G4, g4⟩, ⟨W4, w4⟩⟩, ⟨_, ⟨X35, x35⟩, ⟨X5, x5⟩⟩, ⟨⟨G6, g6⟩, ⟨W6, w6⟩⟩, ⟨G7, g7⟩, ⟨⟨G9, r9⟩, ⟨W9, w9⟩⟩, ⟨G79, g79⟩⟩ :=
      exact_story (Ra := RPlaceN true) (Rx := RPlaceN false) (Rr := RPlaceN false) rplaceN_ok rplaceN_ok rplaceN_ok (y := q) (y' := mkPlace 1 q) hs
        (TO := fun hh r h' => evl h.length 17 [.agg (p.cs b1 d1 b2 d2 b3 d3)] hh = some (.agg r, h'))
        (TO' := fun hh r h' => evl h.length 17 [.agg (p.cs b1 d1 b2 d2 b3 d3)] hh = some (.agg r, h'))
        (SP := fun x hh r h' => ∃ raw, evl h.length 24 [.agg x] hh = some (.tup [.agg raw, .bool okb], h') ∧ NPlace raw q r)
        (IM := fun x hh r h' => ∃ raw, evl h.length 25 [.agg x] hh = some (.tup [.agg raw, .bool okb], h') ∧ NPlace raw q r)
        (MX := fun x hh h' => evl h.length 21 [.agg x, .int .i64 1] hh = some (.int .i64 (1 + wPlace p), h'))
        (MR := fun r hh h' => evl h.length 21 [.agg r, .int .i64 1] hh = some (.int .i64 (1 + wPlace q), h'))
        (fun hh F hl hr => to_place hr hl hn)
        (fun hh F hl hr => to_place hr hl hn)
        (fun x hh F hl hr _ _ => by obtain ⟨raw, r, h', F', e1, e2, e3, e4⟩ := hS x hh F hl hr; exact ⟨r, h', F', ⟨raw, e1, e2⟩, e3, e4⟩)
        (fun x hh F hl hr _ _ => by obtain ⟨raw, r, h', F', e1, e2, e3, e4⟩ := hI x hh F hl hr; exact ⟨r, h', F', ⟨raw, e1, e2⟩, e3, e4⟩)
        (fun x hh F hr hnd hlo => by obtain ⟨h', e, _, m⟩ := mark_place (lo := h.length) hr hlo hnd hw hn; exact ⟨h', e, m⟩)
        (fun r hh F hr hnd hlo => by obtain ⟨h', e, rr, m⟩ := mark_place (lo := h.length) hr hlo hnd hwq hq; exact ⟨h', e, rr, m⟩)
    have e35 := eq_place (lo := h.length) x35 x5 hn
    have e4 := eq_place (lo := h.length) g4 w4 hq
    have e6 := eq_place (lo := h.length) g6 w6 hq
    have e9 := eq_place (lo := h.length) r9 w9 hq
    have k7 := held_place (lo := h.length) g7 hwq hq
    have k9 := held_place (lo := h.length) g79 hwq hq
    obtain ⟨q1, _, q2, _, q3, _, rfl, _⟩ := x1
    obtain ⟨q1, _, q2, _, q3, _, rfl, _⟩ := x3
    obtain ⟨q1, _, q2, _, q3, _, rfl, _⟩ := x5
    obtain ⟨q1, _, q2, _, q3, _, rfl, _⟩ := x8
    obtain ⟨raw2, s2, u1, u2, u3, _, _, _, _, _, _, rfl, su1, su2, su3, rfl⟩ := s2
    obtain ⟨raw4, i4, v1, v2, v3, _, _, _, _, _, _, rfl, sv1, sv2, sv3, rfl⟩ := i4
    obtain ⟨raw9, i9, y1, y2, y3, _, _, _, _, _, _, rfl, sy1, sy2, sy3, rfl⟩ := i9
    have z1 : decide ((1 : Int) + wPlace p < 0) = false := decide_eq_false (by omega)
    have z2 : decide ((1 : Int) + wPlace q < 0) = false := decide_eq_false (by omega)
    have bq : ∀ {T : Type} (x : Int) (y z : Option T), br (x == x) y z = y := fun x y z => by rw [beqI, br_t]
    cases okb
    all_goals
      rw [t1, cal_s, eA_a, eC_c, eI_int, eC_c, eI_int, eC_c, eS_sl, eC_c, eS_sl, eC_c, eS_sl, eC_c, eBv_b, eN_n, s2, cal_s, eU_t, eC_c, eA_a, eC_c, eI_int, eC_c, eI_int, eC_c, su1, eC_c, su2, eC_c, su3, eC_c, eBv_b, eN_n, eC_c, eB_b]
      first | rw [br_t] | rw [br_f]
      rw [eN_n, t3, cal_s, eA_a, eC_c, eI_int, eC_c, eI_int, eC_c, eS_sl, eC_c, eS_sl, eC_c, eS_sl, eC_c, eBv_b, eN_n, i4, cal_s, eU_t, eC_c, eA_a, eC_c, eI_int, eC_c, eI_int, eC_c, sv1, eC_c, sv2, eC_c, sv3, eC_c, eBv_b, eN_n, eC_c, eB_b]
      first | rw [br_t] | rw [br_f]
      rw [eN_n, e4, cal_s, eB_b, br_t, t5, cal_s, eA_a, eC_c, eI_int, eC_c, eI_int, eC_c, eS_sl, eC_c, eS_sl, eC_c, eS_sl, eC_c, eBv_b, eN_n, e35, cal_s, eB_b, br_t, p6, cal_s, eI_int, z1, br_f, e6, cal_s, eB_b, br_t, p7, cal_s, eI_int, k7, cal_s, eI_int, z2, br_f, bq, t8, cal_s, eA_a, eC_c, eI_int, eC_c, eI_int, eC_c, eS_sl, eC_c, eS_sl, eC_c, eS_sl, eC_c, eBv_b, eN_n, i9, cal_s, eU_t, eC_c, eA_a, eC_c, eI_int, eC_c, eI_int, eC_c, sy1, eC_c, sy2, eC_c, sy3, eC_c, eBv_b, eN_n, eC_c, eB_b]
      first | rw [br_t] | rw [br_f]
      rw [eN_n, e9, cal_s, eB_b, br_t, k9, cal_s, eI_int, z2, br_f, bq]
      exact ⟨h9, rfl⟩
end
end Go.Proofs.YtfhnofppfacemaaGreat
namespace Go.Proofs.YtfhnofppfacemaaGreat
open Go T
set_option linter.unusedVariables false
set_option maxRecDepth 100000
theorem av_Place {h : Heap} {n : Nat} {x : V} (hx : ArgV Tryz.prog h (n + 11) 28 x) : ∃ cs p F, x = .agg cs ∧ RPlaceN true h cs p F ∧ bdPlace p := by
  obtain ⟨xs, rfl, hx2⟩ := av_agg Tryz.underlying28 hx
  obtain ⟨p, F, h1, h2⟩ := tv_Place (n := n) hx2
  exact ⟨xs, p, F, rfl, rplace_true h1, h2⟩
end Go.Proofs.YtfhnofppfacemaaGreat
namespace Go.Proofs.YtfhnofppfacemaaGreat
open Go T
set_option linter.unusedVariables false
set_option maxRecDepth 100000
theorem main_FnExactPlaceJoin {h : Heap} {x : V} (hx : ArgV Tryz.prog h 12 28 x) : ∃ h', evl h.length 4 [x] h = some (.bool true, h') := by
  obtain ⟨cs, p, F, rfl, hp, hb⟩ := av_Place (n := 1) hx
  exact law_FnExactPlaceJoin hp hb
end Go.Proofs.YtfhnofppfacemaaGreat
