/- Part 5 of what is shown for the law FnExactWorldNodes, whatever the input; no condition of its own. -/
import Derived.Test.YthdfojchihooeaaGreatBXWorldNodes4
namespace Go.Proofs.YthdfojchihooeaaGreat
open Go T
set_option linter.unusedVariables false
set_option linter.unusedSimpArgs false
def placesOk (l : List Place) : Bool := l.zipIdx.all fun x => x.1.me == (x.2 : Int) && placeOk x.1
def heardAt (l : List Place) (p : Place) : Bool := p.got.zipIdx.all fun x => begins (logOf l x.2) x.1
def heardOk (l : List Place) : Bool := l.all (heardAt l)
def worldOk (w : World) : Bool := decide (w.places.length = 3) && decide (w.sess.length ≤ 4) && decide (w.net.length ≤ 12) && decide (w.hist.length ≤ 80) && placesOk w.places && w.sess.all sessOk && w.net.all (frameOk w.places) && w.hist.all doneOk && heardOk w.places
theorem placesOk_at {l : List Place} (h : placesOk l = true) : ∀ i (hi : i < l.length), l[i].me = (i : Int) ∧ placeOk l[i] = true := fun i hi => by
  have := (all_zipIdx (p := fun (i : Nat) (x : Place) => x.me == (i : Int) && placeOk x) (l := l)).1 h i hi
  simpa using this
theorem sameVer_sym {v u : Ver} : sameVer v u = sameVer u v := by
  rw [Bool.eq_iff_iff, same_iff, same_iff]; exact eq_comm
theorem sameVers_sym {v u : List Ver} : sameVers v u = sameVers u v := by
  rw [Bool.eq_iff_iff, sameVers_iff, sameVers_iff]; exact eq_comm
theorem zip_same {s t : List Ver} (h : s.length = t.length) : ((s.zip t).all fun x => sameVer x.1 x.2) = sameVers s t := by
  unfold sameVers; rw [decide_eq_true h, Bool.true_and]

section
variable {lo : Nat} {ro ro' : Bool} {h : Heap} {F F' F1 : List Nat} {a a' a1 a2 a3 a4 : Option (Nat × Nat)} {c c' c1 c2 c3 c4 : Option Nat}
theorem spec_FrameOk {w : World} {f : Frame} (r1 : RPlaces false h [.sl 6 a1 w.places.length c1] w.places F1) (h3 : w.places.length = 3) (hok : placesOk w.places = true) (hs : RTags ro h [.sl 2 a f.ver.past.length c] f.ver.past F) (hn : f.ver.past.length ≤ 1048576 ∧ f.ver.text.size ≤ 1048576) :
    evl lo 178 [.agg (w.cs a1 c1 a2 c2 a3 c3 a4 c4), .agg (f.cs a c)] h = some (.bool (frameOk w.places f), h) := by
  refine E_spec_l5FrameOk (h' := h) ?_
  unfold frameOk
  rw [spec_l1In, cal_s, eB_b, spec_l1In, cal_s, eB_b]
  cases hw : within f.fro 0 2 with
  | false => rw [br_f]; rfl
  | true =>
  cases hw2 : within f.to 0 2 with
  | false => rw [br_t, br_f]; rfl
  | true =>
  rw [br_t, br_t]
  cases hft : (f.fro == f.to) with
  | true => rw [br_t]; rfl
  | false =>
  simp only [within, Bool.and_eq_true, decide_eq_true_eq] at hw
  have hk : f.fro.toNat < w.places.length := by omega
  obtain ⟨o, s1, s2, s3, b1, d1, b2, d2, b3, d3, G1, G2, G3, ha, _, _, _, ho3, _, _, e2, _, _, g2, _, _⟩ := r1.get hk
  have hlog : ∀ i (hi : i < w.places[f.fro.toNat].log.length), verOk w.places[f.fro.toNat].log[i] = true := fun i hi => ((log_parts (ok_parts (placesOk_at hok _ hk).2).2.2.2.2.2.1).2 i hi).1
  have hll : w.places[f.fro.toNat].log.length ≤ 60 := (log_parts (ok_parts (placesOk_at hok _ hk).2).2.2.2.2.2.1).1
  rw [logOf_get hk]
  generalize w.places[f.fro.toNat].log = lg at hlog hll g2 e2 ⊢
  rw [br_f, inB_in ⟨by omega, by omega⟩, ha, eO_s, ho3, eO_s, eC_c, eN_n, e2, spec_l1In, cal_s, eB_b, wr (n := ((lg.length : Nat) : Int) - 1) (by omega) (by omega)]
  cases hw3 : within f.at' 0 ((lg.length : Int) - 1) with
  | false => rw [br_f]; rfl
  | true =>
  simp only [within, Bool.and_eq_true, decide_eq_true_eq] at hw3
  have hk3 : f.at'.toNat < lg.length := by omega
  rw [br_t, spec_l2Ok (v := f.ver) hs hn, cal_s, eB_b, List.getElem?_eq_getElem hk3]
  cases hv : verOk f.ver with
  | false =>
    rw [br_f]
    have : sameVer lg[f.at'.toNat] f.ver = false := by
      rw [Bool.eq_false_iff]
      intro hsame
      rw [same_iff] at hsame
      have := hlog _ hk3
      rw [hsame, hv] at this
      cases this
    simp [this]
  | true =>
    obtain ⟨o4, s4, b4, d4, G4, ha4, ho4, es4, hp4, _⟩ := g2.get hk3
    have e := spec_l2Same (lo := List.length h) (h := h) (v := f.ver) (u := lg[f.at'.toNat]) hs hp4 hv (hlog _ hk3)
    simp only [Frame.cs, Ver.cs] at e
    rw [br_t, inB_in ⟨by omega, by omega⟩, eO_s, ho3, eO_s, eC_c, eN_n, e2, inB_in ⟨by omega, by omega⟩, ha4, eO_s, ho4, eO_s, eC_c, eI_int, eC_c, eI_int, eC_c, eI_int, eC_c, es4, eC_c, eT_s, eC_c, eBv_b, eN_n, e, cal_s, eB_b, sameVer_sym]
    show br _ _ _ = some (V.bool (sameVer lg[f.at'.toNat] f.ver), h)
    exact br_some
theorem impl_frameOk {w : World} {f : Frame} {b : Nat} (hb : h[b]? = some (.rows 4 36 false [w.cs a1 c1 a2 c2 a3 c3 a4 c4])) (r1 : RPlaces false h [.sl 6 a1 w.places.length c1] w.places F1) (h3 : w.places.length = 3) (hok : placesOk w.places = true) (hs : RTags ro h [.sl 2 a f.ver.past.length c] f.ver.past F) :
    evl lo 173 [.ptr (some (b, (0, 0))), .agg (f.cs a c)] h = some (.bool (frameOk w.places f), h) := by
  refine E_impl_World_frameOk (h' := h) ?_
  unfold frameOk
  have l1 : ld h b 0 (0 + 0) 1 = some [.sl 6 a1 w.places.length c1] := by rw [ld_of hb rfl]; rfl
  rw [impl_apart, cal_s, eB_b]
  cases hw : within f.fro 0 2 with
  | false => simp only [Bool.false_and]; rw [br_f]
  | true =>
  cases hw2 : within f.to 0 2 with
  | false => simp only [Bool.true_and, Bool.false_and]; rw [br_f]
  | true =>
  cases hft : (f.fro == f.to) with
  | true => simp only [Bool.true_and, Bool.not_true, Bool.false_and]; rw [br_f]
  | false =>
  simp only [Bool.true_and, Bool.not_false]
  simp only [within, Bool.and_eq_true, decide_eq_true_eq] at hw
  have hk : f.fro.toNat < w.places.length := by omega
  obtain ⟨o, s1, s2, s3, b1, d1, b2, d2, b3, d3, G1, G2, G3, ha, _, _, _, ho3, _, _, e2, _, _, g2, _, _⟩ := r1.get hk
  have hll : w.places[f.fro.toNat].log.length ≤ 60 := (log_parts (ok_parts (placesOk_at hok _ hk).2).2.2.2.2.2.1).1
  have hlog : ∀ i (hi : i < w.places[f.fro.toNat].log.length), verOk w.places[f.fro.toNat].log[i] = true := fun i hi => ((log_parts (ok_parts (placesOk_at hok _ hk).2).2.2.2.2.2.1).2 i hi).1
  rw [logOf_get hk]
  generalize w.places[f.fro.toNat].log = lg at hlog hll g2 e2 ⊢
  rw [br_t, l1, eO_s, eC_c, eN_n, eS_sl, inB_in ⟨by omega, by omega⟩, ha, eO_s, ho3, eO_s, eC_c, eN_n, e2, impl_within, cal_s, eB_b, wr (n := ((lg.length : Nat) : Int) - 1) (by omega) (by omega)]
  cases hw3 : within f.at' 0 ((lg.length : Int) - 1) with
  | false => rw [br_f]; rfl
  | true =>
  simp only [within, Bool.and_eq_true, decide_eq_true_eq] at hw3
  have hk3 : f.at'.toNat < lg.length := by omega
  obtain ⟨o4, s4, b4, d4, G4, ha4, ho4, es4, hp4, _⟩ := g2.get hk3
  have e := impl_same (lo := List.length h) (h := h) (v := lg[f.at'.toNat]) (u := f.ver) hp4 hs (by have := pastOk_len (verOk_parts (hlog _ hk3)).2.2.2.1; omega)
  simp only [Frame.cs, Ver.cs] at e
  rw [br_t, l1, eO_s, eC_c, eN_n, ha, eS_sl, inB_in ⟨by omega, by omega⟩, eO_s, ho3, eO_s, eC_c, eN_n, e2, inB_in ⟨by omega, by omega⟩, ha4, eO_s, ho4, eO_s, eC_c, eI_int, eC_c, eI_int, eC_c, eI_int, eC_c, es4, eC_c, eT_s, eC_c, eBv_b, eN_n, e, cal_s, eB_b, List.getElem?_eq_getElem hk3]
  show br _ _ _ = some (V.bool (sameVer lg[f.at'.toNat] f.ver), h)
  exact br_some
theorem spec_Heard {w : World} (r1 : RPlaces false h [.sl 6 a1 w.places.length c1] w.places F1) (h3 : w.places.length = 3) (hok : placesOk w.places = true) :
    evl lo 180 [.agg (w.cs a1 c1 a2 c2 a3 c3 a4 c4)] h = some (.bool (heardOk w.places), h) := by
  refine E_spec_l5Heard (h' := h) ?_
  unfold heardOk
  refine (all_loop (p := heardAt w.places) (l := w.places) (fun i => L_spec_l5Heard_0 (List.length h) false (i : Nat) a1 w.places.length c1 a2 w.sess.length c2 a3 w.net.length c3 a4 w.hist.length c4 h) (some (.bool false, h)) (some (.bool true, h)) (fun i hi => ?_) ?_).trans ?_
  · have hpo := (placesOk_at hok i hi).2
    have hgl : w.places[i].got.length = 3 := (ok_parts hpo).2.2.1
    rw [L_spec_l5Heard_0.e, br_pos (by omega)]
    unfold heardAt
    refine (all_loop (p := fun x : List Ver × Nat => begins (logOf w.places x.2) x.1) (l := w.places[i].got.zipIdx) (fun k => L_spec_l5Heard_2 (List.length h) false (i : Nat) (k : Nat) a1 w.places.length c1 a2 w.sess.length c2 a3 w.net.length c3 a4 w.hist.length c4 h) (some (.bool false, h)) (L_spec_l5Heard_0 (List.length h) false ((i + 1 : Nat) : Int) a1 w.places.length c1 a2 w.sess.length c2 a3 w.net.length c3 a4 w.hist.length c4 h) (fun k hk => ?_) ?_).trans ?_
    · rw [List.length_zipIdx] at hk
      simp only [List.getElem_zipIdx, Nat.zero_add]
      have hk3 : k < w.places.length := by omega
      obtain ⟨o, s1, s2, s3, b1, d1, b2, d2, b3, d3, G1, G2, G3, ha, _, _, _, _, ho4, _, _, e3, _, _, g3, _⟩ := r1.get hi
      obtain ⟨o', s1', s2', s3', b1', d1', b2', d2', b3', d3', G1', G2', G3', ha', _, _, _, ho3', _, _, e2', _, _, g2', _, _⟩ := r1.get hk3
      have hoo : o = o' := by rw [ha] at ha'; injection ha'
      subst hoo
      obtain ⟨og, sg, bg, dg, Gg, hag, hog, eg, gg, _⟩ := g3.get hk
      have hlogs := log_parts (ok_parts (placesOk_at hok k hk3).2).2.2.2.2.2.1
      have hgots := log_parts (got_log hpo hk)
      rw [logOf_get hk3]
      generalize w.places[i].got[k] = gt at eg gg hgots ⊢
      generalize w.places[k].log = lg at e2' g2' hlogs ⊢
      rw [L_spec_l5Heard_2.e, br_pos (by omega), inB_nat hi, ha, eO_s, Int.toNat_natCast, ho4, eO_s, eC_c, eN_n, e3, inB_nat hk, hag, eO_s, Int.toNat_natCast, hog, eO_s, eC_c, eN_n, eg, inB_nat hk3, eO_s, ho3', eO_s, eC_c, eN_n, e2']
      unfold begins
      by_cases hle : gt.length ≤ lg.length
      · rw [br_neg (by omega), decide_eq_true hle, Bool.true_and]
        have htl : gt.length = (lg.take gt.length).length := by rw [List.length_take]; omega
        have hzl : (gt.zip (lg.take gt.length)).length = gt.length := by rw [List.length_zip, ← htl]; omega
        refine (all_loop (p := fun x : Ver × Ver => sameVer x.1 x.2) (l := gt.zip (lg.take gt.length)) (fun n => L_spec_l5Heard_4 (List.length h) false (i : Nat) (k : Nat) bg gt.length dg (n : Nat) (some o) w.places.length c1 a2 w.sess.length c2 a3 w.net.length c3 a4 w.hist.length c4 h) (some (.bool false, h)) (L_spec_l5Heard_2 (List.length h) false (i : Nat) ((k + 1 : Nat) : Int) (some o) w.places.length c1 a2 w.sess.length c2 a3 w.net.length c3 a4 w.hist.length c4 h) (fun n hn => ?_) ?_).trans ?_
        · have hn1 : n < gt.length := by omega
          have hn2 : n < lg.length := by omega
          obtain ⟨q1, t1, x1, y1, H1, z1, ld1, es1, p1, _⟩ := gg.get hn1
          obtain ⟨q2, t2, x2, y2, H2, z2, ld2, es2, p2, _⟩ := g2'.get hn2
          have e := spec_l2Same (lo := List.length h) (h := h) (v := gt[n]) (u := lg[n]) p1 p2 (hgots.2 n hn1).1 (hlogs.2 n hn2).1
          simp only [Ver.cs] at e
          rw [L_spec_l5Heard_4.e, br_pos (by omega), inB_nat hn1, z1, eO_s, Int.toNat_natCast, ld1, eO_s, eC_c, eI_int, eC_c, eI_int, eC_c, eI_int, eC_c, es1, eC_c, eT_s, eC_c, eBv_b, eN_n, inB_nat hk3, eO_s, Int.toNat_natCast, ho3', eO_s, eC_c, eN_n, e2', inB_nat hn2, z2, eO_s, ld2, eO_s, eC_c, eI_int, eC_c, eI_int, eC_c, eI_int, eC_c, es2, eC_c, eT_s, eC_c, eBv_b, eN_n, e, cal_s, eB_b, wr_succ (by omega)]
          simp only [List.getElem_zip, List.getElem_take]
          cases sameVer gt[n] lg[n] <;> rfl
        · rw [hzl, L_spec_l5Heard_4.e, br_neg (by omega), wr_succ (by omega)]
        · rw [zip_same htl, sameVers_sym]
      · rw [br_pos (by omega), decide_eq_false hle, Bool.false_and]; rfl
    · rw [List.length_zipIdx, L_spec_l5Heard_2.e, br_neg (by omega), wr_succ (by omega)]
    · rfl
  · rw [L_spec_l5Heard_0.e, br_neg (by omega)]
  · cases w.places.all (heardAt w.places) <;> rfl
theorem spec_worldOk {w : World} {cs : List V} (hs : RWorldN false h cs w F) (hn : smWorld w) : evl lo 77 [.agg cs] h = some (.bool (worldOk w), h) := by
  obtain ⟨a1, c1, a2, c2, a3, c3, a4, c4, F1, F2, F3, F4, rfl, rfl, r1, r2, r3, r4⟩ := hs
  obtain ⟨n1, n2, n3, n4⟩ := hn
  refine E_spec_l5Ok ?_
  unfold worldOk
  by_cases h3 : w.places.length = 3
  · rw [show (((w.places.length : Nat) : Int) == 3) = true by rw [beq_iff_eq]; omega, br_t, decide_eq_true h3, Bool.true_and]
    by_cases hs4 : w.sess.length ≤ 4
    · rw [br_neg (by omega), decide_eq_true hs4, Bool.true_and]
      by_cases hn12 : w.net.length ≤ 12
      · rw [br_neg (by omega), decide_eq_true hn12, Bool.true_and]
        by_cases hh80 : w.hist.length ≤ 80
        · rw [br_neg (by omega), decide_eq_true hh80, Bool.true_and]
          have e0 := all_loop (p := fun x : Place × Nat => x.1.me == (x.2 : Int) && placeOk x.1) (l := w.places.zipIdx) (fun i => L_spec_l5Ok_0 lo false (i : Nat) a1 w.places.length c1 a2 w.sess.length c2 a3 w.net.length c3 a4 w.hist.length c4 h) (some (.bool false, h)) (L_spec_l5Ok_2 lo false 0 a1 w.places.length c1 a2 w.sess.length c2 a3 w.net.length c3 a4 w.hist.length c4 h) (fun i hi => by
              rw [List.length_zipIdx] at hi
              simp only [List.getElem_zipIdx, Nat.zero_add]
              obtain ⟨o, s1, s2, s3, b1, d1, b2, d2, b3, d3, G1, G2, G3, ha, ho, ho0, _, _, _, e1, e2, e3, g1, g2, g3, _⟩ := r1.get hi
              have e := spec_l4Ok (lo := lo) g1 g2 g3 (n1.2 _ (List.getElem_mem hi))
              simp only [Place.cs] at e
              rw [L_spec_l5Ok_0.e, br_pos (by omega), inB_nat hi, ha, eO_s, Int.toNat_natCast, ho0, eO_s, eC_c, eN_n, eI_int]
              cases hme : (w.places[i].me == ((i : Nat) : Int)) with
              | false => rw [br_f]; rfl
              | true =>
                rw [br_t, inB_nat hi, eO_s, ho, eO_s, eC_c, eI_int, eC_c, eI_int, eC_c, e1, eC_c, e2, eC_c, e3, eC_c, eBv_b, eN_n, e, cal_s, eB_b, wr_succ (by omega), Bool.true_and]
                cases placeOk w.places[i] <;> rfl) (by rw [List.length_zipIdx, L_spec_l5Ok_0.e, br_neg (by omega)])
          refine e0.trans ?_
          show (if placesOk w.places = true then _ else _) = _
          cases hok : placesOk w.places with
          | false => rfl
          | true =>
          rw [if_pos rfl, Bool.true_and]
          refine (all_loop (p := sessOk) (l := w.sess) (fun i => L_spec_l5Ok_2 lo false (i : Nat) a1 w.places.length c1 a2 w.sess.length c2 a3 w.net.length c3 a4 w.hist.length c4 h) (some (.bool false, h)) (L_spec_l5Ok_4 lo false 0 a1 w.places.length c1 a2 w.sess.length c2 a3 w.net.length c3 a4 w.hist.length c4 h) (fun i hi => by
              obtain ⟨o, v, b1, d1, G, ha, ho, _, _, es, hpp, _⟩ := r2.get hi
              have e := spec_SessOk (lo := lo) (s := w.sess[i]) hpp (n2.2 _ (List.getElem_mem hi))
              rw [L_spec_l5Ok_2.e, br_pos (by omega), inB_nat hi, ha, eO_s, Int.toNat_natCast, ho, eO_s, eC_c, eI_int, eC_c, es, eC_c, eI_int, eC_c, eI_int, eC_c, eI_int, eN_n, e, cal_s, eB_b, wr_succ (by omega)]
              cases sessOk w.sess[i] <;> rfl) (by rw [L_spec_l5Ok_2.e, br_neg (by omega)])).trans ?_
          cases hse : w.sess.all sessOk with
          | false => rfl
          | true =>
          rw [if_pos rfl, Bool.true_and]
          refine (all_loop (p := frameOk w.places) (l := w.net) (fun i => L_spec_l5Ok_4 lo false (i : Nat) a1 w.places.length c1 a2 w.sess.length c2 a3 w.net.length c3 a4 w.hist.length c4 h) (some (.bool false, h)) (L_spec_l5Ok_6 lo false 0 a1 w.places.length c1 a2 w.sess.length c2 a3 w.net.length c3 a4 w.hist.length c4 h) (fun i hi => by
              obtain ⟨o, s, b1, d1, G, ha, ho, es, hpp, _⟩ := r3.get hi
              have e := spec_FrameOk (lo := lo) (w := w) (a2 := a2) (c2 := c2) (a3 := a3) (c3 := c3) (a4 := a4) (c4 := c4) (f := w.net[i]) r1 h3 hok hpp (n3.2 _ (List.getElem_mem hi))
              simp only [World.cs, Frame.cs, Ver.cs] at e
              rw [L_spec_l5Ok_4.e, br_pos (by omega), inB_nat hi]
              rw [ha] at e ⊢
              rw [eO_s, Int.toNat_natCast, ho, eO_s, eC_c, eI_int, eC_c, eI_int, eC_c, eI_int, eC_c, eI_int, eC_c, eI_int, eC_c, eI_int, eC_c, es, eC_c, eT_s, eC_c, eBv_b, eN_n, e, cal_s, eB_b, wr_succ (by omega)]
              cases frameOk w.places w.net[i] <;> rfl) (by rw [L_spec_l5Ok_4.e, br_neg (by omega)])).trans ?_
          cases hfr : w.net.all (frameOk w.places) with
          | false => rfl
          | true =>
          rw [if_pos rfl, Bool.true_and]
          refine (all_loop (p := doneOk) (l := w.hist) (fun i => L_spec_l5Ok_6 lo false (i : Nat) a1 w.places.length c1 a2 w.sess.length c2 a3 w.net.length c3 a4 w.hist.length c4 h) (some (.bool false, h)) (some (.bool (heardOk w.places), h)) (fun i hi => by
              obtain ⟨o, ha, ho⟩ := r4.get hi
              rw [L_spec_l5Ok_6.e, br_pos (by omega), inB_nat hi, ha, eO_s, Int.toNat_natCast, ho, eO_s, eC_c, eI_int, eC_c, eI_int, eC_c, eI_int, eC_c, eI_int, eC_c, eI_int, eN_n, spec_OpOk, cal_s, eB_b, wr_succ (by omega)]
              cases doneOk w.hist[i] <;> rfl) (by
              have e := spec_Heard (lo := lo) (w := w) (a2 := a2) (c2 := c2) (a3 := a3) (c3 := c3) (a4 := a4) (c4 := c4) r1 h3 hok
              rw [L_spec_l5Ok_6.e, br_neg (by omega), e, cal_s, eB_b]
              exact br_some)).trans ?_
          cases w.hist.all doneOk <;> rfl
        · rw [br_pos (by omega), decide_eq_false hh80]; rfl
      · rw [br_pos (by omega), decide_eq_false hn12]; rfl
    · rw [br_pos (by omega), decide_eq_false hs4]; rfl
  · rw [show (((w.places.length : Nat) : Int) == 3) = false by rw [beq_eq_false_iff_ne]; omega, br_f, decide_eq_false h3]; rfl
theorem impl_worldOk {w : World} {cs : List V} (hs : RWorldN false h cs w F) (hl : lo ≤ h.length) (hn : smWorld w) : ∃ h', evl lo 70 [.agg cs] h = some (.bool (worldOk w), h') ∧ Mv h [] h' [] := by
  obtain ⟨a1, c1, a2, c2, a3, c3, a4, c4, F1, F2, F3, F4, rfl, rfl, r1, r2, r3, r4⟩ := hs
  obtain ⟨n1, n2, n3, n4⟩ := hn
  have m0 : Mv h [] (h ++ [.rows 4 36 false [w.cs a1 c1 a2 c2 a3 c3 a4 c4]]) [] := Mv.snoc
  have hb : (h ++ [Blk.rows 4 36 false [w.cs a1 c1 a2 c2 a3 c3 a4 c4]])[h.length]? = some (.rows 4 36 false [w.cs a1 c1 a2 c2 a3 c3 a4 c4]) := by simp
  refine ⟨_, E_impl_WorldOk ?_, m0⟩
  have r1 := m0.keep0 rplaces_ok r1
  have r2 := m0.keep0 rsesss_ok r2
  have r3 := m0.keep0 rframes_ok r3
  have r4 := m0.keep0 rdones_ok r4
  have l0 : ld (h ++ [Blk.rows 4 36 false [w.cs a1 c1 a2 c2 a3 c3 a4 c4]]) h.length 0 0 1 = some [.sl 6 a1 w.places.length c1] := by rw [ld_of hb rfl]; rfl
  have l1 : ld (h ++ [Blk.rows 4 36 false [w.cs a1 c1 a2 c2 a3 c3 a4 c4]]) h.length 0 1 1 = some [.sl 5 a2 w.sess.length c2] := by rw [ld_of hb rfl]; rfl
  have l2 : ld (h ++ [Blk.rows 4 36 false [w.cs a1 c1 a2 c2 a3 c3 a4 c4]]) h.length 0 2 1 = some [.sl 9 a3 w.net.length c3] := by rw [ld_of hb rfl]; rfl
  have l3 : ld (h ++ [Blk.rows 4 36 false [w.cs a1 c1 a2 c2 a3 c3 a4 c4]]) h.length 0 3 1 = some [.sl 5 a4 w.hist.length c4] := by rw [ld_of hb rfl]; rfl
  have e4 := impl_formed (lo := lo) r4 n4
  simp only [World.cs] at hb r1 r2 r3 r4 l0 l1 l2 l3 e4 ⊢
  generalize (h ++ [Blk.rows 4 36 false [[V.sl 6 a1 w.places.length c1, .sl 5 a2 w.sess.length c2, .sl 9 a3 w.net.length c3, .sl 5 a4 w.hist.length c4]]]) = hh at hb r1 r2 r3 r4 l0 l1 l2 l3 e4 ⊢
  generalize h.length = b at hb l0 l1 l2 l3 ⊢
  have hwo : worldOk w = (decide (w.places.length = 3) && (decide (w.sess.length ≤ 4) && (decide (w.net.length ≤ 12) && ((decide (w.hist.length ≤ 80) && w.hist.all doneOk) && (placesOk w.places && (heardOk w.places && (w.sess.all sessOk && w.net.all (frameOk w.places)))))))) := by
    unfold worldOk
    cases decide (w.places.length = 3) <;> cases decide (w.sess.length ≤ 4) <;> cases decide (w.net.length ≤ 12) <;> cases decide (w.hist.length ≤ 80) <;> cases placesOk w.places <;> cases heardOk w.places <;> cases w.sess.all sessOk <;> cases w.net.all (frameOk w.places) <;> cases w.hist.all doneOk <;> rfl
  rw [hwo, l0, eO_s, eC_c, eN_n, eS_sl]
  by_cases h3 : w.places.length = 3
  · rw [show (((w.places.length : Nat) : Int) == 3) = true by rw [beq_iff_eq]; omega, br_t, decide_eq_true h3, Bool.true_and, l1, eO_s, eC_c, eN_n, eS_sl]
    by_cases hs4 : w.sess.length ≤ 4
    · rw [br_neg (by omega), decide_eq_true hs4, Bool.true_and, l2, eO_s, eC_c, eN_n, eS_sl]
      by_cases hn12 : w.net.length ≤ 12
      · rw [br_neg (by omega), decide_eq_true hn12, Bool.true_and, l3, eO_s, eC_c, eN_n, eS_sl, e4, cal_s, eB_b]
        cases (decide (w.hist.length ≤ 80) && w.hist.all doneOk) with
        | false => rw [br_f]; rfl
        | true =>
          rw [br_t, Bool.true_and, l0, eO_s, eC_c, eN_n, eS_sl]
          have e0 := all_loop (p := fun x : Place × Nat => x.1.me == (x.2 : Int) && placeOk x.1) (l := w.places.zipIdx) (fun i => L_impl_WorldOk_0 lo b 0 0 false a1 w.places.length c1 (w.places.length : Nat) (i : Nat) hh) (some (.bool false, hh)) (L_impl_WorldOk_2 lo b 0 0 false a1 w.places.length c1 (w.places.length : Nat) 0 hh) (fun i hi => by
              rw [List.length_zipIdx] at hi
              simp only [List.getElem_zipIdx, Nat.zero_add]
              obtain ⟨o, s1, s2, s3, b1, d1, b2, d2, b3, d3, G1, G2, G3, ha, ho, ho0, _, _, _, e1, e2, e3, g1, g2, g3, _⟩ := r1.get hi
              have e := impl_PlaceOk (lo := lo) g1 g2 g3 (n1.2 _ (List.getElem_mem hi))
              simp only [Place.cs] at e
              rw [L_impl_WorldOk_0.e, br_pos (by omega), inB_nat hi, ha, eO_s, Int.toNat_natCast, ho, eO_s, eC_c, eI_int, eC_c, eI_int, eC_c, e1, eC_c, e2, eC_c, e3, eC_c, eBv_b, eN_n, e, cal_s, eB_b, wr_succ (by omega)]
              cases placeOk w.places[i] <;> cases (w.places[i].me == ((i : Nat) : Int)) <;> rfl) (by rw [List.length_zipIdx, L_impl_WorldOk_0.e, br_neg (by omega), l0, eO_s, eC_c, eN_n, eS_sl])
          refine e0.trans ?_
          show (if placesOk w.places = true then _ else _) = _
          cases hok : placesOk w.places with
          | false => rfl
          | true =>
          rw [if_pos rfl, Bool.true_and]
          have e5 := all_loop (p := heardAt w.places) (l := w.places) (fun i => L_impl_WorldOk_2 lo b 0 0 false a1 w.places.length c1 (w.places.length : Nat) (i : Nat) hh) (some (.bool false, hh)) (L_impl_WorldOk_2 lo b 0 0 false a1 w.places.length c1 (w.places.length : Nat) (w.places.length : Nat) hh) (fun i hi => by
              have hpo := (placesOk_at hok i hi).2
              have hgl : w.places[i].got.length = 3 := (ok_parts hpo).2.2.1
              obtain ⟨o, s1, s2, s3, b1, d1, b2, d2, b3, d3, G1, G2, G3, ha, ho, _, _, _, _, e1, e2, e3, g1, g2, g3, _⟩ := r1.get hi
              rw [L_impl_WorldOk_2.e, br_pos (by omega), inB_nat hi, ha, eO_s, Int.toNat_natCast, ho, eO_s, eC_c, eI_int, eC_c, eI_int, eC_c, e1, eC_c, e2, eC_c, e3, eC_c, eBv_b, eN_n]
              unfold heardAt
              refine (all_loop (p := fun x : List Ver × Nat => begins (logOf w.places x.2) x.1) (l := w.places[i].got.zipIdx) (fun k => L_impl_WorldOk_4 lo b 0 0 false (some o) w.places.length c1 (w.places.length : Nat) (i : Nat) b3 w.places[i].got.length d3 (w.places[i].got.length : Nat) (k : Nat) hh) (some (.bool false, hh)) (L_impl_WorldOk_2 lo b 0 0 false (some o) w.places.length c1 (w.places.length : Nat) ((i + 1 : Nat) : Int) hh) (fun k hk => ?_) ?_)
              · rw [List.length_zipIdx] at hk
                simp only [List.getElem_zipIdx, Nat.zero_add]
                have hk3 : k < w.places.length := by omega
                obtain ⟨o', s1', s2', s3', b1', d1', b2', d2', b3', d3', G1', G2', G3', ha', _, _, _, ho3', _, _, e2', _, _, g2', _, _⟩ := r1.get hk3
                obtain ⟨og, sg, bg, dg, Gg, hag, hog, eg, gg, _⟩ := g3.get hk
                have hoo : o = o' := by rw [ha] at ha'; injection ha'
                subst hoo
                have e6 := impl_beginsWith (lo := lo) g2' gg (n1.2 _ (List.getElem_mem hk3)).2.1
                rw [logOf_get hk3, L_impl_WorldOk_4.e, br_pos (by omega), inB_nat hk, hag, eO_s, Int.toNat_natCast, hog, eO_s, eC_c, eN_n, eg, Nat.add_zero, l0, eO_s, eC_c, eN_n, ha, eS_sl, inB_nat hk3, eO_s, ho3', eO_s, eC_c, eN_n, e2', e6, cal_s, eB_b, wr_succ (by omega)]
                cases begins w.places[k].log w.places[i].got[k] <;> rfl
              · rw [List.length_zipIdx, L_impl_WorldOk_4.e, br_neg (by omega), wr_succ (by omega)]) rfl
          refine e5.trans ?_
          unfold heardOk
          cases w.places.all (heardAt w.places) with
          | false => rfl
          | true =>
          rw [if_pos rfl, Bool.true_and, L_impl_WorldOk_2.e, br_neg (by omega), Nat.zero_add, l1, eO_s, eC_c, eN_n, eS_sl, ContainsFunc_Sess r2 n2.1 (p := fun s => !sessOk s) (fun lo x b1 d1 G hx hp => E_impl_WorldOk_1 (h' := hh) (by
            rw [impl_SessOk hp (n2.2 x hx), cal_s, eB_b]; cases sessOk x <;> rfl)), cal_s, eB_b, List.any_eq_not_all_not]
          simp only [Bool.not_not]
          cases w.sess.all sessOk with
          | false => rfl
          | true =>
          rw [Bool.not_true, br_f, Nat.zero_add, l2, eO_s, eC_c, eN_n, eS_sl, ContainsFunc_Frame r3 n3.1 (p := fun f => !frameOk w.places f) (fun lo x b1 d1 G hx hp => E_impl_WorldOk_2 (h' := hh) (by
            rw [impl_frameOk (w := w) hb r1 h3 hok hp, cal_s, eB_b]; cases frameOk w.places x <;> rfl)), cal_s, eB_b, List.any_eq_not_all_not]
          simp only [Bool.not_not]
          cases w.net.all (frameOk w.places) <;> rfl
      · rw [br_pos (by omega), decide_eq_false hn12]; rfl
    · rw [br_pos (by omega), decide_eq_false hs4]; rfl
  · rw [show (((w.places.length : Nat) : Int) == 3) = false by rw [beq_eq_false_iff_ne]; omega, br_f, decide_eq_false h3]; rfl
end
end Go.Proofs.YthdfojchihooeaaGreat
namespace Go.Proofs.YthdfojchihooeaaGreat
open Go T
set_option linter.unusedVariables false
set_option linter.unusedSimpArgs false
theorem worldOk_parts {w : World} (h : worldOk w = true) : w.places.length = 3 ∧ w.sess.length ≤ 4 ∧ w.net.length ≤ 12 ∧ w.hist.length ≤ 80 ∧ placesOk w.places = true ∧ w.sess.all sessOk = true ∧ w.net.all (frameOk w.places) = true ∧ w.hist.all doneOk = true ∧ heardOk w.places = true := by
  unfold worldOk at h
  simp only [Bool.and_eq_true, decide_eq_true_eq] at h
  obtain ⟨⟨⟨⟨⟨⟨⟨⟨h1, h2⟩, h3⟩, h4⟩, h5⟩, h6⟩, h7⟩, h8⟩, h9⟩ := h
  exact ⟨h1, h2, h3, h4, h5, h6, h7, h8, h9⟩
section
variable {lo : Nat} {ro ro' : Bool} {h : Heap} {F F' F1 : List Nat} {a a' a1 a2 a3 a4 : Option (Nat × Nat)} {c c' c1 c2 c3 c4 : Option Nat}
end
end Go.Proofs.YthdfojchihooeaaGreat
namespace Go.Proofs.YthdfojchihooeaaGreat
open Go T
set_option linter.unusedVariables false
set_option linter.unusedSimpArgs false
def mkDone (k : Int) (_ : Done) : Done := ⟨k, k + 1, k + 1 + 1, ⟨k + 1 + 1 + 1, k + 1 + 1 + 1 + 1⟩⟩
def wDone (_ : Done) : Nat := 5
def mkSess (k : Int) (s : Sess) : Sess := ⟨k, marks mkTag wTag s.past (k + 1), ⟨k + 1 + mkN wTag s.past, k + 1 + mkN wTag s.past + 1⟩, k + 1 + mkN wTag s.past + 1 + 1⟩
def wSess (s : Sess) : Nat := 4 + mkN wTag s.past
noncomputable def mkFrame (k : Int) (f : Frame) : Frame := ⟨k, k + 1, k + 1 + 1, mkVer (k + 3) f.ver⟩
def wFrame (f : Frame) : Nat := 3 + wVer f.ver
noncomputable def mkPlaceS (k : Int) (p : Place) : Place := ⟨k, k + 1, mkNodes (k + 2) p.chain, mkVers (k + 2 + wNodes p.chain) p.log, mkVss (k + 2 + wNodes p.chain + wVers p.log) p.got, (k + 2 + wNodes p.chain + wVers p.log + wVss p.got).tmod 3 == 0⟩
def wPlaceS (p : Place) : Nat := 3 + wPlace p
def wWorld (w : World) : Nat := mkN wPlaceS w.places + mkN wSess w.sess + mkN wFrame w.net + mkN wDone w.hist
theorem wWorld_le {w : World} : wWorld w ≤ 8 * szWorld w := by
  have h1 : mkN wPlaceS w.places ≤ 8 * (w.places.length + (w.places.map szPlace).sum) := mkN_bound fun p _ => by have := wPlace_le (p := p); unfold wPlaceS; omega
  have h2 : mkN wSess w.sess ≤ 8 * (w.sess.length + (w.sess.map szSess).sum) := mkN_bound fun s _ => by have := mkN_tag (l := s.past); unfold wSess szSess; omega
  have h3 : mkN wFrame w.net ≤ 8 * (w.net.length + (w.net.map szFrame).sum) := mkN_bound fun f _ => by have := wVer_le (v := f.ver); unfold wFrame szFrame; omega
  have h4 : mkN wDone w.hist ≤ 5 * w.hist.length := mkN_all fun d _ => Nat.le_refl _
  unfold wWorld szWorld szPlaces szSesss szFrames
  omega
section
variable {lo : Nat} {h : Heap} {F : List Nat} {a : Option (Nat × Nat)} {c : Option Nat} {k : Int}
theorem laws_markDoneS {l : List Done} (hs : RDones false h [.sl 5 a l.length c] l F) (hlo : ∀ b ∈ F, lo ≤ b) (hnd : F.Nodup) (h0 : 0 ≤ k) (hB : k + mkN wDone l ≤ big) (hn : l.length ≤ 1048576) :
    ∃ h', evl lo 95 [.sl 5 a l.length c, .int .i64 k] h = some (.int .i64 (k + mkN wDone l), h') ∧ h'.length = h.length ∧ Mv h F h' F := by
  obtain ⟨h', e, _, r⟩ := mark_loop (El := flat Done.cs) flat_ok (f := mkDone) (w := wDone) (B := big) (fun k i hh => L_laws_markDoneS_0 lo a l.length c k (i : Nat) hh) (fun i k hh x b j rs row G ha hbF hbG hGn hGF hb hrow hel hx hi h0 hB => by
    obtain ⟨rfl, rfl⟩ := hel
    subst ha
    have hrl : j + i < rs.length := (List.getElem?_eq_some_iff.1 hrow).1
    have hbl : b < hh.length := (List.getElem?_eq_some_iff.1 hb).1
    have hlob := hlo b hbF
    have hw : ((wDone x : Nat) : Int) = 5 := rfl
    rw [hw] at hB ⊢
    refine ⟨hh.set b (.rows 5 (eDone false) false (rs.set (j + i) (mkDone k x).cs)), (mkDone k x).cs, ?_, by simp [hbl], ⟨rfl, rfl⟩, fun y hy _ => List.getElem?_set_ne (Ne.symm hy), by simp⟩
    simp only [big] at hB
    rw [L_laws_markDoneS_0.e, br_pos (by omega), inB_nat hi]
    simp only [eO_s, Int.toNat_natCast]
    rw [st_first hb hlob hrow (row' := [.int .i64 k, .int .i64 x.kind, .int .i64 x.key, .int .i64 x.tag.time, .int .i64 x.tag.place]) (by rfl), eO_s, inB_nat hi, wr (n := k + 1) (by omega) (by omega)]
    rw [st_next hbl hlob hrl (row' := [.int .i64 k, .int .i64 (k + 1), .int .i64 x.key, .int .i64 x.tag.time, .int .i64 x.tag.place]) (by rfl), eO_s, inB_nat hi, wr (n := k + 1 + 1) (by omega) (by omega)]
    rw [st_next hbl hlob hrl (row' := [.int .i64 k, .int .i64 (k + 1), .int .i64 (k + 1 + 1), .int .i64 x.tag.time, .int .i64 x.tag.place]) (by rfl), eO_s, inB_nat hi, wr (n := k + 1 + 1 + 1) (by omega) (by omega)]
    rw [st_next hbl hlob hrl (row' := [.int .i64 k, .int .i64 (k + 1), .int .i64 (k + 1 + 1), .int .i64 (k + 1 + 1 + 1), .int .i64 x.tag.place]) (by rfl), eO_s, inB_nat hi, wr (n := k + 1 + 1 + 1 + 1) (by omega) (by omega)]
    rw [st_next hbl hlob hrl (row' := (mkDone k x).cs) (by rfl), eO_s, wr (n := k + 1 + 1 + 1 + 1 + 1) (by omega) (by omega), wr_succ (by omega), show k + 1 + 1 + 1 + 1 + 1 = k + 5 by omega]) (fun k hh => by
    rw [L_laws_markDoneS_0.e, br_neg (by omega)]) hs hnd h0 hB
  exact ⟨h', E_laws_markDoneS e, r⟩
theorem laws_markSessS {l : List Sess} (hs : RSesss false h [.sl 5 a l.length c] l F) (hlo : ∀ b ∈ F, lo ≤ b) (hnd : F.Nodup) (h0 : 0 ≤ k) (hB : k + mkN wSess l ≤ big) (hn : l.length ≤ 1048576 ∧ ∀ s ∈ l, s.past.length ≤ 1048576) :
    ∃ h', evl lo 93 [.sl 5 a l.length c, .int .i64 k] h = some (.int .i64 (k + mkN wSess l), h') ∧ h'.length = h.length ∧ Mv h F h' F := by
  have hn1 := hn.1
  obtain ⟨h', e, _, r⟩ := mark_loop (El := RSess false) rsess_ok (f := mkSess) (w := wSess) (B := big) (fun k i hh => L_laws_markSessS_0 lo a l.length c k (i : Nat) hh) (fun i k hh x b j rs row G ha hbF hbG hGn hGF hb hrow hel hx hi h0 hB => by
    obtain ⟨s, rfl, hp0⟩ := hel
    obtain ⟨a2, c2, es, hp⟩ := hp0.form
    subst ha
    have hrl : j + i < rs.length := (List.getElem?_eq_some_iff.1 hrow).1
    have hbl : b < hh.length := (List.getElem?_eq_some_iff.1 hb).1
    have hlob := hlo b hbF
    have hw : wSess x = 4 + mkN wTag x.past := rfl
    rw [hw] at hB
    simp only [big] at hB
    have hb3 : (hh.set b (.rows 5 (eSess false) false (rs.set (j + i) [.int .i64 k, s, .int .i64 x.wait.time, .int .i64 x.wait.place, .int .i64 x.key])))[b]? = some (.rows 5 (eSess false) false (rs.set (j + i) [.int .i64 k, s, .int .i64 x.wait.time, .int .i64 x.wait.place, .int .i64 x.key])) := by simp [hbl]
    have hp3 : RTags false (hh.set b (.rows 5 (eSess false) false (rs.set (j + i) [.int .i64 k, s, .int .i64 x.wait.time, .int .i64 x.wait.place, .int .i64 x.key]))) [.sl 2 a2 x.past.length c2] x.past G := rtags_ok.fr _ _ _ _ _ hp (fun y hy => List.getElem?_set_ne (by rintro rfl; exact hbG hy))
    obtain ⟨h4, e4, r4, l4, m4⟩ := laws_markTagS (lo := lo) (k := k + 1) hp3 (fun y hy => hlo y (hGF y hy)) hGn (by omega) (by simp only [big]; omega) (hn.2 x hx)
    have hb4 : h4[b]? = some (.rows 5 (eSess false) false (rs.set (j + i) [.int .i64 k, s, .int .i64 x.wait.time, .int .i64 x.wait.place, .int .i64 x.key])) := by rw [m4.fr b (by simpa using hbl) hbG]; exact hb3
    have hbl4 : b < h4.length := (List.getElem?_eq_some_iff.1 hb4).1
    have hrow4 : (rs.set (j + i) [.int .i64 k, s, .int .i64 x.wait.time, .int .i64 x.wait.place, .int .i64 x.key])[j + i]? = some [.int .i64 k, s, .int .i64 x.wait.time, .int .i64 x.wait.place, .int .i64 x.key] := by simp [hrl]
    generalize hN : k + 1 + (mkN wTag x.past : Int) = N at e4
    refine ⟨h4.set b (.rows 5 (eSess false) false (rs.set (j + i) [.int .i64 k, s, .int .i64 N, .int .i64 (N + 1), .int .i64 (N + 1 + 1)])), [.int .i64 k, s, .int .i64 N, .int .i64 (N + 1), .int .i64 (N + 1 + 1)], ?_, by simp [hbl4], ?_, fun y hy hyG => ?_, by simpa using l4⟩
    · rw [L_laws_markSessS_0.e, br_pos (by omega), inB_nat hi]
      simp only [eO_s, Int.toNat_natCast]
      rw [st_first hb hlob hrow (row' := [.int .i64 k, s, .int .i64 x.wait.time, .int .i64 x.wait.place, .int .i64 x.key]) (by rfl), eO_s, inB_nat hi, wr (n := k + 1) (by omega) (by omega)]
      have hld : ld (hh.set b (.rows 5 (eSess false) false (rs.set (j + i) [.int .i64 k, s, .int .i64 x.wait.time, .int .i64 x.wait.place, .int .i64 x.key]))) b (j + i) 1 1 = some [s] := by
        simp only [ld, Heap.rows?, hb3, Option.bind_some, hrow4]; rfl
      rw [hld]
      simp only [eO_s, eC_c, eN_n, es]
      rw [e4]
      simp only [cal_s, eI_int]
      rw [inB_nat hi, st_first hb4 hlob hrow4 (row' := [.int .i64 k, s, .int .i64 N, .int .i64 x.wait.place, .int .i64 x.key]) (by rfl), eO_s, List.set_set, inB_nat hi, wr (n := N + 1) (by omega) (by omega)]
      rw [st_next hbl4 hlob hrl (row' := [.int .i64 k, s, .int .i64 N, .int .i64 (N + 1), .int .i64 x.key]) (by rfl), eO_s, inB_nat hi, wr (n := N + 1 + 1) (by omega) (by omega)]
      rw [st_next hbl4 hlob hrl (row' := [.int .i64 k, s, .int .i64 N, .int .i64 (N + 1), .int .i64 (N + 1 + 1)]) (by rfl), eO_s, wr (n := N + 1 + 1 + 1) (by omega) (by omega), wr_succ (by omega), show N + 1 + 1 + 1 = k + ((wSess x : Nat) : Int) by rw [hw]; omega]
    · refine ⟨s, by simp only [mkSess, hN], ?_⟩
      exact Sli.same hp0 es (rtags_ok.fr _ _ _ _ _ r4 (fun y hy => List.getElem?_set_ne (by rintro rfl; exact hbG hy)))
    · rw [List.getElem?_set_ne (Ne.symm hy), m4.fr' l4 y hyG, List.getElem?_set_ne (Ne.symm hy)]) (fun k hh => by
    rw [L_laws_markSessS_0.e, br_neg (by omega)]) hs hnd h0 hB
  exact ⟨h', E_laws_markSessS e, r⟩
theorem laws_markFrameS {l : List Frame} (hs : RFrames false h [.sl 9 a l.length c] l F) (hlo : ∀ b ∈ F, lo ≤ b) (hnd : F.Nodup) (h0 : 0 ≤ k) (hB : k + mkN wFrame l ≤ big) (hn : l.length ≤ 1048576 ∧ ∀ f ∈ l, f.ver.past.length ≤ 1048576 ∧ f.ver.text.size ≤ 1048576) :
    ∃ h', evl lo 94 [.sl 9 a l.length c, .int .i64 k] h = some (.int .i64 (k + mkN wFrame l), h') ∧ h'.length = h.length ∧ Mv h F h' F := by
  have hn1 := hn.1
  obtain ⟨h', e, _, r⟩ := mark_loop (El := RFrame false) rframe_ok (f := mkFrame) (w := wFrame) (B := big) (fun k i hh => L_laws_markFrameS_0 lo a l.length c k (i : Nat) hh) (fun i k hh x b j rs row G ha hbF hbG hGn hGF hb hrow hel hx hi h0 hB => by
    obtain ⟨vs, rfl, s, rfl, hp0⟩ := hel
    obtain ⟨a2, c2, es, hp⟩ := hp0.form
    subst ha
    have hrl : j + i < rs.length := (List.getElem?_eq_some_iff.1 hrow).1
    have hbl : b < hh.length := (List.getElem?_eq_some_iff.1 hb).1
    have hlob := hlo b hbF
    have hw : wFrame x = 3 + (5 + mkN wTag x.ver.past) := rfl
    rw [hw] at hB
    simp only [big] at hB
    generalize hrow3 : [V.int .i64 k, .int .i64 (k + 1), .int .i64 (k + 1 + 1), .int .i64 (k + 1 + 1 + 1), .int .i64 (k + 1 + 1 + 1 + 1), .int .i64 (k + 1 + 1 + 1 + 1 + 1), s, .str x.ver.text, .bool x.ver.gone] = row3
    have hb3 : (hh.set b (.rows 9 (eFrame false) false (rs.set (j + i) row3)))[b]? = some (.rows 9 (eFrame false) false (rs.set (j + i) row3)) := by simp [hbl]
    have hp3 : RTags false (hh.set b (.rows 9 (eFrame false) false (rs.set (j + i) row3))) [.sl 2 a2 x.ver.past.length c2] x.ver.past G := rtags_ok.fr _ _ _ _ _ hp (fun y hy => List.getElem?_set_ne (by rintro rfl; exact hbG hy))
    obtain ⟨h4, e4, r4, l4, m4⟩ := laws_markTagS (lo := lo) (k := k + 6) hp3 (fun y hy => hlo y (hGF y hy)) hGn (by omega) (by simp only [big]; omega) (hn.2 x hx).1
    have hb4 : h4[b]? = some (.rows 9 (eFrame false) false (rs.set (j + i) row3)) := by rw [m4.fr b (by simpa using hbl) hbG]; exact hb3
    have hbl4 : b < h4.length := (List.getElem?_eq_some_iff.1 hb4).1
    have hrow4 : (rs.set (j + i) row3)[j + i]? = some row3 := by simp [hrl]
    generalize hN : k + 6 + (mkN wTag x.ver.past : Int) = N at e4
    refine ⟨h4.set b (.rows 9 (eFrame false) false (rs.set (j + i) [.int .i64 k, .int .i64 (k + 1), .int .i64 (k + 1 + 1), .int .i64 (k + 1 + 1 + 1), .int .i64 (k + 1 + 1 + 1 + 1), .int .i64 (k + 1 + 1 + 1 + 1 + 1), s, .str (mtext N), .bool ((N + 1).tmod 3 == 0)])),
      [.int .i64 k, .int .i64 (k + 1), .int .i64 (k + 1 + 1), .int .i64 (k + 1 + 1 + 1), .int .i64 (k + 1 + 1 + 1 + 1), .int .i64 (k + 1 + 1 + 1 + 1 + 1), s, .str (mtext N), .bool ((N + 1).tmod 3 == 0)], ?_, by simp [hbl4], ?_, fun y hy hyG => ?_, by simpa using l4⟩
    · rw [L_laws_markFrameS_0.e, br_pos (by omega), inB_nat hi]
      simp only [eO_s, Int.toNat_natCast]
      rw [st_first hb hlob hrow (row' := [.int .i64 k, .int .i64 x.to, .int .i64 x.at', .int .i64 x.ver.key, .int .i64 x.ver.tag.time, .int .i64 x.ver.tag.place, s, .str x.ver.text, .bool x.ver.gone]) (by rfl), eO_s, inB_nat hi, wr (n := k + 1) (by omega) (by omega)]
      rw [st_next hbl hlob hrl (row' := [.int .i64 k, .int .i64 (k + 1), .int .i64 x.at', .int .i64 x.ver.key, .int .i64 x.ver.tag.time, .int .i64 x.ver.tag.place, s, .str x.ver.text, .bool x.ver.gone]) (by rfl), eO_s, inB_nat hi, wr (n := k + 1 + 1) (by omega) (by omega)]
      rw [st_next hbl hlob hrl (row' := [.int .i64 k, .int .i64 (k + 1), .int .i64 (k + 1 + 1), .int .i64 x.ver.key, .int .i64 x.ver.tag.time, .int .i64 x.ver.tag.place, s, .str x.ver.text, .bool x.ver.gone]) (by rfl), eO_s, inB_nat hi, wr (n := k + 1 + 1 + 1) (by omega) (by omega)]
      rw [st_next hbl hlob hrl (row' := [.int .i64 k, .int .i64 (k + 1), .int .i64 (k + 1 + 1), .int .i64 (k + 1 + 1 + 1), .int .i64 x.ver.tag.time, .int .i64 x.ver.tag.place, s, .str x.ver.text, .bool x.ver.gone]) (by rfl), eO_s, inB_nat hi, wr (n := k + 1 + 1 + 1 + 1) (by omega) (by omega)]
      rw [st_next hbl hlob hrl (row' := [.int .i64 k, .int .i64 (k + 1), .int .i64 (k + 1 + 1), .int .i64 (k + 1 + 1 + 1), .int .i64 (k + 1 + 1 + 1 + 1), .int .i64 x.ver.tag.place, s, .str x.ver.text, .bool x.ver.gone]) (by rfl), eO_s, inB_nat hi, wr (n := k + 1 + 1 + 1 + 1 + 1) (by omega) (by omega)]
      rw [st_next hbl hlob hrl (row' := row3) (by rw [← hrow3]; rfl), eO_s, inB_nat hi]
      have hld : ld (hh.set b (.rows 9 (eFrame false) false (rs.set (j + i) row3))) b (j + i) 6 1 = some [s] := by
        simp only [ld, Heap.rows?, hb3, Option.bind_some, hrow4]; rw [← hrow3]; rfl
      rw [hld, wr (n := k + 1 + 1 + 1 + 1 + 1 + 1) (by omega) (by omega), show k + 1 + 1 + 1 + 1 + 1 + 1 = k + 6 by omega]
      simp only [eO_s, eC_c, eN_n, es]
      rw [e4]
      simp only [cal_s, eI_int]
      rw [laws_markText (by omega) (by simp only [big]; omega)]
      simp only [cal_s, eT_s]
      rw [inB_nat hi, st_first hb4 hlob hrow4 (row' := [.int .i64 k, .int .i64 (k + 1), .int .i64 (k + 1 + 1), .int .i64 (k + 1 + 1 + 1), .int .i64 (k + 1 + 1 + 1 + 1), .int .i64 (k + 1 + 1 + 1 + 1 + 1), s, .str (mtext N), .bool x.ver.gone]) (by rw [← hrow3]; rfl), eO_s, List.set_set]
      rw [wr (n := N + 1) (by omega) (by omega), wr (n := N + 1 + 1) (by omega) (by omega), wr_succ (by omega), inB_nat hi]
      rw [show k + ((wFrame x : Nat) : Int) = N + 1 + 1 by rw [hw]; omega]
      cases hg : ((N + 1).tmod 3 == 0)
      · rw [br_f, inB_nat hi, st_next hbl4 hlob hrl (row' := [.int .i64 k, .int .i64 (k + 1), .int .i64 (k + 1 + 1), .int .i64 (k + 1 + 1 + 1), .int .i64 (k + 1 + 1 + 1 + 1), .int .i64 (k + 1 + 1 + 1 + 1 + 1), s, .str (mtext N), .bool false]) (by rfl), eO_s]
      · rw [br_t, st_next hbl4 hlob hrl (row' := [.int .i64 k, .int .i64 (k + 1), .int .i64 (k + 1 + 1), .int .i64 (k + 1 + 1 + 1), .int .i64 (k + 1 + 1 + 1 + 1), .int .i64 (k + 1 + 1 + 1 + 1 + 1), s, .str (mtext N), .bool true]) (by rfl), eO_s]
    · have e6 : k + 3 + 3 = k + 6 := by omega
      refine ⟨[.int .i64 (k + 1 + 1 + 1), .int .i64 (k + 1 + 1 + 1 + 1), .int .i64 (k + 1 + 1 + 1 + 1 + 1), s, .str (mtext N), .bool ((N + 1).tmod 3 == 0)], rfl, s, ?_, ?_⟩
      · simp only [mkFrame, mkVer, e6, hN]
        rw [show k + 1 + 1 + 1 = k + 3 by omega, show k + 3 + 1 + 1 = k + 3 + 2 by omega]
      · simp only [mkFrame, mkVer, e6]
        exact Sli.same hp0 es (rtags_ok.fr _ _ _ _ _ r4 (fun y hy => List.getElem?_set_ne (by rintro rfl; exact hbG hy)))
    · rw [List.getElem?_set_ne (Ne.symm hy), m4.fr' l4 y hyG, List.getElem?_set_ne (Ne.symm hy)]) (fun k hh => by
    rw [L_laws_markFrameS_0.e, br_neg (by omega)]) hs hnd h0 hB
  exact ⟨h', E_laws_markFrameS e, r⟩
theorem laws_markPlaceS {l : List Place} (hs : RPlaces false h [.sl 6 a l.length c] l F) (hlo : ∀ b ∈ F, lo ≤ b) (hnd : F.Nodup) (h0 : 0 ≤ k) (hB : k + mkN wPlaceS l ≤ big) (hn : l.length ≤ 1048576 ∧ ∀ p ∈ l, smPlace p) :
    ∃ h', evl lo 92 [.sl 6 a l.length c, .int .i64 k] h = some (.int .i64 (k + mkN wPlaceS l), h') ∧ h'.length = h.length ∧ Mv h F h' F := by
  have hn1 := hn.1
  obtain ⟨h', e, _, r⟩ := mark_loop (El := RPlace false) rplace_ok (f := mkPlaceS) (w := wPlaceS) (B := big) (fun k i hh => L_laws_markPlaceS_0 lo a l.length c k (i : Nat) hh) (fun i k hh x b j rs row G ha hbF hbG hGn hGF hb hrow hel hx hi h0 hB => by
    obtain ⟨s1, s2, s3, F1, F2, F3, rfl, rfl, p1, p2, p3⟩ := hel
    obtain ⟨a1, c1, e1, q1⟩ := p1.form
    obtain ⟨a2, c2, e2, q2⟩ := p2.form
    obtain ⟨a3, c3, e3, q3⟩ := p3.form
    subst ha
    have hsm := hn.2 x hx
    have hrl : j + i < rs.length := (List.getElem?_eq_some_iff.1 hrow).1
    have hbl : b < hh.length := (List.getElem?_eq_some_iff.1 hb).1
    have hlob := hlo b hbF
    have hw : wPlaceS x = 3 + (wNodes x.chain + wVers x.log + wVss x.got) := rfl
    rw [hw] at hB
    simp only [big] at hB
    simp only [List.mem_append, not_or] at hbG
    rw [List.nodup_append, List.nodup_append] at hGn
    obtain ⟨n1, ⟨n2, n3, d23⟩, d1⟩ := hGn
    have d12 : ∀ y ∈ F2, y ∉ F1 := fun y h2 h1 => d1 y h1 y (List.mem_append_left _ h2) rfl
    have d13 : ∀ y ∈ F3, y ∉ F1 := fun y h2 h1 => d1 y h1 y (List.mem_append_right _ h2) rfl
    have d32 : ∀ y ∈ F3, y ∉ F2 := fun y h3 h2 => d23 y h2 y h3 rfl
    have row3 : (rs.set (j + i) [V.int .i64 k, .int .i64 (k + 1), s1, s2, s3, .bool x.fell])[j + i]? = some [.int .i64 k, .int .i64 (k + 1), s1, s2, s3, .bool x.fell] := by simp [hrl]
    have hb3 : (hh.set b (.rows 6 (ePlace false) false (rs.set (j + i) [V.int .i64 k, .int .i64 (k + 1), s1, s2, s3, .bool x.fell])))[b]? = some (.rows 6 (ePlace false) false (rs.set (j + i) [V.int .i64 k, .int .i64 (k + 1), s1, s2, s3, .bool x.fell])) := by simp [hbl]
    have fr3 : ∀ y, y ≠ b → (hh.set b (.rows 6 (ePlace false) false (rs.set (j + i) [V.int .i64 k, .int .i64 (k + 1), s1, s2, s3, .bool x.fell])))[y]? = hh[y]? := fun y hy => List.getElem?_set_ne (Ne.symm hy)
    have l3 : (hh.set b (.rows 6 (ePlace false) false (rs.set (j + i) [V.int .i64 k, .int .i64 (k + 1), s1, s2, s3, .bool x.fell]))).length = hh.length := by simp
    have st1 := st_first (j := 0) (cs := [.int .i64 k]) hb hlob hrow (row' := [.int .i64 k, .int .i64 x.clock, s1, s2, s3, .bool x.fell]) (by rfl)
    have st2 := st_next (e := ePlace false) (R := 6) (rs := rs) (j := 1) (cs := [.int .i64 (k + 1)]) hbl hlob hrl (row := [.int .i64 k, .int .i64 x.clock, s1, s2, s3, .bool x.fell]) (row' := [.int .i64 k, .int .i64 (k + 1), s1, s2, s3, .bool x.fell]) (by rfl)
    generalize hh.set b (.rows 6 (ePlace false) false (rs.set (j + i) [V.int .i64 k, .int .i64 (k + 1), s1, s2, s3, .bool x.fell])) = h3 at hb3 fr3 l3 st2
    have q1 := rnodes_ok.fr _ _ _ _ _ q1 (fun y hy => fr3 y (by rintro rfl; exact hbG.1 hy))
    have q2 := rvers_ok.fr _ _ _ _ _ q2 (fun y hy => fr3 y (by rintro rfl; exact hbG.2.1 hy))
    have q3 := rvss_ok.fr _ _ _ _ _ q3 (fun y hy => fr3 y (by rintro rfl; exact hbG.2.2 hy))
    obtain ⟨h4, e4, r4, l4, m4⟩ := laws_markNodeS (lo := lo) (k := k + 2) q1 (fun y hy => hlo y (hGF y (by simp [hy]))) n1 (by omega) (by simp only [big]; omega) hsm.1
    obtain ⟨h5, e5, r5, l5, m5⟩ := laws_markVerS (lo := lo) (k := k + 2 + wNodes x.chain) (m4.keep rvers_ok q2 d12) (fun y hy => hlo y (hGF y (by simp [hy]))) n2 (by omega) (by simp only [big]; omega) hsm.2.1
    obtain ⟨h6, e6, r6, l6, m6⟩ := laws_markVerSS (lo := lo) (k := k + 2 + wNodes x.chain + wVers x.log) (m5.keep rvss_ok (m4.keep rvss_ok q3 d13) d32) (fun y hy => hlo y (hGF y (by simp [hy]))) n3 (by omega) (by simp only [big]; omega) hsm.2.2
    have hb4 : h4[b]? = some (.rows 6 (ePlace false) false (rs.set (j + i) [V.int .i64 k, .int .i64 (k + 1), s1, s2, s3, .bool x.fell])) := by rw [m4.fr' l4 b hbG.1]; exact hb3
    have hb5 : h5[b]? = some (.rows 6 (ePlace false) false (rs.set (j + i) [V.int .i64 k, .int .i64 (k + 1), s1, s2, s3, .bool x.fell])) := by rw [m5.fr' l5 b hbG.2.1]; exact hb4
    have hb6 : h6[b]? = some (.rows 6 (ePlace false) false (rs.set (j + i) [V.int .i64 k, .int .i64 (k + 1), s1, s2, s3, .bool x.fell])) := by rw [m6.fr' l6 b hbG.2.2]; exact hb5
    have hbl6 : b < h6.length := (List.getElem?_eq_some_iff.1 hb6).1
    have ld3 : ld h3 b (j + i) 2 1 = some [s1] := by rw [ld_of hb3 row3]; rfl
    have ld4 : ld h4 b (j + i) 3 1 = some [s2] := by rw [ld_of hb4 row3]; rfl
    have ld5 : ld h5 b (j + i) 4 1 = some [s3] := by rw [ld_of hb5 row3]; rfl
    have r4' := m6.keep rnodes_ok (m5.keep rnodes_ok r4 fun y h1 h2 => d12 y h2 h1) fun y h1 h2 => d13 y h2 h1
    have r5' := m6.keep rvers_ok r5 fun y h1 h2 => d32 y h2 h1
    rw [← mkNodes_len (k := k + 2)] at r4'
    rw [← mkVers_len (k := k + 2 + wNodes x.chain)] at r5'
    rw [← mkVss_len (k := k + 2 + wNodes x.chain + wVers x.log)] at r6
    generalize hN : k + 2 + (wNodes x.chain : Int) + (wVers x.log : Int) + (wVss x.got : Int) = N at e6
    have fr6 : ∀ y, y ≠ b → (h6.set b (.rows 6 (ePlace false) false (rs.set (j + i) [.int .i64 k, .int .i64 (k + 1), s1, s2, s3, .bool (N.tmod 3 == 0)])))[y]? = h6[y]? := fun y hy => List.getElem?_set_ne (Ne.symm hy)
    refine ⟨h6.set b (.rows 6 (ePlace false) false (rs.set (j + i) [.int .i64 k, .int .i64 (k + 1), s1, s2, s3, .bool (N.tmod 3 == 0)])), [.int .i64 k, .int .i64 (k + 1), s1, s2, s3, .bool (N.tmod 3 == 0)], ?_, by simp [hbl6],
      ⟨s1, s2, s3, F1, F2, F3, by simp only [mkPlaceS, hN], rfl, Sli.same p1 (by rw [mkNodes_len]; exact e1) (rnodes_ok.fr _ _ _ _ _ r4' fun y hy => fr6 y (by rintro rfl; exact hbG.1 hy)), Sli.same p2 (by rw [mkVers_len]; exact e2) (rvers_ok.fr _ _ _ _ _ r5' fun y hy => fr6 y (by rintro rfl; exact hbG.2.1 hy)), Sli.same p3 (by rw [mkVss_len]; exact e3) (rvss_ok.fr _ _ _ _ _ r6 fun y hy => fr6 y (by rintro rfl; exact hbG.2.2 hy))⟩, fun y hy hyG => ?_, by rw [List.length_set]; omega⟩
    · rw [L_laws_markPlaceS_0.e, br_pos (by omega), inB_nat hi]
      simp only [eO_s, Int.toNat_natCast]
      rw [st1, eO_s, inB_nat hi, wr (n := k + 1) (by omega) (by omega), st2, eO_s, inB_nat hi, ld3, wr (n := k + 1 + 1) (by omega) (by omega), show k + 1 + 1 = k + 2 by omega]
      simp only [eO_s, eC_c, eN_n, e1]
      rw [e4]
      simp only [cal_s, eI_int]
      rw [inB_nat hi, ld4]
      simp only [eO_s, eC_c, eN_n, e2]
      rw [e5]
      simp only [cal_s, eI_int]
      rw [inB_nat hi, ld5]
      simp only [eO_s, eC_c, eN_n, e3]
      rw [e6]
      simp only [cal_s, eI_int]
      rw [wr (n := N + 1) (by omega) (by omega), wr_succ (by omega), inB_nat hi]
      rw [show k + ((wPlaceS x : Nat) : Int) = N + 1 by rw [hw]; omega]
      cases hg : (N.tmod 3 == 0)
      · rw [br_f, inB_nat hi, st_first hb6 hlob row3 (row' := [.int .i64 k, .int .i64 (k + 1), s1, s2, s3, .bool false]) (by rfl), eO_s, List.set_set]
      · rw [br_t, st_first hb6 hlob row3 (row' := [.int .i64 k, .int .i64 (k + 1), s1, s2, s3, .bool true]) (by rfl), eO_s, List.set_set]
    · simp only [List.mem_append, not_or] at hyG
      rw [fr6 y hy, m6.fr' l6 y hyG.2.2, m5.fr' l5 y hyG.2.1, m4.fr' l4 y hyG.1, fr3 y hy]) (fun k hh => by
    rw [L_laws_markPlaceS_0.e, br_neg (by omega)]) hs hnd h0 hB
  exact ⟨h', E_laws_markPlaceS e, r⟩
theorem mark_world {w : World} {cs : List V} (hs : RWorldN false h cs w F) (hlo : ∀ b ∈ F, lo ≤ b) (hnd : F.Nodup) (hB : (1 : Int) + wWorld w ≤ big) (hn : smWorld w) :
    ∃ h', evl lo 21 [.agg cs, .int .i64 1] h = some (.int .i64 (1 + wWorld w), h') ∧ Mv h F h' F := by
  obtain ⟨a1, c1, a2, c2, a3, c3, a4, c4, F1, F2, F3, F4, rfl, rfl, r1, r2, r3, r4⟩ := hs
  obtain ⟨b1, b2, b3, b4⟩ := hn
  have hnd' := hnd
  rw [List.nodup_append, List.nodup_append, List.nodup_append] at hnd
  obtain ⟨n1, ⟨n2, ⟨n3, n4, d34⟩, d2⟩, d1⟩ := hnd
  have hw : wWorld w = mkN wPlaceS w.places + mkN wSess w.sess + mkN wFrame w.net + mkN wDone w.hist := rfl
  rw [hw] at hB ⊢
  obtain ⟨h1, e1, l1, m1⟩ := laws_markPlaceS (lo := lo) (k := 1) r1 (fun y hy => hlo y (by simp [hy])) n1 (by omega) (by omega) b1
  have r2 := m1.keep rsesss_ok r2 fun y hy hm => d1 y hm y (by simp [hy]) rfl
  have r3 := m1.keep rframes_ok r3 fun y hy hm => d1 y hm y (by simp [hy]) rfl
  have r4 := m1.keep rdones_ok r4 fun y hy hm => d1 y hm y (by simp [hy]) rfl
  obtain ⟨h2, e2, l2, m2⟩ := laws_markSessS (lo := lo) (k := 1 + mkN wPlaceS w.places) r2 (fun y hy => hlo y (by simp [hy])) n2 (by omega) (by omega) b2
  have r3 := m2.keep rframes_ok r3 fun y hy hm => d2 y hm y (by simp [hy]) rfl
  have r4 := m2.keep rdones_ok r4 fun y hy hm => d2 y hm y (by simp [hy]) rfl
  obtain ⟨h3, e3, l3, m3⟩ := laws_markFrameS (lo := lo) (k := 1 + mkN wPlaceS w.places + mkN wSess w.sess) r3 (fun y hy => hlo y (by simp [hy])) n3 (by omega) (by omega) b3
  have r4 := m3.keep rdones_ok r4 fun y hy hm => d34 y hm y hy rfl
  obtain ⟨h4, e4, l4, m4⟩ := laws_markDoneS (lo := lo) (k := 1 + mkN wPlaceS w.places + mkN wSess w.sess + mkN wFrame w.net) r4 (fun y hy => hlo y (by simp [hy])) n4 (by omega) (by omega) b4
  refine ⟨h4, E_laws_markWorld ?_, ?_⟩
  · rw [e1, cal_s, eI_int, e2, cal_s, eI_int, e3, cal_s, eI_int, e4, cal_s, eI_int, show (1 : Int) + (mkN wPlaceS w.places : Int) + (mkN wSess w.sess : Int) + (mkN wFrame w.net : Int) + (mkN wDone w.hist : Int) = 1 + ((mkN wPlaceS w.places + mkN wSess w.sess + mkN wFrame w.net + mkN wDone w.hist : Nat) : Int) by omega]
  · refine ⟨by omega, fun y _ hy => ?_, hnd', fun y hy => .inl hy⟩
    simp only [List.mem_append, not_or] at hy
    rw [m4.fr' l4 y hy.2.2.2, m3.fr' l3 y hy.2.2.1, m2.fr' l2 y hy.2.1, m1.fr' l1 y hy.1]
end
end Go.Proofs.YthdfojchihooeaaGreat
namespace Go.Proofs.YthdfojchihooeaaGreat
open Go T
set_option linter.unusedVariables false
set_option linter.unusedSimpArgs false
abbrev intCs (n : Int) : List V := [.int .i64 n]
abbrev RInts : Rel (List Int) := Sli false 1 3 (flat intCs)
theorem rints_ok : RInts.Ok := Sli.ok flat_ok
def RIntsN : Rel (List Int) := fun h cs l F => ∃ a c, cs = [.sl 1 a l.length c] ∧ RInts h cs l F
theorem rintsN_ok : RIntsN.Ok := ⟨fun h h' cs l F ⟨a, c, e, hp⟩ hb => ⟨a, c, e, rints_ok.fr _ _ _ _ _ hp hb⟩, fun h cs l F ⟨_, _, _, hp⟩ => rints_ok.bd _ _ _ _ hp⟩
def NInts (v : V) (l : List Int) (r : List V) : Prop := ∃ a c, (∀ {T : Type} (K : Option (Nat × Nat) → Nat → Option Nat → Option T), eS 1 v K = K a l.length c) ∧ r = [.sl 1 a l.length c]
def mkInt (k : Int) (_ : Int) : Int := k
def wInt (_ : Int) : Nat := 1
theorem mkN_int {l : List Int} : mkN wInt l = l.length := by
  induction l with
  | nil => rfl
  | cons x l ih =>
    have h2 : mkN wInt (x :: l) = 1 + mkN wInt l := by simp only [mkN, List.map_cons, List.sum_cons]; rfl
    rw [h2, ih, List.length_cons]; omega
section
variable {lo : Nat} {h : Heap} {F F' F1 : List Nat} {a a' a1 a2 a3 a4 : Option (Nat × Nat)} {c c' c1 c2 c3 c4 : Option Nat} {k : Int}
theorem RInts.get {l : List Int} {n i : Nat} (hs : RInts h [.sl 1 a n c] l F) (hi : i < l.length) : ∃ o, a = some o ∧ ld h o.1 (o.2 + i) 0 1 = some [.int .i64 l[i]] := by
  obtain ⟨o, row, G, h1, h2, ⟨rfl, _⟩, _⟩ := hs.read hi
  exact ⟨o, h1, by rw [h2]; rfl⟩
theorem eq_ints {l : List Int} {cs cs' : List V} (h1 : RIntsN h cs l F) (h2 : RIntsN h cs' l F') (hn : l.length ≤ 1048576) : ∃ v v', cs = [v] ∧ cs' = [v'] ∧ evl lo 19 [v, v'] h = some (.bool true, h) := by
  obtain ⟨a, c, rfl, r1⟩ := h1
  obtain ⟨a', c', rfl, r2⟩ := h2
  refine ⟨_, _, rfl, rfl, E_laws_eqIntS (h' := h) ?_⟩
  rw [beqI, br_t]
  refine (go_loop (n := l.length) (fun i => L_laws_eqIntS_0 (List.length h) a l.length c a' l.length c' false (i : Nat) h) fun i hi => ?_).trans ?_
  · obtain ⟨o, rfl, ho⟩ := RInts.get r1 hi
    obtain ⟨o', rfl, ho'⟩ := RInts.get r2 hi
    rw [L_laws_eqIntS_0.e, br_pos (by omega), inB_nat hi]
    simp only [eO_s, Int.toNat_natCast, ho, ho', eC_c, eI_int, eN_n, inB_nat hi, beqI, br_t, wr_succ (show i < 9223372036854775807 by omega)]
  · rw [L_laws_eqIntS_0.e, br_neg (by omega)]
theorem mark_ints {l : List Int} {v : V} (hs : RIntsN h [v] l F) (hlo : ∀ b ∈ F, lo ≤ b) (hnd : F.Nodup) (hn : l.length ≤ 1048576) :
    ∃ h', evl lo 22 [v, .int .i64 1] h = some (.int .i64 (1 + mkN wInt l), h') ∧ RIntsN h' [v] (marks mkInt wInt l 1) F ∧ Mv h F h' F := by
  obtain ⟨a, c, hv, hs⟩ := hs
  injection hv with hv _
  subst hv
  have hB : (1 : Int) + mkN wInt l ≤ big := by rw [mkN_int]; simp only [big]; omega
  obtain ⟨h', e, r, _, m⟩ := mark_loop (El := flat intCs) flat_ok (f := mkInt) (w := wInt) (B := big) (fun k i hh => L_laws_markIntS_0 lo a l.length c k (i : Nat) hh) (fun i k hh x b j rs row G ha hbF hbG hGn hGF hb hrow hel hx hi h0 hB => by
    obtain ⟨rfl, rfl⟩ := hel
    subst ha
    have hbl : b < hh.length := (List.getElem?_eq_some_iff.1 hb).1
    have hw : ((wInt x : Nat) : Int) = 1 := rfl
    rw [hw] at hB ⊢
    simp only [big] at hB
    refine ⟨hh.set b (.rows 1 3 false (rs.set (j + i) [.int .i64 k])), [.int .i64 k], ?_, by simp [hbl], ⟨rfl, rfl⟩, fun y hy _ => List.getElem?_set_ne (Ne.symm hy), by simp⟩
    rw [L_laws_markIntS_0.e, br_pos (by omega), inB_nat hi]
    simp only [eO_s, Int.toNat_natCast]
    rw [st_first hb (hlo b hbF) hrow (row' := [.int .i64 k]) (by rfl), eO_s, wr (n := k + 1) (by omega) (by omega), wr_succ (by omega)]) (fun k hh => by
    rw [L_laws_markIntS_0.e, br_neg (by omega)]) hs hnd (k := 1) (by omega) hB
  exact ⟨h', E_laws_markIntS e, ⟨a, c, by rw [marks_len], r⟩, m⟩
theorem held_ints {l : List Int} {v : V} (hs : RIntsN h [v] (marks mkInt wInt l 1) F) (hn : l.length ≤ 1048576) : evl lo 23 [v, .int .i64 1] h = some (.int .i64 (1 + mkN wInt l), h) := by
  obtain ⟨a, c, hv, hs⟩ := hs
  injection hv with hv _
  rw [marks_len] at hv
  subst hv
  refine E_laws_heldIntS (h' := h) ?_
  refine (held_loop (w := wInt) (l := l) (k := 1) (fun k i => L_laws_heldIntS_0 (List.length h) a l.length c k 0 (i : Nat) h) fun i hi => ?_).trans ?_
  · have hi' : i < (marks mkInt wInt l 1).length := by rw [marks_len]; exact hi
    obtain ⟨o, rfl, ho⟩ := RInts.get hs hi'
    rw [marks_get hi] at ho
    have hle := mkN_le (w := wInt) (l := l) (i := i)
    rw [mkN_int (l := l)] at hle
    have hw : ((wInt l[i] : Nat) : Int) = 1 := rfl
    rw [hw, L_laws_heldIntS_0.e, br_pos (by omega), inB_nat hi]
    simp only [eO_s, Int.toNat_natCast, ho, eC_c, eN_n, eI_int]
    unfold mkInt
    rw [beqI, br_t, wr (n := 1 + (mkN wInt (l.take i) : Int) + 1) (by omega) (by omega), wr_succ (by omega)]
  · rw [L_laws_heldIntS_0.e, br_neg (by omega)]
end
end Go.Proofs.YthdfojchihooeaaGreat
namespace Go.Proofs.YthdfojchihooeaaGreat
open Go T
set_option linter.unusedVariables false
set_option linter.unusedSimpArgs false
/-- the node whose version is shown -/
def showAt (l : List Node) (k : Nat) : Nat := if k = 0 ∧ 1 < l.length then 1 else k
def shown (l : List Node) (k key : Nat) : Option Ver := (storeAtN l (showAt l k))[key]?
def fitsAt (l : List Node) (key : Nat) (t : Tag) (k : Nat) : Bool := match shown l k key with
  | some v => !less v.tag.time v.tag.place t.time t.place
  | none => false
def nodesOf (l : List Node) (key : Nat) (t : Tag) : List Int := l.zipIdx.filterMap fun x => bif fitsAt l key t x.2 then some (x.2 : Int) else none
def chainOf (l : List Place) (k : Nat) : List Node := match l[k]? with
  | some p => p.chain
  | none => []
def tagOf (l : List Tag) (k : Nat) : Tag := match l[k]? with
  | some t => t
  | none => ⟨0, 0⟩
theorem chainOf_get {l : List Place} {k : Nat} (hk : k < l.length) : chainOf l k = l[k].chain := by unfold chainOf; rw [List.getElem?_eq_getElem hk]
theorem tagOf_get {l : List Tag} {k : Nat} (hk : k < l.length) : tagOf l k = l[k] := by unfold tagOf; rw [List.getElem?_eq_getElem hk]
def askNodes (l : List Place) (s : Option Sess) (k : Int) : List Int := match s with
  | some x => bif decide (x.wait.time > 0) then [] else nodesOf (chainOf l x.place.toNat) k.toNat (tagOf x.past k.toNat)
  | none => []
def worldNodes (w : World) (s k : Int) : List Int := bif worldOk w && (within s 0 ((w.sess.length : Int) - 1) && within k 0 3) then askNodes w.places w.sess[s.toNat]? k else []
theorem worldNodes_len {w : World} {s k : Int} : (worldNodes w s k).length ≤ 4 := by
  unfold worldNodes
  cases hw : worldOk w with
  | false => simp
  | true =>
    cases (within s 0 ((w.sess.length : Int) - 1) && within k 0 3) with
    | false => simp
    | true =>
      simp only [Bool.and_self, cond_true]
      unfold askNodes
      split
      · rename_i x hx
        cases decide (x.wait.time > 0) with
        | true => simp
        | false =>
          rw [cond_false]
          unfold nodesOf
          have h1 := List.length_filterMap_le (fun y : Node × Nat => bif fitsAt (chainOf w.places x.place.toNat) k.toNat (tagOf x.past k.toNat) y.2 then some (y.2 : Int) else none) (chainOf w.places x.place.toNat).zipIdx
          rw [List.length_zipIdx] at h1
          obtain ⟨h3, _, _, _, hok, _⟩ := worldOk_parts hw
          have h4 : (chainOf w.places x.place.toNat).length ≤ 4 := by
            unfold chainOf
            split
            · rename_i p hp
              obtain ⟨hi, rfl⟩ := List.getElem?_eq_some_iff.1 hp
              exact (chainOk_all (ok_parts (placesOk_at hok _ hi).2).2.2.2.1).1.2
            · simp
          omega
      · simp

section
variable {lo : Nat} {ro : Bool} {h : Heap} {F F' F1 : List Nat} {a a' a1 a2 a3 a4 : Option (Nat × Nat)} {c c' c1 c2 c3 c4 : Option Nat}
theorem spec_l3Shows {l : List Node} {k key : Nat} (hs : RNodes false h [.sl 2 a l.length c] l F) (hk : k < l.length) (hst : ∀ x ∈ l, storeOk x.store = true) (hkey : key < 4) (hl : lo ≤ h.length) (hn1 : l.length ≤ 1048576) :
    ∃ v a' c' h', evl lo 80 [.agg [.sl 2 a l.length c], .int .i64 (k : Nat), .int .i64 (key : Nat)] h = some (.agg (Ver.cs v a' c'), h') ∧ shown l k key = some v ∧ Mv h [] h' [] := by
  suffices hq : ∃ v a' c' h', _ = some (V.agg (Ver.cs v a' c'), h') ∧ shown l k key = some v ∧ Mv h [] h' [] from by
    obtain ⟨v, a', c', h', e, hr⟩ := hq
    exact ⟨v, a', c', h', E_spec_l3Shows e, hr⟩
  have hql : showAt l k < l.length := by unfold showAt; split <;> omega
  obtain ⟨o, s1, s2, b1, d1, b2, d2, H1, H2, ha, _, ho1, _, q1, _, p1, _⟩ := hs.get hql
  have hs4 := hst _ (List.getElem_mem hql)
  have hkl : key < l[showAt l k].store.length := by rw [storeOk_len hs4]; exact hkey
  obtain ⟨o2, t, b3, d3, G, ha2, ho2, es2, pv, _⟩ := p1.get hkl
  obtain ⟨a5, c5, h5, F5, e5, r5, m5⟩ := spec_l2Copy (lo := lo) (v := l[showAt l k].store[key]) pv hl ((storeOk_sm hs4).2 _ (List.getElem_mem hkl)).1
  have hsh : shown l k key = some l[showAt l k].store[key] := by
    unfold shown
    rw [storeAtN_get hql, List.getElem?_eq_getElem hkl]
  generalize l[showAt l k].store[key] = v at ho2 es2 pv e5 r5 hsh
  generalize l[showAt l k].store.length = n1 at q1 hkl ha2
  refine ⟨v, a5, c5, h5, ?_, hsh, m5.drop⟩
  simp only [Ver.cs] at e5
  by_cases hk0 : k = 0
  · rw [show (((k : Nat) : Int) == 0) = true by rw [beq_iff_eq]; omega, br_t]
    by_cases h1 : 1 < l.length
    · have hsa : showAt l k = 1 := by unfold showAt; rw [if_pos ⟨hk0, h1⟩]
      rw [hsa] at ho1
      rw [br_pos (by omega), inB_in ⟨by omega, by omega⟩, ha, eO_s, ho1, eO_s, eC_c, eN_n, q1, inB_nat hkl, ha2, eO_s, Int.toNat_natCast, ho2, eO_s, eC_c, eI_int, eC_c, eI_int, eC_c, eI_int, eC_c, es2, eC_c, eT_s, eC_c, eBv_b, eN_n, e5, cal_s, eA_a, eC_c, eI_int, eC_c, eI_int, eC_c, eI_int, eC_c, eS_sl, eC_c, eT_s, eC_c, eBv_b, eN_n]
    · have hsa : showAt l k = k := by unfold showAt; rw [if_neg (by omega)]
      rw [hsa] at ho1
      rw [br_neg (by omega), inB_nat hk, ha, eO_s, Int.toNat_natCast, ho1, eO_s, eC_c, eN_n, q1, inB_nat hkl, ha2, eO_s, Int.toNat_natCast, ho2, eO_s, eC_c, eI_int, eC_c, eI_int, eC_c, eI_int, eC_c, es2, eC_c, eT_s, eC_c, eBv_b, eN_n, e5, cal_s, eA_a, eC_c, eI_int, eC_c, eI_int, eC_c, eI_int, eC_c, eS_sl, eC_c, eT_s, eC_c, eBv_b, eN_n]
  · have hsa : showAt l k = k := by unfold showAt; rw [if_neg (by omega)]
    rw [hsa] at ho1
    rw [show (((k : Nat) : Int) == 0) = false by rw [beq_eq_false_iff_ne]; omega, br_f, inB_nat hk, ha, eO_s, Int.toNat_natCast, ho1, eO_s, eC_c, eN_n, q1, inB_nat hkl, ha2, eO_s, Int.toNat_natCast, ho2, eO_s, eC_c, eI_int, eC_c, eI_int, eC_c, eI_int, eC_c, es2, eC_c, eT_s, eC_c, eBv_b, eN_n, e5, cal_s, eA_a, eC_c, eI_int, eC_c, eI_int, eC_c, eI_int, eC_c, eS_sl, eC_c, eT_s, eC_c, eBv_b, eN_n]
theorem impl_shows {l : List Node} {k key b i j : Nat} {s0 : V} (hld : ld h b i (j + 0) 1 = some [s0]) (es0 : ∀ {T : Type} (K : Option (Nat × Nat) → Nat → Option Nat → Option T), eS 2 s0 K = K a l.length c) (hs : RNodes false h [.sl 2 a l.length c] l F) (hk : k < l.length) (hst : ∀ x ∈ l, storeOk x.store = true) (hkey : key < 4) (hl : lo ≤ h.length) (hn1 : l.length ≤ 1048576) :
    ∃ v a' c' h', evl lo 87 [.ptr (some (b, (i, j))), .int .i64 (k : Nat), .int .i64 (key : Nat)] h = some (.tup [.agg (Ver.cs v a' c'), .bool true], h') ∧ shown l k key = some v ∧ Mv h [] h' [] := by
  suffices hq : ∃ v a' c' h', _ = some (V.tup [.agg (Ver.cs v a' c'), .bool true], h') ∧ shown l k key = some v ∧ Mv h [] h' [] from by
    obtain ⟨v, a', c', h', e, hr⟩ := hq
    exact ⟨v, a', c', h', E_impl_Chain_shows e, hr⟩
  have hql : showAt l k < l.length := by unfold showAt; split <;> omega
  obtain ⟨o, s1, s2, b1, d1, b2, d2, H1, H2, ha, _, ho1, _, q1, _, p1, _⟩ := hs.get hql
  have hs4 := hst _ (List.getElem_mem hql)
  have hkl : key < l[showAt l k].store.length := by rw [storeOk_len hs4]; exact hkey
  obtain ⟨o2, t, b3, d3, G, ha2, ho2, es2, pv, _⟩ := p1.get hkl
  obtain ⟨a5, c5, h5, F5, e5, r5, m5⟩ := impl_Ver_copied (lo := lo) (v := l[showAt l k].store[key]) pv hl ((storeOk_sm hs4).2 _ (List.getElem_mem hkl)).1
  have hsh : shown l k key = some l[showAt l k].store[key] := by
    unfold shown
    rw [storeAtN_get hql, List.getElem?_eq_getElem hkl]
  generalize l[showAt l k].store[key] = v at ho2 es2 pv e5 r5 hsh
  generalize l[showAt l k].store.length = n1 at q1 hkl ha2
  refine ⟨v, a5, c5, h5, ?_, hsh, m5.drop⟩
  simp only [Ver.cs] at e5
  have hw1 : within ((k : Nat) : Int) 0 ((l.length : Int) - 1) = true := by simp only [within, Bool.and_eq_true, decide_eq_true_eq]; omega
  have hw2 : within ((key : Nat) : Int) 0 3 = true := by simp only [within, Bool.and_eq_true, decide_eq_true_eq]; omega
  rw [hld, eO_s, eC_c, eN_n, es0, wr (n := ((l.length : Nat) : Int) - 1) (by omega) (by omega), impl_within, cal_s, eB_b, hw1, br_t, impl_keyOk, cal_s, eB_b, hw2, br_t]
  by_cases hk0 : k = 0
  · rw [show (((k : Nat) : Int) == 0) = true by rw [beq_iff_eq]; omega, br_t, hld, eO_s, eC_c, eN_n, es0, eO_s, eC_c, eN_n, es0, wr (n := ((l.length : Nat) : Int) - 1) (by omega) (by omega)]
    have hif : (if ((l.length : Nat) : Int) - 1 < 1 then ((l.length : Nat) : Int) - 1 else 1) = ((showAt l k : Nat) : Int) := by
      unfold showAt
      by_cases h1 : 1 < l.length
      · rw [if_neg (by omega), if_pos ⟨hk0, h1⟩]; rfl
      · rw [if_pos (by omega), if_neg (by omega)]; omega
    rw [hif, inB_nat hql, ha, eO_s, Int.toNat_natCast, ho1, eO_s, eC_c, eN_n, q1, inB_nat hkl, ha2, eO_s, Int.toNat_natCast, ho2, eO_s, eC_c, eI_int, eC_c, eI_int, eC_c, eI_int, eC_c, es2, eC_c, eT_s, eC_c, eBv_b, eN_n, e5, cal_s, eA_a, eC_c, eI_int, eC_c, eI_int, eC_c, eI_int, eC_c, eS_sl, eC_c, eT_s, eC_c, eBv_b, eN_n]
  · have hsa : showAt l k = k := by unfold showAt; rw [if_neg (by omega)]
    rw [hsa] at ho1
    rw [show (((k : Nat) : Int) == 0) = false by rw [beq_eq_false_iff_ne]; omega, br_f, hld, eO_s, eC_c, eN_n, es0, inB_nat hk, ha, eO_s, Int.toNat_natCast, ho1, eO_s, eC_c, eN_n, q1, inB_nat hkl, ha2, eO_s, Int.toNat_natCast, ho2, eO_s, eC_c, eI_int, eC_c, eI_int, eC_c, eI_int, eC_c, es2, eC_c, eT_s, eC_c, eBv_b, eN_n, e5, cal_s, eA_a, eC_c, eI_int, eC_c, eI_int, eC_c, eI_int, eC_c, eS_sl, eC_c, eT_s, eC_c, eBv_b, eN_n]
theorem sess_at {l : List Sess} (h : l.all sessOk = true) {i : Nat} (hi : i < l.length) : (0 ≤ l[i].place ∧ l[i].place ≤ 2) ∧ l[i].past.length = 4 ∧ tagOk l[i].wait.time l[i].wait.place = true := by
  have := List.all_eq_true.1 h _ (List.getElem_mem hi)
  unfold sessOk at this
  simp only [Bool.and_eq_true] at this
  obtain ⟨⟨⟨⟨⟨h1, h2⟩, h3⟩, _⟩, _⟩, _⟩ := this
  simp only [within, Bool.and_eq_true, decide_eq_true_eq] at h1
  unfold pastOk at h2
  simp only [Bool.and_eq_true, decide_eq_true_eq] at h2
  exact ⟨h1, h2.1, h3⟩
theorem sess_wait {l : List Sess} {n i : Nat} (hs : RSesss false h [.sl 5 a n c] l F) (hi : i < l.length) : ∃ o, a = some o ∧ ld h o.1 (o.2 + i) 2 1 = some [.int .i64 l[i].wait.time] ∧ ld h o.1 (o.2 + i) 2 2 = some [.int .i64 l[i].wait.time, .int .i64 l[i].wait.place] := by
  obtain ⟨o, row, G, q1, q2, ⟨v, rfl, _⟩, _⟩ := Sli.read hs hi
  exact ⟨o, q1, by rw [q2]; rfl, by rw [q2]; rfl⟩
theorem spec_WorldNodes {w : World} {cs : List V} {s k : Int} (hs : RWorldN false h cs w F) (hl : lo ≤ h.length) (hn : smWorld w) :
    ∃ v r h' F', evl lo 16 [.agg cs, .int .i64 s, .int .i64 k] h = some (v, h') ∧ NInts v (worldNodes w s k) r ∧ RIntsN h' r (worldNodes w s k) F' ∧ Mv h [] h' F' := by
  have m0 : Mv h [] (h ++ [.rows 1 3 false []]) [h.length] := Mv.last
  have e := spec_worldOk (lo := lo) (m0.keep0 rworldN_ok hs) hn
  obtain ⟨a1, c1, a2, c2, a3, c3, a4, c4, F1, F2, F3, F4, rfl, rfl, r1, r2, r3, r4⟩ := hs
  have bd1 : ∀ y ∈ F1, y < h.length := rplaces_ok.bd _ _ _ _ r1
  have bd2 : ∀ y ∈ F2, y < h.length := rsesss_ok.bd _ _ _ _ r2
  have r1 := m0.keep0 rplaces_ok r1
  have r2 := m0.keep0 rsesss_ok r2
  suffices hk : ∃ v r h' F', _ = some (v, h') ∧ NInts v (worldNodes w s k) r ∧ RIntsN h' r (worldNodes w s k) F' ∧ Mv h [] h' F' from by
    obtain ⟨v, r, h', F', e, hr⟩ := hk
    exact ⟨v, r, h', F', E_spec_WorldNodes e, hr⟩
  have none' : worldNodes w s k = [] → ∃ v r h' F', some (V.sl 1 (some (h.length, 0)) 0 (some 0), h ++ [.rows 1 3 false []]) = some (v, h') ∧ NInts v (worldNodes w s k) r ∧ RIntsN h' r (worldNodes w s k) F' ∧ Mv h [] h' F' := fun he => by
    rw [he]
    exact ⟨_, _, _, _, rfl, ⟨some (h.length, 0), some 0, fun K => eS_sl _ _ _ _ _, rfl⟩, ⟨_, _, rfl, Sli.fresh (Nat.le_refl _)⟩, m0⟩
  have hsl := hn.2.1.1
  rw [e, cal_s, eB_b]
  cases hw : worldOk w with
  | false => rw [br_f]; exact none' (by unfold worldNodes; rw [hw]; rfl)
  | true =>
  rw [br_t, spec_l1In, cal_s, eB_b, wr (n := ((w.sess.length : Nat) : Int) - 1) (by omega) (by omega)]
  cases hws : within s 0 ((w.sess.length : Int) - 1) with
  | false => rw [br_f]; exact none' (by unfold worldNodes; rw [hw, hws]; rfl)
  | true =>
  rw [br_t, spec_l1In, cal_s, eB_b]
  cases hwk : within k 0 3 with
  | false => rw [br_f]; exact none' (by unfold worldNodes; rw [hw, hws, hwk]; rfl)
  | true =>
  have hans : worldNodes w s k = askNodes w.places w.sess[s.toNat]? k := by unfold worldNodes; rw [hw, hws, hwk]; rfl
  obtain ⟨h3, _, _, _, hok, hses, _⟩ := worldOk_parts hw
  simp only [within, Bool.and_eq_true, decide_eq_true_eq] at hws hwk
  obtain ⟨si, rfl⟩ : ∃ si : Nat, s = (si : Int) := ⟨s.toNat, by omega⟩
  obtain ⟨ki, rfl⟩ : ∃ ki : Nat, k = (ki : Int) := ⟨k.toNat, by omega⟩
  have hsi : si < w.sess.length := by omega
  obtain ⟨⟨hp0, hp2⟩, hpl, htg⟩ := sess_at hses hsi
  obtain ⟨o, v, x1, y1, G, ha, _, hop, hov, es, pp, _⟩ := r2.get hsi
  obtain ⟨o9, ha9, how, _⟩ := sess_wait r2 hsi
  have : o = o9 := by rw [ha] at ha9; injection ha9
  subst this
  have hans2 : worldNodes w si ki = bif decide (w.sess[si].wait.time > 0) then [] else nodesOf (chainOf w.places w.sess[si].place.toNat) ki (tagOf w.sess[si].past ki) := by rw [hans, Int.toNat_natCast, List.getElem?_eq_getElem hsi]; rfl
  rw [br_t, inB_nat hsi, ha, eO_s, Int.toNat_natCast, how, eO_s, eC_c, eN_n, eI_int]
  by_cases hwt : w.sess[si].wait.time > 0
  · rw [br_pos hwt]; exact none' (by rw [hans2, decide_eq_true hwt]; rfl)
  · rw [decide_eq_false hwt, cond_false] at hans2
    have hpi : w.sess[si].place.toNat < w.places.length := by omega
    obtain ⟨po, s1, s2, s3, b1, d1, b2, d2, b3, d3, G1, G2, G3, hpa, _, _, hpo2, _, _, e1, _, _, g1, _, _, sub1⟩ := r1.get hpi
    rw [br_neg hwt, inB_nat hsi, eO_s, hop, eO_s, eC_c, eN_n, eI_int, inB_in ⟨by omega, by omega⟩, hpa, eO_s, hpo2, eO_s, eC_c, e1, eN_n]
    have hkp : ki < w.sess[si].past.length := by omega
    rw [chainOf_get hpi, tagOf_get hkp] at hans2
    rw [hans2]
    have hco := (ok_parts (placesOk_at hok _ hpi).2).2.2.2.1
    generalize w.places[w.sess[si].place.toNat].chain = ch at g1 e1 hco ⊢
    have hcl := (chainOk_all hco).1.2
    have hst : ∀ x ∈ ch, storeOk x.store = true := fun x hx => (nodeOk_parts ((chainOk_all hco).2 x hx)).1
    obtain ⟨a', c', h', F', e5, r5, m5⟩ := build_loop (El := flat intCs) flat_ok (h0 := h ++ [.rows 1 3 false []]) (l := ch.zipIdx) (g := fun _ x => bif fitsAt ch ki w.sess[si].past[ki] x.2 then some (x.2 : Int) else none) (lo := lo) (R := 1) (e := 3) (bytes := 8) (b0 := []) (F0 := [h.length]) (a0 := some (h.length, 0)) (c0 := some 0)
      (Nat.le_trans hl m0.le) (m0.ge hl (by simp)) m0.nd (by decide) (by rw [List.length_zipIdx, List.length_nil]; omega) (fun i a n c hh => L_spec_WorldNodes_0 lo (si : Nat) (ki : Nat) a n c (i : Nat) (some po) w.places.length c1 (some o) w.sess.length c2 a3 w.net.length c3 a4 w.hist.length c4 b1 ch.length d1 hh) (fun i hi q1 q2 hh F1 acc hz hacc hm hr => by
        rw [List.length_zipIdx] at hi
        have g1' := hm.keep rnodes_ok g1 fun y hy hyF => by rw [List.mem_singleton] at hyF; have := bd1 y (sub1 y (.inl hy)); omega
        have r2' := hm.keep rsesss_ok r2 fun y hy hyF => by rw [List.mem_singleton] at hyF; have := bd2 y hy; omega
        obtain ⟨u, x5, y5, h5, e6, hsh, m6⟩ := spec_l3Shows (lo := hh.length) (key := ki) g1' hi hst (by omega) (Nat.le_refl _) (by omega)
        obtain ⟨o7, v7, x7, y7, G7, ha7, _, _, hov7, es7, pp7, _⟩ := (m6.keep0 rsesss_ok r2').get hsi
        have : o = o7 := by rw [ha] at ha7; injection ha7
        subst this
        obtain ⟨o8, ha8, ho8⟩ := pp7.get hkp
        have hf : fitsAt ch ki w.sess[si].past[ki] i = !less u.tag.time u.tag.place w.sess[si].past[ki].time w.sess[si].past[ki].place := by unfold fitsAt; rw [hsh]
        simp only [Ver.cs] at e6
        have eL : L_spec_WorldNodes_0 lo (si : Nat) (ki : Nat) q1 acc.length q2 (i : Nat) (some po) w.places.length c1 (some o) w.sess.length c2 a3 w.net.length c3 a4 w.hist.length c4 b1 ch.length d1 hh =
            br (less u.tag.time u.tag.place w.sess[si].past[ki].time w.sess[si].past[ki].place) (L_spec_WorldNodes_0 lo (si : Nat) (ki : Nat) q1 acc.length q2 ((i + 1 : Nat) : Int) (some po) w.places.length c1 (some o) w.sess.length c2 a3 w.net.length c3 a4 w.hist.length c4 b1 ch.length d1 h5)
              (app lo 3 1 8 (.sl 1 q1 acc.length q2) [[.int .i64 (i : Nat)]] (h5 ++ [.rows 1 3 false [[.int .i64 (i : Nat)]]]) fun v h => eS 1 v fun a n c => L_spec_WorldNodes_0 lo (si : Nat) (ki : Nat) a n c ((i + 1 : Nat) : Int) (some po) w.places.length c1 (some o) w.sess.length c2 a3 w.net.length c3 a4 w.hist.length c4 b1 ch.length d1 h) := by
          rw [L_spec_WorldNodes_0.e, br_pos (by omega), e6, cal_s, eA_a, eC_c, eI_int, eC_c, eI_int, eC_c, eI_int, eC_c, eS_sl, eC_c, eT_s, eC_c, eBv_b, eN_n, inB_nat hsi, eO_s, Int.toNat_natCast, hov7, eO_s, eC_c, eN_n, es7, inB_nat hkp, ha8, eO_s, Int.toNat_natCast, ho8, eO_s, eC_c, eI_int, eC_c, eI_int, eN_n, spec_l1Less, cal_s, eB_b, wr_succ (by omega), rows_one]
        rw [List.getElem_zipIdx, Nat.zero_add, eL, hf]
        cases less u.tag.time u.tag.place w.sess[si].past[ki].time w.sess[si].past[ki].place with
        | true => exact .inl ⟨rfl, h5, m6, br_t _ _⟩
        | false => exact .inr ⟨(i : Int), [.int .i64 (i : Nat)], [], h5 ++ [.rows 1 3 false [[.int .i64 (i : Nat)]]], rfl, ⟨rfl, rfl⟩, m6.trans Mv.snoc, br_f _ _⟩) (Sli.fresh (by simp))
    rw [grow_filterMap, List.nil_append] at e5 r5
    refine ⟨.sl 1 a' (nodesOf ch ki w.sess[si].past[ki]).length c', _, h', F', ?_, ⟨a', c', fun K => eS_sl _ _ _ _ _, rfl⟩, ⟨a', c', rfl, r5⟩, m0.trans m5⟩
    refine e5.trans ?_
    rw [L_spec_WorldNodes_0.e, br_neg (by rw [List.length_zipIdx]; omega)]
    rfl
theorem impl_WorldNodes {w : World} {cs : List V} {s k : Int} (hs : RWorldN false h cs w F) (hl : lo ≤ h.length) (hn : smWorld w) :
    ∃ v r h' F', evl lo 18 [.agg cs, .int .i64 s, .int .i64 k] h = some (v, h') ∧ NInts v (worldNodes w s k) r ∧ RIntsN h' r (worldNodes w s k) F' ∧ Mv h [] h' F' := by
  obtain ⟨h1, e, m1⟩ := impl_worldOk (lo := lo) hs hl hn
  have hl1 : lo ≤ h1.length := Nat.le_trans hl m1.le
  obtain ⟨a1, c1, a2, c2, a3, c3, a4, c4, F1, F2, F3, F4, rfl, rfl, r1, r2, r3, r4⟩ := m1.keep0 rworldN_ok hs
  have m0 : Mv h1 [] (h1 ++ [.rows 1 3 false [[.int .i64 0], [.int .i64 0], [.int .i64 0], [.int .i64 0]]]) [h1.length] := Mv.last
  have bd1 : ∀ y ∈ F1, y < h1.length := rplaces_ok.bd _ _ _ _ r1
  have bd2 : ∀ y ∈ F2, y < h1.length := rsesss_ok.bd _ _ _ _ r2
  suffices hk : ∃ v r h' F', _ = some (v, h') ∧ NInts v (worldNodes w s k) r ∧ RIntsN h' r (worldNodes w s k) F' ∧ Mv h [] h' F' from by
    obtain ⟨v, r, h', F', e, hr⟩ := hk
    exact ⟨v, r, h', F', E_impl_WorldNodes e, hr⟩
  have none' : worldNodes w s k = [] → ∃ v r h' F', some (V.sl 0 none 0 (some 0), h1) = some (v, h') ∧ NInts v (worldNodes w s k) r ∧ RIntsN h' r (worldNodes w s k) F' ∧ Mv h [] h' F' := fun he => by
    rw [he]
    exact ⟨_, _, _, _, rfl, ⟨none, some 0, fun K => rfl, rfl⟩, ⟨_, _, rfl, Sli.nil⟩, m1⟩
  have hsl := hn.2.1.1
  rw [e, cal_s, eB_b]
  cases hw : worldOk w with
  | false => rw [br_f]; exact none' (by unfold worldNodes; rw [hw]; rfl)
  | true =>
  rw [br_t, impl_within, cal_s, eB_b, wr (n := ((w.sess.length : Nat) : Int) - 1) (by omega) (by omega)]
  cases hws : within s 0 ((w.sess.length : Int) - 1) with
  | false => rw [br_f]; exact none' (by unfold worldNodes; rw [hw, hws]; rfl)
  | true =>
  rw [br_t, impl_keyOk, cal_s, eB_b]
  cases hwk : within k 0 3 with
  | false => rw [br_f]; exact none' (by unfold worldNodes; rw [hw, hws, hwk]; rfl)
  | true =>
  have hans : worldNodes w s k = askNodes w.places w.sess[s.toNat]? k := by unfold worldNodes; rw [hw, hws, hwk]; rfl
  obtain ⟨h3, _, _, _, hok, hses, _⟩ := worldOk_parts hw
  simp only [within, Bool.and_eq_true, decide_eq_true_eq] at hws hwk
  obtain ⟨si, rfl⟩ : ∃ si : Nat, s = (si : Int) := ⟨s.toNat, by omega⟩
  obtain ⟨ki, rfl⟩ : ∃ ki : Nat, k = (ki : Int) := ⟨k.toNat, by omega⟩
  have hsi : si < w.sess.length := by omega
  obtain ⟨⟨hp0, hp2⟩, hpl, htg⟩ := sess_at hses hsi
  obtain ⟨o, v, x1, y1, G, ha, horow, _, _, es, pp, subG⟩ := r2.get hsi
  obtain ⟨o9, ha9, _, how⟩ := sess_wait r2 hsi
  have : o = o9 := by rw [ha] at ha9; injection ha9
  subst this
  have hans2 : worldNodes w si ki = bif decide (w.sess[si].wait.time > 0) then [] else nodesOf (chainOf w.places w.sess[si].place.toNat) ki (tagOf w.sess[si].past ki) := by rw [hans, Int.toNat_natCast, List.getElem?_eq_getElem hsi]; rfl
  rw [br_t, inB_nat hsi, ha, eO_s, Int.toNat_natCast, how, eO_s, eC_c, eI_int, eC_c, eI_int, eN_n]
  have hz : ((w.sess[si].wait.time == 0) && ((w.sess[si].wait.place == 0) && true)) = !decide (w.sess[si].wait.time > 0) := by
    simp [tagOk, within] at htg
    rw [Bool.eq_iff_iff]
    simp
    omega
  rw [hz]
  by_cases hwt : w.sess[si].wait.time > 0
  · rw [decide_eq_true hwt, Bool.not_true, br_f]; exact none' (by rw [hans2, decide_eq_true hwt]; rfl)
  · rw [decide_eq_false hwt, cond_false] at hans2
    have hpi : w.sess[si].place.toNat < w.places.length := by omega
    have r1b := m0.keep0 rplaces_ok r1
    obtain ⟨po, s1, s2, s3, b1, d1, b2, d2, b3, d3, G1, G2, G3, hpa, _, _, hpo2, _, _, e1, _, _, g1, _, _, sub1⟩ := r1b.get hpi
    rw [decide_eq_false hwt, Bool.not_false, br_t, inB_nat hsi, eO_s, horow, eO_s, eC_c, eI_int, eC_c, es, eC_c, eI_int, eC_c, eI_int, eC_c, eI_int, eN_n, inB_in ⟨by omega, by omega⟩, hpa, eO_s, hpo2, eO_s, eC_c, eN_n, e1]
    have hkp : ki < w.sess[si].past.length := by omega
    rw [chainOf_get hpi, tagOf_get hkp] at hans2
    rw [hans2]
    have hco := (ok_parts (placesOk_at hok _ hpi).2).2.2.2.1
    have hcl := (chainOk_all hco).1.2
    have hst : ∀ x ∈ w.places[w.sess[si].place.toNat].chain, storeOk x.store = true := fun x hx => (nodeOk_parts ((chainOk_all hco).2 x hx)).1
    obtain ⟨a', c', h', F', e5, r5, m5⟩ := build_loop (El := flat intCs) flat_ok (h0 := h1 ++ [.rows 1 3 false [[.int .i64 0], [.int .i64 0], [.int .i64 0], [.int .i64 0]]]) (l := w.places[w.sess[si].place.toNat].chain.zipIdx) (g := fun _ x => bif fitsAt w.places[w.sess[si].place.toNat].chain ki w.sess[si].past[ki] x.2 then some (x.2 : Int) else none) (lo := lo) (R := 1) (e := 3) (bytes := 8) (b0 := []) (F0 := [h1.length]) (a0 := some (h1.length, 0)) (c0 := some 4)
      (Nat.le_trans hl1 m0.le) (m0.ge hl1 (by simp)) m0.nd (by decide) (by rw [List.length_zipIdx, List.length_nil]; omega) (fun i a n c hh => L_impl_WorldNodes_0 lo (ki : Nat) po.1 (po.2 + w.sess[si].place.toNat) 2 a n c (w.places[w.sess[si].place.toNat].chain.length : Nat) (i : Nat) w.sess[si].place x1 w.sess[si].past.length y1 w.sess[si].wait.time w.sess[si].wait.place w.sess[si].key hh) (fun i hi q1 q2 hh F1 acc hz hacc hm hr => by
        rw [List.length_zipIdx] at hi
        have r1' := hm.keep rplaces_ok r1b fun y hy hyF => by rw [List.mem_singleton] at hyF; have := bd1 y hy; omega
        have pp' := hm.keep rtags_ok (m0.keep0 rtags_ok pp) fun y hy hyF => by rw [List.mem_singleton] at hyF; have := bd2 y (subG y hy); omega
        obtain ⟨po', s1', s2', s3', b1', d1', b2', d2', b3', d3', G1', G2', G3', hpa', _, _, hpo2', _, _, e1', _, _, g1', _, _, _⟩ := r1'.get hpi
        have : po = po' := by rw [hpa] at hpa'; injection hpa'
        subst this
        obtain ⟨u, x5, y5, h5, e6, hsh, m6⟩ := impl_shows (lo := lo) (key := ki) (j := 2) hpo2' (fun K => e1' K) g1' hi hst (by omega) (Nat.le_trans (Nat.le_trans hl1 m0.le) hm.le) (by omega)
        obtain ⟨o8, ha8, ho8⟩ := (m6.keep0 rtags_ok pp').get hkp
        have hf : fitsAt w.places[w.sess[si].place.toNat].chain ki w.sess[si].past[ki] i = !less u.tag.time u.tag.place w.sess[si].past[ki].time w.sess[si].past[ki].place := by unfold fitsAt; rw [hsh]
        simp only [Ver.cs] at e6
        have eL : L_impl_WorldNodes_0 lo (ki : Nat) po.1 (po.2 + w.sess[si].place.toNat) 2 q1 acc.length q2 (w.places[w.sess[si].place.toNat].chain.length : Nat) (i : Nat) w.sess[si].place x1 w.sess[si].past.length y1 w.sess[si].wait.time w.sess[si].wait.place w.sess[si].key hh =
            br (less u.tag.time u.tag.place w.sess[si].past[ki].time w.sess[si].past[ki].place) (L_impl_WorldNodes_0 lo (ki : Nat) po.1 (po.2 + w.sess[si].place.toNat) 2 q1 acc.length q2 (w.places[w.sess[si].place.toNat].chain.length : Nat) ((i + 1 : Nat) : Int) w.sess[si].place x1 w.sess[si].past.length y1 w.sess[si].wait.time w.sess[si].wait.place w.sess[si].key h5)
              (app lo 3 1 8 (.sl 1 q1 acc.length q2) [[.int .i64 (i : Nat)]] (h5 ++ [.rows 1 3 false [[.int .i64 (i : Nat)]]]) fun v h => eS 1 v fun a n c => L_impl_WorldNodes_0 lo (ki : Nat) po.1 (po.2 + w.sess[si].place.toNat) 2 a n c (w.places[w.sess[si].place.toNat].chain.length : Nat) ((i + 1 : Nat) : Int) w.sess[si].place x1 w.sess[si].past.length y1 w.sess[si].wait.time w.sess[si].wait.place w.sess[si].key h) := by
          rw [L_impl_WorldNodes_0.e, br_pos (by omega), e6, cal_s, eU_t, eC_c, eA_a, eC_c, eI_int, eC_c, eI_int, eC_c, eI_int, eC_c, eS_sl, eC_c, eT_s, eC_c, eBv_b, eN_n, eC_c, eB_b, br_t, eN_n, inB_nat hkp, ha8, eO_s, Int.toNat_natCast, ho8, eO_s, eC_c, eI_int, eC_c, eI_int, eN_n, impl_TagLess, cal_s, eB_b, wr_succ (by omega), rows_one]
        rw [List.getElem_zipIdx, Nat.zero_add, eL, hf]
        cases less u.tag.time u.tag.place w.sess[si].past[ki].time w.sess[si].past[ki].place with
        | true => exact .inl ⟨rfl, h5, m6, br_t _ _⟩
        | false => exact .inr ⟨(i : Int), [.int .i64 (i : Nat)], [], h5 ++ [.rows 1 3 false [[.int .i64 (i : Nat)]]], rfl, ⟨rfl, rfl⟩, m6.trans Mv.snoc, br_f _ _⟩) (Sli.fresh (by simp))
    rw [grow_filterMap, List.nil_append] at e5 r5
    refine ⟨.sl 1 a' (nodesOf w.places[w.sess[si].place.toNat].chain ki w.sess[si].past[ki]).length (some (nodesOf w.places[w.sess[si].place.toNat].chain ki w.sess[si].past[ki]).length), _, h', F', ?_, ⟨a', _, fun K => eS_sl _ _ _ _ _, rfl⟩, ⟨a', _, rfl, Sli.clip r5⟩, (m1.trans m0).trans m5⟩
    refine e5.trans ?_
    rw [L_impl_WorldNodes_0.e, br_neg (by rw [List.length_zipIdx]; omega), reslice_clip r5]
    rfl
end
end Go.Proofs.YthdfojchihooeaaGreat
namespace Go.Proofs.YthdfojchihooeaaGreat
open Go T
set_option linter.unusedVariables false
set_option linter.unusedSimpArgs false
set_option maxRecDepth 100000
section
variable {h : Heap}
theorem tv_PlaceS {n : Nat} {xs : List V} (hx : TV Tryz.prog h (n + 12) 22 xs) : ∃ l F, RPlaces true h xs l F ∧ l.length ≤ maxLen ∧ ∀ x ∈ l, bdPlace x :=
  tv_sli (El := RPlace true) (bd := bdPlace) (ee := ePlace true) (R := 6) Tryz.underlying22 (by kernel_rfl) (fun row hr => tv_Place (n := n) hr) hx
theorem tv_Sess {n : Nat} {xs : List V} (hx : TV Tryz.prog h (n + 5) 194 xs) : ∃ v F, RSess true h xs v F ∧ v.past.length ≤ maxLen := by
  obtain ⟨y1, z1, rfl, _, g1, y2, z2, rfl, _, g2, y3, z3, rfl, _, g3, y4, z4, rfl, _, g4, rfl⟩ := tv_struct Tryz.underlying194 hx
  obtain ⟨i, rfl, _⟩ := tv_int Tryz.underlying3 g1
  obtain ⟨l, F, g2, g2'⟩ := tv_Past (n := n) g2
  obtain ⟨t, rfl⟩ := tv_Tag g3
  obtain ⟨k, rfl, _⟩ := tv_int Tryz.underlying3 g4
  obtain ⟨v, rfl⟩ := sli_one g2
  exact ⟨⟨i, l, t, k⟩, F, ⟨v, rfl, g2⟩, g2'⟩
theorem tv_SessS {n : Nat} {xs : List V} (hx : TV Tryz.prog h (n + 6) 23 xs) : ∃ l F, RSesss true h xs l F ∧ l.length ≤ maxLen ∧ ∀ x ∈ l, x.past.length ≤ maxLen :=
  tv_sli (El := RSess true) (bd := fun s : Sess => s.past.length ≤ maxLen) (ee := eSess true) (R := 5) Tryz.underlying23 (by kernel_rfl) (fun row hr => tv_Sess (n := n) hr) hx
theorem tv_Frame {n : Nat} {xs : List V} (hx : TV Tryz.prog h (n + 6) 199 xs) : ∃ v F, RFrame true h xs v F ∧ bdVer v.ver := by
  obtain ⟨y1, z1, rfl, _, g1, y2, z2, rfl, _, g2, y3, z3, rfl, _, g3, y4, z4, rfl, _, g4, rfl⟩ := tv_struct Tryz.underlying199 hx
  obtain ⟨i, rfl, _⟩ := tv_int Tryz.underlying3 g1
  obtain ⟨j, rfl, _⟩ := tv_int Tryz.underlying3 g2
  obtain ⟨k, rfl, _⟩ := tv_int Tryz.underlying3 g3
  obtain ⟨v, F, g4, g4'⟩ := tv_Ver (n := n) g4
  exact ⟨⟨i, j, k, v⟩, F, ⟨y4, by rw [List.append_nil]; rfl, g4⟩, g4'⟩
theorem tv_FrameS {n : Nat} {xs : List V} (hx : TV Tryz.prog h (n + 7) 24 xs) : ∃ l F, RFrames true h xs l F ∧ l.length ≤ maxLen ∧ ∀ x ∈ l, bdVer x.ver :=
  tv_sli (El := RFrame true) (bd := fun f : Frame => bdVer f.ver) (ee := eFrame true) (R := 9) Tryz.underlying24 (by kernel_rfl) (fun row hr => tv_Frame (n := n) hr) hx
theorem tv_Done {n : Nat} {xs : List V} (hx : TV Tryz.prog h (n + 3) 208 xs) : ∃ d : Done, xs = d.cs := by
  obtain ⟨y1, z1, rfl, _, g1, y2, z2, rfl, _, g2, y3, z3, rfl, _, g3, y4, z4, rfl, _, g4, rfl⟩ := tv_struct Tryz.underlying208 hx
  obtain ⟨i, rfl, _⟩ := tv_int Tryz.underlying3 g1
  obtain ⟨j, rfl, _⟩ := tv_int Tryz.underlying3 g2
  obtain ⟨k, rfl, _⟩ := tv_int Tryz.underlying3 g3
  obtain ⟨t, rfl⟩ := tv_Tag g4
  exact ⟨⟨i, j, k, t⟩, rfl⟩
theorem tv_DoneS {n : Nat} {xs : List V} (hx : TV Tryz.prog h (n + 4) 25 xs) : ∃ l F, RDones true h xs l F ∧ l.length ≤ maxLen := by
  obtain ⟨l, F, h1, h2, _⟩ := tv_sli (El := flat Done.cs) (bd := fun _ => True) (ee := eDone true) (R := 5) Tryz.underlying25 (by kernel_rfl) (fun row hr => by obtain ⟨t, rfl⟩ := tv_Done (n := n) hr; exact ⟨t, [], ⟨rfl, rfl⟩, trivial⟩) hx
  exact ⟨l, F, h1, h2⟩
theorem tv_World {n : Nat} {xs : List V} (hx : TV Tryz.prog h (n + 13) 27 xs) : ∃ w F, RWorld true h xs w F ∧ bdWorld w := by
  obtain ⟨y1, z1, rfl, _, g1, y2, z2, rfl, _, g2, y3, z3, rfl, _, g3, y4, z4, rfl, _, g4, rfl⟩ := tv_struct Tryz.underlying27 hx
  obtain ⟨l1, F1, r1, b1⟩ := tv_PlaceS (n := n) g1
  obtain ⟨l2, F2, r2, b2⟩ := tv_SessS (n := n + 6) g2
  obtain ⟨l3, F3, r3, b3⟩ := tv_FrameS (n := n + 5) g3
  obtain ⟨l4, F4, r4, b4⟩ := tv_DoneS (n := n + 8) g4
  obtain ⟨v1, rfl⟩ := sli_one r1
  obtain ⟨v2, rfl⟩ := sli_one r2
  obtain ⟨v3, rfl⟩ := sli_one r3
  obtain ⟨v4, rfl⟩ := sli_one r4
  exact ⟨⟨l1, l2, l3, l4⟩, F1 ++ (F2 ++ (F3 ++ F4)), ⟨v1, v2, v3, v4, F1, F2, F3, F4, rfl, rfl, r1, r2, r3, r4⟩, b1, b2, b3, b4⟩
theorem av_World {n : Nat} {x : V} (hx : ArgV Tryz.prog h (n + 13) 27 x) : ∃ cs w F, x = .agg cs ∧ RWorldN true h cs w F ∧ bdWorld w := by
  obtain ⟨xs, rfl, hx2⟩ := av_agg Tryz.underlying27 hx
  obtain ⟨w, F, h1, h2⟩ := tv_World (n := n) hx2
  exact ⟨xs, w, F, rfl, rworld_true h1, h2⟩
end
end Go.Proofs.YthdfojchihooeaaGreat
namespace Go.Proofs.YthdfojchihooeaaGreat
open Go T
set_option linter.unusedVariables false
set_option linter.unusedSimpArgs false
section
variable {lo : Nat} {h : Heap} {F F' : List Nat}
set_option maxRecDepth 100000 in
theorem law_FnExactWorldNodes {w : World} {cs : List V} {s k : Int} (hs : RWorldN true h cs w F) (hb : bdWorld w) :
    ∃ h', evl h.length 3 [.agg cs, .int .i64 s, .int .i64 k] h = some (.bool true, h') := by
  have hsz := sz_world (lo := h.length) hs hb
  obtain ⟨b1, d1, b2, d2, b3, d3, b4, d4, _, _, _, _, rfl, _⟩ := id hs
  suffices hk : ∃ h', _ = some (V.bool true, h') from hk.imp fun h' hh => E_laws_FnExactWorldNodes hh
  rw [hsz, cal_s, eI_int]
  by_cases hneg : szN 1048576 (szWorld w) < 0
  · rw [br_pos hneg]; exact ⟨_, rfl⟩
  · rw [br_neg hneg]
    have hsm := szN_small hneg
    have hn := sm_world hsm
    have hw : (1 : Int) + wWorld w ≤ big := by have := wWorld_le (w := w); simp only [big]; omega
    have hq : (worldNodes w s k).length ≤ 1048576 := by have := worldNodes_len (w := w) (s := s) (k := k); omega
    have hS := fun (x : List V) (hh : Heap) (F : List Nat) (hl : h.length ≤ hh.length) (hr : RWorldN false hh x w F) => spec_WorldNodes (lo := h.length) (s := s) (k := k) hr hl hn
    have hI := fun (x : List V) (hh : Heap) (F : List Nat) (hl : h.length ≤ hh.length) (hr : RWorldN false hh x w F) => impl_WorldNodes (lo := h.length) (s := s) (k := k) hr hl hn
    generalize worldNodes w s k = q at hq hS hI
    obtain ⟨c1, h1, w1, h2, c3, h3, g, h4, c5, h5, h6, h7, c8, h8, g9, h9, t1, s2, t3, i4, t5, p6, p7, t8, i9, ⟨⟨X1, x1⟩, ⟨X3, x3⟩, ⟨X8, x8⟩⟩, ⟨⟨W2, w2⟩, ⟨G4, g4⟩, ⟨W4, w4⟩⟩, ⟨_, ⟨X35, x35⟩, ⟨X5, x5⟩⟩, ⟨⟨G6, g6⟩, ⟨W6, w6⟩⟩, ⟨G7, g7⟩, ⟨⟨G9, r9⟩, ⟨W9, w9⟩⟩, ⟨G79, g79⟩⟩ :=
      exact_story (Ra := RWorldN true) (Rx := RWorldN false) (Rr := RIntsN) rworldN_ok rworldN_ok rintsN_ok (y := q) (y' := marks mkInt wInt q 1) hs
        (TO := fun hh r h' => evl h.length 17 [.agg (w.cs b1 d1 b2 d2 b3 d3 b4 d4)] hh = some (.agg r, h'))
        (TO' := fun hh r h' => evl h.length 17 [.agg (w.cs b1 d1 b2 d2 b3 d3 b4 d4)] hh = some (.agg r, h'))
        (SP := fun x hh r h' => ∃ v, evl h.length 16 [.agg x, .int .i64 s, .int .i64 k] hh = some (v, h') ∧ NInts v q r)
        (IM := fun x hh r h' => ∃ v, evl h.length 18 [.agg x, .int .i64 s, .int .i64 k] hh = some (v, h') ∧ NInts v q r)
        (MX := fun x hh h' => evl h.length 21 [.agg x, .int .i64 1] hh = some (.int .i64 (1 + wWorld w), h'))
        (MR := fun r hh h' => ∃ v, r = [v] ∧ evl h.length 22 [v, .int .i64 1] hh = some (.int .i64 (1 + mkN wInt q), h'))
        (fun hh F hl hr => to_world hr hl hn)
        (fun hh F hl hr => to_world hr hl hn)
        (fun x hh F hl hr _ _ => by obtain ⟨v, r, h', F', e1, e2, e3, e4⟩ := hS x hh F hl hr; exact ⟨r, h', F', ⟨v, e1, e2⟩, e3, e4⟩)
        (fun x hh F hl hr _ _ => by obtain ⟨v, r, h', F', e1, e2, e3, e4⟩ := hI x hh F hl hr; exact ⟨r, h', F', ⟨v, e1, e2⟩, e3, e4⟩)
        (fun x hh F hr hnd hlo => by obtain ⟨h', e, m⟩ := mark_world (lo := h.length) hr hlo hnd hw hn; exact ⟨h', e, m⟩)
        (fun r hh F hr hnd hlo => by
          obtain ⟨v, rfl⟩ : ∃ v, r = [v] := by obtain ⟨a, c, e, _⟩ := hr; exact ⟨_, e⟩
          obtain ⟨h', e, rr, m⟩ := mark_ints (lo := h.length) hr hlo hnd hq; exact ⟨h', ⟨v, rfl, e⟩, rr, m⟩)
    have e35 := eq_world (lo := h.length) x35 x5 hn
    obtain ⟨_, _, _, _, _, _, _, _, _, _, _, _, rfl, _⟩ := x1
    obtain ⟨_, _, _, _, _, _, _, _, _, _, _, _, rfl, _⟩ := x3
    obtain ⟨_, _, _, _, _, _, _, _, _, _, _, _, rfl, _⟩ := x5
    obtain ⟨_, _, _, _, _, _, _, _, _, _, _, _, rfl, _⟩ := x8
    obtain ⟨v2, s2, y1, z1, sv2, rfl⟩ := s2
    obtain ⟨v4, i4, y2, z2, sv4, rfl⟩ := i4
    obtain ⟨v9, i9, y3, z3, sv9, rfl⟩ := i9
    obtain ⟨v7, hv7, p7⟩ := p7
    injection hv7 with hv7 _
    subst hv7
    obtain ⟨_, _, u1, u2, e4⟩ := eq_ints (lo := h.length) g4 w4 hq
    injection u1 with u1 _; injection u2 with u2 _; subst u1; subst u2
    obtain ⟨_, _, u1, u2, e6⟩ := eq_ints (lo := h.length) g6 w6 hq
    injection u1 with u1 _; injection u2 with u2 _; subst u1; subst u2
    obtain ⟨_, _, u1, u2, e9⟩ := eq_ints (lo := h.length) r9 w9 hq
    injection u1 with u1 _; injection u2 with u2 _; subst u1; subst u2
    have k7 := held_ints (lo := h.length) g7 hq
    have k9 := held_ints (lo := h.length) g79 hq
    have z1 : decide ((1 : Int) + wWorld w < 0) = false := decide_eq_false (by omega)
    have z2 : decide ((1 : Int) + mkN wInt q < 0) = false := decide_eq_false (by omega)
    have bq : ∀ {T : Type} (x : Int) (y z : Option T), br (x == x) y z = y := fun x y z => by rw [beqI, br_t]
    rw [t1, cal_s, eA_a, eC_c, eS_sl, eC_c, eS_sl, eC_c, eS_sl, eC_c, eS_sl, eN_n, s2, cal_s, sv2, t3, cal_s, eA_a, eC_c, eS_sl, eC_c, eS_sl, eC_c, eS_sl, eC_c, eS_sl, eN_n, i4, cal_s, sv4, e4, cal_s, eB_b, br_t, t5, cal_s, eA_a, eC_c, eS_sl, eC_c, eS_sl, eC_c, eS_sl, eC_c, eS_sl, eN_n, e35, cal_s, eB_b, br_t, p6, cal_s, eI_int, z1, br_f, e6, cal_s, eB_b, br_t, p7, cal_s, eI_int, k7, cal_s, eI_int, z2, br_f, bq, t8, cal_s, eA_a, eC_c, eS_sl, eC_c, eS_sl, eC_c, eS_sl, eC_c, eS_sl, eN_n, i9, cal_s, sv9, e9, cal_s, eB_b, br_t, k9, cal_s, eI_int, z2, br_f, bq]
    exact ⟨h9, rfl⟩
end
set_option maxRecDepth 100000 in
theorem main_FnExactWorldNodes {h : Heap} {x y0 y1 : V} (hx : ArgV Tryz.prog h 13 27 x) (hy0 : ArgV Tryz.prog h 13 3 y0) (hy1 : ArgV Tryz.prog h 13 3 y1) : ∃ h', evl h.length 3 [x, y0, y1] h = some (.bool true, h') := by
  obtain ⟨cs, w, F, rfl, hp, hb⟩ := av_World (n := 0) hx
  obtain ⟨i0, rfl, _⟩ := av_int (n := 12) hy0
  obtain ⟨i1, rfl, _⟩ := av_int (n := 12) hy1
  exact law_FnExactWorldNodes hp hb
end Go.Proofs.YthdfojchihooeaaGreat
