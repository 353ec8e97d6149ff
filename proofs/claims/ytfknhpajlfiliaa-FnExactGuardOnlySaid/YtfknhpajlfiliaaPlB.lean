/- Tags, histories: the first functions. -/
import Derived.Test.YtfknhpajlfiliaaPlA
import Derived.Test.YtfknhpajlfiliaaEq0
namespace Go.Proofs.Ytfknhpajlfiliaa
open Go T
set_option linter.unusedVariables false
set_option linter.unusedSimpArgs false

structure Tag where
  time : Int
  place : Int
  deriving DecidableEq
structure Done where
  sess : Int
  kind : Int
  key : Int
  tag : Tag
  deriving DecidableEq
def Tag.cs (t : Tag) : List V := [.int .i64 t.time, .int .i64 t.place]
def Done.cs (d : Done) : List V := [.int .i64 d.sess, .int .i64 d.kind, .int .i64 d.key, .int .i64 d.tag.time, .int .i64 d.tag.place]

def within (n a b : Int) : Bool := decide (a ≤ n) && decide (n ≤ b)
def tagOk (t : Int) (p : Int) : Bool := (t == 0 && p == 0) || (within t 1 999 && within p 0 2)
def less (t p t' p' : Int) : Bool := decide (t < t') || (t == t' && decide (p < p'))

section
variable {lo : Nat} {h : Heap} {a b c d e : Int}
theorem impl_within : evl lo 35 [.int .i64 a, .int .i64 b, .int .i64 c] h = some (.bool (within a b c), h) :=
  E_impl_within (h' := h) (by simp [within])
theorem spec_l1In : evl lo 39 [.int .i64 a, .int .i64 b, .int .i64 c] h = some (.bool (within a b c), h) :=
  E_spec_l1In (h' := h) (by simp [within])
theorem impl_placeOk : evl lo 45 [.int .i64 a] h = some (.bool (within a 0 2), h) := E_impl_placeOk (h' := h) (by simp [impl_within])
theorem impl_keyOk : evl lo 36 [.int .i64 a] h = some (.bool (within a 0 3), h) := E_impl_keyOk (h' := h) (by simp [impl_within])
theorem impl_TagOk : evl lo 37 [.agg [.int .i64 a, .int .i64 b]] h = some (.bool (tagOk a b), h) :=
  E_impl_TagOk (h' := h) (by simp [impl_within, impl_placeOk, tagOk])
theorem spec_l1TagOk : evl lo 43 [.agg [.int .i64 a, .int .i64 b]] h = some (.bool (tagOk a b), h) :=
  E_spec_l1TagOk (h' := h) (by simp [spec_l1In, tagOk])
theorem spec_l1Less : evl lo 40 [.agg [.int .i64 a, .int .i64 b], .agg [.int .i64 c, .int .i64 d]] h = some (.bool (less a b c d), h) :=
  E_spec_l1Less (h' := h) (by simp [less])
theorem laws_toTag : evl lo 32 [.agg [.int .i64 a, .int .i64 b]] h = some (.agg [.int .i64 a, .int .i64 b], h) := E_laws_toTag (h' := h) (by simp)
theorem laws_toDone : evl lo 24 [.agg [.int .i64 a, .int .i64 b, .int .i64 c, .int .i64 d, .int .i64 e]] h = some (.agg [.int .i64 a, .int .i64 b, .int .i64 c, .int .i64 d, .int .i64 e], h) :=
  E_laws_toDone (h' := h) (by simp [laws_toTag])

/-! ### copies that the laws make -/
theorem laws_toDoneS {l : List Done} {a : Option (Nat × Nat)} {n : Nat} {c : Option Nat} (hs : Sl h (l.map Done.cs) a n) (hl : lo ≤ h.length) (hn : n ≤ 1048576) :
    evl lo 10 [.sl 5 a n c] h = some (.sl 5 (some (h.length, 0)) n (some n), h ++ [.rows 5 35 false (l.map Done.cs)]) := by
  have hlen : n = l.length := by simpa using hs.len
  have loop : ∀ m k, m + k = n → L_laws_toDoneS_0 lo a n c (some (h.length, 0)) n (some n) (k : Nat) (h ++ [.rows 5 35 false ((l.map Done.cs).take k ++ List.replicate ((l.map Done.cs).length - k) [.int .i64 0, .int .i64 0, .int .i64 0, .int .i64 0, .int .i64 0])]) =
      some (.sl 5 (some (h.length, 0)) n (some n), h ++ [.rows 5 35 false (l.map Done.cs)]) := by
    intro m
    induction m with
    | zero =>
      intro k hk
      rw [L_laws_toDoneS_0.e, br_neg (by omega), show k = (l.map Done.cs).length by simp; omega]
      simp [List.take_of_length_le]
    | succ m ih =>
      intro k hk
      have hlt : k < l.length := by omega
      have hr : (l.map Done.cs)[k]? = some (l[k].cs) := by simp [hlt]
      obtain ⟨o, rfl, ho⟩ := (hs.mono ⟨_, rfl⟩ : Sl (h ++ [.rows 5 35 false ((l.map Done.cs).take k ++ List.replicate ((l.map Done.cs).length - k) [.int .i64 0, .int .i64 0, .int .i64 0, .int .i64 0, .int .i64 0])]) _ _ _).read hr
      rw [L_laws_toDoneS_0.e, br_pos (by omega), inB_nat (by omega)]
      simp only [eO_s, Int.toNat_natCast, ho, Done.cs, cut, eC_c, eI_int, eN_n, laws_toDone, cal_s, eA_a, inB_nat (show k < n by omega), Nat.zero_add]
      rw [st_last hl (fill_get (by simpa using hlt)) (row' := l[k].cs) (by simp [paste, Done.cs]), eO_s, fill_set hr, wr_succ (by omega)]
      exact ih (k + 1) (by omega)
  refine E_laws_toDoneS ?_
  rw [need_of (by omega)]
  have := loop n 0 (by omega)
  simp [← hlen] at this ⊢
  exact this

theorem impl_formed_1 {t p : Int} : evl lo 34 [.agg [.int .i64 a, .int .i64 b, .int .i64 c, .int .i64 t, .int .i64 p]] h = some (.bool (!(within a 0 3 && within b 1 3 && within c 0 3 && tagOk t p && (b == 2 || !(t == 0 && p == 0)))), h) :=
  E_impl_formed_1 (h' := h) (by
    simp [impl_within, impl_keyOk, impl_TagOk]
    cases within a 0 3 <;> cases within b 1 3 <;> cases within c 0 3 <;> cases tagOk t p <;> simp
    cases (t == 0 && p == 0) <;> simp [Bool.cond_eq_ite])
def opOk (d : Done) : Bool := within d.sess 0 3 && within d.kind 1 3 && within d.key 0 3 && tagOk d.tag.time d.tag.place && (d.kind == 2 || decide (d.tag.time > 0))
theorem spec_l5OpOk {d : Done} : evl lo 31 [.agg d.cs] h = some (.bool (opOk d), h) :=
  E_spec_l5OpOk (h' := h) (by simp [spec_l1In, spec_l1TagOk, opOk, Bool.and_assoc])
theorem tagOk_zero {t p : Int} (h : tagOk t p = true) : (!(t == 0 && p == 0)) = decide (t > 0) := by
  rw [Bool.eq_iff_iff]
  simp [tagOk, within] at h ⊢
  omega
theorem formed_opOk {d : Done} : (within d.sess 0 3 && within d.kind 1 3 && within d.key 0 3 && tagOk d.tag.time d.tag.place && (d.kind == 2 || !(d.tag.time == 0 && d.tag.place == 0))) = opOk d := by
  unfold opOk
  cases ht : tagOk d.tag.time d.tag.place with
  | false => simp
  | true => rw [tagOk_zero ht]

/-- the first that fits -/
def firstAt {α : Type} (p : α → Bool) : List α → Nat → Int
  | [], _ => -1
  | x :: r, k => bif p x then (k : Int) else firstAt p r (k + 1)
theorem firstAt_pos {α : Type} {p : α → Bool} : ∀ {l : List α} {k : Nat}, decide (firstAt p l k ≥ 0) = l.any p
  | [], k => by simp [firstAt]
  | x :: r, k => by
    simp only [firstAt, List.any_cons]
    by_cases h : p x = true
    · simp [h]
    · simpa [h] using firstAt_pos (p := p) (l := r) (k := k + 1)
theorem IndexFunc_Done {l : List Done} {a : Option (Nat × Nat)} {n : Nat} {c : Option Nat} {g : Nat} {cl : List V} {p : Done → Bool} (hs : Sl h (l.map Done.cs) a n) (hn : n ≤ 1048576)
    (hp : ∀ lo d, d ∈ l → evl lo g ([.agg d.cs] ++ cl) h = some (.bool (p d), h)) :
    evl lo 44 [.sl 5 a n c, .fn g cl] h = some (.int .i64 (firstAt p l 0), h) := by
  have hlen : n = l.length := by simpa using hs.len
  have loop : ∀ m k x, m + k = n → L_slices_IndexFunc_impl_Done_impl_Done_0 (List.length h) a n c g cl x (n : Nat) (k : Nat) h = some (.int .i64 (firstAt p (l.drop k) k), h) := by
    intro m
    induction m with
    | zero =>
      intro k x hk
      rw [L_slices_IndexFunc_impl_Done_impl_Done_0.e, br_neg (by omega), show k = l.length by omega]
      simp [firstAt]
    | succ m ih =>
      intro k x hk
      have hlt : k < l.length := by omega
      obtain ⟨o, rfl, ho⟩ := hs.read (show (l.map Done.cs)[k]? = some (l[k].cs) by simp [hlt])
      rw [L_slices_IndexFunc_impl_Done_impl_Done_0.e, br_pos (by omega), inB_nat (by omega)]
      simp only [eO_s, Int.toNat_natCast, ho, Done.cs, cut, eC_c, eI_int, eN_n]
      have := hp (List.length h) l[k] (by simp)
      simp only [Done.cs] at this
      rw [this, cal_s, eB_b, List.drop_eq_getElem_cons hlt]
      simp only [firstAt]
      cases p l[k]
      · simp only [br_f, cond_false]; rw [wr_succ (by omega)]; exact ih (k + 1) _ (by omega)
      · simp
  refine E_slices_IndexFunc_impl_Done_impl_Done (h' := h) ?_
  simpa using loop n 0 0 (by omega)
theorem ContainsFunc_Done {l : List Done} {a : Option (Nat × Nat)} {n : Nat} {c : Option Nat} {g : Nat} {cl : List V} {p : Done → Bool} (hs : Sl h (l.map Done.cs) a n) (hn : n ≤ 1048576)
    (hp : ∀ lo d, d ∈ l → evl lo g ([.agg d.cs] ++ cl) h = some (.bool (p d), h)) :
    evl lo 33 [.sl 5 a n c, .fn g cl] h = some (.bool (l.any p), h) :=
  E_slices_ContainsFunc_impl_Done_impl_Done (h' := h) (by rw [IndexFunc_Done hs hn hp]; simp only [cal_s, eI_int, br_bool]; rw [firstAt_pos]; simp)
def formed (l : List Done) : Bool := decide ((l.length : Int) ≤ 80) && l.all opOk
theorem impl_formed {l : List Done} {a : Option (Nat × Nat)} {n : Nat} {c : Option Nat} (hs : Sl h (l.map Done.cs) a n) (hn : n ≤ 1048576) :
    evl lo 25 [.sl 5 a n c] h = some (.bool (formed l), h) := by
  have hlen : n = l.length := by simpa using hs.len
  refine E_impl_formed (h' := h) ?_
  rw [ContainsFunc_Done hs hn (p := fun d => !(opOk d)) (fun lo d hd => by
    simp only [List.singleton_append, Done.cs]; rw [impl_formed_1, formed_opOk])]
  simp [formed, hlen, List.not_any_eq_all_not]
theorem spec_l6Form {l : List Done} {a : Option (Nat × Nat)} {n : Nat} {c : Option Nat} (hs : Sl h (l.map Done.cs) a n) (hn : n ≤ 1048576) :
    evl lo 23 [.sl 5 a n c] h = some (.bool (formed l), h) := by
  have hlen : n = l.length := by simpa using hs.len
  have loop : ∀ m k b, m + k = n → L_spec_l6Form_0 (List.length h) a n c b (k : Nat) h = some (.bool ((l.drop k).all opOk && decide ((l.length : Int) ≤ 80)), h) := by
    intro m
    induction m with
    | zero =>
      intro k b hk
      rw [L_spec_l6Form_0.e, br_neg (by omega), show k = l.length by omega]
      simp [hlen]
    | succ m ih =>
      intro k b hk
      have hlt : k < l.length := by omega
      obtain ⟨o, rfl, ho⟩ := hs.read (show (l.map Done.cs)[k]? = some (l[k].cs) by simp [hlt])
      rw [L_spec_l6Form_0.e, br_pos (by omega), inB_nat (by omega)]
      simp only [eO_s, Int.toNat_natCast, ho, Done.cs, cut, eC_c, eI_int, eN_n]
      have := spec_l5OpOk (lo := List.length h) (h := h) (d := l[k])
      simp only [Done.cs] at this
      rw [this, cal_s, eB_b, List.drop_eq_getElem_cons hlt, List.all_cons]
      cases opOk l[k]
      · simp
      · simp only [br_t, Bool.true_and]; rw [wr_succ (by omega)]; exact ih (k + 1) _ (by omega)
  refine E_spec_l6Form (h' := h) ?_
  have := loop n 0 false (by omega)
  simp only [List.drop_zero] at this
  simp only [formed]
  rw [Bool.and_comm]
  exact this

theorem laws_eqTag {a b c d : Int} : evl lo 38 [.agg [.int .i64 a, .int .i64 b], .agg [.int .i64 c, .int .i64 d]] h = some (.bool (a == c && b == d), h) :=
  E_laws_eqTag (h' := h) (by simp)
theorem laws_eqDone {d d' : Done} : evl lo 26 [.agg d.cs, .agg d'.cs] h = some (.bool (decide (d = d')), h) :=
  E_laws_eqDone (h' := h) (by
    obtain ⟨a, b, c, t, p⟩ := d
    obtain ⟨a', b', c', t', p'⟩ := d'
    simp [laws_eqTag, Done.cs]
    rw [Bool.eq_iff_iff]
    simp [and_assoc])
theorem laws_eqDoneS {l l' : List Done} {a a' : Option (Nat × Nat)} {n n' : Nat} {c c' : Option Nat} (hs : Sl h (l.map Done.cs) a n) (hs' : Sl h (l'.map Done.cs) a' n') (hn : n ≤ 1048576) :
    evl lo 12 [.sl 5 a n c, .sl 5 a' n' c'] h = some (.bool (decide (l = l')), h) := by
  have hlen : n = l.length := by simpa using hs.len
  have hlen' : n' = l'.length := by simpa using hs'.len
  have loop : ∀ m k b, m + k = n → n' = n → L_laws_eqDoneS_0 (List.length h) a n c a' n' c' b (k : Nat) h = some (.bool (decide (l.drop k = l'.drop k)), h) := by
    intro m
    induction m with
    | zero =>
      intro k b hk he
      rw [L_laws_eqDoneS_0.e, br_neg (by omega), List.drop_eq_nil_of_le (by omega), List.drop_eq_nil_of_le (by omega)]
      simp
    | succ m ih =>
      intro k b hk he
      have hlt : k < l.length := by omega
      have hlt' : k < l'.length := by omega
      obtain ⟨o, rfl, ho⟩ := hs.read (show (l.map Done.cs)[k]? = some (l[k].cs) by simp [hlt])
      obtain ⟨o', rfl, ho'⟩ := hs'.read (show (l'.map Done.cs)[k]? = some (l'[k].cs) by simp [hlt'])
      rw [L_laws_eqDoneS_0.e, br_pos (by omega), inB_nat (by omega)]
      simp only [eO_s, Int.toNat_natCast, ho, ho', Done.cs, cut, eC_c, eI_int, eN_n, inB_nat (show k < n' by omega)]
      have := laws_eqDone (lo := List.length h) (h := h) (d := l[k]) (d' := l'[k])
      simp only [Done.cs] at this
      rw [this, cal_s, eB_b, List.drop_eq_getElem_cons hlt, List.drop_eq_getElem_cons hlt']
      by_cases hd : l[k] = l'[k]
      · simp only [hd, decide_true, br_t, List.cons.injEq, true_and]; rw [wr_succ (by omega)]; exact ih (k + 1) _ (by omega) he
      · simp only [hd, decide_false, br_f, List.cons.injEq, false_and]
  refine E_laws_eqDoneS (h' := h) ?_
  by_cases he : n = n'
  · subst he
    simpa using loop n 0 false (by omega) rfl
  · have h1 : ((n : Int) == (n' : Int)) = false := by simp; omega
    have h2 : l ≠ l' := fun e => he (by rw [hlen, hlen', e])
    simp [h1, h2]

/-! ### GuardFollow -/
def gfGo (past : List Done) : List Done → Bool
  | [] => true
  | d :: r => (d.kind != 1 || past.all fun e => !(e.sess == d.sess && e.kind != 1 && decide (e.tag.time ≥ d.tag.time))) && gfGo (past ++ [d]) r
def guardFollow (l : List Done) : Bool := formed l && gfGo [] l

theorem spec_GuardFollow {l : List Done} {a : Option (Nat × Nat)} {n : Nat} {c : Option Nat} (hs : Sl h (l.map Done.cs) a n) (hn : n ≤ 1048576) :
    evl lo 9 [.sl 5 a n c] h = some (.bool (guardFollow l), h) := by
  have hlen : n = l.length := by simpa using hs.len
  have inner : ∀ m k i b (hi : i < l.length), m + k = i → (∀ r, L_spec_GuardFollow_0 (List.length h) a n c b ((i + 1 : Nat) : Int) h = some r → True) →
      L_spec_GuardFollow_2 (List.length h) a n c b (i : Nat) (k : Nat) h = if (l[i].kind != 1 || (((l.take i).drop k).all fun e => !(e.sess == l[i].sess && e.kind != 1 && decide (e.tag.time ≥ l[i].tag.time)))) = true then L_spec_GuardFollow_0 (List.length h) a n c b ((i + 1 : Nat) : Int) h else some (.bool false, h) := by
    intro m
    induction m with
    | zero =>
      intro k i b hi hk _
      rw [L_spec_GuardFollow_2.e, br_neg (by omega), List.drop_eq_nil_of_le (by simp; omega), wr_succ (by omega)]
      simp
    | succ m ih =>
      intro k i b hi hk hx
      have hlt : k < l.length := by omega
      obtain ⟨o, rfl, ho⟩ := hs.read (show (l.map Done.cs)[i]? = some (l[i].cs) by simp [hi])
      obtain ⟨o', he, ho'⟩ := hs.read (show (l.map Done.cs)[k]? = some (l[k].cs) by simp [hlt])
      injection he with he; subst he
      have hdr : (l.take i).drop k = l[k] :: (l.take i).drop (k + 1) := by
        rw [List.drop_eq_getElem_cons (by simp; omega)]; simp
      rw [L_spec_GuardFollow_2.e, br_pos (by omega), inB_nat (by omega)]
      simp only [eO_s, Int.toNat_natCast, ho, ho', Done.cs, cut, eC_c, eI_int, eN_n, inB_nat (show k < n by omega), inB_nat (show i < n by omega), wr_succ (show i < 9223372036854775807 by omega), wr_succ (show k < 9223372036854775807 by omega)]
      rw [ih (k + 1) i b hi (by omega) hx, hdr, List.all_cons]
      cases e1 : (l[i].kind == 1) <;> cases e2 : (l[k].sess == l[i].sess) <;> cases e3 : (l[k].kind == 1) <;> cases e4 : decide (l[k].tag.time ≥ l[i].tag.time) <;>
        simp only [bne, e1, e2, e3, e4, br_t, br_f, Bool.not_true, Bool.not_false, Bool.true_and, Bool.false_and, Bool.and_true, Bool.and_false, Bool.true_or, Bool.false_or, if_true, Bool.false_eq_true, if_false]
  have loop : ∀ m i b, m + i = n → L_spec_GuardFollow_0 (List.length h) a n c b (i : Nat) h = some (.bool (gfGo (l.take i) (l.drop i)), h) := by
    intro m
    induction m with
    | zero =>
      intro i b hi
      rw [L_spec_GuardFollow_0.e, br_neg (by omega), List.drop_eq_nil_of_le (by omega)]
      simp [gfGo]
    | succ m ih =>
      intro i b hi
      have hlt : i < l.length := by omega
      have := inner i 0 i b hlt (by omega) (fun _ _ => trivial)
      rw [L_spec_GuardFollow_0.e, br_pos (by omega)]
      rw [show (0 : Int) = ((0 : Nat) : Int) from rfl, this, List.drop_eq_getElem_cons hlt, ih (i + 1) b (by omega)]
      simp only [gfGo, List.drop_zero, List.take_add_one, List.getElem?_eq_getElem hlt, Option.toList_some]
      split
      · rename_i h1; rw [h1, Bool.true_and]
      · rename_i h1; rw [Bool.not_eq_true] at h1; rw [h1, Bool.false_and]
  refine E_spec_GuardFollow (h' := h) ?_
  rw [spec_l6Form hs hn, cal_s, eB_b]
  have := loop n 0 false (by omega)
  simp only [List.take_zero, List.drop_zero] at this
  unfold guardFollow
  cases formed l
  · simp
  · simpa using this

/-- the latest time of each client so far -/
def gfLat (lat : List Int) : List Done → Bool
  | [] => true
  | d :: r => bif d.kind == 1 then (bif decide (d.tag.time ≤ lat[d.sess.toNat]?.getD 0) then false else gfLat lat r)
    else gfLat (lat.set d.sess.toNat (if d.tag.time > lat[d.sess.toNat]?.getD 0 then d.tag.time else lat[d.sess.toNat]?.getD 0)) r
theorem opOk_sess {d : Done} (h : opOk d = true) : 0 ≤ d.sess ∧ d.sess < 4 := by
  simp [opOk, within] at h; omega
theorem opOk_kind {d : Done} (h : opOk d = true) : 1 ≤ d.kind ∧ d.kind ≤ 3 := by
  simp [opOk, within] at h; omega
theorem opOk_key {d : Done} (h : opOk d = true) : 0 ≤ d.key ∧ d.key < 4 := by
  simp [opOk, within] at h; omega
theorem opOk_time {d : Done} (h : opOk d = true) : 0 ≤ d.tag.time ∧ (d.kind = 1 → 1 ≤ d.tag.time) := by
  simp [opOk, tagOk, within] at h; omega
theorem gfLat_go : ∀ (l past : List Done) (lat : List Int), lat.length = 4 → (∀ d ∈ l, opOk d = true) → (∀ s : Nat, s < 4 → ∀ t : Int, 1 ≤ t → (lat[s]?.getD 0 < t ↔ ∀ e ∈ past, e.sess = s → e.kind ≠ 1 → e.tag.time < t)) → gfLat lat l = gfGo past l
  | [], past, lat, hl, ho, hi => rfl
  | d :: r, past, lat, hl, ho, hi => by
    have hd := ho d (by simp)
    have hs := opOk_sess hd
    have ht := opOk_time hd
    have hr : ∀ d ∈ r, opOk d = true := fun e he => ho e (by simp [he])
    obtain ⟨s, hs1⟩ : ∃ s : Nat, d.sess = s := ⟨d.sess.toNat, by omega⟩
    have hs4 : s < 4 := by omega
    simp only [gfLat, gfGo]
    rw [hs1, Int.toNat_natCast]
    by_cases hk : d.kind = 1
    · have e1 : (d.kind == 1) = true := by simp [hk]
      have e2 : (d.kind != 1) = false := by simp [hk]
      rw [e1, e2, cond_true, Bool.false_or]
      have h1 := hi s hs4 d.tag.time (ht.2 hk)
      have h2 : (past.all fun e => !(e.sess == (s : Int) && e.kind != 1 && decide (e.tag.time ≥ d.tag.time))) = !(decide (d.tag.time ≤ lat[s]?.getD 0)) := by
        rw [Bool.eq_iff_iff]
        simp only [List.all_eq_true, Bool.not_eq_true', Bool.and_eq_false_iff, decide_eq_false_iff_not]
        constructor
        · intro h
          have : lat[s]?.getD 0 < d.tag.time := h1.2 fun e he h3 h4 => by
            rcases h e he with (h5 | h5) | h5
            · simp [h3] at h5
            · simp at h5; exact absurd h5 h4
            · omega
          omega
        · intro h e he
          have h6 := h1.1 (by omega) e he
          by_cases h3 : e.sess = (s : Int)
          · by_cases h4 : e.kind = 1
            · exact .inl (.inr (by simp [h4]))
            · exact .inr (by have := h6 h3 h4; omega)
          · exact .inl (.inl (by simpa using h3))
      rw [h2]
      cases decide (d.tag.time ≤ lat[s]?.getD 0)
      · simp only [cond_false, Bool.not_false, Bool.true_and]
        refine gfLat_go r (past ++ [d]) lat hl hr fun s' hs' t h1t => ?_
        rw [hi s' hs' t h1t]
        constructor
        · intro h e he h3 h4
          rcases List.mem_append.1 he with he | he
          · exact h e he h3 h4
          · simp at he; subst he; exact absurd hk h4
        · intro h e he; exact h e (List.mem_append_left _ he)
      · rfl
    · have e1 : (d.kind == 1) = false := by simpa using hk
      have e2 : (d.kind != 1) = true := by simpa using hk
      rw [e1, e2, cond_false, Bool.true_or, Bool.true_and]
      refine gfLat_go r (past ++ [d]) _ (by simpa using hl) hr fun s' hs' t h1t => ?_
      have h0 := hi s' hs' t h1t
      rw [List.getElem?_set]
      have key : (∀ e ∈ past ++ [d], e.sess = (s' : Int) → e.kind ≠ 1 → e.tag.time < t) ↔ ((∀ e ∈ past, e.sess = (s' : Int) → e.kind ≠ 1 → e.tag.time < t) ∧ (d.sess = (s' : Int) → d.tag.time < t)) := by
        constructor
        · intro h; exact ⟨fun e he => h e (List.mem_append_left _ he), fun h3 => h d (by simp) h3 hk⟩
        · rintro ⟨h, h'⟩ e he h3 h4
          rcases List.mem_append.1 he with he | he
          · exact h e he h3 h4
          · simp at he; subst he; exact h' h3
      rw [key, ← h0]
      by_cases hss : s = s'
      · subst hss
        rw [if_pos rfl, if_pos (by omega), Option.getD_some]
        constructor
        · intro h; split at h <;> exact ⟨by omega, fun _ => by omega⟩
        · rintro ⟨h, h'⟩
          have := h' hs1
          split <;> omega
      · rw [if_neg hss]
        constructor
        · intro h; exact ⟨h, fun h3 => by omega⟩
        · exact fun h => h.1

theorem impl_GuardFollow {l : List Done} {a : Option (Nat × Nat)} {n : Nat} {c : Option Nat} (hs : Sl h (l.map Done.cs) a n) (hn : n ≤ 1048576) :
    evl lo 11 [.sl 5 a n c] h = some (.bool (guardFollow l), h) := by
  have hlen : n = l.length := by simpa using hs.len
  have loop : ∀ m k b (lat : List Int), (∀ d ∈ l, opOk d = true) → lat.length = 4 → m + k = n → ∃ h', L_impl_GuardFollow_0 (List.length h) b (List.length h) 0 0 a n c (n : Nat) (k : Nat) (h ++ [.rows 4 40 false [lat.map (.int .i64)]]) = some (.bool (gfLat lat (l.drop k)), h') := by
    intro m
    induction m with
    | zero =>
      intro k b lat hok hl hk
      rw [L_impl_GuardFollow_0.e, br_neg (by omega), List.drop_eq_nil_of_le (by omega)]
      exact ⟨_, rfl⟩
    | succ m ih =>
      intro k b lat hok hl hk
      have hlt : k < l.length := by omega
      have hsess := opOk_sess (hok l[k] (by simp))
      obtain ⟨s, hs1⟩ : ∃ s : Nat, l[k].sess = s := ⟨l[k].sess.toNat, by omega⟩
      have hs4 : s < lat.length := by omega
      obtain ⟨o, rfl, ho⟩ := (hs.mono ⟨[.rows 4 40 false [lat.map (.int .i64)]], rfl⟩).read (show (l.map Done.cs)[k]? = some (l[k].cs) by simp [hlt])
      have hc : cut (lat.map (V.int .i64)) (0 + s * 1) 1 = some [.int .i64 lat[s]] := cut_one (by simp [hs4])
      have hp : ∀ x, paste (lat.map (V.int .i64)) (0 + s * 1) [.int .i64 x] = some ((lat.set s x).map (V.int .i64)) := fun x => by
        rw [paste_one (by simpa using hs4)]; simp [List.map_set]
      rw [L_impl_GuardFollow_0.e, br_pos (by omega), inB_nat (by omega)]
      simp only [eO_s, Int.toNat_natCast, ho, Done.cs, cut, eC_c, eI_int, eN_n, hs1, inB_nat (show s < 4 by omega)]
      rw [ld_last (row := lat.map (V.int .i64)) (by simp), hc]
      simp only [eO_s, eC_c, eN_n, eI_int]
      rw [st_last (row := lat.map (V.int .i64)) (Nat.le_refl _) (by simp) (hp _), eO_s, wr_succ (by omega), List.drop_eq_getElem_cons hlt]
      have hg : lat[l[k].sess.toNat]?.getD 0 = lat[s] := by rw [hs1, Int.toNat_natCast, List.getElem?_eq_getElem hs4]; rfl
      simp only [gfLat, hg]
      rw [hs1, Int.toNat_natCast]
      cases l[k].kind == 1
      · simp only [br_f, cond_false]
        exact ih (k + 1) b _ hok (by simpa using hl) (by omega)
      · simp only [br_t, cond_true]
        cases decide (l[k].tag.time ≤ lat[s])
        · simp only [br_f, cond_false]
          exact ih (k + 1) b lat hok hl (by omega)
        · exact ⟨_, rfl⟩
  unfold guardFollow
  cases hf : formed l with
  | false =>
    refine E_impl_GuardFollow (h' := h) ?_
    rw [impl_formed hs hn, hf]; simp
  | true =>
    have hok : ∀ d ∈ l, opOk d = true := by
      unfold formed at hf; simp at hf; exact hf.2
    obtain ⟨h', hh⟩ := loop n 0 false [0, 0, 0, 0] hok rfl (by omega)
    refine E_impl_GuardFollow (h' := h') ?_
    rw [impl_formed hs hn, hf, cal_s, eB_b, br_t]
    rw [Bool.true_and, ← gfLat_go l [] [0, 0, 0, 0] rfl hok (fun s hs t ht => by
      have : [0, 0, 0, 0][s]?.getD 0 = (0 : Int) := by
        match s, hs with
        | 0, _ => rfl
        | 1, _ => rfl
        | 2, _ => rfl
        | 3, _ => rfl
      rw [this]; simp; omega)]
    simpa using hh

theorem laws_szDoneS {a : Option (Nat × Nat)} {n : Nat} {c : Option Nat} (hn : n ≤ maxLen) : evl lo 8 [.sl 5 a n c, .int .i64 1048576] h = some (.int .i64 (if n ≤ 1048576 then 1048576 - n else -1), h) := by
  have hm : maxLen = 9223372036854775807 := rfl
  refine E_laws_szDoneS (h' := h) ?_
  rw [wr (by omega) (by omega)]
  by_cases hc : n ≤ 1048576
  · rw [if_pos hc, br_neg (by omega)]
  · rw [if_neg hc, br_pos (by omega)]

theorem law_FnExactGuardFollow {l : List Done} {a : Option (Nat × Nat)} {n : Nat} {c : Option Nat} (hs : Sl h (l.map Done.cs) a n) (hn : n ≤ maxLen) (hl : lo ≤ h.length) :
    ∃ h', evl lo 3 [.sl 5 a n c] h = some (.bool true, h') := by
  by_cases hc : n ≤ 1048576
  · have hlen : n = (l.map Done.cs).length := hs.len
    have s1 := Sl.last (h := h) (R := 5) (e := 35) (ro := false) hlen
    have hs1 := hs.mono (h' := h ++ [.rows 5 35 false (l.map Done.cs)]) ⟨_, rfl⟩
    have s2 := Sl.last (h := h ++ [.rows 5 35 false (l.map Done.cs)]) (R := 5) (e := 35) (ro := false) hlen
    have hs2 := hs1.mono (h' := h ++ [.rows 5 35 false (l.map Done.cs)] ++ [.rows 5 35 false (l.map Done.cs)]) ⟨_, rfl⟩
    have s3 := Sl.last (h := h ++ [.rows 5 35 false (l.map Done.cs)] ++ [.rows 5 35 false (l.map Done.cs)]) (R := 5) (e := 35) (ro := false) hlen
    suffices hk : ∃ h', _ = some (V.bool true, h') from hk.imp fun h' hh => E_laws_FnExactGuardFollow hh
    · rw [laws_szDoneS hn, if_pos hc]
      simp only [cal_s, eI_int]
      rw [br_neg (by omega), laws_toDoneS hs hl hc]
      simp only [cal_s, eS_sl]
      rw [spec_GuardFollow s1 hc]
      simp only [cal_s, eB_b]
      rw [laws_toDoneS hs1 (by simp; omega) hc]
      simp only [cal_s, eS_sl]
      rw [impl_GuardFollow s2 hc]
      simp only [cal_s, eB_b]
      rw [laws_toDoneS hs2 (by simp; omega) hc]
      simp only [cal_s, eS_sl]
      rw [laws_eqDoneS (s2.mono ⟨_, rfl⟩) s3 hc]
      cases guardFollow l <;> simp
  · suffices hk : ∃ h', _ = some (V.bool true, h') from hk.imp fun h' hh => E_laws_FnExactGuardFollow hh
    · rw [laws_szDoneS hn, if_neg hc]
      simp only [cal_s, eI_int]
      rw [br_pos (by omega)]
      exact ⟨_, rfl⟩
end
end Go.Proofs.Ytfknhpajlfiliaa
