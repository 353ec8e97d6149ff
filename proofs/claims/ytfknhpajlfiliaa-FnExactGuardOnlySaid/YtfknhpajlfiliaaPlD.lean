/- Guards: what was written, what was read, what is sure. -/
import Derived.Test.YtfknhpajlfiliaaPlC
namespace Go.Proofs.Ytfknhpajlfiliaa
open Go T
set_option linter.unusedVariables false
set_option linter.unusedSimpArgs false

/-! ### tags compared -/
def cmpI (a b : Int) : Int := if a < b then -1 else if b < a then 1 else 0
section
variable {lo : Nat} {h : Heap} {a b c d : Int}
theorem cmp_isNaN : evl lo 49 [.int .i64 a] h = some (.bool false, h) := E_cmp_isNaN_int (h' := h) (by simp)
theorem cmp_Compare : evl lo 48 [.int .i64 a, .int .i64 b] h = some (.int .i64 (cmpI a b), h) :=
  E_cmp_Compare_int (h' := h) (by
    simp only [cmp_isNaN, cal_s, eB_b, br_f]
    unfold cmpI
    by_cases h1 : a < b
    · rw [br_pos h1, if_pos h1]
    · rw [br_neg h1, if_neg h1]
      by_cases h2 : b < a
      · rw [br_pos h2, if_pos h2]
      · rw [br_neg h2, if_neg h2])
theorem cmp_Or_two : evl lo 47 [.sl 1 (some (h.length, 0)) 2 (some 2)] (h ++ [.rows 1 3 false [[.int .i64 a], [.int .i64 b]]]) = some (.int .i64 (if a = 0 then b else a), h ++ [.rows 1 3 false [[.int .i64 a], [.int .i64 b]]]) :=
  E_cmp_Or_int (h' := h ++ [.rows 1 3 false [[.int .i64 a], [.int .i64 b]]]) (by
    rw [L_cmp_Or_int_0.e, br_pos (by decide), inB_in (by decide)]
    simp only [eO_s]
    rw [ld_last (row := [.int .i64 a]) (by rfl)]
    simp only [cut, eO_s, eC_c, eN_n, eI_int]
    by_cases h1 : a = 0
    · subst h1
      rw [if_pos rfl, show ((0 : Int) == 0) = true from rfl, br_t, show IntKind.i64.wrap (0 + 1) = ((1 : Nat) : Int) from wr_succ (k := 0) (by decide), L_cmp_Or_int_0.e, br_pos (by decide), inB_in (by decide)]
      simp only [eO_s]
      rw [ld_last (row := [.int .i64 b]) (by rfl)]
      simp only [cut, eO_s, eC_c, eN_n, eI_int]
      by_cases h2 : b = 0
      · subst h2
        rw [show ((0 : Int) == 0) = true from rfl, br_t, show IntKind.i64.wrap (((1 : Nat) : Int) + 1) = ((2 : Nat) : Int) from wr_succ (k := 1) (by decide), L_cmp_Or_int_0.e, br_neg (by decide)]
      · rw [show (b == 0) = false by simpa using h2, br_f]
    · rw [if_neg h1, show (a == 0) = false by simpa using h1, br_f])
theorem impl_compare : evl lo 46 [.agg [.int .i64 a, .int .i64 b], .agg [.int .i64 c, .int .i64 d]] h = some (.int .i64 (if cmpI a c = 0 then cmpI b d else cmpI a c), h) :=
  E_impl_Tag_compare (h' := h ++ [.rows 1 3 false [[.int .i64 (cmpI a c)], [.int .i64 (cmpI b d)]]]) (by
    simp only [cmp_Compare, cal_s, eI_int, cmp_Or_two])
theorem cmp_less : decide ((if cmpI a c = 0 then cmpI b d else cmpI a c) < 0) = less a b c d := by
  unfold cmpI less
  by_cases h1 : a < c
  · simp [h1]
  · by_cases h2 : c < a
    · simp [h1, h2]; omega
    · have : a = c := by omega
      subst this
      by_cases h3 : b < d
      · simp [h3]
      · simp [h3]; split <;> simp
theorem impl_TagLess : evl lo 41 [.agg [.int .i64 a, .int .i64 b], .agg [.int .i64 c, .int .i64 d]] h = some (.bool (less a b c d), h) :=
  E_impl_TagLess (h' := h) (by simp only [impl_compare, cal_s, eI_int, br_bool, cmp_less]; simp)
theorem impl_TagMax : evl lo 42 [.agg [.int .i64 a, .int .i64 b], .agg [.int .i64 c, .int .i64 d]] h = some (.agg [.int .i64 (if less a b c d = true then c else a), .int .i64 (if less a b c d = true then d else b)], h) :=
  E_impl_TagMax (h' := h) (by simp only [impl_TagLess, cal_s, eB_b]; cases less a b c d <;> simp)
end

/-! ### GuardWritten -/
def gwGo (past : List Done) : List Done → Bool
  | [] => true
  | d :: r => (d.kind == 1 || !(decide (d.tag.time > 0)) || past.any fun e => e.kind == 1 && (e.tag.time == d.tag.time && e.tag.place == d.tag.place) && e.key == d.key) && gwGo (past ++ [d]) r
def guardWritten (l : List Done) : Bool := formed l && gwGo [] l
def gwMap (m : List ((Int × Int × Int) × Bool)) : List Done → Bool
  | [] => true
  | d :: r => bif d.kind == 1 then gwMap (asSet (d.key, d.tag.time, d.tag.place) true m) r
    else bif (d.tag.time == 0 && (d.tag.place == 0 && true)) then gwMap m r
    else bif (asGet (d.key, d.tag.time, d.tag.place) m).getD false then gwMap m r else false
theorem gwMap_go : ∀ (l past : List Done) (m : List ((Int × Int × Int) × Bool)), (∀ d ∈ l, opOk d = true) → (∀ k t p, (asGet (k, t, p) m).getD false = past.any fun e => e.kind == 1 && (e.tag.time == t && e.tag.place == p) && e.key == k) → gwMap m l = gwGo past l
  | [], past, m, ho, hi => rfl
  | d :: r, past, m, ho, hi => by
    have hd := ho d (by simp)
    have hr : ∀ d ∈ r, opOk d = true := fun e he => ho e (by simp [he])
    simp only [gwMap, gwGo]
    cases e1 : d.kind == 1 with
    | true =>
      rw [cond_true, Bool.true_or, Bool.true_or, Bool.true_and]
      refine gwMap_go r _ _ hr fun k t p => ?_
      rw [asGet_set, List.any_append, ← hi]
      simp only [List.any_cons, List.any_nil, Bool.or_false, e1, Bool.true_and]
      by_cases hk : (k, t, p) = (d.key, d.tag.time, d.tag.place)
      · rw [if_pos hk]
        injection hk with h1 h2; injection h2 with h2 h3
        subst h1; subst h2; subst h3
        simp
      · rw [if_neg hk]
        have : ((d.tag.time == t && d.tag.place == p) && d.key == k) = false := by
          rw [Bool.eq_false_iff]
          intro h
          simp at h
          exact hk (by rw [← h.1.1, ← h.1.2, ← h.2])
        rw [this, Bool.or_false]
    | false =>
      have key : ∀ k t p, (asGet (k, t, p) m).getD false = (past ++ [d]).any fun e => e.kind == 1 && (e.tag.time == t && e.tag.place == p) && e.key == k := fun k t p => by
        rw [List.any_append, ← hi]; simp [e1]
      have h0 : (d.tag.time == 0 && (d.tag.place == 0 && true)) = !(decide (d.tag.time > 0)) := by
        rw [Bool.eq_iff_iff]
        simp [opOk, tagOk, within] at hd ⊢
        omega
      rw [cond_false, Bool.false_or, h0, hi]
      cases decide (d.tag.time > 0)
      · simp only [Bool.not_false, cond_true, Bool.true_or, Bool.true_and]
        exact gwMap_go r _ _ hr key
      · simp only [Bool.not_true, cond_false, Bool.false_or]
        cases past.any fun e => e.kind == 1 && (e.tag.time == d.tag.time && e.tag.place == d.tag.place) && e.key == d.key
        · rfl
        · simp only [cond_true, Bool.true_and]; exact gwMap_go r _ _ hr key

section
variable {lo : Nat} {h : Heap}
theorem spec_l11Wrote {l : List Done} {a : Option (Nat × Nat)} {n far : Nat} {c : Option Nat} {k t p : Int} (hs : Sl h (l.map Done.cs) a n) (hn : n ≤ 1048576) (hf : far ≤ n) :
    evl lo 27 [.sl 5 a n c, .int .i64 (far : Nat), .int .i64 k, .agg [.int .i64 t, .int .i64 p]] h = some (.bool ((l.take far).any fun e => e.kind == 1 && (e.tag.time == t && e.tag.place == p) && e.key == k), h) := by
  have hlen : n = l.length := by simpa using hs.len
  have loop : ∀ m i b, m + i = far → L_spec_l11Wrote_0 (List.length h) a n c (far : Nat) k b (i : Nat) t p h = some (.bool (((l.take far).drop i).any fun e => e.kind == 1 && (e.tag.time == t && e.tag.place == p) && e.key == k), h) := by
    intro m
    induction m with
    | zero =>
      intro i b hi
      rw [L_spec_l11Wrote_0.e, br_neg (by omega), List.drop_eq_nil_of_le (by simp; omega)]
      rfl
    | succ m ih =>
      intro i b hi
      have hlt : i < l.length := by omega
      obtain ⟨o, rfl, ho⟩ := hs.read (show (l.map Done.cs)[i]? = some (l[i].cs) by simp [hlt])
      have hdr : (l.take far).drop i = l[i] :: (l.take far).drop (i + 1) := by
        rw [List.drop_eq_getElem_cons (by simp; omega)]; simp
      rw [L_spec_l11Wrote_0.e, br_pos (by omega), inB_nat (by omega)]
      simp only [eO_s, Int.toNat_natCast, ho, Done.cs, cut, eC_c, eI_int, eN_n, inB_nat (show i < n by omega), wr_succ (show i < 9223372036854775807 by omega)]
      rw [ih (i + 1) b (by omega), hdr, List.any_cons]
      cases l[i].kind == 1 <;> cases l[i].tag.time == t <;> cases l[i].tag.place == p <;> cases l[i].key == k <;> simp
  refine E_spec_l11Wrote (h' := h) ?_
  simpa using loop far 0 false (by omega)

theorem spec_GuardWritten {l : List Done} {a : Option (Nat × Nat)} {n : Nat} {c : Option Nat} (hs : Sl h (l.map Done.cs) a n) (hn : n ≤ 1048576) :
    evl lo 13 [.sl 5 a n c] h = some (.bool (guardWritten l), h) := by
  have hlen : n = l.length := by simpa using hs.len
  have loop : ∀ m i b, m + i = n → L_spec_GuardWritten_0 (List.length h) a n c b (i : Nat) h = some (.bool (gwGo (l.take i) (l.drop i)), h) := by
    intro m
    induction m with
    | zero =>
      intro i b hi
      rw [L_spec_GuardWritten_0.e, br_neg (by omega), List.drop_eq_nil_of_le (by omega)]
      simp [gwGo]
    | succ m ih =>
      intro i b hi
      have hlt : i < l.length := by omega
      obtain ⟨o, rfl, ho⟩ := hs.read (show (l.map Done.cs)[i]? = some (l[i].cs) by simp [hlt])
      rw [L_spec_GuardWritten_0.e, br_pos (by omega), inB_nat (by omega)]
      simp only [eO_s, Int.toNat_natCast, ho, Done.cs, cut, eC_c, eI_int, eN_n, inB_nat (show i < n by omega), wr_succ (show i < 9223372036854775807 by omega)]
      rw [spec_l11Wrote hs hn (by omega), cal_s, ih (i + 1) b (by omega), List.drop_eq_getElem_cons hlt]
      simp only [gwGo, eB_b, List.take_add_one, List.getElem?_eq_getElem hlt, Option.toList_some]
      cases l[i].kind == 1 <;> cases decide (l[i].tag.time > 0) <;> cases ((l.take i).any fun e => e.kind == 1 && (e.tag.time == l[i].tag.time && e.tag.place == l[i].tag.place) && e.key == l[i].key) <;> simp only [br_t, br_f, Bool.not_true, Bool.not_false, Bool.true_and, Bool.false_and, Bool.and_true, Bool.and_false, Bool.true_or, Bool.false_or, Bool.or_true, Bool.or_false, cond_true, cond_false, if_true, if_false, Bool.false_eq_true]
  refine E_spec_GuardWritten (h' := h) ?_
  rw [spec_l6Form hs hn, cal_s, eB_b]
  have := loop n 0 false (by omega)
  simp only [List.take_zero, List.drop_zero] at this
  unfold guardWritten
  cases formed l
  · simp
  · simpa using this

theorem formed_all {l : List Done} (hf : formed l = true) : ∀ d ∈ l, opOk d = true := by
  unfold formed at hf; simp at hf; exact hf.2
def keyT (k : Int × Int × Int) : V := .agg [.int .i64 k.1, .int .i64 k.2.1, .int .i64 k.2.2]
theorem keyT_eq (a b : Int × Int × Int) : eqV (keyT a) (keyT b) = some (decide (a = b)) := by
  obtain ⟨a, a', a''⟩ := a
  obtain ⟨b, b', b''⟩ := b
  simp [keyT, eqV, eqVs, eqC]
  rw [Bool.eq_iff_iff]
  simp
theorem impl_GuardWritten {l : List Done} {a : Option (Nat × Nat)} {n : Nat} {c : Option Nat} (hs : Sl h (l.map Done.cs) a n) (hn : n ≤ 1048576) :
    evl lo 14 [.sl 5 a n c] h = some (.bool (guardWritten l), h) := by
  have hlen : n = l.length := by simpa using hs.len
  have hble : Nat.ble (List.length h) (List.length h) = true := by simp
  have loop : ∀ m i b (mp : List ((Int × Int × Int) × Bool)), m + i = n → ∃ h', L_impl_GuardWritten_0 (List.length h) b (List.length h) a n c (n : Nat) (i : Nat) (h ++ [.map 43 (mapKV keyT .bool mp)]) = some (.bool (gwMap mp (l.drop i)), h') := by
    intro m
    induction m with
    | zero =>
      intro i b mp hi
      rw [L_impl_GuardWritten_0.e, br_neg (by omega), List.drop_eq_nil_of_le (by omega)]
      exact ⟨_, rfl⟩
    | succ m ih =>
      intro i b mp hi
      have hlt : i < l.length := by omega
      obtain ⟨o, rfl, ho⟩ := (hs.mono ⟨[.map 43 (mapKV keyT .bool mp)], rfl⟩).read (show (l.map Done.cs)[i]? = some (l[i].cs) by simp [hlt])
      have hget := kvFind_as (eu := V.bool) keyT_eq (k := (l[i].key, l[i].tag.time, l[i].tag.place)) (m := mp)
      have hset := kvSet_as (eu := V.bool) keyT_eq (k := (l[i].key, l[i].tag.time, l[i].tag.place)) (u := true) (m := mp)
      simp only [keyT] at hget hset
      rw [L_impl_GuardWritten_0.e, br_pos (by omega), inB_nat (by omega)]
      simp only [eO_s, Int.toNat_natCast, ho, Done.cs, cut, eC_c, eI_int, eN_n, wr_succ (show i < 9223372036854775807 by omega), kv_last, hble, need_t, set_last]
      rw [hget, hset, List.drop_eq_getElem_cons hlt]
      simp only [eO_s, gwMap]
      cases l[i].kind == 1
      · cases (l[i].tag.time == 0 && (l[i].tag.place == 0 && true))
        · cases asGet (l[i].key, l[i].tag.time, l[i].tag.place) mp with
          | none => exact ⟨_, rfl⟩
          | some v =>
            cases v
            · exact ⟨_, rfl⟩
            · exact ih (i + 1) b mp (by omega)
        · exact ih (i + 1) b mp (by omega)
      · exact ih (i + 1) b _ (by omega)
  unfold guardWritten
  cases hf : formed l with
  | false =>
    refine E_impl_GuardWritten (h' := h) ?_
    rw [impl_formed hs hn, hf]; simp
  | true =>
    obtain ⟨h', hh⟩ := loop n 0 false [] (by omega)
    refine E_impl_GuardWritten (h' := h') ?_
    rw [impl_formed hs hn, hf, cal_s, eB_b, br_t]
    rw [Bool.true_and, ← gwMap_go l [] [] (formed_all hf) (fun k t p => rfl)]
    simpa [mapKV] using hh

/-! ### GuardReads, GuardOwn -/
def nbGo (kind : Int) (past : List Done) : List Done → Bool
  | [] => true
  | d :: r => (!(d.kind == 2) || !(past.any fun e => e.sess == d.sess && e.key == d.key && within e.kind kind kind && less d.tag.time d.tag.place e.tag.time e.tag.place)) && nbGo kind (past ++ [d]) r
def guardBack (kind : Int) (l : List Done) : Bool := formed l && nbGo kind [] l
theorem spec_l11Later {l : List Done} {a : Option (Nat × Nat)} {n i : Nat} {c : Option Nat} {k k' : Int} (hs : Sl h (l.map Done.cs) a n) (hn : n ≤ 1048576) (hi : i < l.length) :
    evl lo 29 [.sl 5 a n c, .int .i64 (i : Nat), .int .i64 k, .int .i64 k'] h = some (.bool ((l.take i).any fun e => e.sess == l[i].sess && e.key == l[i].key && within e.kind k k' && less l[i].tag.time l[i].tag.place e.tag.time e.tag.place), h) := by
  have hlen : n = l.length := by simpa using hs.len
  have loop : ∀ m j b, m + j = i → L_spec_l11Later_0 (List.length h) a n c (i : Nat) k k' b (j : Nat) h = some (.bool (((l.take i).drop j).any fun e => e.sess == l[i].sess && e.key == l[i].key && within e.kind k k' && less l[i].tag.time l[i].tag.place e.tag.time e.tag.place), h) := by
    intro m
    induction m with
    | zero =>
      intro j b hj
      rw [L_spec_l11Later_0.e, br_neg (by omega), List.drop_eq_nil_of_le (by simp; omega)]
      rfl
    | succ m ih =>
      intro j b hj
      have hlt : j < l.length := by omega
      obtain ⟨o, rfl, ho⟩ := hs.read (show (l.map Done.cs)[j]? = some (l[j].cs) by simp [hlt])
      obtain ⟨o', he, ho'⟩ := hs.read (show (l.map Done.cs)[i]? = some (l[i].cs) by simp [hi])
      injection he with he; subst he
      have hdr : (l.take i).drop j = l[j] :: (l.take i).drop (j + 1) := by
        rw [List.drop_eq_getElem_cons (by simp; omega)]; simp
      rw [L_spec_l11Later_0.e, br_pos (by omega), inB_nat (by omega)]
      simp only [eO_s, Int.toNat_natCast, ho, ho', Done.cs, cut, eC_c, eI_int, eN_n, inB_nat (show i < n by omega), wr_succ (show j < 9223372036854775807 by omega), spec_l1In, spec_l1Less, cal_s, eB_b]
      rw [ih (j + 1) b (by omega), hdr, List.any_cons]
      cases l[j].sess == l[i].sess <;> cases l[j].key == l[i].key <;> cases within l[j].kind k k' <;> cases less l[i].tag.time l[i].tag.place l[j].tag.time l[j].tag.place <;> simp only [br_t, br_f, Bool.not_true, Bool.not_false, Bool.true_and, Bool.false_and, Bool.and_true, Bool.and_false, Bool.true_or, Bool.false_or, Bool.or_true, Bool.or_false, cond_true, cond_false, if_true, if_false, Bool.false_eq_true]
  refine E_spec_l11Later (h' := h) ?_
  simpa using loop i 0 false (by omega)

theorem spec_GuardOwn {l : List Done} {a : Option (Nat × Nat)} {n : Nat} {c : Option Nat} (hs : Sl h (l.map Done.cs) a n) (hn : n ≤ 1048576) :
    evl lo 19 [.sl 5 a n c] h = some (.bool (guardBack 3 l), h) := by
  have hlen : n = l.length := by simpa using hs.len
  have loop : ∀ m i b, m + i = n → L_spec_GuardOwn_0 (List.length h) a n c b (i : Nat) h = some (.bool (nbGo 3 (l.take i) (l.drop i)), h) := by
    intro m
    induction m with
    | zero =>
      intro i b hi
      rw [L_spec_GuardOwn_0.e, br_neg (by omega), List.drop_eq_nil_of_le (by omega)]
      simp [nbGo]
    | succ m ih =>
      intro i b hi
      have hlt : i < l.length := by omega
      obtain ⟨o, rfl, ho⟩ := hs.read (show (l.map Done.cs)[i]? = some (l[i].cs) by simp [hlt])
      rw [L_spec_GuardOwn_0.e, br_pos (by omega), inB_nat (by omega)]
      simp only [eO_s, Int.toNat_natCast, ho, Done.cs, cut, eC_c, eI_int, eN_n, wr_succ (show i < 9223372036854775807 by omega)]
      rw [spec_l11Later hs hn hlt, cal_s, ih (i + 1) b (by omega), List.drop_eq_getElem_cons hlt]
      simp only [nbGo, eB_b, List.take_add_one, List.getElem?_eq_getElem hlt, Option.toList_some]
      cases l[i].kind == 2 <;> cases ((l.take i).any fun e => e.sess == l[i].sess && e.key == l[i].key && within e.kind 3 3 && less l[i].tag.time l[i].tag.place e.tag.time e.tag.place) <;> simp only [br_t, br_f, Bool.not_true, Bool.not_false, Bool.true_and, Bool.false_and, Bool.and_true, Bool.and_false, Bool.true_or, Bool.false_or, Bool.or_true, Bool.or_false, cond_true, cond_false, if_true, if_false, Bool.false_eq_true]
  refine E_spec_GuardOwn (h' := h) ?_
  rw [spec_l6Form hs hn, cal_s, eB_b]
  have := loop n 0 false (by omega)
  simp only [List.take_zero, List.drop_zero] at this
  unfold guardBack
  cases formed l
  · simp
  · simpa using this

theorem spec_GuardReads {l : List Done} {a : Option (Nat × Nat)} {n : Nat} {c : Option Nat} (hs : Sl h (l.map Done.cs) a n) (hn : n ≤ 1048576) :
    evl lo 21 [.sl 5 a n c] h = some (.bool (guardBack 2 l), h) := by
  have hlen : n = l.length := by simpa using hs.len
  have loop : ∀ m i b, m + i = n → L_spec_GuardReads_0 (List.length h) a n c b (i : Nat) h = some (.bool (nbGo 2 (l.take i) (l.drop i)), h) := by
    intro m
    induction m with
    | zero =>
      intro i b hi
      rw [L_spec_GuardReads_0.e, br_neg (by omega), List.drop_eq_nil_of_le (by omega)]
      simp [nbGo]
    | succ m ih =>
      intro i b hi
      have hlt : i < l.length := by omega
      obtain ⟨o, rfl, ho⟩ := hs.read (show (l.map Done.cs)[i]? = some (l[i].cs) by simp [hlt])
      rw [L_spec_GuardReads_0.e, br_pos (by omega), inB_nat (by omega)]
      simp only [eO_s, Int.toNat_natCast, ho, Done.cs, cut, eC_c, eI_int, eN_n, wr_succ (show i < 9223372036854775807 by omega)]
      rw [spec_l11Later hs hn hlt, cal_s, ih (i + 1) b (by omega), List.drop_eq_getElem_cons hlt]
      simp only [nbGo, eB_b, List.take_add_one, List.getElem?_eq_getElem hlt, Option.toList_some]
      cases l[i].kind == 2 <;> cases ((l.take i).any fun e => e.sess == l[i].sess && e.key == l[i].key && within e.kind 2 2 && less l[i].tag.time l[i].tag.place e.tag.time e.tag.place) <;> simp only [br_t, br_f, Bool.not_true, Bool.not_false, Bool.true_and, Bool.false_and, Bool.and_true, Bool.and_false, Bool.true_or, Bool.false_or, Bool.or_true, Bool.or_false, cond_true, cond_false, if_true, if_false, Bool.false_eq_true]
  refine E_spec_GuardReads (h' := h) ?_
  rw [spec_l6Form hs hn, cal_s, eB_b]
  have := loop n 0 false (by omega)
  simp only [List.take_zero, List.drop_zero] at this
  unfold guardBack
  cases formed l
  · simp
  · simpa using this

def get2 (s k : Int) (m : List ((Int × Int) × Tag)) : Tag := (asGet (s, k) m).getD ⟨0, 0⟩
def tMax (t u : Tag) : Tag := ⟨if less t.time t.place u.time u.place = true then u.time else t.time, if less t.time t.place u.time u.place = true then u.place else t.place⟩
def nbMap (kind : Int) (m : List ((Int × Int) × Tag)) : List Done → Bool
  | [] => true
  | d :: r => bif d.kind == 2 && less d.tag.time d.tag.place (get2 d.sess d.key m).time (get2 d.sess d.key m).place then false
    else bif d.kind == kind then nbMap kind (asSet (d.sess, d.key) (tMax (get2 d.sess d.key m) d.tag) m) r else nbMap kind m r
theorem less_max {t p : Int} {x y : Tag} : less t p (tMax x y).time (tMax x y).place = (less t p x.time x.place || less t p y.time y.place) := by
  rw [Bool.eq_iff_iff]
  unfold tMax
  by_cases h : less x.time x.place y.time y.place = true
  · simp only [h, if_true]
    simp [less] at h ⊢
    omega
  · simp only [h, if_false, Bool.false_eq_true]
    simp [less] at h ⊢
    omega
theorem nbMap_go {kind : Int} : ∀ (l past : List Done) (m : List ((Int × Int) × Tag)), (∀ d ∈ l, opOk d = true) →
    (∀ s k t p, 0 ≤ t → 0 ≤ p → less t p (get2 s k m).time (get2 s k m).place = past.any fun e => e.sess == s && e.key == k && within e.kind kind kind && less t p e.tag.time e.tag.place) → nbMap kind m l = nbGo kind past l
  | [], past, m, ho, hi => rfl
  | d :: r, past, m, ho, hi => by
    have hd := ho d (by simp)
    have hr : ∀ d ∈ r, opOk d = true := fun e he => ho e (by simp [he])
    have hp : 0 ≤ d.tag.time ∧ 0 ≤ d.tag.place := by simp [opOk, tagOk, within] at hd; omega
    simp only [nbMap, nbGo]
    rw [hi _ _ _ _ hp.1 hp.2]
    have step : ∀ m', (∀ s k t p, 0 ≤ t → 0 ≤ p → less t p (get2 s k m').time (get2 s k m').place = (less t p (get2 s k m).time (get2 s k m).place || (d.sess == s && d.key == k && within d.kind kind kind && less t p d.tag.time d.tag.place))) → nbMap kind m' r = nbGo kind (past ++ [d]) r := fun m' hm => by
      refine nbMap_go r _ _ hr fun s k t p h1 h2 => ?_
      rw [hm s k t p h1 h2, hi s k t p h1 h2, List.any_append]
      simp
    have hw : within d.kind kind kind = (d.kind == kind) := by rw [Bool.eq_iff_iff]; simp [within]; omega
    have key : (bif d.kind == kind then nbMap kind (asSet (d.sess, d.key) (tMax (get2 d.sess d.key m) d.tag) m) r else nbMap kind m r) = nbGo kind (past ++ [d]) r := by
      cases hk : d.kind == kind
      · exact step m fun s k t p _ _ => by rw [hw, hk]; simp
      · refine step _ fun s k t p _ _ => ?_
        rw [hw, hk, Bool.and_true]
        unfold get2
        rw [asGet_set]
        by_cases hsk : (s, k) = (d.sess, d.key)
        · rw [if_pos hsk, Option.getD_some, less_max]
          injection hsk with h1 h2
          subst h1; subst h2
          simp
        · rw [if_neg hsk]
          have : (d.sess == s && d.key == k) = false := by
            rw [Bool.eq_false_iff]
            intro h
            simp at h
            exact hsk (by rw [← h.1, ← h.2])
          rw [this]; simp
    rw [key]
    cases d.kind == 2 <;> cases (past.any fun e => e.sess == d.sess && e.key == d.key && within e.kind kind kind && less d.tag.time d.tag.place e.tag.time e.tag.place) <;> simp only [br_t, br_f, Bool.not_true, Bool.not_false, Bool.true_and, Bool.false_and, Bool.and_true, Bool.and_false, Bool.true_or, Bool.false_or, Bool.or_true, Bool.or_false, cond_true, cond_false, if_true, if_false, Bool.false_eq_true]

def keyP (k : Int × Int) : V := .agg [.int .i64 k.1, .int .i64 k.2]
theorem keyP_eq (a b : Int × Int) : eqV (keyP a) (keyP b) = some (decide (a = b)) := by
  obtain ⟨a, a'⟩ := a
  obtain ⟨b, b'⟩ := b
  simp [keyP, eqV, eqVs, eqC]
  rw [Bool.eq_iff_iff]
  simp
def tagV (t : Tag) : V := .agg [.int .i64 t.time, .int .i64 t.place]
theorem dflt_tag {s k : Int} {m : List ((Int × Int) × Tag)} : dflt ((asGet (s, k) m).map tagV) (.agg [.int .i64 0, .int .i64 0]) = .agg [.int .i64 (get2 s k m).time, .int .i64 (get2 s k m).place] := by
  unfold get2
  cases asGet (s, k) m <;> rfl
theorem impl_neverBack {l : List Done} {a : Option (Nat × Nat)} {n : Nat} {c : Option Nat} {kind : Int} (hs : Sl h (l.map Done.cs) a n) (hn : n ≤ 1048576) :
    evl lo 30 [.sl 5 a n c, .int .i64 kind] h = some (.bool (guardBack kind l), h) := by
  have hlen : n = l.length := by simpa using hs.len
  have hble : Nat.ble (List.length h) (List.length h) = true := by simp
  have loop : ∀ m i b (mp : List ((Int × Int) × Tag)), m + i = n → ∃ h', L_impl_neverBack_0 (List.length h) kind b (List.length h) a n c (n : Nat) (i : Nat) (h ++ [.map 55 (mapKV keyP tagV mp)]) = some (.bool (nbMap kind mp (l.drop i)), h') := by
    intro m
    induction m with
    | zero =>
      intro i b mp hi
      rw [L_impl_neverBack_0.e, br_neg (by omega), List.drop_eq_nil_of_le (by omega)]
      exact ⟨_, rfl⟩
    | succ m ih =>
      intro i b mp hi
      have hlt : i < l.length := by omega
      obtain ⟨o, rfl, ho⟩ := (hs.mono ⟨[.map 55 (mapKV keyP tagV mp)], rfl⟩).read (show (l.map Done.cs)[i]? = some (l[i].cs) by simp [hlt])
      have hget := kvFind_as (eu := tagV) keyP_eq (k := (l[i].sess, l[i].key)) (m := mp)
      have hset := kvSet_as (eu := tagV) keyP_eq (k := (l[i].sess, l[i].key)) (u := tMax (get2 l[i].sess l[i].key mp) l[i].tag) (m := mp)
      simp only [keyP] at hget hset
      have hmax : (V.agg [.int .i64 (if less (get2 l[i].sess l[i].key mp).time (get2 l[i].sess l[i].key mp).place l[i].tag.time l[i].tag.place = true then l[i].tag.time else (get2 l[i].sess l[i].key mp).time),
          .int .i64 (if less (get2 l[i].sess l[i].key mp).time (get2 l[i].sess l[i].key mp).place l[i].tag.time l[i].tag.place = true then l[i].tag.place else (get2 l[i].sess l[i].key mp).place)]) = tagV (tMax (get2 l[i].sess l[i].key mp) l[i].tag) := rfl
      rw [L_impl_neverBack_0.e, br_pos (by omega), inB_nat (by omega)]
      simp only [eO_s, Int.toNat_natCast, ho, Done.cs, cut, eC_c, eI_int, eN_n, wr_succ (show i < 9223372036854775807 by omega), kv_last, hble, need_t, hget, dflt_tag, eA_a, impl_TagLess, impl_TagMax, cal_s, eB_b, hmax, hset, set_last]
      rw [List.drop_eq_getElem_cons hlt]
      simp only [nbMap]
      cases l[i].kind == 2 <;> cases less l[i].tag.time l[i].tag.place (get2 l[i].sess l[i].key mp).time (get2 l[i].sess l[i].key mp).place <;> cases l[i].kind == kind <;> simp only [br_t, br_f, Bool.not_true, Bool.not_false, Bool.true_and, Bool.false_and, Bool.and_true, Bool.and_false, Bool.true_or, Bool.false_or, Bool.or_true, Bool.or_false, cond_true, cond_false, if_true, if_false, Bool.false_eq_true] <;>
        first | exact ih (i + 1) b _ (by omega) | exact ⟨_, rfl⟩
  unfold guardBack
  cases hf : formed l with
  | false =>
    refine E_impl_neverBack (h' := h) ?_
    rw [impl_formed hs hn, hf]; simp
  | true =>
    obtain ⟨h', hh⟩ := loop n 0 false [] (by omega)
    refine E_impl_neverBack (h' := h') ?_
    rw [impl_formed hs hn, hf, cal_s, eB_b, br_t]
    rw [Bool.true_and, ← nbMap_go l [] [] (formed_all hf) (fun s k t p h1 h2 => by
      show less t p 0 0 = false
      rw [Bool.eq_false_iff]
      intro h
      simp [less] at h
      omega)]
    simpa [mapKV] using hh
theorem impl_GuardOwn {l : List Done} {a : Option (Nat × Nat)} {n : Nat} {c : Option Nat} (hs : Sl h (l.map Done.cs) a n) (hn : n ≤ 1048576) :
    evl lo 20 [.sl 5 a n c] h = some (.bool (guardBack 3 l), h) := E_impl_GuardOwn (h' := h) (by rw [impl_neverBack hs hn]; simp)
theorem impl_GuardReads {l : List Done} {a : Option (Nat × Nat)} {n : Nat} {c : Option Nat} (hs : Sl h (l.map Done.cs) a n) (hn : n ≤ 1048576) :
    evl lo 22 [.sl 5 a n c] h = some (.bool (guardBack 2 l), h) := E_impl_GuardReads (h' := h) (by rw [impl_neverBack hs hn]; simp)

theorem law_FnExactGuardWritten {l : List Done} {a : Option (Nat × Nat)} {n : Nat} {c : Option Nat} (hs : Sl h (l.map Done.cs) a n) (hn : n ≤ maxLen) (hl : lo ≤ h.length) :
    ∃ h', evl lo 4 [.sl 5 a n c] h = some (.bool true, h') := by
  by_cases hc : n ≤ 1048576
  · have hlen : n = (l.map Done.cs).length := hs.len
    have s1 := Sl.last (h := h) (R := 5) (e := 35) (ro := false) hlen
    have hs1 := hs.mono (h' := h ++ [.rows 5 35 false (l.map Done.cs)]) ⟨_, rfl⟩
    have s2 := Sl.last (h := h ++ [.rows 5 35 false (l.map Done.cs)]) (R := 5) (e := 35) (ro := false) hlen
    have hs2 := hs1.mono (h' := h ++ [.rows 5 35 false (l.map Done.cs)] ++ [.rows 5 35 false (l.map Done.cs)]) ⟨_, rfl⟩
    have s3 := Sl.last (h := h ++ [.rows 5 35 false (l.map Done.cs)] ++ [.rows 5 35 false (l.map Done.cs)]) (R := 5) (e := 35) (ro := false) hlen
    suffices hk : ∃ h', _ = some (V.bool true, h') from hk.imp fun h' hh => E_laws_FnExactGuardWritten hh
    · rw [laws_szDoneS hn, if_pos hc]
      simp only [cal_s, eI_int]
      rw [br_neg (by omega), laws_toDoneS hs hl hc]
      simp only [cal_s, eS_sl]
      rw [spec_GuardWritten s1 hc]
      simp only [cal_s, eB_b]
      rw [laws_toDoneS hs1 (by simp; omega) hc]
      simp only [cal_s, eS_sl]
      rw [impl_GuardWritten s2 hc]
      simp only [cal_s, eB_b]
      rw [laws_toDoneS hs2 (by simp; omega) hc]
      simp only [cal_s, eS_sl]
      rw [laws_eqDoneS (s2.mono ⟨_, rfl⟩) s3 hc]
      cases guardWritten l <;> simp
  · suffices hk : ∃ h', _ = some (V.bool true, h') from hk.imp fun h' hh => E_laws_FnExactGuardWritten hh
    · rw [laws_szDoneS hn, if_neg hc]
      simp only [cal_s, eI_int]
      rw [br_pos (by omega)]
      exact ⟨_, rfl⟩
theorem main_FnExactGuardWritten {x : V} (hx : ArgV Try.prog h 12 22 x) : ∃ h', evl h.length 4 [x] h = some (.bool true, h') := by
  obtain ⟨a, m, c, l, rfl, hs, hm⟩ := av_DoneS (n := 8) hx
  exact law_FnExactGuardWritten hs hm (Nat.le_refl _)

theorem law_FnExactGuardOwn {l : List Done} {a : Option (Nat × Nat)} {n : Nat} {c : Option Nat} (hs : Sl h (l.map Done.cs) a n) (hn : n ≤ maxLen) (hl : lo ≤ h.length) :
    ∃ h', evl lo 6 [.sl 5 a n c] h = some (.bool true, h') := by
  by_cases hc : n ≤ 1048576
  · have hlen : n = (l.map Done.cs).length := hs.len
    have s1 := Sl.last (h := h) (R := 5) (e := 35) (ro := false) hlen
    have hs1 := hs.mono (h' := h ++ [.rows 5 35 false (l.map Done.cs)]) ⟨_, rfl⟩
    have s2 := Sl.last (h := h ++ [.rows 5 35 false (l.map Done.cs)]) (R := 5) (e := 35) (ro := false) hlen
    have hs2 := hs1.mono (h' := h ++ [.rows 5 35 false (l.map Done.cs)] ++ [.rows 5 35 false (l.map Done.cs)]) ⟨_, rfl⟩
    have s3 := Sl.last (h := h ++ [.rows 5 35 false (l.map Done.cs)] ++ [.rows 5 35 false (l.map Done.cs)]) (R := 5) (e := 35) (ro := false) hlen
    suffices hk : ∃ h', _ = some (V.bool true, h') from hk.imp fun h' hh => E_laws_FnExactGuardOwn hh
    · rw [laws_szDoneS hn, if_pos hc]
      simp only [cal_s, eI_int]
      rw [br_neg (by omega), laws_toDoneS hs hl hc]
      simp only [cal_s, eS_sl]
      rw [spec_GuardOwn s1 hc]
      simp only [cal_s, eB_b]
      rw [laws_toDoneS hs1 (by simp; omega) hc]
      simp only [cal_s, eS_sl]
      rw [impl_GuardOwn s2 hc]
      simp only [cal_s, eB_b]
      rw [laws_toDoneS hs2 (by simp; omega) hc]
      simp only [cal_s, eS_sl]
      rw [laws_eqDoneS (s2.mono ⟨_, rfl⟩) s3 hc]
      cases guardBack 3 l <;> simp
  · suffices hk : ∃ h', _ = some (V.bool true, h') from hk.imp fun h' hh => E_laws_FnExactGuardOwn hh
    · rw [laws_szDoneS hn, if_neg hc]
      simp only [cal_s, eI_int]
      rw [br_pos (by omega)]
      exact ⟨_, rfl⟩
theorem main_FnExactGuardOwn {x : V} (hx : ArgV Try.prog h 12 22 x) : ∃ h', evl h.length 6 [x] h = some (.bool true, h') := by
  obtain ⟨a, m, c, l, rfl, hs, hm⟩ := av_DoneS (n := 8) hx
  exact law_FnExactGuardOwn hs hm (Nat.le_refl _)

theorem law_FnExactGuardReads {l : List Done} {a : Option (Nat × Nat)} {n : Nat} {c : Option Nat} (hs : Sl h (l.map Done.cs) a n) (hn : n ≤ maxLen) (hl : lo ≤ h.length) :
    ∃ h', evl lo 7 [.sl 5 a n c] h = some (.bool true, h') := by
  by_cases hc : n ≤ 1048576
  · have hlen : n = (l.map Done.cs).length := hs.len
    have s1 := Sl.last (h := h) (R := 5) (e := 35) (ro := false) hlen
    have hs1 := hs.mono (h' := h ++ [.rows 5 35 false (l.map Done.cs)]) ⟨_, rfl⟩
    have s2 := Sl.last (h := h ++ [.rows 5 35 false (l.map Done.cs)]) (R := 5) (e := 35) (ro := false) hlen
    have hs2 := hs1.mono (h' := h ++ [.rows 5 35 false (l.map Done.cs)] ++ [.rows 5 35 false (l.map Done.cs)]) ⟨_, rfl⟩
    have s3 := Sl.last (h := h ++ [.rows 5 35 false (l.map Done.cs)] ++ [.rows 5 35 false (l.map Done.cs)]) (R := 5) (e := 35) (ro := false) hlen
    suffices hk : ∃ h', _ = some (V.bool true, h') from hk.imp fun h' hh => E_laws_FnExactGuardReads hh
    · rw [laws_szDoneS hn, if_pos hc]
      simp only [cal_s, eI_int]
      rw [br_neg (by omega), laws_toDoneS hs hl hc]
      simp only [cal_s, eS_sl]
      rw [spec_GuardReads s1 hc]
      simp only [cal_s, eB_b]
      rw [laws_toDoneS hs1 (by simp; omega) hc]
      simp only [cal_s, eS_sl]
      rw [impl_GuardReads s2 hc]
      simp only [cal_s, eB_b]
      rw [laws_toDoneS hs2 (by simp; omega) hc]
      simp only [cal_s, eS_sl]
      rw [laws_eqDoneS (s2.mono ⟨_, rfl⟩) s3 hc]
      cases guardBack 2 l <;> simp
  · suffices hk : ∃ h', _ = some (V.bool true, h') from hk.imp fun h' hh => E_laws_FnExactGuardReads hh
    · rw [laws_szDoneS hn, if_neg hc]
      simp only [cal_s, eI_int]
      rw [br_pos (by omega)]
      exact ⟨_, rfl⟩
theorem main_FnExactGuardReads {x : V} (hx : ArgV Try.prog h 12 22 x) : ∃ h', evl h.length 7 [x] h = some (.bool true, h') := by
  obtain ⟨a, m, c, l, rfl, hs, hm⟩ := av_DoneS (n := 8) hx
  exact law_FnExactGuardReads hs hm (Nat.le_refl _)
end
end Go.Proofs.Ytfknhpajlfiliaa
