/- T against the model: maps. -/
import Derived.Test.YtfbhdjkeofleiaaDoorTeeI
namespace Go.Proofs.YtfbhdjkeofleiaaDoor.T
open Go
set_option linter.unusedVariables false
set_option linter.unusedSimpArgs false
set_option linter.unnecessarySimpa false

def posOf (key : V) : List (V × V) → Option (Option Nat)
  | [] => some none
  | (x, v) :: r => match eqV key x with
    | some true => some (some 0)
    | some false => match posOf key r with | some p => some (p.map (· + 1)) | none => none
    | none => none
theorem kvFind_pos {key : V} : ∀ {kv : List (V × V)} {f : Option V}, kvFind key kv = some f → ∃ p, posOf key kv = some p ∧ (match p with | none => f = none | some i => ∃ x v, kv[i]? = some (x, v) ∧ f = some v)
  | [], f, h => by simp [kvFind] at h; subst h; exact ⟨none, rfl, rfl⟩
  | (x, v) :: r, f, h => by
    simp only [kvFind] at h
    simp only [posOf]
    cases hq : eqV key x with
    | none => simp [hq] at h
    | some b =>
      cases b with
      | true => simp [hq] at h; exact ⟨some 0, rfl, x, v, by simp, h.symm⟩
      | false =>
        simp [hq] at h
        obtain ⟨p, h1, h2⟩ := kvFind_pos h
        refine ⟨p.map (· + 1), by simp [h1], ?_⟩
        cases p with
        | none => exact h2
        | some i => simpa using h2
theorem kvSet_pos {key val : V} : ∀ {kv kv' : List (V × V)}, kvSet key val kv = some kv' → ∃ p, posOf key kv = some p ∧ (match p with | none => kv' = kv ++ [(key, val)] | some i => (∃ x v, kv[i]? = some (x, v) ∧ eqV key x = some true) ∧ kv' = kv.set i (key, val))
  | [], kv', h => by simp [kvSet] at h; subst h; exact ⟨none, rfl, rfl⟩
  | (x, v) :: r, kv', h => by
    simp only [kvSet] at h
    simp only [posOf]
    cases hq : eqV key x with
    | none => simp [hq] at h
    | some b =>
      cases b with
      | true => simp [hq] at h; exact ⟨some 0, rfl, ⟨x, v, by simp, hq⟩, by simp [h]⟩
      | false =>
        simp only [hq] at h
        split at h
        · rename_i l hl
          injection h with h; subst h
          obtain ⟨p, h1, h2⟩ := kvSet_pos hl
          refine ⟨p.map (· + 1), by simp [h1], ?_⟩
          cases p with
          | none => simp only at h2 ⊢; rw [h2]; rfl
          | some i => simp only [Option.map_some] at h2 ⊢; exact ⟨by simpa using h2.1, by rw [h2.2]; rfl⟩
        · cases h

section
variable {P : Program} {ρ : Rho}
theorem KVR.get : ∀ {kv : List (V × V)} {es : List MapEntry}, KVR ρ kv es → ∀ (i : Nat) (p : V × V), kv[i]? = some p → ∃ e, es[i]? = some e ∧ VR ρ p.1 e.key ∧ VR ρ p.2 e.val
  | [], es, h, i, p, hp => by simp at hp
  | (k, v) :: r, es, h, i, p, hp => by
    simp only [KVR] at h
    obtain ⟨e, t, rfl, h1, h2, h3⟩ := h
    cases i with
    | zero => simp at hp; subst hp; exact ⟨e, by simp, h1, h2⟩
    | succ i => simpa using KVR.get h3 i p (by simpa using hp)
theorem KVR.length : ∀ {kv : List (V × V)} {es : List MapEntry}, KVR ρ kv es → kv.length = es.length
  | [], es, h => by simp only [KVR] at h; subst h; rfl
  | (k, v) :: r, es, h => by
    simp only [KVR] at h
    obtain ⟨e, t, rfl, h1, h2, h3⟩ := h
    simp [KVR.length h3]
theorem KVR.of_get : ∀ {kv : List (V × V)} {es : List MapEntry}, kv.length = es.length → (∀ (i : Nat) (p : V × V), kv[i]? = some p → ∃ e, es[i]? = some e ∧ VR ρ p.1 e.key ∧ VR ρ p.2 e.val) → KVR ρ kv es
  | [], es, hl, _ => by
    have : es = [] := List.eq_nil_of_length_eq_zero (by simpa using hl.symm)
    subst this; simp [KVR]
  | (k, v) :: r, [], hl, _ => by simp at hl
  | (k, v) :: r, e :: es, hl, h => by
    obtain ⟨e', h1, h2, h3⟩ := h 0 (k, v) (by simp)
    simp at h1; subst h1
    simp only [KVR]
    exact ⟨_, _, rfl, h2, h3, KVR.of_get (by simpa using hl) fun i p hp => by simpa using h (i + 1) p (by simpa using hp)⟩

theorem eqC_true {x y : V} (h : eqC x y = some true) {c d : Value} (hx : VR ρ x c) (hy : VR ρ y d) : c = d ∧ ∀ n, Instr.sameBits n d c = true := by
  unfold eqC at h
  split at h
  · rename_i k a k' b
    split at h
    · rename_i hk
      have hk := of_decide_eq_true hk; subst hk
      simp at h; subst h
      simp only [VR] at hx hy; subst hx; subst hy
      exact ⟨rfl, fun n => by cases n <;> simp [Instr.sameBits]⟩
    · cases h
  · simp at h; subst h
    simp only [VR] at hx hy; subst hx; subst hy
    exact ⟨rfl, fun n => by cases n <;> simp [Instr.sameBits]⟩
  · rename_i a b
    simp at h
    have : a = b := by
      rw [ByteArray.toList_eq, ByteArray.toList_eq] at h
      obtain ⟨⟨a⟩⟩ := a; obtain ⟨⟨b⟩⟩ := b
      simp at h; rw [h]
    subst this
    simp only [VR] at hx hy; subst hx; subst hy
    exact ⟨rfl, fun n => by cases n <;> simp [Instr.sameBits, beq_toListBytes]⟩
  · cases h
theorem eqVs_true : ∀ {xs ys : List V}, eqVs xs ys = some true → ∀ {cs ds : List Value}, VRs ρ xs cs → VRs ρ ys ds → cs = ds ∧ ∀ n, ((ds.zip cs).all fun (x, y) => Instr.sameBits n x y) = true
  | [], [], h, cs, ds, hx, hy => by simp only [VRs] at hx hy; subst hx; subst hy; exact ⟨rfl, fun n => rfl⟩
  | x :: xs, y :: ys, h, cs, ds, hx, hy => by
    simp only [eqVs] at h
    split at h
    · rename_i a b h1 h2
      simp only [Option.some.injEq, Bool.and_eq_true] at h
      obtain ⟨rfl, rfl⟩ := h
      simp only [VRs] at hx hy
      obtain ⟨c, cs', rfl, k1, k2⟩ := hx
      obtain ⟨d, ds', rfl, k3, k4⟩ := hy
      obtain ⟨g1, g2⟩ := eqC_true h1 k1 k3
      obtain ⟨g3, g4⟩ := eqVs_true h2 k2 k4
      exact ⟨by rw [g1, g3], fun n => by simp [g2 n]; simpa using g4 n⟩
    · cases h
  | [], y :: ys, h, _, _, _, _ => by simp [eqVs] at h
  | x :: xs, [], h, _, _, _, _ => by simp [eqVs] at h
theorem eqV_true {x y : V} (h : eqV x y = some true) {c d : Value} (hx : VR ρ x c) (hy : VR ρ y d) : c = d ∧ Instr.sameBits 10000 d c = true := by
  unfold eqV at h
  split at h
  · simp only [VR] at hx hy
    obtain ⟨cs, rfl, k1⟩ := hx
    obtain ⟨ds, rfl, k2⟩ := hy
    obtain ⟨g1, g2⟩ := eqVs_true h k1 k2
    have : cs = ds := by cases cs; cases ds; simpa using g1
    refine ⟨by rw [this], ?_⟩
    subst this
    show (cs.size == cs.size && (cs.toList.zip cs.toList).all fun (x, y) => Instr.sameBits 9999 x y) = true
    rw [g2 9999]; simp
  · exact ⟨(eqC_true h hx hy).1, (eqC_true h hx hy).2 10000⟩

theorem shOk_cases {s : Sh} {x : V} (h : shOk s x = true) : (∃ k n, s = .int k ∧ x = .int k n) ∨ (s = .bool ∧ ∃ b, x = .bool b) ∨ (s = .str ∧ ∃ b, x = .str b) := by
  unfold shOk at h
  split at h
  · have h := of_decide_eq_true h; subst h; exact .inl ⟨_, _, rfl, rfl⟩
  · exact .inr (.inl ⟨rfl, _, rfl⟩)
  · exact .inr (.inr ⟨rfl, _, rfl⟩)
  · cases h
theorem checkKey_plain (n : Nat) (b : Bool) {q : TypeId} {d : TypeDesc} (hu : P.underlying q = some d) (c : Value) (hd : match d with | .int _ => True | .bool => True | .string => True | _ => False) (w : World) : (Instr.checkKey b (n + 1) q c).run P w = .ok () w := by
  simp only [Instr.checkKey, Sem.run_bind, run_underlying hu, Result.andThen_ok]
  cases d <;> simp at hd <;> cases c <;> rfl
/-- What a key of T is good for. -/
theorem checkKey_run {X : Ctx} (hX : X.ty = tyOf P) (hE : ∀ t, X.cmp t = true → EqOk P t) {q : TypeId} {x : V} {c : Value} (hk : keyOk X q x = true) (hx : VR ρ x c) (b : Bool) (w : World) : (Instr.checkKey b 10000 q c).run P w = .ok () w := by
  unfold keyOk at hk
  split at hk
  · simp only [Bool.and_eq_true] at hk
    simp only [VR] at hx
    obtain ⟨cs, rfl, hx⟩ := hx
    rw [hX] at hk
    exact (hE q hk.1).key ρ w _ cs b hk.2 hx
  · rw [hX] at hk
    have hc := cell_of (P := P) (t := q) rfl
    rcases shOk_cases hk with ⟨k, n, hs, rfl⟩ | ⟨hs, n, rfl⟩ | ⟨hs, n, rfl⟩ <;> rw [hs] at hc <;> exact checkKey_plain 9999 b hc _ trivial w

theorem findNow_pos {kind : TypeDesc} {x : V} {c : Value} (hsame : ∀ y d b, VR ρ y d → eqV x y = some b → Instr.sameNow kind c d = some b) : ∀ {kv : List (V × V)} {es : List MapEntry} {p : Option Nat} (i0 : Nat), posOf x kv = some p → KVR ρ kv es →
    Instr.findNow kind c es i0 = some (p.bind fun i => es[i]?.map fun e => (i0 + i, e.val))
  | [], es, p, i0, h, hk => by
    simp only [KVR] at hk; subst hk
    simp [posOf] at h; subst h; rfl
  | (y, v) :: kv, es, p, i0, h, hk => by
    simp only [KVR] at hk
    obtain ⟨e, t, rfl, h1, h2, h3⟩ := hk
    simp only [posOf] at h
    split at h
    · rename_i hq
      injection h with h; subst h
      simp [Instr.findNow, hsame _ _ _ h1 hq]
    · rename_i hq
      split at h
      · rename_i p' hp
        injection h with h; subst h
        simp only [Instr.findNow, hsame _ _ _ h1 hq]
        rw [findNow_pos hsame (i0 + 1) hp h3]
        cases p' with
        | none => rfl
        | some i => simp [Nat.add_assoc, Nat.add_comm 1 i]
      · cases h
    · cases h
theorem findAsking_pos {q : TypeId} {x : V} {c : Value} (w : World) (hsame : ∀ y d b, VR ρ y d → eqV x y = some b → (Op.equal q c d).run P w = .ok b w) : ∀ {kv : List (V × V)} {es : List MapEntry} {p : Option Nat} (i0 : Nat), posOf x kv = some p → KVR ρ kv es →
    (Instr.findAsking q c es i0).run P w = .ok (p.bind fun i => es[i]?.map fun e => (i0 + i, e.val)) w
  | [], es, p, i0, h, hk => by
    simp only [KVR] at hk; subst hk
    simp [posOf] at h; subst h; rfl
  | (y, v) :: kv, es, p, i0, h, hk => by
    simp only [KVR] at hk
    obtain ⟨e, t, rfl, h1, h2, h3⟩ := hk
    simp only [posOf] at h
    split at h
    · rename_i hq
      injection h with h; subst h
      simp [Instr.findAsking, hsame _ _ _ h1 hq]
    · rename_i hq
      split at h
      · rename_i p' hp
        injection h with h; subst h
        simp only [Instr.findAsking, Sem.run_bind, hsame _ _ _ h1 hq, Result.andThen_ok, Bool.false_eq_true, if_false]
        rw [findAsking_pos w hsame (i0 + 1) hp h3]
        cases p' with
        | none => rfl
        | some i => simp [Nat.add_assoc, Nat.add_comm 1 i]
      · cases h
    · cases h
theorem eqVs_shOks : ∀ {ss : List Sh} {xs ys : List V} {b : Bool}, shOks ss xs = true → eqVs xs ys = some b → shOks ss ys = true
  | [], [], [], b, h, hq => rfl
  | [], [], y :: ys, b, h, hq => by simp [eqVs] at hq
  | [], x :: xs, ys, b, h, hq => by simp [shOks] at h
  | s :: ss, [], ys, b, h, hq => by simp [shOks] at h
  | s :: ss, x :: xs, [], b, h, hq => by simp [eqVs] at hq
  | s :: ss, x :: xs, y :: ys, b, h, hq => by
    simp only [shOks] at h ⊢
    split at h
    · rename_i h1
      simp only [eqVs] at hq
      split at hq
      · rename_i b1 b2 q1 q2
        rw [eqVs_shOks h q2]
        have : shOk s y = true := by
          unfold eqC at q1
          split at q1
          · split at q1
            · rename_i hk
              have hk := of_decide_eq_true hk; subst hk
              cases s <;> simp [shOk] at h1 ⊢ <;> exact h1
            · cases q1
          · cases s <;> simp [shOk] at h1 ⊢
          · cases s <;> simp [shOk] at h1 ⊢
          · cases q1
        rw [this]
      · cases hq
    · cases h
theorem findKey_run {X : Ctx} (hX : X.ty = tyOf P) (hE : ∀ t, X.cmp t = true → EqOk P t) {q : TypeId} {x : V} {c : Value} (hk : keyOk X q x = true) (hx : VR ρ x c) (w : World) {kv : List (V × V)} {es : List MapEntry} {p : Option Nat} (hp : posOf x kv = some p) (hkv : KVR ρ kv es) :
    (Instr.findKey q c es).run P w = .ok (p.bind fun i => es[i]?.map fun e => (i, e.val)) w := by
  have hz : ∀ p : Option Nat, (p.bind fun i => es[i]?.map fun e => (0 + i, e.val)) = p.bind fun i => es[i]?.map fun e => (i, e.val) := fun p => by simp
  unfold keyOk at hk
  split at hk
  · rename_i xs
    simp only [Bool.and_eq_true] at hk
    simp only [VR] at hx
    obtain ⟨cs, rfl, hx⟩ := hx
    rw [hX] at hk
    have hq := hE q hk.1
    obtain ⟨fs, hu⟩ := hq.kind
    have hsame : ∀ y d b, VR ρ y d → eqV (.agg xs) y = some b → (Op.equal q (.agg cs) d).run P w = .ok b w := by
      intro y d b hy he
      cases y <;> simp only [eqV, eqC] at he <;> (try cases he)
      rename_i ys
      simp only [VR] at hy
      obtain ⟨ds, rfl, hy⟩ := hy
      exact hq.eq ρ w xs ys cs ds b hk.2 (eqVs_shOks hk.2 he) hx hy he
    simp only [Instr.findKey, Sem.run_bind, run_underlying hu, Result.andThen_ok]
    cases es with
    | nil =>
      have := findAsking_pos w hsame 0 hp hkv
      rw [hz] at this
      rw [← this]; rfl
    | cons e es =>
      have h0 : Instr.findNow (.struct fs) (.agg cs) (e :: es) 0 = none := rfl
      have := findAsking_pos w hsame 0 hp hkv
      rw [hz] at this
      rw [h0]
      exact this
  · rename_i hna
    rw [hX] at hk
    have hc := cell_of (P := P) (t := q) rfl
    have key : ∀ kind, P.underlying q = some kind → (∀ y d b, VR ρ y d → eqV x y = some b → Instr.sameNow kind c d = some b) → (Instr.findKey q c es).run P w = .ok (p.bind fun i => es[i]?.map fun e => (i, e.val)) w := by
      intro kind hu hsame
      have := findNow_pos hsame 0 hp hkv
      rw [hz] at this
      simp only [Instr.findKey, Sem.run_bind, run_underlying hu, Result.andThen_ok, this, Sem.run_pure]
    rcases shOk_cases hk with ⟨k, n, hs, rfl⟩ | ⟨hs, n, rfl⟩ | ⟨hs, n, rfl⟩ <;> rw [hs] at hc <;> simp only [VR] at hx <;> subst hx <;> refine key _ hc fun y d b hy he => ?_ <;> cases y <;> simp only [eqV, eqC] at he <;> (try cases he) <;>
      simp only [VR] at hy <;> subst hy
    · split at he
      · rename_i hk
        have hk := of_decide_eq_true hk; subst hk
        simpa [Instr.sameNow] using he
      · cases he
    · rfl
    · simp [Instr.sameNow, beq_toListBytes]
end

section
variable {P : Program} {lo base : Nat} {ρ : Rho} {β : Bet} {σ : St} {a : Act} {w : World} {R : Type} {r : R} {K : V → St → Option R} {X : Ctx}
variable {dst : Option Nat} {ty : TypeId} {pos : String} {after : Array Edge} {guard : Option (Nat × Bool)}

theorem kv_some {h : Heap} {b : Nat} {kv : List (V × V)} (hk : Heap.kv? h b = some kv) : ∃ t, h[b]? = some (.map t kv) := by
  unfold Heap.kv? at hk
  split at hk
  · rename_i t kv' he; injection hk with hk; subst hk; exact ⟨_, he⟩
  · cases hk
theorem okV_of_key {q : TypeId} {x : V} (h : keyOk X q x = true) : okV x = true := by
  unfold keyOk at h
  split at h
  · rfl
  · unfold shOk at h
    split at h <;> (try cases h) <;> rfl
theorem getObj_run {q : Nat} {es : Array MapEntry} {clock : Nat} (h : w.heap[q]? = some (.map es clock)) : (getObj q).run P w = .ok (.map es clock) w := by
  simp [getObj, Sem.run, h]
theorem setObj_run {q : Nat} {es : Array MapEntry} {clock : Nat} (h : w.heap[q]? = some (.map es clock)) (o : Obj) : (setObj q o).run P w = .ok () (setBlk w q o) := by
  simp [setObj, Sem.run, h, setBlk]

theorem do_makeMap (hB : base ≤ w.heap.size) (hs : SRel ρ β σ.s a) (hh : HRel ρ σ.h w) (hf : FRel ρ β σ.bx w) {t : TypeId} {x : Option Operand}
    (hk : opT X lo dst ty (.makeMap t x) σ K = some r) : Does P lo base ρ β σ a w ⟨dst, .makeMap t x, ty, pos, after, guard⟩ K r := by
  simp only [opT] at hk
  split at hk
  · refine ⟨w.alloc (.map #[] 0), .inl ⟨.map (some w.heap.size), ?_, ?_⟩⟩
    · simp [execOp, Instr.makeMap]
    · have hx : Ext lo w.heap.size ρ σ.h w (ρ.set σ.h.length ⟨w.heap.size, 0, 0, 0, 0⟩) (σ.h ++ [.map t []]) (w.alloc (.map #[] 0)) := Ext.alloc hh _ _ _ rfl
      refine ⟨_, _, hk, ρ.set σ.h.length ⟨w.heap.size, 0, 0, 0, 0⟩, β, rfl, ?_, ?_, hf.ext hx, hx.weaken (Nat.le_refl _) hB, Ble.refl _, fun t r h1 h2 => (by rw [h1] at h2; cases h2), noBx⟩
      · exact SV.of (by simp only [VR, Rho.set_same]; exact ⟨_, rfl, rfl⟩)
      · refine hh.alloc _ _ _ rfl ?_
        exact ⟨#[], 0, alloc_new _ _, by simp [KVR]⟩
  · cases hk

theorem do_lookup (hX : X.ty = tyOf P) (hE : ∀ t, X.cmp t = true → EqOk P t) (hs : SRel ρ β σ.s a) (hh : HRel ρ σ.h w) (hf : FRel ρ β σ.bx w) {t : TypeId} {m i : Operand} {ok : Bool}
    (hk : opT X lo dst ty (.lookup t m i ok) σ K = some r) : Does P lo base ρ β σ a w ⟨dst, .lookup t m i ok, ty, pos, after, guard⟩ K r := by
  have hm := ev_rel hs m
  simp only [opT] at hk
  split at hk
  · rename_i q e hty
    rw [hX] at hty
    have hu := map_of hty
    split at hk
    · rename_i m0 r0 he hok
      simp only [Bool.and_eq_true] at hok
      obtain ⟨⟨hok, hz⟩, hkn⟩ := hok
      rw [hX] at hz hkn
      obtain ⟨b, rfl, hk1⟩ := eO_some hk
      obtain ⟨kv, hkv, hk2⟩ := eO_some hk1
      obtain ⟨f, hfnd, hk3⟩ := eO_some hk2
      rw [he] at hm
      obtain ⟨e1, k1, hax⟩ := hm.map
      obtain ⟨t', hkv⟩ := kv_some hkv
      obtain ⟨es, clock, g1, g2⟩ := hh.blk b e1 _ k1 hkv
      have hvi : VR ρ (ev σ.s i) (a.eval i) := (ev_rel hs i).ok (okV_of_key hok)
      obtain ⟨p, p1, p2⟩ := kvFind_pos hfnd
      obtain ⟨ii, dd, hii, hdd, s1, s2, s3, s4, s5⟩ := known_of hkn
      cases hzz : ii.zero with
      | none => rw [s5] at hz; simp [hzz] at hz
      | some z =>
        have hfk := findKey_run hX hE hok hvi w p1 g2
        have hck := checkKey_run hX hE hok hvi es.isEmpty w
        have hzv : VR ρ (mkV (X.ty e).agg (X.ty e).zero) z := by rw [hX]; exact mkV_zero hkn hz hii hzz
        cases p with
        | none =>
          simp only at p2; subst p2
          have hrun : (execOp a.eval ⟨dst, .lookup t m i ok, ty, pos, after, guard⟩).run P w = .ok (.value (if ok then .tuple #[z, .bool false] else z)) w := by
            simp only [execOp, Instr.lookup, Sem.run_bind, run_underlying hu, Result.andThen_ok, hax, getObj_run g1, Sem.run_pure, hck, hfk, Option.bind_none, zeroValue_run hii hzz]
          cases ok with
          | true =>
            simp only at hk3
            rcases eX_some hk3 with ⟨_, h, _⟩ | ⟨_, hk4⟩
            · cases h
            · refine do_value hrun hh hf (SV.of ?_) hk4
              simp only [VR, if_true]
              exact ⟨_, rfl, VRs.cons hzv (VRs.cons VR.bool' VRs.nil)⟩
          | false =>
            simp only at hk3
            obtain ⟨v', hk4, hle⟩ := eVal_some hk3
            exact do_value hrun hh hf (SV.of (hle ρ _ hzv)) hk4
        | some i1 =>
          obtain ⟨x1, v1, q1, rfl⟩ := p2
          obtain ⟨e2, q2, q3, q4⟩ := g2.get _ _ q1
          have hrun : (execOp a.eval ⟨dst, .lookup t m i ok, ty, pos, after, guard⟩).run P w = .ok (.value (if ok then .tuple #[e2.val, .bool true] else e2.val)) w := by
            simp only [execOp, Instr.lookup, Sem.run_bind, run_underlying hu, Result.andThen_ok, hax, getObj_run g1, Sem.run_pure, hck, hfk, Option.bind_some, q2, Option.map_some]
          cases ok with
          | true =>
            simp only at hk3
            rcases eX_some hk3 with ⟨x, h, hk4⟩ | ⟨h, _⟩
            · injection h with h; subst h
              obtain ⟨v', hk5, hle⟩ := eVal_some hk4
              refine do_value hrun hh hf (SV.of ?_) hk5
              simp only [VR, if_true]
              exact ⟨_, rfl, VRs.cons (hle ρ _ q4) (VRs.cons VR.bool' VRs.nil)⟩
            · cases h
          | false =>
            simp only at hk3
            obtain ⟨v', hk4, hle⟩ := eVal_some hk3
            exact do_value hrun hh hf (SV.of (hle ρ _ q4)) hk4
    · cases hk
  · cases hk

theorem map_set (hB : base ≤ w.heap.size) (hX : X.ty = tyOf P) (hE : ∀ t, X.cmp t = true → EqOk P t) (hs : SRel ρ β σ.s a) (hh : HRel ρ σ.h w) (hf : FRel ρ β σ.bx w) {t : TypeId} {m i x : Operand} {o : Oper}
    (ho : execOp a.eval o = do Instr.mapUpdate t (a.eval m) (a.eval i) (a.eval x); pure .skip)
    (hk : (match (X.ty t).ty with
      | .map q _ => match ev σ.s m, okV (ev σ.s x) && keyOk X q (ev σ.s i) with
        | .map r, true => eO r fun b => eO (Heap.kv? σ.h b) fun kv => need (Nat.ble lo b) <| eO (kvSet (ev σ.s i) (ev σ.s x) kv) fun kv' => K (.tup []) { σ with h := σ.h.set b (.map t kv') }
        | _, _ => none
      | _ => none) = some r) : Does P lo base ρ β σ a w o K r := by
  have hm := ev_rel hs m
  split at hk
  · rename_i q e hty
    rw [hX] at hty
    have hu := map_of hty
    split at hk
    · rename_i m0 r0 he hok
      simp only [Bool.and_eq_true] at hok
      obtain ⟨hox, hok⟩ := hok
      obtain ⟨b, rfl, hk1⟩ := eO_some hk
      obtain ⟨kv, hkv, hk2⟩ := eO_some hk1
      obtain ⟨hlo, hk3⟩ := need_some hk2
      have hlo := Nat.le_of_ble_eq_true hlo
      obtain ⟨kv', hset, hk4⟩ := eO_some hk3
      rw [he] at hm
      obtain ⟨e1, k1, hax⟩ := hm.map
      obtain ⟨t', hkv⟩ := kv_some hkv
      obtain ⟨es, clock, g1, g2⟩ := hh.blk b e1 _ k1 hkv
      have hvi : VR ρ (ev σ.s i) (a.eval i) := (ev_rel hs i).ok (okV_of_key hok)
      have hvx : VR ρ (ev σ.s x) (a.eval x) := (ev_rel hs x).ok hox
      obtain ⟨p, p1, p2⟩ := kvSet_pos hset
      have hfk := findKey_run hX hE hok hvi w p1 g2
      have hck := checkKey_run hX hE hok hvi false w
      have hlt : e1.r < w.heap.size := (hh.dom b e1 k1).2
      have fin : ∀ es' clock', (execOp a.eval o).run P w = .ok .skip (setBlk w e1.r (.map es' clock')) → KVR ρ kv' es'.toList → Does P lo base ρ β σ a w o K r := by
        intro es' clock' hrun hkv'
        refine ⟨_, .inr ⟨hrun, _, _, hk4, ρ, β, rfl, SV.of (by simp [VR, VRs, undef]), ?_, ?_, ?_, Ble.refl _, fun t r h1 h2 => (by rw [h1] at h2; cases h2), noBx⟩⟩
        · exact hh.write k1 hkv (by simp) (fun ⟨_, _, _, h⟩ => by rw [hkv] at h; cases h) (fun _ _ _ h => by cases h) setBlk_size (fun r' hr' => setBlk_other hr') ⟨es', clock', setBlk_same hlt, hkv'⟩
        · exact hf.ext (lo := lo) (h := σ.h) (h' := σ.h.set b (.map t kv')) (Ext.write k1 hlo setBlk_size (fun r' hr' => setBlk_other hr') rfl rfl rfl)
        · exact (Ext.write k1 hlo setBlk_size (fun r' hr' => setBlk_other hr') rfl rfl rfl).weaken (Nat.le_refl _) hB
      cases p with
      | none =>
        simp only at p2
        refine fin (es.push { key := a.eval i, val := a.eval x, born := clock }) (clock + 1) ?_ ?_
        · rw [ho]
          simp only [Instr.mapUpdate, Sem.run_bind, run_underlying hu, Result.andThen_ok, hax, getObj_run g1, hck, hfk, Option.bind_none, setObj_run g1, Sem.run_pure]
        · rw [p2]
          refine KVR.of_get (by simp [g2.length]) fun j y hy => ?_
          have hl := g2.length
          by_cases hj : j < kv.length
          · rw [List.getElem?_append_left hj] at hy
            obtain ⟨e3, z1, z2, z3⟩ := g2.get j y hy
            refine ⟨e3, ?_, z2, z3⟩
            rw [Array.toList_push, List.getElem?_append_left (by omega)]
            exact z1
          · have : j = kv.length := by
              have := (List.getElem?_eq_some_iff.1 hy).1
              simp at this; omega
            subst this
            simp at hy; subst hy
            refine ⟨{ key := a.eval i, val := a.eval x, born := clock }, ?_, hvi, hvx⟩
            rw [hl]; simp
      | some i1 =>
        obtain ⟨⟨x1, v1, q1, hq⟩, p2⟩ := p2
        obtain ⟨e2, q2, q3, q4⟩ := g2.get _ _ q1
        obtain ⟨_, hsb⟩ := eqV_true hq hvi q3
        have hsb : Instr.sameBits 10000 (((es[i1]?).map (·.key)).getD (a.eval i)) (a.eval i) = true := by
          simp at q2; simp only [q2, Option.map_some, Option.getD_some]; exact hsb
        refine fin (es.modify i1 fun e => { e with key := a.eval i, val := a.eval x }) clock ?_ ?_
        · rw [ho]
          simp only [Instr.mapUpdate, Sem.run_bind, run_underlying hu, Result.andThen_ok, hax, getObj_run g1, hck, hfk, Option.bind_some, q2, Option.map_some, Instr.keyThatStays, hsb, if_true, setObj_run g1, Sem.run_pure]
        · rw [p2]
          refine KVR.of_get (by simp [g2.length]) fun j y hy => ?_
          rw [List.getElem?_set] at hy
          by_cases hj : i1 = j
          · subst hj
            rw [if_pos rfl] at hy
            split at hy
            · injection hy with hy; subst hy
              refine ⟨{ e2 with key := a.eval i, val := a.eval x }, ?_, hvi, hvx⟩
              simp at q2
              simp [Array.getElem?_modify, q2]
            · cases hy
          · rw [if_neg hj] at hy
            obtain ⟨e3, z1, z2, z3⟩ := g2.get j y hy
            refine ⟨e3, ?_, z2, z3⟩
            simp at z1
            simp [Array.getElem?_modify, hj, z1]
    · cases hk
  · cases hk
theorem do_mapUpdate (hB : base ≤ w.heap.size) (hX : X.ty = tyOf P) (hE : ∀ t, X.cmp t = true → EqOk P t) (hs : SRel ρ β σ.s a) (hh : HRel ρ σ.h w) (hf : FRel ρ β σ.bx w) {t : TypeId} {m i x : Operand}
    (hk : opT X lo dst ty (.mapUpdate t m i x) σ K = some r) : Does P lo base ρ β σ a w ⟨dst, .mapUpdate t m i x, ty, pos, after, guard⟩ K r := map_set hB hX hE hs hh hf rfl hk
theorem do_insert (hB : base ≤ w.heap.size) (hX : X.ty = tyOf P) (hE : ∀ t, X.cmp t = true → EqOk P t) (hs : SRel ρ β σ.s a) (hh : HRel ρ σ.h w) (hf : FRel ρ β σ.bx w) {t : TypeId} {m i x : Operand}
    (hk : opT X lo dst ty (.insert t m i x) σ K = some r) : Does P lo base ρ β σ a w ⟨dst, .insert t m i x, ty, pos, after, guard⟩ K r := map_set hB hX hE hs hh hf rfl hk
end
end Go.Proofs.YtfbhdjkeofleiaaDoor.T
