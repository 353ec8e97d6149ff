/- Regions whose order the model draws: one more operation. -/
import Derived.Test.YtfbhdjkeofleiaaDoorTeeT
namespace Go.Proofs.YtfbhdjkeofleiaaDoor.T
open Go
set_option linter.unusedVariables false
set_option linter.unusedSimpArgs false
set_option linter.unnecessarySimpa false

theorem HRel.ahead {ρ : Rho} {h h' : Heap} {w : World} (hh : HRel ρ h w) (hl : h.length ≤ h'.length) (hs : ∀ b, b < h.length → h'[b]? = h[b]?) : HRel ρ h' w where
  dom := fun b e hb => ⟨Nat.lt_of_lt_of_le (hh.dom b e hb).1 hl, (hh.dom b e hb).2⟩
  blk := fun b e k hb hk => hh.blk b e k hb (by rw [← hs b (hh.dom b e hb).1]; exact hk)
  inj := fun b b' e e' h1 h2 hr hne => by
    have s1 := hs b (hh.dom b e h1).1
    have s2 := hs b' (hh.dom b' e' h2).1
    rcases hh.inj b b' e e' h1 h2 hr hne with h | h | ⟨⟨x, y, z, h⟩, ⟨x', y', z', h'⟩⟩
    · exact .inl (by unfold isDead at *; rw [s1]; exact h)
    · exact .inr (.inl (by unfold isDead at *; rw [s2]; exact h))
    · exact .inr (.inr ⟨⟨x, y, z, by rw [s1]; exact h⟩, ⟨x', y', z', by rw [s2]; exact h'⟩⟩)
theorem FRel.ahead {ρ : Rho} {β : Bet} {bx bx' : List (Nat × List V)} {w : World} (hf : FRel ρ β bx w) (hs : ∀ t row, lookB bx t = some row → lookB bx' t = some row) : FRel ρ β bx' w :=
  ⟨fun t r hr => by obtain ⟨row, cs, el, h1, h2, h3⟩ := hf.has t r hr; exact ⟨row, cs, el, hs t row h1, h2, h3⟩, hf.lt, hf.inj, hf.off⟩

section
variable {P : Program} {X : Ctx} {lo base nt : Nat} {ρ0 : Rho} {β0 : Bet} {w0 : World} {all : List Oper} {cl : Nat → Bool} {S : Nat → St} (hV : Env P X lo base nt ρ0 β0 w0 all cl S)

include hV in
theorem advance {L : Nat → Prop} {ρ : Rho} {β : Bet} {w : World} : ∀ (d p : Nat), all.length - p = d → p ≤ all.length → (∀ j, j < p → Bar all cl j → L j) → (∀ j, p ≤ j → Bar all cl j → ¬ L j) → HRel ρ (S p).h w → FRel ρ β (S p).bx w →
    ∃ q, q ≤ all.length ∧ (q < all.length → Bar all cl q ∧ ¬ L q) ∧ (∀ j, j < q → Bar all cl j → L j) ∧ HRel ρ (S q).h w ∧ FRel ρ β (S q).bx w := by
  intro d
  induction d with
  | zero => intro p hd hp h1 h2 hh hf; exact ⟨p, hp, fun h => by omega, h1, hh, hf⟩
  | succ d ih =>
    intro p hd hp h1 h2 hh hf
    by_cases hb : Bar all cl p
    · exact ⟨p, hp, fun _ => ⟨hb, h2 p (Nat.le_refl _) hb⟩, h1, hh, hf⟩
    · refine ih (p + 1) (by omega) (by omega) (fun j hj hbj => ?_) (fun j hj => h2 j (by omega)) (hh.ahead (hV.len p (by omega)) (hV.same p (by omega) hb)) (hf.ahead fun t row ht => ?_)
      · rcases Nat.lt_or_ge j p with h | h
        · exact h1 j h hbj
        · have : j = p := by omega
          subst this; exact absurd hbj hb
      · exact hV.bx_same (Nat.le_succ p) (by omega) (fun k h3 h4 => by have : k = p := by omega
                                                                       subst this; exact hb) ht

variable {L : Nat → Prop} {q : Nat} {ρ : Rho} {β : Bet} {a : Act} {w : World} (hI : Inv lo base nt ρ0 β0 w0 all cl S L q ρ β a w)
variable (hcl : ∀ (i : Nat) (o : Oper), all[i]? = some o → L i → ∀ e ∈ o.after.toList, bindsE e = true → L e.on)
variable {i : Nat} {o : Oper} (ho : all[i]? = some o) (hready : ∀ e ∈ o.after.toList, bindsE e = true → L e.on) (hn : ¬ L i)

include hV hcl ho hready hn in
theorem bar_cmp {j : Nat} (hb : Bar all cl j) (hi : inert o = false) (hci : cl i = false) (hne : j ≠ i) : L j ↔ j < i := by
  obtain ⟨hf, ⟨p, hp, hpi⟩, hpc⟩ := hb
  exact cmp_listed hV.G hcl ho hp hready hn hne (.inr (free_spec hf ho (Ne.symm hne) hi hci))
include hV hI hcl ho hready hn in
theorem bar_now (hb : Bar all cl i) : i = q := by
  have hi : inert o = false := by obtain ⟨_, ⟨p, hp, hpi⟩, _⟩ := hb; rw [ho] at hp; injection hp with hp; subst hp; exact hpi
  have hci : cl i = false := hb.2.2
  have hil : i < all.length := (List.getElem?_eq_some_iff.1 ho).1
  rcases Nat.lt_trichotomy i q with h | h | h
  · exact absurd (hI.q3 i h hb) hn
  · exact h
  · obtain ⟨h1, h2⟩ := hI.q2 (by omega)
    exact absurd ((bar_cmp hV hcl ho hready hn h1 hi hci (by omega)).2 h) h2
include hV hI hcl ho hready hn in
theorem calm_now (hb : ¬ Bar all cl i) (hi : inert o = false) (hci : cl i = false) : i < q ∧ ∀ k, i ≤ k → k < q → ¬ Bar all cl k := by
  have hil : i < all.length := (List.getElem?_eq_some_iff.1 ho).1
  have h1 : i < q := by
    rcases Nat.lt_trichotomy i q with h | h | h
    · exact h
    · subst h; exact absurd (hI.q2 hil).1 hb
    · obtain ⟨h1, h2⟩ := hI.q2 (by omega)
      exact absurd ((bar_cmp hV hcl ho hready hn h1 hi hci (by omega)).2 h) h2
  refine ⟨h1, fun k h2 h3 hk => ?_⟩
  have hne : k ≠ i := fun e => by subst e; exact hb hk
  have := (bar_cmp hV hcl ho hready hn hk hi hci hne).1 (hI.q3 k h3 hk)
  omega

include hV hI hcl ho hready hn in
/-- behind a barrier -/
theorem inv_bar (hb : Bar all cl i) {ρ2 : Rho} {β2 : Bet} {a' : Act} {w' : World} (hh : HRel ρ2 (S (i + 1)).h w') (hf : FRel ρ2 β2 (S (i + 1)).bx w')
    (hs : ∀ t p, p ≤ all.length → (∀ j, Wr all j t → ((L j ∨ j = i) ↔ j < p)) → SV ρ2 β2 (look (S p).s t) (a'.tmps.getD t undef)) (own : ∀ t r, β2 t = some r → base ≤ r) (hB : base ≤ w'.heap.size) (hnt : a'.tmps.size = nt) (hdf : a'.defers = [])
    (hx : Ext0 lo base ρ0 (S 0).h.length w0 ρ2 w') (htot : ∀ j, j < all.length → (L j ∨ j = i) → ∀ b, (S j).h.length ≤ b → b < (S (j + 1)).h.length → ∃ e, ρ2 b = some e)
    (hids : ∀ b e, ρ2 b = some e → b < (S 0).h.length ∨ ∃ j, j < all.length ∧ (L j ∨ j = i) ∧ (S j).h.length ≤ b ∧ b < (S (j + 1)).h.length)
    (hbxs : ∀ t r, β2 t = some r → BxOk all cl S β0 (fun j => L j ∨ j = i) t) :
    ∃ q', Inv lo base nt ρ0 β0 w0 all cl S (fun j => L j ∨ j = i) q' ρ2 β2 a' w' := by
  have hil : i < all.length := (List.getElem?_eq_some_iff.1 ho).1
  have hi : inert o = false := by obtain ⟨_, ⟨p, hp, hpi⟩, _⟩ := hb; rw [ho] at hp; injection hp with hp; subst hp; exact hpi
  have hci : cl i = false := hb.2.2
  have hq := bar_now hV hI hcl ho hready hn hb
  obtain ⟨q', g1, g2, g3, g4, g5⟩ := advance hV (L := fun j => L j ∨ j = i) (ρ := ρ2) (β := β2) (w := w') _ (i + 1) rfl hil (fun j hj hbj => by
      by_cases e : j = i
      · exact .inr e
      · exact .inl (hI.q3 j (by omega) hbj)) (fun j hj hbj => by
      rintro (h | h)
      · have := (bar_cmp hV hcl ho hready hn hbj hi hci (by omega)).1 h; omega
      · omega) hh hf
  exact ⟨q', g1, g2, g3, g4, g5, hs, own, hB, hnt, hdf, hx, htot, hids, hbxs⟩

include hI in
/-- behind another -/
theorem inv_non (hb : ¬ Bar all cl i) {ρ2 : Rho} {β2 : Bet} {a' : Act} {w' : World} (hh : HRel ρ2 (S q).h w') (hf : FRel ρ2 β2 (S q).bx w')
    (hs : ∀ t p, p ≤ all.length → (∀ j, Wr all j t → ((L j ∨ j = i) ↔ j < p)) → SV ρ2 β2 (look (S p).s t) (a'.tmps.getD t undef)) (own : ∀ t r, β2 t = some r → base ≤ r) (hB : base ≤ w'.heap.size) (hnt : a'.tmps.size = nt) (hdf : a'.defers = [])
    (hx : Ext0 lo base ρ0 (S 0).h.length w0 ρ2 w') (htot : ∀ j, j < all.length → (L j ∨ j = i) → ∀ b, (S j).h.length ≤ b → b < (S (j + 1)).h.length → ∃ e, ρ2 b = some e)
    (hids : ∀ b e, ρ2 b = some e → b < (S 0).h.length ∨ ∃ j, j < all.length ∧ (L j ∨ j = i) ∧ (S j).h.length ≤ b ∧ b < (S (j + 1)).h.length)
    (hbxs : ∀ t r, β2 t = some r → BxOk all cl S β0 (fun j => L j ∨ j = i) t) :
    ∃ q', Inv lo base nt ρ0 β0 w0 all cl S (fun j => L j ∨ j = i) q' ρ2 β2 a' w' :=
  ⟨q, hI.q1, fun h => ⟨(hI.q2 h).1, fun hL => hL.elim (hI.q2 h).2 fun e => hb (e ▸ (hI.q2 h).1)⟩, fun j hj hbj => .inl (hI.q3 j hj hbj), hh, hf, hs, own, hB, hnt, hdf, hx, htot, hids, hbxs⟩

include hI in
theorem put_size {c : Value} : (a.put o.dst c).tmps.size = nt ∧ (a.put o.dst c).defers = [] := by
  cases o.dst <;> simp [Act.put, hI.nt, hI.df]

include hV hI hcl ho hready hn in
theorem inv_skip (hS : S (i + 1) = putS (S i) o.dst (.tup [])) : ∃ q', Inv lo base nt ρ0 β0 w0 all cl S (fun j => L j ∨ j = i) q' ρ β (a.put o.dst undef) w := by
  have hh : (S (i + 1)).h = (S i).h := by rw [hS, putS_h]
  have hbx : (S (i + 1)).bx = (S i).bx := by rw [hS, putS_bx]
  have hs := slots_next hV hI hcl ho hready hn hS rfl (Rle.refl ρ) (Ble.refl β) (c := undef) (SV.of (by simp [VR, VRs, undef]))
  have htot : ∀ j, j < all.length → (L j ∨ j = i) → ∀ b, (S j).h.length ≤ b → b < (S (j + 1)).h.length → ∃ e, ρ b = some e := fun j hj hL b h1 h2 => by
    rcases hL with hL | rfl
    · exact hI.tot j hj hL b h1 h2
    · rw [hh] at h2; omega
  have hids : ∀ b e, ρ b = some e → b < (S 0).h.length ∨ ∃ j, j < all.length ∧ (L j ∨ j = i) ∧ (S j).h.length ≤ b ∧ b < (S (j + 1)).h.length := fun b e hb =>
    (hI.ids b e hb).imp id fun ⟨j, h1, h2, h3⟩ => ⟨j, h1, .inl h2, h3⟩
  have hbxs : ∀ t r, β t = some r → BxOk all cl S β0 (fun j => L j ∨ j = i) t := fun t r hb => (hI.bxs t r hb).more
  by_cases hb : Bar all cl i
  · have hq := bar_now hV hI hcl ho hready hn hb
    exact inv_bar hV hI hcl ho hready hn hb (by rw [hh, hq]; exact hI.h) (by rw [hbx, hq]; exact hI.f) hs hI.own hI.hB (put_size hI).1 (put_size hI).2 hI.x htot hids hbxs
  · exact inv_non hI hb hI.h hI.f hs hI.own hI.hB (put_size hI).1 (put_size hI).2 hI.x htot hids hbxs
end
end Go.Proofs.YtfbhdjkeofleiaaDoor.T
