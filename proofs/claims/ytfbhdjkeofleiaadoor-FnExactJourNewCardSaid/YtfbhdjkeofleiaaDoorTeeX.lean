/- Regions whose order the model draws: every order gives what the text's order gives. -/
import Derived.Test.YtfbhdjkeofleiaaDoorTeeW
namespace Go.Proofs.YtfbhdjkeofleiaaDoor.T
open Go
set_option linter.unusedVariables false
set_option linter.unusedSimpArgs false
set_option linter.unnecessarySimpa false

theorem binds_any (e : Edge) : Region.binds .any e = bindsE e := by
  obtain ⟨on, g⟩ := e
  cases g <;> rfl

section
variable {P : Program} {X : Ctx} {lo base nt : Nat} {ρ0 : Rho} {β0 : Bet} {w0 : World} {ops : Array Oper} {cl : Nat → Bool} {S : Nat → St} (hV : Env P X lo base nt ρ0 β0 w0 ops.toList cl S)
variable (hX : X.ty = tyOf P) (hE : ∀ t, X.cmp t = true → EqOk P t) (hC : SC P X.call)
variable {Q : Exit → Act → World → Prop}

theorem tot_split {n b : Nat} (hn : n ≤ ops.toList.length) (h1 : (S 0).h.length ≤ b) (h2 : b < (S n).h.length) : ∃ j, j < n ∧ (S j).h.length ≤ b ∧ b < (S (j + 1)).h.length := by
  induction n with
  | zero => omega
  | succ n ih =>
    by_cases h : b < (S n).h.length
    · obtain ⟨j, g1, g2⟩ := ih (by omega) h
      exact ⟨j, by omega, g2⟩
    · exact ⟨n, by omega, by omega, h2⟩

include hV in
/-- All is done. -/
theorem inv_end {L : Nat → Prop} {q : Nat} {ρ : Rho} {β : Bet} {a : Act} {w : World} (hI : Inv lo base nt ρ0 β0 w0 ops.toList cl S L q ρ β a w) (hall : ∀ j, j < ops.toList.length → L j) :
    Ok lo base nt ρ β (S ops.toList.length) a w ∧ Ext lo base ρ0 (S 0).h w0 ρ (S ops.toList.length).h w := by
  have hq : q = ops.toList.length := by
    rcases Nat.lt_or_ge q ops.toList.length with h | h
    · exact absurd (hall q h) (hI.q2 h).2
    · exact Nat.le_antisymm hI.q1 h
  have h1 := hI.h
  have h2 := hI.f
  rw [hq] at h1 h2
  obtain ⟨ρt, βt, at', wt, hot, hmt⟩ := hV.ok _ (Nat.le_refl _)
  refine ⟨⟨fun t => ?_, h1, h2, hI.own, hI.hB, hot.hlo, hI.nt, hI.df⟩, ⟨hI.x.rle, hI.x.new, hI.x.frame, hI.x.size, hI.x.os, hI.x.tape, hI.x.output, hV.len_le (Nat.zero_le _) (Nat.le_refl _), hmt.1.pres, fun b g1 g2 => ?_⟩⟩
  · refine hI.s t _ (Nat.le_refl _) fun j hw => ?_
    obtain ⟨p, hp, _⟩ := hw
    have hj := (List.getElem?_eq_some_iff.1 hp).1
    exact ⟨fun _ => hj, fun _ => hall j hj⟩
  · obtain ⟨j, g3, g4, g5⟩ := tot_split (Nat.le_refl _) g1 g2
    exact hI.tot j g3 (hall j g3) b g4 g5

include hV hX hE hC in
theorem any_ok (hend : ∀ (i : Nat) (o : Oper), ops.toList[i]? = some o → cl i = true → ∀ a, loadTmp o = some a → early (aheadL [] ops.toList) ops.toList cl i a = true ∨ ∃ u j, look (S i).s a = .lp u j) (hQ : ∀ ρ' β' a' w', Ok lo base nt ρ' β' (S ops.toList.length) a' w' → Ext lo base ρ0 (S 0).h w0 ρ' (S ops.toList.length).h w' → Q .normal a' w') :
    ∀ (fuel : Nat) (listed : Array Bool) (q : Nat) (ρ : Rho) (β : Bet) (a : Act) (w : World), listed.size = ops.size → listed.toList.count false ≤ fuel →
      (∀ (i : Nat) (o : Oper), ops.toList[i]? = some o → listed.getD i false = true → ∀ e ∈ o.after.toList, bindsE e = true → listed.getD e.on false = true) →
      Inv lo base nt ρ0 β0 w0 ops.toList cl S (fun j => listed.getD j false = true) q ρ β a w → wpAny P .any ops Q fuel listed a w := by
  have hnone : ∀ (listed : Array Bool), listed.size = ops.size → (∀ (i : Nat) (o : Oper), ops.toList[i]? = some o → listed.getD i false = true → ∀ e ∈ o.after.toList, bindsE e = true → listed.getD e.on false = true) → Region.ready .any ops listed = [] → ∀ j, j < ops.toList.length → listed.getD j false = true := by
    intro listed hsz hcl hr j
    induction j using Nat.strongRecOn with
    | _ j ih =>
      intro hj
      cases hl : listed.getD j false with
      | true => rfl
      | false =>
        exfalso
        have hj' : j < ops.size := by simpa using hj
        have hlt : j < listed.size := by omega
        have hmem : j ∈ Region.ready .any ops listed := by
          unfold Region.ready
          rw [List.mem_filter]
          refine ⟨by simpa using hj', ?_⟩
          have h1 : listed.getD j true = false := by
            rw [Array.getD_eq_getD_getElem?, Array.getElem?_eq_getElem hlt] at hl ⊢
            simpa using hl
          rw [h1]
          have h2 : ops[j]? = some ops[j] := Array.getElem?_eq_getElem hj'
          rw [h2]
          simp only [Option.map_some, Option.getD_some, Bool.not_false, Bool.true_and]
          rw [Array.all_eq_true']
          intro e he
          cases hb : bindsE e with
          | false => rw [binds_any, hb]; rfl
          | true =>
            have hlt2 := hV.G.edge j ops[j] (by simpa using h2) e (by simpa using he) hb
            rw [ih e.on hlt2 (by omega)]
            simp
        rw [hr] at hmem
        cases hmem
  intro fuel
  induction fuel with
  | zero =>
    intro listed q ρ β a w hsz hcnt hcl hI
    have hall : ∀ j, j < ops.toList.length → listed.getD j false = true := fun j hj => by
      have hj' : j < listed.size := by have : j < ops.size := by simpa using hj
                                       omega
      have h0 : listed.toList.count false = 0 := by omega
      rw [List.count_eq_zero] at h0
      rw [Array.getD_eq_getD_getElem?, Array.getElem?_eq_getElem hj']
      cases hv : listed[j] with
      | true => rfl
      | false => exact absurd (by rw [← hv]; simp) h0
    refine ⟨?_, ?_⟩
    · unfold Region.ready
      rw [List.filter_eq_nil_iff]
      intro j hj
      have hj2 : j < ops.size := by simpa using hj
      have := hall j (by simpa using hj2)
      have hj' : j < listed.size := by omega
      rw [Array.getD_eq_getD_getElem?, Array.getElem?_eq_getElem hj'] at this
      have h1 : listed.getD j true = true := by rw [Array.getD_eq_getD_getElem?, Array.getElem?_eq_getElem hj']; simpa using this
      rw [h1]; simp
    · obtain ⟨h1, h2⟩ := inv_end hV hI hall
      exact hQ _ _ _ _ h1 h2
  | succ fuel ih =>
    intro listed q ρ β a w hsz hcnt hcl hI
    refine ⟨fun hr => ?_, fun i hi => ?_⟩
    · obtain ⟨h1, h2⟩ := inv_end hV hI (hnone listed hsz hcl hr)
      exact hQ _ _ _ _ h1 h2
    · unfold Region.ready at hi
      rw [List.mem_filter] at hi
      obtain ⟨hi1, hi2⟩ := hi
      have hil : i < ops.size := by simpa using hi1
      have hil' : i < listed.size := by omega
      have hg : ops[i]? = some ops[i] := Array.getElem?_eq_getElem hil
      have ho : ops.toList[i]? = some ops[i] := by simpa using hg
      rw [Bool.and_eq_true] at hi2
      obtain ⟨hi3, hi4⟩ := hi2
      have hli : listed[i] = false := by
        rw [Array.getD_eq_getD_getElem?, Array.getElem?_eq_getElem hil'] at hi3
        simpa using hi3
      have hn : ¬ (listed.getD i false = true) := by
        rw [Array.getD_eq_getD_getElem?, Array.getElem?_eq_getElem hil']; simp [hli]
      have hready : ∀ e ∈ (ops[i]).after.toList, bindsE e = true → listed.getD e.on false = true := by
        rw [hg] at hi4
        simp only [Option.map_some, Option.getD_some] at hi4
        rw [Array.all_eq_true'] at hi4
        intro e he hb
        have := hi4 e (by simpa using he)
        rw [binds_any, hb] at this
        simpa using this
      -- the operation is listed
      have hget : ∀ j, (listed.setIfInBounds i true).getD j false = true ↔ (listed.getD j false = true ∨ j = i) := by
        intro j
        rw [Array.getD_eq_getD_getElem?, Array.getD_eq_getD_getElem?, Array.getElem?_setIfInBounds]
        by_cases h : i = j
        · subst h; simp [hil']
        · rw [if_neg h]
          constructor
          · exact .inl
          · rintro (h1 | h1)
            · exact h1
            · exact absurd h1.symm h
      have hcnt' : (listed.setIfInBounds i true).toList.count false ≤ fuel := by
        rw [Array.toList_setIfInBounds, List.count_set (by simpa using hil')]
        have hpos : 0 < listed.toList.count false := List.count_pos_iff.2 (by rw [← hli]; simp)
        simp [hli]
        simp at hcnt hpos
        omega
      have hcl' : ∀ (j : Nat) (o : Oper), ops.toList[j]? = some o → (listed.setIfInBounds i true).getD j false = true → ∀ e ∈ o.after.toList, bindsE e = true → (listed.setIfInBounds i true).getD e.on false = true := by
        intro j o hj hl e he hb
        rw [hget] at hl ⊢
        rcases hl with hl | rfl
        · exact .inl (hcl j o hj hl e he hb)
        · rw [ho] at hj; injection hj with hj; subst hj
          exact .inl (hready e he hb)
      have hK : ∀ q' ρ' β' a' w', Inv lo base nt ρ0 β0 w0 ops.toList cl S (fun j => listed.getD j false = true ∨ j = i) q' ρ' β' a' w' → wpAny P .any ops Q fuel (listed.setIfInBounds i true) a' w' := by
        intro q' ρ' β' a' w' hI'
        refine ih _ q' ρ' β' a' w' (by simpa using hsz) hcnt' hcl' ?_
        have : (fun j => (listed.setIfInBounds i true).getD j false = true) = (fun j => listed.getD j false = true ∨ j = i) := by
          funext j; exact propext (hget j)
        rw [this]; exact hI'
      have hgw := fun b (hk : gOut ops.toList (S i).s (ops[i]).guard = some b) => guard_wanted (ρ := ρ) (β := β) (a := a) (s := (S i).s) (o := ops[i]) (run := some true) (skip := some false) (r := b) (fun j want g t h1 h2 h3 => by
        refine reads_rel hV hI hcl ho hready hn (t := t) ?_
        unfold touchesT readsT guardTmp
        rw [h1]
        have h2' : ops.toList[j]? = some g := by simpa using h2
        simp only [h2', h3]
        simp) hk
      unfold wpOp
      rw [hg]
      simp only
      rcases hV.step i _ ho with ⟨hbn, hgo, v, σ1, h1, h2⟩ | ⟨hbn, hgo, h2⟩ | ⟨tb, eb, hbx, h2⟩
      · rcases hgw _ hgo with ⟨hw, _⟩ | ⟨_, hw⟩
        · rw [if_pos hw]
          refine .inl ?_
          cases hin : inert ops[i] with
          | true => exact run_inert hV hI hcl ho hready hn hX hE hC hK hin h1 h2
          | false =>
            cases hci : cl i with
            | true => exact run_claim hV hI hcl ho hready hn hX hE hC hK hci hbn (hend i _ ho hci) h1 h2
            | false =>
            cases hf : freeAt (aheadL [] ops.toList) ops.toList cl i with
            | true =>
              have hc : calmA ops.toList cl i = false := by simp [calmA, hf]
              rw [hc] at h1
              exact run_bar hV hI hcl ho hready hn hX hE hC hK ⟨hf, ⟨_, ho, hin⟩, hci⟩ h1 h2
            | false =>
              have hc : calmA ops.toList cl i = true := by simp [calmA, hf]
              rw [hc] at h1
              exact run_calm hV hI hcl ho hready hn hX hE hC hK (fun hb => by rw [hb.1] at hf; cases hf) hin hci h1 h2
        · cases hw
      · rcases hgw _ hgo with ⟨_, hw⟩ | ⟨hw, _⟩
        · cases hw
        · rw [hw]
          simp only [Bool.false_eq_true, if_false]
          obtain ⟨q', hI'⟩ := inv_skip hV hI hcl ho hready hn h2
          exact hK _ _ _ _ _ hI'
      · have hgo : gOut ops.toList (S i).s (ops[i]).guard = some true := by rw [(hV.G.box i _ tb eb ho hbx).2]; rfl
        rcases hgw _ hgo with ⟨hw, _⟩ | ⟨_, hw⟩
        · rw [if_pos hw]
          exact .inl (run_box hV hI hcl ho hready hn hX hE hC hK hbx h2)
        · cases hw

end

theorem boxesOf_spec {X : Ctx} {cl : Nat → Bool} : ∀ {l : List Oper} {i : Nat} {bx bx' : List (Nat × List V)}, boxesOf X cl i l bx = some bx' → (∀ t row, lookB bx t = some row → lookB bx' t = some row) ∧
    ∀ (k : Nat) (o : Oper) (t e : Nat), l[k]? = some o → boxAt cl (i + k) o = some (t, e) → ((X.ty e).known && (X.ty e).hz && firms (X.ty e).zero) = true ∧ X.hb.any (Nat.beq t) = false ∧ lookB bx t = none ∧ lookB bx' t = some (X.ty e).zero
  | [], i, bx, bx', h => by
    simp only [boxesOf, Option.some.injEq] at h; subst h
    exact ⟨fun t row h => h, fun k o t e hk => by simp at hk⟩
  | p :: l, i, bx, bx', h => by
    simp only [boxesOf] at h
    cases hb : boxAt cl i p with
    | none =>
      rw [hb] at h
      obtain ⟨h1, h2⟩ := boxesOf_spec h
      refine ⟨h1, fun k o t e hk hbk => ?_⟩
      cases k with
      | zero =>
        simp at hk; subst hk
        rw [Nat.add_zero, hb] at hbk; cases hbk
      | succ k => exact h2 k o t e (by simpa using hk) (by rw [← hbk]; congr 1; omega)
    | some z =>
      obtain ⟨u, f⟩ := z
      rw [hb] at h
      simp only at h
      split at h
      · rename_i q1 q2 q3
        obtain ⟨h1, h2⟩ := boxesOf_spec h
        have up : ∀ t row, lookB bx t = some row → lookB ((u, (X.ty f).zero) :: bx) t = some row := fun t row ht => by
          rw [lookB_cons]
          split
          · rename_i e; rw [← e, q3] at ht; cases ht
          · exact ht
        refine ⟨fun t row ht => h1 t row (up t row ht), fun k o t e hk hbk => ?_⟩
        cases k with
        | zero =>
          simp at hk; subst hk
          rw [Nat.add_zero, hb] at hbk
          injection hbk with hbk; injection hbk with e1 e2; subst e1; subst e2
          exact ⟨q1, q2, q3, h1 _ _ (by rw [lookB_cons, if_pos rfl])⟩
        | succ k =>
          obtain ⟨g1, g2, g3, g4⟩ := h2 k o t e (by simpa using hk) (by rw [← hbk]; congr 1; omega)
          refine ⟨g1, g2, ?_, g4⟩
          rw [lookB_cons] at g3
          split at g3
          · cases g3
          · exact g3
      · cases h
theorem draw_ok {P : Program} {X : Ctx} (hw : X.wide = false) (hm : P.follows .mixedOrders = true) (hX : X.ty = tyOf P) (hE : ∀ t, X.cmp t = true → EqOk P t) (hC : SC P X.call) : DrawOk P X := by
  intro lo base nt R r ρ β σ bx a w id ops k Q hd hdr hbx hk ho hQ
  obtain ⟨S, h0, hkS, hst⟩ := chain_of ops.toList 0 _ rfl hk
  obtain ⟨hb1, hb2⟩ := boxesOf_spec hbx
  rw [Nat.zero_add] at hkS
  have hG := graph_of hdr
  have hlps : endOk (S ops.toList.length).s (aheadL [] ops.toList) ops.toList (clOf X.cl id) = true := by
    cases he : endOk (S ops.toList.length).s (aheadL [] ops.toList) ops.toList (clOf X.cl id) with
    | true => rfl
    | false => simp only [he] at hkS; cases hkS
  simp only [hlps] at hkS
  have hod : Ok lo base nt ρ β (S 0) a w.drew := by
    rw [h0]; exact ⟨ho.s, ho.h.drew, ho.f.drew.ahead hb1, ho.own, ho.hB, ho.hlo, ho.nt, ho.df⟩
  have hV : Env P X lo base nt ρ β w.drew ops.toList (clOf X.cl id) S := env_of hw hX hE hC hG (fun j o hj => (hst j o (Nat.zero_le _) hj).1) (fun j o hj => (hst j o (Nat.zero_le _) hj).2) (fun j o hj t ht => hd o (List.mem_of_getElem? hj) t ht) hod (fun j o hj t e hb => by
    obtain ⟨k1, k2, k3, k4⟩ := hb2 j o t e hj (by rw [Nat.zero_add]; exact hb)
    refine ⟨k1, k2, ?_, by rw [h0]; exact k4⟩
    cases hβ : β t with
    | none => rfl
    | some r =>
      obtain ⟨row, _, _, g, _⟩ := ho.f.has t r hβ
      rw [k3] at g; cases g)
  refine wp_region_any hm ?_
  obtain ⟨q, g1, g2, g3, g4, g5⟩ := advance hV (L := fun _ => False) (ρ := ρ) (β := β) (w := w.drew) _ 0 rfl (Nat.zero_le _) (fun j hj => absurd hj (Nat.not_lt_zero _)) (fun _ _ _ h => h) hod.h hod.f
  refine any_ok hV hX hE hC (fun i o ho hc a' hl => ?_) (fun ρ' β' a' w' h1 h2 => ?_) ops.size _ q ρ β a w.drew (by simp) ?_ (fun i o hi hl => ?_) ?_
  · obtain ⟨t', a2, hop', hst', _⟩ := hG.stat i o ho hc (boxAt_load hl)
    have hl2 : loadTmp o = some a2 := by unfold loadTmp; rw [hop']
    rw [hl2] at hl; injection hl with hl; subst hl
    have h1 := List.all_eq_true.1 hlps (o, i) (mem_zip ho)
    simp only [hc, hl2, Bool.not_true, Bool.false_or, Bool.or_eq_true] at h1
    refine h1.imp (fun h => h) fun h1 => ?_
    have hil : i < ops.toList.length := (List.getElem?_eq_some_iff.1 ho).1
    rw [hV.slot_same (i := i) (Nat.le_of_lt hil) (Nat.le_refl _) (fun j h2 h3 ⟨q, hq, hd⟩ => stays_spec hst' h2 hq hd)] at h1
    generalize look (S i).s a2 = z at h1
    cases z <;> simp only [isLp] at h1 <;> first | exact ⟨_, _, rfl⟩ | cases h1
  · refine hQ _ ρ' β' a' w' hkS h1 ?_
    rw [h0] at h2
    exact ⟨h2.rle, h2.new, h2.frame, h2.size, h2.os, h2.tape, h2.output, h2.len, h2.pres, h2.tot⟩
  · simp
  · exfalso
    have : i < ops.size := by have := (List.getElem?_eq_some_iff.1 hi).1; simpa using this
    rw [Array.getD_eq_getD_getElem?] at hl
    simp [this] at hl
  · have hL : (fun j => (Array.replicate ops.size false).getD j false = true) = (fun _ => False) := by
      funext j
      apply propext
      rw [Array.getD_eq_getD_getElem?, Array.getElem?_replicate]
      split <;> simp
    rw [hL]
    refine ⟨g1, fun h => ⟨(g2 h).1, fun x => x⟩, fun j hj hb => (g3 j hj hb).elim, g4, g5, fun t p hp hw => ?_, hod.own, hod.hB, hod.nt, hod.df, ⟨Rle.refl _, fun b e h1 h2 => (by rw [h1] at h2; cases h2), fun _ _ _ => rfl, Nat.le_refl _, rfl, rfl, rfl⟩, fun j _ h => h.elim, fun b e hb => .inl (hod.h.dom b e hb).1, fun t r hb => .inl ⟨r, hb⟩⟩
    rw [hV.slot_same (Nat.zero_le p) hp fun j _ h2 h3 => ((hw j h3).2 h2).elim]
    exact hod.s t
end Go.Proofs.YtfbhdjkeofleiaaDoor.T
