/- A part of the proof: contracts over a program of the model. -/
import Derived.Test.YtkcpejbabbbjpaaY1
set_option linter.unusedVariables false
set_option linter.unusedSectionVars false
set_option linter.unusedSimpArgs false
namespace Go.Proofs.Ytkcpejbabbbjpaa
open Go.RowKit

section
variable {P : Program} {fz : Nat} {B : Bs} {φ : Env} {a : Act} {w : World} {W : WS} {S : Nat → Prop}
theorem noDup_eq : ∀ l : List Nat, noDup l = nodup l
  | [] => rfl
  | d :: ds => by simp only [noDup, nodup, noDup_eq ds]; rfl
theorem bkOk_spec : ∀ {os : List Oper} {i : Nat}, bkOk i os = true → ∀ (j : Nat) (o : Oper), os[j]? = some o → ∀ k ∈ depsOf o, k < i + j
  | [], i, _, j, o, h, _, _ => by simp at h
  | o' :: os, i, hb, 0, o, h, k, hk => by
    simp only [bkOk, Bool.and_eq_true] at hb
    simp only [List.getElem?_cons_zero, Option.some.injEq] at h
    subst h
    have := List.all_eq_true.1 hb.1 k hk
    have : k < i := by simpa [Nat.blt_eq] using this
    exact this
  | o' :: os, i, hb, j + 1, o, h, k, hk => by
    simp only [bkOk, Bool.and_eq_true] at hb
    simp only [List.getElem?_cons_succ] at h
    have := bkOk_spec hb.2 j o h k hk
    omega
theorem gR_dropR {ds : List Nat} {d : Nat} : ∀ {σ : RG}, gR (dropR ds σ) d = bif has ds d then none else gR σ d
  | [] => by cases has ds d <;> rfl
  | (e, b) :: σ => by
    unfold dropR
    cases he : has ds e with
    | true =>
      rw [cond_true, gR_dropR]
      cases hd : has ds d with
      | true => rfl
      | false =>
        simp only [cond_false, gR]
        cases hb : Nat.beq e d with
        | true => rw [Nat.eq_of_beq_eq_true hb, hd] at he; cases he
        | false => rfl
    | false =>
      simp only [cond_false, gR]
      rw [gR_dropR]
      cases hb : Nat.beq e d with
      | true => rw [← Nat.eq_of_beq_eq_true hb, he]; rfl
      | false => cases has ds d <;> rfl

/-- What holds when those of 'listed' have been carried out; t of the operations that change the heap. -/
structure InvD (fz : Nat) (B : Bs) (base : RG) (l : List Oper) (D : DS) (φ0 : Env) (n0 t : Nat) (φ : Env) (sn : List Ent × Nat) (listed : Array Bool) (a : Act) (w : World) (W : WS) (S : Nat → Prop) : Prop where
  st : Tel fz B φ ⟨base, sn.1, sn.2⟩ a w W S
  snat : D.sn[t]? = some sn
  ext : Ext φ0 φ n0 sn.2
  fct : ∀ (j d : Nat) (av : AV), listed.getD j false = true → (l[j]?).bind (·.dst) = some d → D.rs[j]? = some (some av) → ∃ v, a.tmps[d]? = some v ∧ val φ av = some v
  size : listed.size = l.length
  down : ∀ (j k : Nat) (o : Oper), listed.getD j false = true → l[j]? = some o → k ∈ depsOf o → listed.getD k false = true
  hps : ∀ k j, D.hp[k]? = some j → (listed.getD j false = true ↔ k < t)
  tle : t ≤ D.hp.length
theorem mkRegs_tel {base : RG} {l : List Oper} {D : DS} {φ0 : Env} {n0 t : Nat} {sn : List Ent × Nat} {listed : Array Bool} (hi : InvD fz B base l D φ0 n0 t φ sn listed a w W S) (i : Nat) : ∀ (js : List Nat), (∀ j ∈ js, listed.getD j false = true) →
    Tel fz B φ ⟨mkRegs l.toArray base (D.rs.take i) js, sn.1, sn.2⟩ a w W S := by
  intro js hjs
  refine ⟨hi.st.tmps, hi.st.defers, ?_, hi.st.sat, hi.st.run⟩
  have key : ∀ js : List Nat, (∀ j ∈ js, listed.getD j false = true) → ∀ d av, gR (mkRegs l.toArray base (D.rs.take i) js) d = some av → ∃ v, a.tmps[d]? = some v ∧ val φ av = some v := by
    intro js
    induction js with
    | nil =>
      intro _ d av h
      obtain ⟨v, hv, hp⟩ := hi.st.regs d (dn φ av) (by rw [rg_dnR]; show (gR base d).map _ = _; rw [show gR base d = some av from h]; rfl)
      exact ⟨v, hv, dn_p.1 hp⟩
    | cons j js ih =>
      intro hjs d av h
      have ih' := ih (fun k hk => hjs k (List.mem_cons_of_mem _ hk))
      simp only [mkRegs] at h
      split at h
      · rename_i d0 a0 h1 h2
        rw [gR_pR] at h
        cases hb : Nat.beq d0 d with
        | true =>
          have := Nat.eq_of_beq_eq_true hb
          subst this
          rw [hb] at h
          injection h with h
          subst h
          have h1' : (l[j]?).bind (·.dst) = some d0 := by simpa using h1
          have h2' : D.rs[j]? = some (some a0) := by
            rw [lget_eq] at h2
            obtain ⟨x, hx, hx2⟩ := Option.bind_eq_some_iff.1 h2
            rw [List.getElem?_take] at hx
            split at hx
            · rw [hx, show x = some a0 from hx2]
            · cases hx
          exact hi.fct j d0 a0 (hjs j (List.mem_cons_self ..)) h1' h2'
        | false =>
          rw [hb] at h
          exact ih' d av h
      · exact ih' d av h
  intro d p hd
  rw [rg_dnR] at hd
  obtain ⟨av, hav, rfl⟩ := Option.map_eq_some_iff.1 hd
  obtain ⟨v, hv, hval⟩ := key js hjs d av hav
  exact ⟨v, hv, dn_p.2 hval⟩
/-- One operation more. -/
theorem InvD.step {base : RG} {l : List Oper} {D : DS} {φ0 : Env} {n0 t : Nat} {sn : List Ent × Nat} {listed : Array Bool} (hnd : noDup (dstL l) = true) (hbase : ∀ d ∈ dstL l, gR base d = none) (hi : InvD fz B base l D φ0 n0 t φ sn listed a w W S) {i : Nat} {o : Oper} {js : List Nat} {s1 : XS}
    (ho : l[i]? = some o) (hjs : ∀ j ∈ js, listed.getD j false = true) (hst : StepOk P fz l.toArray o ⟨mkRegs l.toArray base (D.rs.take i) js, sn.1, sn.2⟩ s1) (hres : ∀ av, D.rs[i]? = some (some av) → resOf s1 o = some av) (hfree : Free φ sn.2 s1.n) {Q : Exit → Act → World → Prop} {Kn : Act → World → Prop}
    (hk : ∀ φ' a' w' W' S', Ext φ φ' sn.2 s1.n → Tel fz B φ' ⟨base, s1.heap, s1.n⟩ a' w' W' S' → (∀ (j d : Nat) (av : AV), (listed.setIfInBounds i true).getD j false = true → (l[j]?).bind (·.dst) = some d → D.rs[j]? = some (some av) → ∃ v, a'.tmps[d]? = some v ∧ val φ' av = some v) → Kn a' w') : wpOp P l.toArray Q i Kn a w := by
  have hT := mkRegs_tel hi i js hjs
  let KD : KP := fun e σ' h' => e = .normal ∧ ∃ φ', Ext φ φ' sn.2 s1.n ∧ (∀ d av, o.dst = some d → gR s1.regs d = some av → rg σ' d = some (dn φ' av)) ∧ h' = dnH φ' s1.heap
  have hev : EvL P fz ⟨w, W, S, hi.st.run.sub⟩ KD l.toArray [o] (dnR φ (mkRegs l.toArray base (D.rs.take i) js)) (dnH φ sn.1) :=
    hst.2 φ hfree _ KD [] fun φ' hx => done ⟨rfl, φ', hx, fun d av _ hav => by rw [rg_dnR, hav]; rfl, rfl⟩
  have h1 := hev a w W S ⟨hT.tmps, hT.defers, hT.regs, hT.sat, Run.refl hi.st.run.sub hi.st.run.bound⟩
  have hds : ([o].all (fun o' => match o'.dst with | some e => (match o.dst with | some d => [d] | none => []).any (Nat.beq e) | none => true)) = true := by
    cases hd : o.dst <;> simp [hd]
  have h2 := wpList_same QK.noout (ds := match o.dst with | some d => [d] | none => []) [o] a w hds h1
  have key : ∀ a' w', (QK fz ⟨w, W, S, hi.st.run.sub⟩ KD .normal a' w' ∧ (Exit.normal = .normal → ∀ e, (match o.dst with | some d => [d] | none => []).any (Nat.beq e) = false → a'.tmps[e]? = a.tmps[e]?)) → Kn a' w' := by
    rintro a' w' ⟨⟨_, _, σ', h', W', S', hs', _, φ', hx, hreg, rfl⟩, hsame⟩
    have hsame := hsame rfl
    have hevo : Evo w W w' W' := hs'.run.evo hi.st.run.sub
    have hoth : ∀ d, o.dst ≠ some d → a'.tmps[d]? = a.tmps[d]? := by
      intro d hd
      refine hsame d ?_
      cases hod : o.dst with
      | none => rfl
      | some d' =>
        simp only [List.any_cons, List.any_nil, Bool.or_false]
        rw [← Bool.not_eq_true]
        intro hb
        exact hd (by rw [hod, Nat.eq_of_beq_eq_true hb])
    refine hk φ' a' w' W' S' hx ⟨hs'.tmps, hs'.defers, fun d p hd => ?_, hs'.sat, hi.st.run.trans hs'.run⟩ fun j d av hj hd hpj => ?_
    · rw [rg_dnR] at hd
      obtain ⟨av, hav, rfl⟩ := Option.map_eq_some_iff.1 hd
      have hav : gR base d = some av := hav
      obtain ⟨v, hv, hp⟩ := hi.st.regs d (dn φ av) (by rw [rg_dnR]; show (gR base d).map _ = _; rw [hav]; rfl)
      have hne : o.dst ≠ some d := fun he => by
        rw [hbase d (List.mem_filterMap.2 ⟨o, List.mem_of_getElem? ho, he⟩)] at hav
        cases hav
      exact ⟨v, by rw [hoth d hne]; exact hv, dn_p.2 (val_le hx.le (dn_p.1 hp))⟩
    · by_cases hji : j = i
      · subst hji
        rw [ho] at hd
        have hd : o.dst = some d := hd
        have hr := hres av hpj
        unfold resOf at hr
        rw [hd] at hr
        have hr : gR s1.regs d = some av := hr
        obtain ⟨v, hv, hp⟩ := hs'.regs d _ (hreg d av hd hr)
        exact ⟨v, hv, dn_p.1 hp⟩
      · have hj' : listed.getD j false = true := by
          rw [Array.getD_eq_getD_getElem?, Array.getElem?_setIfInBounds_ne (fun e => hji e.symm)] at hj
          rw [Array.getD_eq_getD_getElem?]
          exact hj
        obtain ⟨v, hv, hval⟩ := hi.fct j d av hj' hd hpj
        have hne : o.dst ≠ some d := fun he => hji (nodup_ne (by rw [← noDup_eq]; exact hnd) hd (by rw [ho]; exact he))
        exact ⟨v, by rw [hoth d hne]; exact hv, val_le hx.le hval⟩
  unfold wpOp
  have hoa : l.toArray[i]? = some o := by simpa using ho
  rw [hoa]
  simp only
  unfold wpList at h2
  split at h2
  · rename_i hw
    rw [if_pos hw]
    rcases h2 with h2 | ⟨_, h2⟩
    · refine .inl ?_
      unfold Oper.wp at h2 ⊢
      exact upon_change (fun a w hh => key a w hh) (fun c a w hh => QK.nopanic c a w hh.1) (fun ⟨a, w, hh⟩ => hh.1.2.1 rfl) _ h2
    · obtain ⟨a, w, hh⟩ := h2
      exact (hh.1.2.1 rfl).elim
  · rename_i hw
    rw [if_neg hw]
    exact key _ _ h2
end
end Go.Proofs.Ytkcpejbabbbjpaa
