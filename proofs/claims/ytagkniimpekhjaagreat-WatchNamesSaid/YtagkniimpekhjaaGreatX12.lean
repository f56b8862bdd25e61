/- A part of the proof: contracts over a program of the model. -/
import Derived.Test.YtagkniimpekhjaaGreatY7
set_option linter.unusedVariables false
set_option linter.unusedSectionVars false
set_option linter.unusedSimpArgs false
namespace Go.Proofs.YtagkniimpekhjaaGreat
open Go.RowKit

section
variable {P : Program} {fz : Nat} {B : Bs} {φ : Env} {s : XS} {a : Act} {w : World} {W : WS} {S : Nat → Prop}
theorem resE_ok {rv : ResultVar} {av : AV} (hs : Tel fz B φ s a w W S) (h : resE P s rv = some av) : ∃ u, (rvS a.tmps rv).run P w = .ok u w ∧ val φ av = some u := by
  have key : ∀ t av, gR s.regs t = some av → ∃ v, a.tmps[t]? = some v ∧ val φ av = some v := by
    intro t av hav
    obtain ⟨v, hv, hp⟩ := hs.regs t (dn φ av) (by rw [rg_dnR, hav]; rfl)
    exact ⟨v, hv, dn_p.1 hp⟩
  cases rv with
  | tmp t =>
    obtain ⟨v, h1, h2⟩ := key t av h
    exact ⟨v, by simp [rvS, Array.getD_eq_getD_getElem?, h1], h2⟩
  | cell t ty =>
    simp only [resE] at h
    obtain ⟨p, h1, h⟩ := bnd_some h
    obtain ⟨v, h2, h3⟩ := key t p h1
    obtain ⟨ad, u, rfl, h5, h6⟩ := loadE_ok hs h h3
    refine ⟨u, ?_, h6⟩
    simp only [rvS, Array.getD_eq_getD_getElem?, h2, Option.getD_some, asAddr, Sem.run_bind, Sem.run_pure, Result.andThen_ok, h5]
theorem resA_ok (hs : Tel fz B φ s a w W S) : ∀ {rs : List ResultVar} {l : List AV}, resA P s rs = some l → ∃ us, (rs.mapM (m := Sem) (rvS a.tmps)).run P w = .ok us w ∧ vals φ l = some us
  | [], l, h => by
    injection h with h
    subst h
    exact ⟨[], by simp, rfl⟩
  | r :: rs, l, h => by
    simp only [resA] at h
    obtain ⟨av, h1, h⟩ := bnd_some h
    obtain ⟨l', h2, h⟩ := bnd_some h
    injection h with h
    subst h
    obtain ⟨u, k1, k2⟩ := resE_ok hs h1
    obtain ⟨us, k3, k4⟩ := resA_ok hs h2
    exact ⟨u :: us, by simp only [List.mapM_cons, Sem.run_bind, k1, Result.andThen_ok, k3, Sem.run_pure], by simp only [vals, k2, k4]⟩
theorem ags_dnR : ∀ (l : List AV) (i : Nat), ags i (l.map (dn φ)) = dnR φ (agsA i l)
  | [], _ => rfl
  | x :: l, i => by
    show (i, dn φ x) :: ags (i + 1) (l.map (dn φ)) = (i, dn φ x) :: dnR φ (agsA (i + 1) l)
    rw [ags_dnR l]
theorem callE_ok {ev : Nat → Code → XS → Option (Exit × XS)} (hev : EvOk P ev) : CalOk P (callE P ev) := by
  intro f args h n r hr
  unfold callE at hr
  obtain ⟨fn, h1, hr⟩ := bnd_some hr
  obtain ⟨c, h2, hr⟩ := bnd_some hr
  obtain ⟨h3, hr⟩ := lp1_some hr
  obtain ⟨q, h4, hr⟩ := bnd_some hr
  simp only [Bool.and_eq_true] at h3
  obtain ⟨e, s'⟩ := q
  obtain ⟨g1, g2⟩ := hev _ _ _ _ _ h4
  have hfin : (e = .normal ∨ e = .ret) ∧ ∃ l, resA P s' fn.results.toList = some l ∧ r = (oneA l, s'.heap, s'.n) := by
    cases e with
    | normal => obtain ⟨l, h5, h6⟩ := bnd_some hr; injection h6 with h6; exact ⟨.inl rfl, l, h5, h6.symm⟩
    | ret => obtain ⟨l, h5, h6⟩ := bnd_some hr; injection h6 with h6; exact ⟨.inr rfl, l, h5, h6.symm⟩
    | _ => cases hr
  obtain ⟨he, l, h5, rfl⟩ := hfin
  refine ⟨h3.1, g1, fun φ hf w W S vs hv hsat hsub hbd => ?_⟩
  have hlv := hv.length
  rw [List.length_map] at hlv
  have ha' := Nat.le_of_ble_eq_true h3.2
  have hbody := g2 φ hf ⟨w, W, S, hsub, none, []⟩ (fun e' σ' h' => e' = e ∧ ∃ φ', Ext φ φ' n s'.n ∧ σ' = dnR φ' s'.regs ∧ h' = dnH φ' s'.heap) (fun φ' hx => ⟨rfl, φ', hx, rfl, rfl⟩)
  refine calls_of_wp h1 h2 (wp_mono ((wpIn_wide (n := 0)).1 (hbody _ w W S ⟨?_, rfl, ?_, hsat, Run.refl hsub hbd⟩)) ?_)
  · simp [hlv]
    omega
  · intro d p hd
    rw [← ags_dnR] at hd
    obtain ⟨_, k2⟩ := ags_rg hd
    simp only [Nat.sub_zero] at k2
    obtain ⟨v, hv1, hp⟩ := hv.get k2
    refine ⟨v, ?_, hp⟩
    have hlt : d < vs.length := (List.getElem?_eq_some_iff.1 hv1).1
    rw [Array.getElem?_append_left (by simpa using hlt)]
    simpa using hv1
  · rintro e' a w' ⟨_, _, σ', h', W', S', hs, rfl, φ', hx, rfl, rfl⟩
    obtain ⟨us, hus, hvu⟩ := resA_ok (s := s') hs h5
    have hfin : a.defers = [] ∧ ∃ v, (results fn a.tmps).run P w' = .ok v w' ∧ ∃ v', ∃ r h' W' S', Ending.returned v = .returned v' ∧ r.p w' W' v' ∧ (∃ φ', Ext φ φ' n s'.n ∧ VLe r (dn φ' (oneA l)) ∧ h' = dnH φ' s'.heap) ∧ Sat w' W' h' S' ∧ Run w W S w' W' S' := by
      refine ⟨hs.defers, if h : us.toArray.size = 1 then us.toArray[0] else .tuple us.toArray, ?_, _, dn φ' (oneA l), dnH φ' s'.heap, W', S', rfl, ?_, ⟨φ', hx, fun _ _ _ h => h, rfl⟩, hs.sat, hs.run⟩
      · have hrv : results fn a.tmps = (fn.results.mapM (m := Sem) (rvS a.tmps) >>= fun vs => pure (if h : vs.size = 1 then vs[0] else .tuple vs)) := by
          unfold results
          congr 1
        have : (fn.results.mapM (m := Sem) (rvS a.tmps)).run P w' = .ok us.toArray w' := by
          rw [Array.mapM_eq_mapM_toList]
          simp only [Sem.run_map, hus]
          rfl
        rw [hrv]
        simp only [Sem.run_bind]
        rw [this]
        rfl
      · rw [dn_p]
        have hl := vals_len hvu
        match l, us, hvu, hl with
        | [], [], _, _ => rfl
        | [p], [u], hp, _ =>
          simp only [vals] at hp
          cases hq : val φ' p with
          | none => rw [hq] at hp; cases hp
          | some x =>
            rw [hq] at hp
            injection hp with hp
            injection hp with hp _
            subst hp
            exact hq
        | p :: q :: ps, u :: v :: us, hp, _ =>
          show val φ' (.tup (p :: q :: ps)) = _
          simp only [val, hp, Option.map_some]
          rfl
    rcases he with rfl | rfl
    · exact hfin
    · exact hfin
theorem ev_ok {prim : CAL} (hprim : CalOk P prim) : ∀ m, EvOk P (ev P prim m)
  | 0 => fun fz c s e s' h => by cases h
  | m + 1 => fun fz c s e s' h => by
    have ih := ev_ok hprim m
    cases c with
    | skip => injection h with h; injection h with h1 h2; subst h1 h2; exact ⟨Nat.le_refl _, fun φ hf B K k => skip (k φ (Ext.refl _ _ _))⟩
    | label l => injection h with h; injection h with h1 h2; subst h1 h2; exact ⟨Nat.le_refl _, fun φ hf B K k => label (k φ (Ext.refl _ _ _))⟩
    | ret => injection h with h; injection h with h1 h2; subst h1 h2; exact ⟨Nat.le_refl _, fun φ hf B K k => ret (k φ (Ext.refl _ _ _))⟩
    | exit id => injection h with h; injection h with h1 h2; subst h1 h2; exact ⟨Nat.le_refl _, fun φ hf B K k => exit (k φ (Ext.refl _ _ _))⟩
    | goto id => injection h with h; injection h with h1 h2; subst h1 h2; exact ⟨Nat.le_refl _, fun φ hf B K k => goto_ (k φ (Ext.refl _ _ _))⟩
    | region id ops dr =>
      have hcal : CalOk P (fun f a h n => match prim f a h n with | some r => some r | none => callE P (ev P prim m) f a h n) := by
        intro f args h n r hr
        simp only at hr
        cases hp : prim f args h n with
        | some r' =>
          rw [hp] at hr
          injection hr with hr
          subst hr
          exact hprim _ _ _ _ _ hp
        | none =>
          rw [hp] at hr
          exact callE_ok ih _ _ _ _ _ hr
      cases dr with
      | true =>
        simp only [ev] at h
        obtain ⟨s1, h1, h2⟩ := bnd_some h
        injection h2 with h2
        injection h2 with h3 h4
        subst h3 h4
        exact drawA_ok hcal h1 id
      | false =>
        simp only [ev] at h
        obtain ⟨s1, h1, h2⟩ := bnd_some h
        injection h2 with h2
        injection h2 with h3 h4
        subst h3 h4
        obtain ⟨g1, g2⟩ := opsE_ok (fz := fz) hcal h1
        refine ⟨g1, fun φ hf B K k => ?_⟩
        have := region (id := id) (l := ops.toList) (P := P) (fz := fz) (B := B) (K := K) (σ := dnR φ s.regs) (h := dnH φ s.heap) (by rw [Array.toArray_toList]; exact g2 φ hf B K k)
        rw [Array.toArray_toList] at this
        exact this
    | seq x y =>
      simp only [ev] at h
      obtain ⟨r, h1, h2⟩ := bnd_some h
      obtain ⟨e1, s1⟩ := r
      obtain ⟨g1, g2⟩ := ih _ _ _ _ _ h1
      cases e1 with
      | normal =>
        obtain ⟨m1, m2⟩ := ih _ _ _ _ _ h2
        exact ⟨Nat.le_trans g1 m1, fun φ hf B K k => seq (g2 φ (hf.left m1) B _ fun φ' hx => m2 φ' (hf.right g1 hx) B K fun φ'' hx' => k φ'' (hx.trans hx' g1 m1))⟩
      | exit id => injection h2 with h2; injection h2 with h3 h4; subst h3 h4; exact ⟨g1, fun φ hf B K k => seq (g2 φ hf B _ k)⟩
      | goto id => injection h2 with h2; injection h2 with h3 h4; subst h3 h4; exact ⟨g1, fun φ hf B K k => seq (g2 φ hf B _ k)⟩
      | ret => injection h2 with h2; injection h2 with h3 h4; subst h3 h4; exact ⟨g1, fun φ hf B K k => seq (g2 φ hf B _ k)⟩
      | panic c => cases h2
      | outgrown => cases h2
    | cond x y z =>
      simp only [ev] at h
      obtain ⟨av, h1, h⟩ := bnd_some h
      obtain ⟨b, h2, h⟩ := bnd_some h
      rw [asB_eq h2] at h1
      have hog : ∀ φ, og (dnR φ s.regs) x = some (vbool b) := by
        intro φ
        cases x with
        | tmp t => show rg (dnR φ s.regs) t = _; rw [rg_dnR, show gR s.regs t = _ from h1]; rfl
        | const v => injection h1 with h1; injection h1 with h1; rw [h1]; rfl
        | global g => cases h1
        | func f => injection h1 with h1; cases h1
      cases b with
      | true =>
        obtain ⟨g1, g2⟩ := ih _ _ _ _ _ h
        exact ⟨g1, fun φ hf B K k => cond (b := true) (fun _ => g2 φ hf B K k) (fun h => by cases h) (hog φ)⟩
      | false =>
        obtain ⟨g1, g2⟩ := ih _ _ _ _ _ h
        exact ⟨g1, fun φ hf B K k => cond (b := false) (fun h => by cases h) (fun _ => g2 φ hf B K k) (hog φ)⟩
    | block id x =>
      simp only [ev] at h
      obtain ⟨r, h1, h2⟩ := bnd_some h
      obtain ⟨e1, s1⟩ := r
      obtain ⟨g1, g2⟩ := ih _ _ _ _ _ h1
      cases e1 with
      | normal => injection h2 with h2; injection h2 with h3 h4; subst h3 h4; exact ⟨g1, fun φ hf B K k => block (g2 φ hf B _ k)⟩
      | goto id => injection h2 with h2; injection h2 with h3 h4; subst h3 h4; exact ⟨g1, fun φ hf B K k => block (g2 φ hf B _ k)⟩
      | ret => injection h2 with h2; injection h2 with h3 h4; subst h3 h4; exact ⟨g1, fun φ hf B K k => block (g2 φ hf B _ k)⟩
      | panic c => cases h2
      | outgrown => cases h2
      | exit id' =>
        simp only at h2
        cases hb : Nat.beq id' id with
        | true =>
          rw [hb] at h2
          injection h2 with h2; injection h2 with h3 h4; subst h3 h4
          exact ⟨g1, fun φ hf B K k => block (g2 φ hf B _ fun φ' hx => by simp only [Kbl, hb, cond_true]; exact k φ' hx)⟩
        | false =>
          rw [hb] at h2
          injection h2 with h2; injection h2 with h3 h4; subst h3 h4
          exact ⟨g1, fun φ hf B K k => block (g2 φ hf B _ fun φ' hx => by simp only [Kbl, hb, cond_false]; exact k φ' hx)⟩
    | scope x =>
      simp only [ev] at h
      obtain ⟨g1, g2⟩ := jumpE_ok (fun c s e s' h => ih fz c s e s' h) _ _ _ _ _ h
      exact ⟨g1, fun φ hf B K k => (g2 φ hf B K k).scope⟩
    | loop x =>
      simp only [ev] at h
      obtain ⟨g1, g2⟩ := loopE_ok (fun s e s' h => ih fz x s e s' h) _ _ _ _ h
      exact ⟨g1, fun φ hf B K k => (g2 φ hf B K k).loop⟩
    | rangeFunc f ps x y => cases h
    | refuse why => cases h
/-- A CLOSED RUN: what the kernel finds holds of the program. -/
theorem closed {prim : CAL} (hprim : CalOk P prim) {m : Nat} {f : FuncId} {u : Value} (h : ((callE P (ev P prim m) f [] [] 0).map fun r => match r.1 with | .v (.bool b) => b | _ => false) = some true) : PFn P f [] (vbool true) := by
  obtain ⟨r, h1, h2⟩ := Option.map_eq_some_iff.1 h
  obtain ⟨h3, h4, h5⟩ := callE_ok (ev_ok hprim m) _ _ _ _ _ h1
  refine ⟨h3, fun w W S vs hv hsat hsub hbd cs => ?_⟩
  obtain ⟨e, w', fr, ⟨v, rv, h', W', S', he, hp, ⟨φ', hx, hle, hh⟩, hs', hr⟩, k1⟩ := h5 (fun _ => none) (fun _ _ _ => rfl) w W S vs hv hsat hsub hbd cs
  have hb : r.1 = .v (.bool true) := by
    split at h2
    · rename_i b hb; rw [h2] at hb; exact hb
    · cases h2
  have := dn_p.1 (hle _ _ _ hp)
  rw [hb] at this
  injection this with this
  exact ⟨e, w', fr, ⟨v, vbool true, [], W', fun _ => False, he, this.symm, ⟨rfl, rfl⟩, fun _ h => h, hr.less fun _ h => h.elim⟩, k1⟩
end
end Go.Proofs.YtagkniimpekhjaaGreat
