/- A part of the proof: contracts over a program of the model. -/
import Derived.Test.YtkcpejbabbbjpaaS2
set_option linter.unusedVariables false
set_option linter.unusedSectionVars false
set_option linter.unusedSimpArgs false
namespace Go.Proofs.Ytkcpejbabbbjpaa
open Go.RowKit Go.Maps

theorem okI64_wf {x : Int} (h : okI64 x = true) : (Lit.int .i64 x).wf = true := by
  unfold okI64 at h
  simp only [Bool.and_eq_true, decide_eq_true_eq] at h
  have h1 := h.1
  have h2 := h.2
  simp only [Lit.wf, Bool.and_eq_true, decide_eq_true_eq]
  exact ⟨h1, h2⟩
theorem primSK_ok {P : Program} {fs e : Nat} {fks : List Nat} (hgo : isGo P fs = true) (hkt : P.underlying e = some (.int .i64)) (hk : ∀ fk ∈ fks, SortKeysC P fs fk e e) : CalOk P (primSK fs e fks) := by
  intro f args h n r hr
  unfold primSK at hr
  obtain ⟨h1, hr'⟩ := lp1_some hr
  have := Nat.eq_of_beq_eq_true h1
  clear hr
  subst this
  clear h1
  rename _ = some r => hr
  split at hr
  · rename_i fk kb
    obtain ⟨h2, hr⟩ := lp1_some hr
    obtain ⟨x, h3, hr⟩ := bnd_some hr
    split at hr
    · rename_i k hx
      obtain ⟨m, h4, hr⟩ := bnd_some hr
      obtain ⟨h5, hr⟩ := lp1_some hr
      simp only [Bool.and_eq_true, List.all_eq_true] at h5
      obtain ⟨h5, h6⟩ := h5
      have h6 := Nat.le_of_ble_eq_true h6
      have hfk : fk ∈ fks := by
        obtain ⟨y, hy, he⟩ := List.any_eq_true.1 h2
        rw [Nat.eq_of_beq_eq_true he]
        exact hy
      have hn : n ≤ r.2.2 := by
        split at hr <;> (injection hr with hr; subst hr; simp)
      refine ⟨hgo, hn, fun φ hf w W S vs hv hsat hsub hbd => ?_⟩
      obtain ⟨v, rfl, hv1⟩ : ∃ v, vs = [v] ∧ val φ (.fn fk [] [.ptr kb 0]) = some v := by
        match vs, hv with
        | [v], ⟨h, _⟩ => exact ⟨v, rfl, dn_p.1 h⟩
      obtain ⟨S1, S2, g1, _, _, _⟩ := Sat.pick (entC_at (φ := φ) h3) hsat
      obtain ⟨S3, S4, g2, _, _, _⟩ := Sat.pick (entM_at (φ := φ) h4) hsat
      obtain ⟨L, hL, hLo, g1⟩ := dnC g1
      obtain ⟨M, hM, g2⟩ := dnMap g2
      rw [hx] at g1
      have g1 : (hvar L.b x.1 [vmap M.b]).p w W S1 := by
        obtain ⟨⟨cs, c1, c2, c3⟩, c4⟩ := g1
        refine ⟨⟨cs, c1, ?_, c3⟩, c4⟩
        match cs, c2 with
        | ⟨[u]⟩, ⟨h, _⟩ =>
          have := dn_p.1 h
          simp only [val, hM, Option.map_some, Option.some.injEq] at this
          exact ⟨this.symm, trivial⟩
      have hvv : v = .func (.func fk) #[] #[.pointer (some ⟨L.b, 0, none⟩)] := by
        simp only [val, vals, hL, Option.map_some, hLo, Option.some.injEq] at hv1
        exact hv1.symm
      subst hvv
      refine (sortKeys_w hkt (hk fk hfk) (fun y hy => okI64_wf (h5 y hy)) h6 g1 g2 hsat hsub hbd).mono ?_
      rintro ee w' ⟨v', rv, h', W', S', k1, k2, k3, k4, k5⟩
      rcases k3 with ⟨hm, rfl, rfl⟩ | ⟨hm, g, c, rfl, rfl⟩
      · rw [hm] at hr
        injection hr with hr
        subst hr
        exact ⟨v', _, _, W', S', k1, k2, ⟨φ, Ext.refl _ _ _, fun _ _ _ h => h, rfl⟩, k4, k5⟩
      · have hr' : r = (.sl n 1 0 m.2.2.length, .row n e 1 ((srtI (m.2.2.map (·.1))).map fun x => [.v (.int .i64 x)]) :: h, n + 1) := by
          split at hr
          · rename_i hm'; exact (hm hm').elim
          · injection hr with hr; exact hr.symm
        subst hr'
        have hx := setE_ext ⟨g, 0, c⟩ hf
        refine ⟨v', _, dnH (setE φ n ⟨g, 0, c⟩) (.row n e 1 ((srtI (m.2.2.map (·.1))).map fun x => [.v (.int .i64 x)]) :: h), W', S', k1, k2, ⟨_, hx, fun w W v hv => dn_p.2 ?_, rfl⟩, ?_, k5⟩
        · rw [show v = _ from hv]
          simp only [val, setE_at, Option.map_some]
          simp
        · obtain ⟨T1, T2, t1, t2, t3, t4⟩ := k4
          refine ⟨T1, T2, dnRow_mk (setE_at _ _ _) ?_, Sat_le hx.le t2, t3, t4⟩
          have : ((srtI (m.2.2.map (·.1))).map fun x => [AV.v (.int .i64 x)]).length = m.2.2.length := by rw [List.length_map, srtI_len, List.length_map]
          rw [this]
          exact hrow_map (fun x _ => rfl) t1
    · cases hr
  · cases hr
end Go.Proofs.Ytkcpejbabbbjpaa
