/- A part of the proof: contracts over a program of the model. -/
import Derived.Test.YtagkniimpekhjaaGreatS60
import Derived.Test.YtagkniimpekhjaaGreatDZ2
import Derived.Test.YtagkniimpekhjaaGreatZ1
set_option linter.unusedVariables false
set_option linter.unusedSectionVars false
set_option linter.unusedSimpArgs false
namespace Go.Proofs.YtagkniimpekhjaaGreat
open Go.RowKit
theorem intsOf_eq : ∀ {l : List (List AV)} {r : List Int}, intsOf l = some r → l = r.map fun x => [AV.v (.int .i64 x)]
  | [], r, h => by injection h with h; subst h; rfl
  | q :: l, r, h => by
    unfold intsOf at h
    split at h
    · obtain ⟨r', h1, h2⟩ := bnd_some h
      injection h2 with h2
      subst h2
      rw [intsOf_eq h1]
      rfl
    · cases h
theorem hrow_ints {φ : Env} {v : Value} {e : Nat} {l : List Int} : hrow v e 1 (enc φ) (l.map fun x => [AV.v (.int .i64 x)]) = hrow v e 1 eint l := by
  refine HP.eq_of fun w W S => ?_
  constructor
  · rintro (⟨h1, h2, h3⟩ | ⟨g, o, c, cs, h1, h2, h3, h4, h5, h6, h7, h8⟩)
    · refine .inl ⟨h1, ?_, h3⟩
      cases l with
      | nil => rfl
      | cons x l => cases h2
    · simp only [List.length_map] at h1 h2 h4 h5 h6 h7
      exact .inr ⟨g, o, c, cs, h1, h2, h3, h4, h5, h6, fun i hi => by
        have := h7 i hi
        rw [List.getElem_map] at this
        exact this, h8⟩
  · rintro (⟨h1, h2, h3⟩ | ⟨g, o, c, cs, h1, h2, h3, h4, h5, h6, h7, h8⟩)
    · subst h2
      exact .inl ⟨h1, rfl, h3⟩
    · refine .inr ⟨g, o, c, cs, by rw [List.length_map]; exact h1, by rw [List.length_map]; exact h2, h3, h4, by rw [List.length_map]; exact h5, by rw [List.length_map]; exact h6, fun i hi => ?_, h8⟩
      rw [List.getElem_map]
      exact h7 i (by rwa [List.length_map] at hi)
theorem sel1 {h : List HP} {i : Nat} {x : HP} (hi : h[i]? = some x) : ∃ hf, Sel h [x] hf := ⟨_, .cons i hi .nil⟩
theorem ans_post {P : Program} {f : FuncId} {args : List VP} {h hc : List HP} {hf : List HP} {xs : List Int} (hfn : Fn P f args [hAll hc] (AnsL 3 xs hc)) (hsel : Sel h hc hf) :
    Fn P f args h fun rv h' => ∃ new, (∃ v, v.oneCell' = true ∧ (xs = [] → v = .slice none 0 0) ∧ rv = vis v ∧ new = [hrow v 3 1 eint xs]) ∧ h' = new ++ h := by
  refine fn_in (hc := hc) ?_ hsel
  intro w W S vs hv hsat hsub hbd
  refine (hfn w W S vs hv (sat_one.2 hsat) hsub hbd).mono ?_
  rintro e w' ⟨u, rv, h', W', S', he, hu, ⟨v, h1, h2, rfl, rfl⟩, hs, hrun⟩
  obtain ⟨S1, S2, g1, g2, g3, g4⟩ := hs
  exact ⟨u, _, hrow v 3 1 eint xs :: hc, W', S', he, hu, ⟨_, ⟨v, h1, h2, rfl, rfl⟩, rfl⟩, ⟨S1, S2, g1, sat_one.1 g2, g3, g4⟩, hrun⟩
theorem primSV_ok (hsort : SortC PP 154) : CalOk PP (primSV 77 155) := by
  intro f args h n r hr
  unfold primSV at hr
  obtain ⟨h1, hr'⟩ := lp1_some hr
  clear hr
  have := Nat.eq_of_beq_eq_true h1
  subst this
  split at hr'
  · rename_i fk kb
    obtain ⟨h2, hr⟩ := lp1_some hr'
    clear hr'
    have := Nat.eq_of_beq_eq_true h2
    subst this
    obtain ⟨x, h3, hr⟩ := bnd_some hr
    have hgo : isGo PP 77 = true := by kernel_rfl
    have hgo2 : isGo PP 155 = true := by kernel_rfl
    split at hr
    · rename_i hx
      have hn : n ≤ r.2.2 := by injection hr with hr; subst hr; exact Nat.le_refl _
      refine ⟨hgo, hn, fun φ hf w W S vs hv hsat hsub hbd => ?_⟩
      obtain ⟨S1, S2, g1, _⟩ := Sat.pick (entC_at (φ := φ) h3) hsat
      obtain ⟨L, hL, hLo, g1⟩ := dnC g1
      have e1 : dnE φ (.cells kb x.1 x.2) = hvar L.b x.1 [vis (.slice none 0 0)] := by
        have hb : Nat.beq L.o 0 = true := by rw [hLo]; rfl
        simp only [dnE, hL, hb, cond_true, hx, enc, List.map_cons, List.map_nil]
        rfl
      have i1 := entC_at (φ := φ) h3
      rw [e1] at i1
      have hargs : [AV.fn 155 [] [.ptr kb 0]].map (dn φ) = [vfn 155 [] [.pointer (some ⟨L.b, 0, none⟩)]] := by
        simp only [List.map_cons, List.map_nil, dn, val, vals, hL, Option.map_some, hLo]
        rfl
      rw [hargs] at hv
      obtain ⟨hfr, hsel⟩ := sel1 i1
      -- the row is nothing: laid beside
      have hnilrow : Sat w W (hrow (.slice none 0 0) 3 1 eint [] :: dnH φ h) S := Sat.cons0 (.inl ⟨rfl, rfl, fun _ h => h⟩) hsat
      have hsel2 : Sel (hrow (.slice none 0 0) 3 1 eint [] :: dnH φ h) [hvar L.b x.1 [vis (.slice none 0 0)], hrow (.slice none 0 0) 3 1 eint []] ((dnH φ h).eraseIdx (posn n kb)) := .cons (posn n kb + 1) (by simpa using i1) (.cons 0 rfl .nil)
      have hS := c_Sorted (it_Vals (v := .slice none 0 0) (c := L.b) (ct := x.1) (l := []) rfl (by simp)) hgo2 (by simp) hsort
      have hr2 : sliceOf n h [] = some r := hr
      refine (ans_post hS hsel2 w W S vs hv hnilrow hsub hbd).mono ?_
      rintro e w' ⟨u, rv, h', W', S', he, hu, ⟨new, ⟨v, k1, k2, rfl, rfl⟩, rfl⟩, hs, hrun⟩
      obtain ⟨T1, T2, t1, ⟨T3, T4, t3, t4, t5, t6⟩, t7, t8⟩ := hs
      injection hr2 with hr2
      subst hr2
      exact ⟨u, _, dnH φ h, W', T4, he, hu, ⟨φ, Ext.refl _ _ _, fun w W z hz => dn_p.2 (by rw [show z = v from hz, k2 rfl]; rfl), rfl⟩, t4, hrun.less fun b hb => (t8 b).2 (.inr ((t6 b).2 (.inr hb)))⟩
    · rename_i k z lo hi hx
      obtain ⟨q, h4, hr⟩ := bnd_some hr
      obtain ⟨h5, hr⟩ := lp1_some hr
      obtain ⟨l, h6, hr⟩ := bnd_some hr
      simp only [Bool.and_eq_true] at h5
      obtain ⟨⟨⟨⟨g1, g2⟩, g3⟩, g4⟩, g5⟩ := h5
      have g1 := Nat.eq_of_beq_eq_true g1
      have g2 := Nat.eq_of_beq_eq_true g2
      have g3 := Nat.eq_of_beq_eq_true g3
      have g4 := Nat.eq_of_beq_eq_true g4
      have g5 := Nat.le_of_ble_eq_true g5
      obtain ⟨j0, j1, _⟩ := rowOf_ok h4
      injection j0 with j01 j02 j03 j04
      refine ⟨hgo, sliceOf_n hr, fun φ hf w W S vs hv hsat hsub hbd => ?_⟩
      have hl := intsOf_eq h6
      obtain ⟨S1, S2, f1, _⟩ := Sat.pick (entC_at (φ := φ) h3) hsat
      obtain ⟨L, hL, hLo, f1⟩ := dnC f1
      obtain ⟨S3, S4, f2, _⟩ := Sat.pick (entR_at (φ := φ) j1) hsat
      obtain ⟨M, hM, _⟩ : ∃ M, φ q.k = some M ∧ True := by
        simp only [dnE] at f2
        cases hm : φ q.k with
        | none => rw [hm] at f2; exact f2.elim
        | some M => exact ⟨M, rfl, trivial⟩
      have hlen : q.l.length = l.length := by rw [hl, List.length_map]
      have e1 : dnE φ (.cells kb x.1 x.2) = hvar L.b x.1 [vis (.slice (some ⟨M.b, M.o, none⟩) l.length M.c)] := by
        have hb : Nat.beq L.o 0 = true := by rw [hLo]; rfl
        have hm : dn φ (.sl k z lo hi) = vis (.slice (some ⟨M.b, M.o, none⟩) l.length M.c) := by
          unfold dn
          rw [j01]
          simp only [val, hM, Option.map_some, g3, g4, Nat.zero_mul, Nat.add_zero, Nat.sub_zero, hlen]
        simp only [dnE, hL, hb, cond_true, hx, enc, List.map_cons, List.map_nil, hm]
      have e2 : dnE φ (.row q.k q.e q.sz q.l) = hrow (.slice (some ⟨M.b, M.o, none⟩) l.length M.c) 3 1 eint l := by
        have hz : q.sz = 1 := by rw [← j02]; exact g1
        simp only [dnE, hM]
        rw [g2, hz, hlen]
        conv => lhs; rw [hl]
        exact hrow_ints
      have i1 := entC_at (φ := φ) h3
      have i2 := entR_at (φ := φ) j1
      have hne : posn n kb ≠ posn n q.k := by
        intro e
        unfold entC eG at h3
        unfold entR eG at j1
        rw [e] at h3
        split at h3
        · rename_i qq
          rw [qq] at j1
          cases j1
        · cases h3
      rw [e1] at i1
      rw [e2] at i2
      obtain ⟨hfr, hsel⟩ := sel2 i1 i2 hne
      have hargs : [AV.fn 155 [] [.ptr kb 0]].map (dn φ) = [vfn 155 [] [.pointer (some ⟨L.b, 0, none⟩)]] := by
        simp only [List.map_cons, List.map_nil, dn, val, vals, hL, Option.map_some, hLo]
        rfl
      rw [hargs] at hv
      have hll : l.length ≤ 1000000 := by rw [← hlen]; exact g5
      have hS := c_Sorted (it_Vals (v := .slice (some ⟨M.b, M.o, none⟩) l.length M.c) (c := L.b) (ct := x.1) (l := l) rfl hll) hgo2 hll hsort
      exact slice_ok hr hf (ans_post hS hsel) w W S vs hv hsat hsub hbd
    · cases hr
  · cases hr'
end Go.Proofs.YtagkniimpekhjaaGreat
