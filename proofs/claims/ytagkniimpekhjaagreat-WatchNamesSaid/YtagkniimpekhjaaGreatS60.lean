/- A part of the proof: contracts over a program of the model. -/
import Derived.Test.YtagkniimpekhjaaGreatX0Q
import Derived.Test.YtagkniimpekhjaaGreatX12
import Derived.Test.YtagkniimpekhjaaGreatE17
set_option linter.unusedVariables false
set_option linter.unusedSectionVars false
set_option linter.unusedSimpArgs false
namespace Go.Proofs.YtagkniimpekhjaaGreat
open Go.RowKit

/-! ### contracts in a greater heap -/
theorem HP.eq_of {a b : HP} (h : ∀ w W S, a.p w W S ↔ b.p w W S) : a = b := by
  cases a with
  | mk p1 _ _ =>
    cases b with
    | mk p2 _ _ =>
      have : p1 = p2 := by
        funext w W S
        exact propext (h w W S)
      subst this
      rfl
theorem set_same {α : Type} {l : List α} {j : Nat} {x : α} (h : l[j]? = some x) : l.set j x = l := by
  apply List.ext_getElem?
  intro i
  rw [List.getElem?_set]
  split
  · rename_i e
    subst e
    obtain ⟨h1, _⟩ := List.getElem?_eq_some_iff.1 h
    rw [if_pos h1, h]
  · rfl
theorem Sel.back {w : World} {W : WS} : ∀ {h hc hf : List HP} {S1 S2 : Nat → Prop}, Sel h hc hf → Sat w W hc S1 → Sat w W hf S2 → (∀ x, S1 x → ¬ S2 x) → Sat w W h (fun x => S1 x ∨ S2 x)
  | h, _, _, S1, S2, .nil, h1, h2, hd => h2.congr fun b => ⟨.inr, fun h => h.elim (fun h => (h1 b h).elim) id⟩
  | h, _, _, S1, S2, .cons (x := x) (hc := hc) (hf := hf) j hj k, h1, h2, hd => by
    obtain ⟨T1, T2, t1, t2, t3, t4⟩ := h1
    have h3 := Sel.back k t2 h2 (fun b hb hc => hd b ((t4 b).2 (.inr hb)) hc)
    have := Sat.put (y := x) hj t1 h3 (fun b hb hc => by
      rcases hc with hc | hc
      · exact t3 b hb hc
      · exact hd b ((t4 b).2 (.inl hb)) hc)
    rw [set_same hj] at this
    exact this.congr fun b => by rw [t4 b, or_assoc]
theorem fn_in {P : Program} {f : FuncId} {args : List VP} {h hc hf : List HP} {Q : VP → List HP → Prop} (hfn : Fn P f args hc fun r h' => ∃ new, Q r new ∧ h' = new ++ hc) (hsel : Sel h hc hf) : Fn P f args h fun r h' => ∃ new, Q r new ∧ h' = new ++ h := by
  intro w W S vs hv hsat hsub hbd
  obtain ⟨S1, S2, h1, h2, hd, hS⟩ := hsel.sat hsat
  refine (hfn w W S1 vs hv h1 (fun b hb => hsub b ((hS b).2 (.inl hb))) hbd).mono ?_
  rintro e w' ⟨v, r, h', W', S', he, hr, ⟨new, hq, rfl⟩, hs, hrun⟩
  have hlt : ∀ b, S2 b → b < w.heap.size := h2.lt
  obtain ⟨hr2, hd2⟩ := Run.framed (T := S2) (S := S) hrun hlt hd hS hsub
  have hev : Evo w W w' W' := hr2.evo hsub
  have h2' : Sat w' W' hf S2 := h2.st hev (fun b hb => hrun.keep b (hlt b hb) (fun hc => hd b hc hb))
  obtain ⟨Sn, Sc, g1, g2, g3, g4⟩ := Sat.split hs
  have hback := hsel.back g2 h2' (fun b hb hc => hd2 b ((g4 b).2 (.inr hb)) hc)
  have hj := Sat.join g1 hback (fun b hb hc => by
    rcases hc with hc | hc
    · exact g3 b hb hc
    · exact hd2 b ((g4 b).2 (.inl hb)) hc)
  exact ⟨v, r, new ++ h, W', _, he, hr, ⟨new, hq, rfl⟩, hj, hr2.less fun b hb => by
    rcases hb with hb | hb | hb
    · exact .inl ((g4 b).2 (.inl hb))
    · exact .inl ((g4 b).2 (.inr hb))
    · exact .inr hb⟩
theorem sel2 {h : List HP} {i j : Nat} {x y : HP} (hi : h[i]? = some x) (hj : h[j]? = some y) (hne : i ≠ j) : ∃ hf, Sel h [x, y] hf := by
  have : (h.eraseIdx i)[if j < i then j else j - 1]? = some y := by
    rw [List.getElem?_eraseIdx]
    by_cases h1 : j < i
    · rw [if_pos h1, if_pos h1]; exact hj
    · rw [if_neg h1, if_neg (by omega), show j - 1 + 1 = j by omega]; exact hj
  exact ⟨_, .cons i hi (.cons _ this .nil)⟩

theorem fn_post {P : Program} {f : FuncId} {args : List VP} {h : List HP} {Q Q' : VP → List HP → Prop} (hf : Fn P f args h Q) (hq : ∀ r h', Q r h' → ∃ h2, Q' r h2 ∧ ∀ (w : World) (W : WS) (S : Nat → Prop), Sat w W h' S → ∃ S', Sat w W h2 S' ∧ ∀ b, S' b → S b) : Fn P f args h Q' := by
  intro w W S vs hv hsat hsub hbd
  refine (hf w W S vs hv hsat hsub hbd).mono ?_
  rintro e w' ⟨v, r, h', W', S', he, hr, hp, hs, hrun⟩
  obtain ⟨h2, q1, q2⟩ := hq r h' hp
  obtain ⟨S2, q3, q4⟩ := q2 w' W' S' hs
  exact ⟨v, r, h2, W', S2, he, hr, q1, q3, hrun.less q4⟩
theorem slice_ok {P : Program} {f : FuncId} {args : List VP} {φ : Env} {h : List Ent} {n : Nat} {l : List Int} {r : AV × List Ent × Nat} (hr : sliceOf n h l = some r) (hf : Free φ n r.2.2)
    (hfn : Fn P f args (dnH φ h) fun rv h' => ∃ new, (∃ v, v.oneCell' = true ∧ (l = [] → v = .slice none 0 0) ∧ rv = vis v ∧ new = [hrow v 3 1 eint l]) ∧ h' = new ++ dnH φ h) :
    Fn P f args (dnH φ h) fun rv h' => ∃ φ', Ext φ φ' n r.2.2 ∧ VLe rv (dn φ' r.1) ∧ h' = dnH φ' r.2.1 := by
  intro w W S vs hv hsat hsub hbd
  refine (hfn w W S vs hv hsat hsub hbd).mono ?_
  rintro e w' ⟨u, rv, h', W', S', he, hu, ⟨new, ⟨v, h1, h2, rfl, rfl⟩, rfl⟩, hs, hrun⟩
  obtain ⟨T1, T2, t1, t2, t3, t4⟩ := hs
  match l, hr with
  | [], hr =>
    injection hr with hr
    subst hr
    exact ⟨u, _, dnH φ h, W', T2, he, hu, ⟨φ, Ext.refl _ _ _, fun w W z hz => dn_p.2 (by rw [show z = v from hz, h2 rfl]; rfl), rfl⟩, t2, hrun.less fun b hb => (t4 b).2 (.inr hb)⟩
  | x :: l, hr =>
    injection hr with hr
    subst hr
    rcases t1 with ⟨_, hl, _⟩ | ⟨g, o, c, cs, rfl, q2, q3, q4, q5, q6, q7, q8⟩
    · cases hl
    have hx := setE_ext ⟨g, o, c⟩ hf
    refine ⟨u, _, dnH (setE φ n ⟨g, o, c⟩) (.row n 3 1 ((x :: l).map fun x => [.v (.int .i64 x)]) :: h), W', S', he, hu, ⟨_, hx, fun w W z hz => dn_p.2 ?_, rfl⟩, ?_, hrun⟩
    · rw [show z = _ from hz]
      simp only [val, setE_at, Option.map_some]
      simp
    · refine ⟨T1, T2, dnRow_mk (setE_at _ _ _) ?_, Sat_le hx.le t2, t3, t4⟩
      rw [List.length_map]
      exact hrow_map (fun x _ => rfl) (.inr ⟨g, o, c, cs, rfl, q2, q3, q4, q5, q6, q7, q8⟩)
theorem sliceOf_n {n : Nat} {h : List Ent} {l : List Int} {r : AV × List Ent × Nat} (hr : sliceOf n h l = some r) : n ≤ r.2.2 := by
  match l, hr with
  | [], hr => injection hr with hr; subst hr; exact Nat.le_refl _
  | x :: l, hr => injection hr with hr; subst hr; exact Nat.le_succ _
theorem dn_int (φ : Env) (n : Int) : dn φ (.v (.int .i64 n)) = vint .i64 n := rfl
theorem orE_ok {P : Program} {p q : CAL} (hp : CalOk P p) (hq : CalOk P q) : CalOk P (orE p q) := by
  intro f args h n r hr
  unfold orE at hr
  split at hr
  · rename_i r' h1
    injection hr with hr
    subst hr
    exact hp f args h n _ h1
  · exact hq f args h n r hr
end Go.Proofs.YtagkniimpekhjaaGreat
