/- A part of the proof: contracts over a program of the model. -/
import Derived.Test.YtkcpejbabbbjpaaY2
set_option linter.unusedVariables false
set_option linter.unusedSectionVars false
set_option linter.unusedSimpArgs false
namespace Go.Proofs.Ytkcpejbabbbjpaa
open Go.RowKit

section
variable {P : Program} {fz : Nat} {B : Bs} {φ : Env} {a : Act} {w : World} {W : WS} {S : Nat → Prop} {cal : CAL} {base : RG} {T : List (List Nat)} {l : List Oper}
def ahOf (T : List (List Nat)) (i : Nat) : List Nat := (lget T i).getD []
structure HS (P : Program) (cal : CAL) (fz : Nat) (base : RG) (T : List (List Nat)) (l : List Oper) (sn0 : List Ent × Nat) (i : Nat) (D : DS) : Prop where
  rsl : D.rs.length = i
  snl : D.sn.length = D.hp.length + 1
  zero : D.sn[0]? = some sn0
  lt : ∀ (k j : Nat), D.hp[k]? = some j → j < i
  cov : ∀ (j : Nat) (o : Oper), j < i → l[j]? = some o → isR o.op = false → ∃ k : Nat, D.hp[k]? = some j
  notR : ∀ (k j : Nat) (o : Oper), D.hp[k]? = some j → l[j]? = some o → isR o.op = false
  inj : ∀ (k k' j : Nat), D.hp[k]? = some j → D.hp[k']? = some j → k = k'
  h : ∀ (k j : Nat) (o : Oper) (sn : List Ent × Nat), D.hp[k]? = some j → l[j]? = some o → D.sn[k]? = some sn → (∀ (m jm : Nat), m < k → D.hp[m]? = some jm → has (ahOf T j) jm = true) ∧
    ∃ s', opE P cal fz l.toArray ⟨mkRegs l.toArray base (D.rs.take j) (ahOf T j), sn.1, sn.2⟩ o = some s' ∧ D.sn[k + 1]? = some (s'.heap, s'.n) ∧ D.rs[j]? = some (resOf s' o)
theorem HS.step {sn0 : List Ent × Nat} {i : Nat} {o : Oper} {D D' : DS} (hs : HS P cal fz base T l sn0 i D) (ho : l[i]? = some o) (h : dstep P cal fz l.toArray base T i o D = some D') : HS P cal fz base T l sn0 (i + 1) D' := by
  unfold dstep at h
  cases hr : isR o.op with
  | true =>
    rw [hr] at h
    simp only [cond_true] at h
    obtain ⟨sn, h1, h⟩ := bnd_some h
    obtain ⟨s', h2, h⟩ := bnd_some h
    injection h with h
    subst h
    refine ⟨by simp [hs.rsl], hs.snl, hs.zero, fun k j hk => Nat.lt_succ_of_lt (hs.lt k j hk), fun j o' hj ho' hr' => ?_, hs.notR, hs.inj, fun k j o' sn' hk ho' hsn => ?_⟩
    · rcases Nat.lt_or_eq_of_le (Nat.le_of_lt_succ hj) with hj | hj
      · exact hs.cov j o' hj ho' hr'
      · subst hj
        rw [ho] at ho'
        injection ho' with ho'
        subst ho'
        rw [hr] at hr'
        cases hr'
    · have hji := hs.lt k j hk
      obtain ⟨g1, s'', g2, g3, g4⟩ := hs.h k j o' sn' hk ho' hsn
      refine ⟨g1, s'', ?_, g3, ?_⟩
      · show opE P cal fz l.toArray ⟨mkRegs l.toArray base ((D.rs ++ [resOf s' o]).take j) (ahOf T j), sn'.1, sn'.2⟩ o' = _
        rw [List.take_append_of_le_length (by rw [hs.rsl]; omega)]
        exact g2
      · show (D.rs ++ [resOf s' o])[j]? = _
        rw [List.getElem?_append_left (by rw [hs.rsl]; exact hji)]
        exact g4
  | false =>
    rw [hr] at h
    simp only [cond_false] at h
    obtain ⟨hall, h⟩ := lp1_some h
    obtain ⟨sn, h1, h⟩ := bnd_some h
    obtain ⟨s', h2, h⟩ := bnd_some h
    injection h with h
    subst h
    rw [lget_eq] at h1
    have hhp : ∀ (k j : Nat), (D.hp ++ [i])[k]? = some j → (D.hp[k]? = some j ∧ k < D.hp.length) ∨ (k = D.hp.length ∧ j = i) := by
      intro k j hk
      by_cases hlt : k < D.hp.length
      · rw [List.getElem?_append_left hlt] at hk
        exact .inl ⟨hk, hlt⟩
      · rw [List.getElem?_append_right (by omega)] at hk
        have := (List.getElem?_eq_some_iff.1 hk).1
        simp only [List.length_singleton] at this
        have hkk : k = D.hp.length := by omega
        subst hkk
        rw [Nat.sub_self] at hk
        simp only [List.getElem?_cons_zero, Option.some.injEq] at hk
        exact .inr ⟨rfl, hk.symm⟩
    refine ⟨by simp [hs.rsl], by simp [hs.snl], ?_, fun k j hk => ?_, fun j o' hj ho' hr' => ?_, fun k j o' hk ho' => ?_, fun k k' j hk hk' => ?_, fun k j o' sn' hk ho' hsn => ?_⟩
    · show (D.sn ++ [(s'.heap, s'.n)])[0]? = _
      rw [List.getElem?_append_left (by rw [hs.snl]; omega)]
      exact hs.zero
    · rcases hhp k j hk with ⟨hk, _⟩ | ⟨_, rfl⟩
      · exact Nat.lt_succ_of_lt (hs.lt k j hk)
      · exact Nat.lt_succ_self _
    · rcases Nat.lt_or_eq_of_le (Nat.le_of_lt_succ hj) with hj | hj
      · obtain ⟨k, hk⟩ := hs.cov j o' hj ho' hr'
        exact ⟨k, by show (D.hp ++ [i])[k]? = _; rw [List.getElem?_append_left (List.getElem?_eq_some_iff.1 hk).1]; exact hk⟩
      · subst hj
        exact ⟨D.hp.length, by show (D.hp ++ [j])[D.hp.length]? = _; simp⟩
    · rcases hhp k j hk with ⟨hk, _⟩ | ⟨_, rfl⟩
      · exact hs.notR k j o' hk ho'
      · rw [ho] at ho'
        injection ho' with ho'
        subst ho'
        exact hr
    · rcases hhp k j hk with ⟨hk1, _⟩ | ⟨e1, e3⟩
      · rcases hhp k' j hk' with ⟨hk2, _⟩ | ⟨_, e4⟩
        · exact hs.inj k k' j hk1 hk2
        · have := hs.lt k j hk1
          omega
      · rcases hhp k' j hk' with ⟨hk2, _⟩ | ⟨e2, _⟩
        · have := hs.lt k' j hk2
          omega
        · omega
    · rcases hhp k j hk with ⟨hk, hkl⟩ | ⟨rfl, rfl⟩
      · have hji := hs.lt k j hk
        have hsn' : D.sn[k]? = some sn' := by
          have : (D.sn ++ [(s'.heap, s'.n)])[k]? = some sn' := hsn
          rw [List.getElem?_append_left (by rw [hs.snl]; omega)] at this
          exact this
        obtain ⟨g1, s'', g2, g3, g4⟩ := hs.h k j o' sn' hk ho' hsn'
        refine ⟨fun m jm hm hjm => ?_, s'', ?_, ?_, ?_⟩
        · rcases hhp m jm hjm with ⟨hjm, _⟩ | ⟨e, _⟩
          · exact g1 m jm hm hjm
          · omega
        · show opE P cal fz l.toArray ⟨mkRegs l.toArray base ((D.rs ++ [resOf s' o]).take j) (ahOf T j), sn'.1, sn'.2⟩ o' = _
          rw [List.take_append_of_le_length (by rw [hs.rsl]; omega)]
          exact g2
        · show (D.sn ++ [(s'.heap, s'.n)])[k + 1]? = _
          rw [List.getElem?_append_left (by rw [hs.snl]; omega)]
          exact g3
        · show (D.rs ++ [resOf s' o])[j]? = _
          rw [List.getElem?_append_left (by rw [hs.rsl]; exact hji)]
          exact g4
      · rw [ho] at ho'
        injection ho' with ho'
        subst ho'
        have hsn' : D.sn[D.hp.length]? = some sn' := by
          have : (D.sn ++ [(s'.heap, s'.n)])[D.hp.length]? = some sn' := hsn
          rw [List.getElem?_append_left (by rw [hs.snl]; omega)] at this
          exact this
        rw [h1] at hsn'
        injection hsn' with hsn'
        subst hsn'
        refine ⟨fun m jm hm hjm => ?_, s', ?_, ?_, ?_⟩
        · rcases hhp m jm hjm with ⟨hjm, _⟩ | ⟨e, _⟩
          · exact List.all_eq_true.1 hall jm (List.mem_of_getElem? hjm)
          · omega
        · show opE P cal fz l.toArray ⟨mkRegs l.toArray base ((D.rs ++ [resOf s' o]).take j) (ahOf T j), sn.1, sn.2⟩ o = _
          rw [List.take_append_of_le_length (by rw [hs.rsl]; exact Nat.le_refl _), List.take_of_length_le (by rw [hs.rsl]; exact Nat.le_refl _)]
          exact h2
        · show (D.sn ++ [(s'.heap, s'.n)])[D.hp.length + 1]? = _
          rw [← hs.snl]
          simp
        · show (D.rs ++ [resOf s' o])[j]? = _
          rw [← hs.rsl]
          simp
theorem dgo_HS {sn0 : List Ent × Nat} : ∀ {os pre : List Oper} {D D' : DS}, l = pre ++ os → HS P cal fz base T l sn0 pre.length D → dgo P cal fz l.toArray base T pre.length os D = some D' → HS P cal fz base T l sn0 l.length D'
  | [], pre, D, D', hl, hs, h => by
    injection h with h
    subst h
    rw [List.append_nil] at hl
    rw [hl]
    rw [hl] at hs
    exact hs
  | o :: os, pre, D, D', hl, hs, h => by
    simp only [dgo] at h
    obtain ⟨D1, h1, h2⟩ := bnd_some h
    have h3 := hs.step (by rw [hl]; simp) h1
    have hlen : pre.length + 1 = (pre ++ [o]).length := by simp
    rw [hlen] at h2 h3
    exact dgo_HS (pre := pre ++ [o]) (by rw [hl]; simp) h3 h2
theorem dchk1_ok {regs : RG} {o : Oper} {r : Option AV} {ops : Array Oper} {sns : List (List Ent × Nat)} : ∀ {m t : Nat}, dchk1 P cal fz ops regs o r sns t m = true → ∀ t' : Nat, t ≤ t' → t' < t + m → ∀ sn, sns[t']? = some sn → ∃ s', opE P cal fz ops ⟨regs, sn.1, sn.2⟩ o = some s' ∧ resOf s' o = r
  | 0, t, _, t', h1, h2, _, _ => by omega
  | m + 1, t, h, t', h1, h2, sn, hsn => by
    simp only [dchk1, Bool.and_eq_true] at h
    rcases Nat.lt_or_eq_of_le h1 with h3 | h3
    · exact dchk1_ok h.2 t' h3 (by omega) sn hsn
    · subst h3
      have h4 := h.1
      rw [lget_eq, hsn] at h4
      simp only [Option.bind_some] at h4
      split at h4
      · rename_i s' hs'
        exact ⟨s', hs', oBeq_eq h4⟩
      · cases h4
theorem dchk_ok {D : DS} : ∀ {os pre : List Oper}, l = pre ++ os → dchk P cal fz l.toArray base T D pre.length os = true → ∀ (i : Nat) (o : Oper), pre.length ≤ i → l[i]? = some o → isR o.op = true →
    dchk1 P cal fz l.toArray (mkRegs l.toArray base (D.rs.take i) (ahOf T i)) o ((lget D.rs i).bind id) D.sn (loOf (ahOf T i) 0 D.hp 0) (hiOf T i 0 D.hp + 1 - loOf (ahOf T i) 0 D.hp 0) = true
  | [], pre, hl, h, i, o, hi, ho, hr => by
    rw [List.append_nil] at hl
    rw [hl] at ho
    have := (List.getElem?_eq_some_iff.1 ho).1
    omega
  | o' :: os, pre, hl, h, i, o, hi, ho, hr => by
    simp only [dchk, Bool.and_eq_true] at h
    rcases Nat.lt_or_eq_of_le hi with h3 | h3
    · have hlen : pre.length + 1 = (pre ++ [o']).length := by simp
      have h2 := h.2
      rw [hlen] at h2
      exact dchk_ok (pre := pre ++ [o']) (by rw [hl]; simp) h2 i o (by rw [← hlen]; exact h3) ho hr
    · subst h3
      have : o = o' := by rw [hl] at ho; simpa using ho.symm
      subst this
      have h1 := h.1
      rw [hr] at h1
      exact h1
theorem loOf_le {ah : List Nat} {t : Nat} : ∀ {js : List Nat} {k r : Nat}, (∀ (m j : Nat), js[m]? = some j → has ah j = true → k + m + 1 ≤ t) → r ≤ t → loOf ah k js r ≤ t
  | [], k, r, _, h => h
  | j :: js, k, r, hj, hr => by
    simp only [loOf]
    refine loOf_le (fun m j' hm hh => by have := hj (m + 1) j' (by simpa using hm) hh; omega) ?_
    cases hb : has ah j with
    | true => have := hj 0 j rfl hb; simp only [cond_true]; omega
    | false => exact hr
theorem hiOf_ge {i t : Nat} : ∀ {js : List Nat} {k : Nat}, t ≤ k + js.length → (∀ (m j : Nat), js[m]? = some j → has (ahOf T j) i = true → t ≤ k + m) → t ≤ hiOf T i k js
  | [], k, h, _ => h
  | j :: js, k, h, hj => by
    simp only [hiOf]
    cases hb : has ((lget T j).getD []) i with
    | true => have := hj 0 j rfl hb; simp only [cond_true]; omega
    | false =>
      simp only [cond_false]
      simp only [List.length_cons] at h
      exact hiOf_ge (by omega) (fun m j' hm hh => by have := hj (m + 1) j' (by simpa using hm) hh; omega)
end
end Go.Proofs.Ytkcpejbabbbjpaa
