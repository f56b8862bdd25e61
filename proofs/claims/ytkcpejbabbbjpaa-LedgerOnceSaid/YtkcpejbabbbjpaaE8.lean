/- A part of the proof: contracts over a program of the model. -/
import Derived.Test.YtkcpejbabbbjpaaE7
import Derived.Orders
set_option linter.unusedVariables false
namespace Go.Proofs.Ytkcpejbabbbjpaa
open Go.RowKit

/-! ### a region whose order is open: each operation by what it hangs on; one that writes, if any, the last in every order -/
def dsts (l : List Oper) : List Nat := l.filterMap (·.dst)
/-- what the operations of these numbers gave -/
def fcts (l : List Oper) (res : List (Option VP)) : List Nat → Regs → Regs
  | [], σ => σ
  | j :: js, σ => match (l[j]?).bind (·.dst), (res[j]?).join with
    | some d, some p => (d, p) :: fcts l res js σ
    | _, _ => fcts l res js σ
def deps (o : Oper) : List Nat := (o.after.toList.filter (Region.binds .any)).map (·.on)
/-- two operations don't write one slot -/
def nodup : List Nat → Bool
  | [] => true
  | d :: ds => !(ds.any (Nat.beq d)) && nodup ds
def Kfct (d : Option Nat) (p : Option VP) (h : List HP) : KP := fun e σ' h' => e = .normal ∧ (∀ d' p', d = some d' → p = some p' → rg σ' d' = some p') ∧ h' = h
theorem kfct {d : Nat} {p : VP} {h h' : List HP} {σ' : Regs} (hr : rg σ' d = some p) (hh : h' = h) : Kfct (some d) (some p) h .normal σ' h' := ⟨rfl, fun d' p' h1 h2 => by cases h1; cases h2; exact hr, hh⟩
theorem kfct0 {d : Option Nat} {h h' : List HP} {σ' : Regs} (hh : h' = h) : Kfct d none h .normal σ' h' := ⟨rfl, nofun, hh⟩
theorem kfctu {p : Option VP} {h h' : List HP} {σ' : Regs} (hh : h' = h) : Kfct none p h .normal σ' h' := ⟨rfl, nofun, hh⟩
/-- every operation of the list, one by one -/
inductive Each (P : Program) (fz : Nat) (h : List HP) (ops : List Oper) (res : List (Option VP)) (σ : Regs) : List Oper → List (Option VP) → Prop
  | nil : Each P fz h ops res σ [] []
  | cons {o : Oper} {l : List Oper} {r : Option VP} {rs : List (Option VP)} (h1 : ∀ B, EvL P fz B (Kfct o.dst r h) ops.toArray [o] (fcts ops res (deps o) σ) h) (h2 : Each P fz h ops res σ l rs) : Each P fz h ops res σ (o :: l) (r :: rs)
theorem Each.get {P : Program} {fz : Nat} {h : List HP} {ops : List Oper} {res : List (Option VP)} {σ : Regs} : ∀ {l : List Oper} {rs : List (Option VP)}, Each P fz h ops res σ l rs → ∀ (i : Nat) (o : Oper), l[i]? = some o → ∃ r, rs[i]? = some r ∧ ∀ B, EvL P fz B (Kfct o.dst r h) ops.toArray [o] (fcts ops res (deps o) σ) h
  | _, _, .nil, i, o, hi => by simp at hi
  | _, _, .cons h1 h2, 0, o, hi => by
    simp only [List.getElem?_cons_zero, Option.some.injEq] at hi
    subst hi
    exact ⟨_, rfl, h1⟩
  | _, _, .cons h1 h2, i + 1, o, hi => by
    simp only [List.getElem?_cons_succ] at hi ⊢
    exact h2.get i o hi
/-- which come ahead of an operation, through others too -/
def ahead (l : List Oper) : Nat → List Nat → List Nat
  | 0, js => js
  | n + 1, js => ahead l n (js ++ js.flatMap fun j => match l[j]? with | some o => deps o | none => [])
/-- the last one comes last in every order -/
def lastLast (l : List Oper) : Bool := match l.getLast? with
  | some o => (List.range (l.length - 1)).all fun i => (ahead l l.length (deps o)).any (Nat.beq i)
  | none => false

section
variable {P : Program} {fz : Nat} {B : Bs} {K : KP} {σ : Regs} {h : List HP}

theorem fcts_rg {l : List Oper} {res : List (Option VP)} {d : Nat} {p : VP} : ∀ {js : List Nat}, rg (fcts l res js σ) d = some p → (∃ j ∈ js, (l[j]?).bind (·.dst) = some d ∧ (res[j]?).join = some p) ∨ rg σ d = some p
  | [], h => .inr h
  | j :: js, h => by
    unfold fcts at h
    split at h
    · rename_i d' p' h1 h2
      simp only [rg] at h
      cases hb : Nat.beq d' d with
      | true =>
        have := Nat.eq_of_beq_eq_true hb
        subst this
        rw [hb] at h
        simp only [cond_true, Option.some.injEq] at h
        subst h
        exact .inl ⟨j, List.mem_cons_self .., h1, h2⟩
      | false =>
        rw [hb] at h
        rcases fcts_rg h with ⟨k, hk, h3⟩ | h3
        · exact .inl ⟨k, List.mem_cons_of_mem _ hk, h3⟩
        · exact .inr h3
    · rcases fcts_rg h with ⟨k, hk, h3⟩ | h3
      · exact .inl ⟨k, List.mem_cons_of_mem _ hk, h3⟩
      · exact .inr h3
theorem nodup_ne : ∀ {l : List Oper} {i j : Nat} {d : Nat}, nodup (dsts l) = true → (l[i]?).bind (·.dst) = some d → (l[j]?).bind (·.dst) = some d → i = j
  | [], i, j, d, _, h, _ => by simp at h
  | o :: l, i, j, d, hn, hi, hj => by
    have key : ∀ {k : Nat}, (l[k]?).bind (·.dst) = some d → o.dst = some d → False := by
      intro k hk ho
      unfold dsts at hn
      rw [List.filterMap_cons, ho] at hn
      simp only [nodup, Bool.and_eq_true, Bool.not_eq_true'] at hn
      have : d ∈ List.filterMap (·.dst) l := by
        obtain ⟨o', ho', hd'⟩ := Option.bind_eq_some_iff.1 hk
        exact List.mem_filterMap.2 ⟨o', List.mem_of_getElem? ho', hd'⟩
      have h2 : (List.filterMap (·.dst) l).any (Nat.beq d) = true := List.any_eq_true.2 ⟨d, this, by simp⟩
      rw [h2] at hn
      exact absurd hn.1 (by simp)
    have hn' : nodup (dsts l) = true := by
      unfold dsts at hn ⊢
      rw [List.filterMap_cons] at hn
      cases ho : o.dst with
      | none => rw [ho] at hn; exact hn
      | some d' => rw [ho] at hn; simp only [nodup, Bool.and_eq_true] at hn; exact hn.2
    cases i with
    | zero =>
      cases j with
      | zero => rfl
      | succ j => simp only [List.getElem?_cons_zero, Option.bind_some, List.getElem?_cons_succ] at hi hj; exact (key hj hi).elim
    | succ i =>
      cases j with
      | zero => simp only [List.getElem?_cons_zero, Option.bind_some, List.getElem?_cons_succ] at hi hj; exact (key hi hj).elim
      | succ j => simp only [List.getElem?_cons_succ] at hi hj; rw [nodup_ne hn' hi hj]

/-- What holds when those of 'listed' have been carried out. -/
structure Inv (fz : Nat) (B : Bs) (σ : Regs) (h : List HP) (l : List Oper) (res : List (Option VP)) (listed : Array Bool) (a : Act) (w : World) (W : WS) (S : Nat → Prop) : Prop where
  st : St fz B.w0 B.W0 B.S0 σ h a w W S
  fct : ∀ (j : Nat) (d : Nat) (p : VP), listed.getD j false = true → (l[j]?).bind (·.dst) = some d → (res[j]?).join = some p → ∃ v, a.tmps[d]? = some v ∧ p.p w W v
  size : listed.size = l.length
  down : ∀ (j k : Nat) (o : Oper), listed.getD j false = true → l[j]? = some o → k ∈ deps o → listed.getD k false = true
theorem Inv.regs {l : List Oper} {res : List (Option VP)} {listed : Array Bool} {a : Act} {w : World} {W : WS} {S : Nat → Prop} (hi : Inv fz B σ h l res listed a w W S) (js : List Nat) (hj : ∀ j ∈ js, listed.getD j false = true) :
    St fz B.w0 B.W0 B.S0 (fcts l res js σ) h a w W S :=
  ⟨hi.st.tmps, hi.st.defers, fun d p hd => by
    rcases fcts_rg hd with ⟨j, hjm, h1, h2⟩ | h1
    · exact hi.fct j d p (hj j hjm) h1 h2
    · exact hi.st.regs d p h1, hi.st.sat, hi.st.run⟩
theorem mem_rdy {l : List Oper} {listed : Array Bool} {i : Nat} (hi : i ∈ Region.ready .any l.toArray listed) : ∃ o, l[i]? = some o ∧ listed.getD i true = false ∧ ∀ k ∈ deps o, listed.getD k false = true := by
  unfold Region.ready at hi
  simp only [List.mem_filter, List.mem_range, Bool.and_eq_true, Bool.not_eq_true'] at hi
  obtain ⟨h1, h2, h3⟩ := hi
  cases ho : l.toArray[i]? with
  | none => rw [ho] at h3; simp at h3
  | some o =>
    rw [ho] at h3
    simp only [Option.map_some, Option.getD_some] at h3
    refine ⟨o, by simpa using ho, h2, fun k hk => ?_⟩
    unfold deps at hk
    simp only [List.mem_map, List.mem_filter] at hk
    obtain ⟨e, ⟨he1, he2⟩, rfl⟩ := hk
    have := (Array.all_eq_true_iff_forall_mem.1 h3) e (by simpa using he1)
    simpa [he2] using this
theorem ready_none {l : List Oper} {listed : Array Bool} (hsz : listed.size = l.length) (hback : ∀ (i : Nat) (o : Oper), l[i]? = some o → ∀ k ∈ deps o, k < i) (hr : Region.ready .any l.toArray listed = []) : ∀ i, i < l.length → listed.getD i false = true := by
  intro i
  induction i using Nat.strongRecOn with
  | _ i ih =>
    intro hi
    cases hl : listed.getD i false with
    | true => rfl
    | false =>
      exfalso
      have hmem : i ∈ Region.ready .any l.toArray listed := by
        unfold Region.ready
        simp only [List.mem_filter, List.mem_range, Bool.and_eq_true, Bool.not_eq_true']
        refine ⟨by simpa using hi, ?_, ?_⟩
        · have : i < listed.size := by omega
          simp only [Array.getD_eq_getD_getElem?, Array.getElem?_eq_getElem this, Option.getD_some] at hl ⊢
          exact hl
        · have hg : l.toArray[i]? = some l[i] := by simp [hi]
          rw [hg]
          simp only [Option.map_some, Option.getD_some, Array.all_eq_true_iff_forall_mem]
          intro e he
          cases hb : Region.binds .any e with
          | false => simp
          | true =>
            have hk : e.on ∈ deps l[i] := List.mem_map.2 ⟨e, List.mem_filter.2 ⟨by simpa using he, hb⟩, rfl⟩
            have hlt := hback i _ (by simp [hi]) _ hk
            simp [ih _ hlt (by omega)]
      rw [hr] at hmem
      cases hmem
def backOk (l : List Oper) : Nat → List Oper → Bool
  | _, [] => true
  | i, o :: os => (deps o).all (fun k => Nat.blt k i) && backOk l (i + 1) os
theorem backOk_spec {l0 : List Oper} : ∀ {os : List Oper} {i : Nat}, backOk l0 i os = true → ∀ (j : Nat) (o : Oper), os[j]? = some o → ∀ k ∈ deps o, k < i + j
  | [], i, _, j, o, h, _, _ => by simp at h
  | o' :: os, i, hb, 0, o, h, k, hk => by
    simp only [backOk, Bool.and_eq_true] at hb
    simp only [List.getElem?_cons_zero, Option.some.injEq] at h
    subst h
    have := List.all_eq_true.1 hb.1 k hk
    have : k < i := by simpa [Nat.blt_eq] using this
    omega
  | o' :: os, i, hb, j + 1, o, h, k, hk => by
    simp only [backOk, Bool.and_eq_true] at hb
    simp only [List.getElem?_cons_succ] at h
    have := backOk_spec hb.2 j o h k hk
    omega
/-- One operation more. -/
theorem Inv.step {l : List Oper} {res : List (Option VP)} (hnd : nodup (dsts l) = true) (hσ : ∀ d ∈ dsts l, rg σ d = none) {listed : Array Bool} {a : Act} {w : World} {W : WS} {S : Nat → Prop} (hi : Inv fz B σ h l res listed a w W S) {i : Nat} {o : Oper} {r : Option VP} (ho : l[i]? = some o) (hr : res[i]? = some r)
    (hdeps : ∀ k ∈ deps o, listed.getD k false = true) (hev : ∀ B, EvL P fz B (Kfct o.dst r h) l.toArray [o] (fcts l res (deps o) σ) h) {Q : Exit → Act → World → Prop} {Kn : Act → World → Prop}
    (hk : ∀ a w W S, Inv fz B σ h l res (listed.setIfInBounds i true) a w W S → Kn a w) : wpOp P l.toArray Q i Kn a w := by
  have h1 := hev ⟨w, W, S, hi.st.run.sub⟩ a w W S (by
    have := hi.regs (deps o) hdeps
    exact ⟨this.tmps, this.defers, this.regs, this.sat, Run.refl hi.st.run.sub hi.st.run.bound⟩)
  have hds : ([o].all (fun o' => match o'.dst with | some e => (match o.dst with | some d => [d] | none => []).any (Nat.beq e) | none => true)) = true := by
    cases hd : o.dst <;> simp [hd]
  have h2 := wpList_same QK.noout (ds := match o.dst with | some d => [d] | none => []) [o] a w hds h1
  have key : ∀ a' w', (QK fz ⟨w, W, S, hi.st.run.sub⟩ (Kfct o.dst r h) .normal a' w' ∧ (Exit.normal = .normal → ∀ e, (match o.dst with | some d => [d] | none => []).any (Nat.beq e) = false → a'.tmps[e]? = a.tmps[e]?)) → Kn a' w' := by
    rintro a' w' ⟨⟨_, _, σ', h', W', S', hs', _, hp, rfl⟩, hsame⟩
    have hsame := hsame rfl
    have hevo : Evo w W w' W' := hs'.run.evo hi.st.run.sub
    refine hk a' w' W' S' ⟨⟨hs'.tmps, hs'.defers, fun d p hd => ?_, hs'.sat, hi.st.run.trans hs'.run⟩, fun j d p hj hd hpj => ?_, by rw [Array.size_setIfInBounds]; exact hi.size, fun j k o' hj hoj hkk => ?_⟩
    · obtain ⟨v, hv, hpv⟩ := hi.st.regs d p hd
      have hne : (match o.dst with | some d => [d] | none => []).any (Nat.beq d) = false := by
        cases hod : o.dst with
        | none => rfl
        | some d' =>
          simp only [List.any_cons, List.any_nil, Bool.or_false]
          rw [← Bool.not_eq_true]
          intro hb
          have := Nat.eq_of_beq_eq_true hb
          subst this
          rw [hσ d (List.mem_filterMap.2 ⟨o, List.mem_of_getElem? ho, hod⟩)] at hd
          cases hd
      exact ⟨v, by rw [hsame d hne]; exact hv, p.st hevo hpv⟩
    · by_cases hji : j = i
      · subst hji
        rw [ho] at hd
        rw [hr] at hpj
        exact hs'.regs d p (hp d p hd hpj)
      · have hj' : listed.getD j false = true := by
          rw [Array.getD_eq_getD_getElem?, Array.getElem?_setIfInBounds_ne (fun e => hji e.symm)] at hj
          rw [Array.getD_eq_getD_getElem?]
          exact hj
        obtain ⟨v, hv, hpv⟩ := hi.fct j d p hj' hd hpj
        have hne : (match o.dst with | some d => [d] | none => []).any (Nat.beq d) = false := by
          cases hod : o.dst with
          | none => rfl
          | some d' =>
            simp only [List.any_cons, List.any_nil, Bool.or_false]
            rw [← Bool.not_eq_true]
            intro hb
            have := Nat.eq_of_beq_eq_true hb
            subst this
            exact hji (nodup_ne hnd hd (by rw [ho]; exact hod))
        exact ⟨v, by rw [hsame d hne]; exact hv, p.st hevo hpv⟩
    · have hset : ∀ m, listed.getD m false = true → (listed.setIfInBounds i true).getD m false = true := by
        intro m hm
        by_cases hmi : m = i
        · subst hmi
          have : m < listed.size := by rw [hi.size]; exact (List.getElem?_eq_some_iff.1 ho).1
          simp [Array.getD_eq_getD_getElem?, this]
        · rw [Array.getD_eq_getD_getElem?, Array.getElem?_setIfInBounds_ne (fun e => hmi e.symm)]
          rw [Array.getD_eq_getD_getElem?] at hm
          exact hm
      by_cases hji : j = i
      · subst hji
        rw [ho] at hoj
        injection hoj with hoj
        subst hoj
        exact hset k (hdeps k hkk)
      · have hj' : listed.getD j false = true := by
          rw [Array.getD_eq_getD_getElem?, Array.getElem?_setIfInBounds_ne (fun e => hji e.symm)] at hj
          rw [Array.getD_eq_getD_getElem?]
          exact hj
        exact hset k (hi.down j k o' hj' hoj hkk)
  unfold wpOp
  have hoa : l.toArray[i]? = some o := by simpa using ho
  rw [hoa]
  simp only
  unfold wpList at h2
  split at h2
  · rename_i hw
    rw [if_pos hw]
    rcases h2 with h2 | ⟨_, h2⟩
    · refine .inl ?_
      unfold Oper.wp at h2 ⊢
      exact upon_change (fun a w hh => key a w hh) (fun c a w hh => QK.nopanic c a w hh.1) (fun ⟨a, w, hh⟩ => hh.1.2.1 rfl) _ h2
    · obtain ⟨a, w, hh⟩ := h2
      exact (hh.1.2.1 rfl).elim
  · rename_i hw
    rw [if_neg hw]
    exact key _ _ h2

theorem count_le (listed : Array Bool) : True := trivial
/-- how many are still to come -/
def left (listed : Array Bool) : Nat := listed.toList.countP (fun b => !b)
theorem left_set {listed : Array Bool} {i : Nat} (hi : listed.getD i true = false) : left (listed.setIfInBounds i true) + 1 = left listed := by
  unfold left
  have hlt : i < listed.size := by
    rcases Nat.lt_or_ge i listed.size with h | h
    · exact h
    · simp [Array.getD_eq_getD_getElem?, Array.getElem?_eq_none h] at hi
  have hv : listed[i] = false := by simpa [Array.getD_eq_getD_getElem?, hlt] using hi
  rw [Array.toList_setIfInBounds]
  have hl : i < listed.toList.length := by simpa using hlt
  have hv' : listed.toList[i] = false := by simpa using hv
  have h1 := List.take_append_drop i listed.toList
  have h2 : listed.toList.drop i = false :: listed.toList.drop (i + 1) := by rw [List.drop_eq_getElem_cons hl, hv']
  have h3 : listed.toList.set i true = listed.toList.take i ++ true :: listed.toList.drop (i + 1) := List.set_eq_take_append_cons_drop.trans (by rw [if_pos hl])
  rw [h3]
  conv => rhs; rw [← h1, h2]
  simp only [List.countP_append, List.countP_cons]
  simp
  omega
theorem left_zero {listed : Array Bool} (h : left listed = 0) : ∀ i, i < listed.size → listed.getD i false = true := by
  intro i hi
  unfold left at h
  rw [List.countP_eq_zero] at h
  have := h listed[i] (by simp)
  simpa [Array.getD_eq_getD_getElem?, hi] using this
theorem wpAny_inv {l : List Oper} {res : List (Option VP)} (hnd : nodup (dsts l) = true) (hσ : ∀ d ∈ dsts l, rg σ d = none) (hb : backOk l 0 l = true) (m : Nat) {Q : Exit → Act → World → Prop}
    (heach : ∀ (i : Nat) (o : Oper), l[i]? = some o → i ≠ m → ∃ r, res[i]? = some r ∧ ∀ B, EvL P fz B (Kfct o.dst r h) l.toArray [o] (fcts l res (deps o) σ) h)
    (hlast : ∀ (listed : Array Bool) (o : Oper) a w W S, Inv fz B σ h l res listed a w W S → l[m]? = some o → listed.getD m true = false → (∀ k ∈ deps o, listed.getD k false = true) → wpOp P l.toArray Q m (fun a w => Q .normal a w) a w ∧ left listed = 1)
    (hall : ∀ (listed : Array Bool) a w W S, Inv fz B σ h l res listed a w W S → (m < l.length → listed.getD m false = false) → (∀ i, i < l.length → listed.getD i false = true) → Q .normal a w) :
    ∀ (fuel : Nat) (listed : Array Bool) a w W S, left listed ≤ fuel → (m < l.length → listed.getD m false = false) → Inv fz B σ h l res listed a w W S → wpAny P .any l.toArray Q fuel listed a w := by
  have hback : ∀ (i : Nat) (o : Oper), l[i]? = some o → ∀ k ∈ deps o, k < i := fun i o ho k hk => by have := backOk_spec hb i o ho k hk; omega
  intro fuel
  induction fuel with
  | zero =>
    intro listed a w W S hl hmf hi
    have hz := left_zero (show left listed = 0 by omega)
    refine ⟨?_, hall listed a w W S hi hmf (fun i hlt => hz i (by rw [hi.size]; exact hlt))⟩
    cases hr : Region.ready .any l.toArray listed with
    | nil => rfl
    | cons x xs =>
      exfalso
      obtain ⟨o, ho, h1, _⟩ := mem_rdy (l := l) (listed := listed) (i := x) (by rw [hr]; exact List.mem_cons_self ..)
      have hlt : x < listed.size := by rw [hi.size]; exact (List.getElem?_eq_some_iff.1 ho).1
      have := hz x hlt
      simp [Array.getD_eq_getD_getElem?, hlt] at h1 this
      rw [h1] at this
      cases this
  | succ fuel ih =>
    intro listed a w W S hl hmf hi
    refine ⟨fun hr => hall listed a w W S hi hmf (ready_none hi.size hback hr), fun i hir => ?_⟩
    obtain ⟨o, ho, h1, h2⟩ := mem_rdy hir
    have hls := left_set h1
    by_cases him : i = m
    · subst him
      obtain ⟨h3, h4⟩ := hlast listed o a w W S hi ho h1 h2
      refine wpOp_mono (fun a w hq => ?_) h3
      have hz0 : left (listed.setIfInBounds i true) = 0 := by omega
      have hz := left_zero hz0
      have hrn : Region.ready .any l.toArray (listed.setIfInBounds i true) = [] := by
        cases hr : Region.ready .any l.toArray (listed.setIfInBounds i true) with
        | nil => rfl
        | cons x xs =>
          exfalso
          obtain ⟨o', ho', k1, _⟩ := mem_rdy (l := l) (listed := listed.setIfInBounds i true) (i := x) (by rw [hr]; exact List.mem_cons_self ..)
          have hlt : x < (listed.setIfInBounds i true).size := by rw [Array.size_setIfInBounds, hi.size]; exact (List.getElem?_eq_some_iff.1 ho').1
          have := hz x hlt
          rw [Array.getD_eq_getD_getElem?, Array.getElem?_eq_getElem hlt] at k1 this
          simp only [Option.getD_some] at k1 this
          rw [k1] at this
          cases this
      cases fuel with
      | zero => exact ⟨hrn, hq⟩
      | succ f => exact ⟨fun _ => hq, fun j hj => by rw [hrn] at hj; cases hj⟩
    · obtain ⟨r, hr, hev⟩ := heach i o ho him
      exact Inv.step hnd hσ hi ho hr h2 hev (fun a w W S hi' => ih _ a w W S (by omega) (fun hlt => by rw [Array.getD_eq_getD_getElem?, Array.getElem?_setIfInBounds_ne him, ← Array.getD_eq_getD_getElem?]; exact hmf hlt) hi')
theorem drp_none {l : List Oper} : ∀ d ∈ dsts l, rg (drp (dsts l) σ) d = none := by
  intro d hd
  rw [rg_drp, List.any_eq_true.2 ⟨d, hd, by simp⟩]
  rfl
theorem Inv.start {l : List Oper} {res : List (Option VP)} {a : Act} {w : World} {W : WS} {S : Nat → Prop} (hs : St fz B.w0 B.W0 B.S0 σ h a w W S) : Inv fz B (drp (dsts l) σ) h l res (Array.replicate l.length false) a { w with drawn := w.drawn + 1 } W S := by
  have hr := Run.drew hs.run.sub hs.run.bound
  have hev := hr.evo hs.run.sub
  refine ⟨⟨hs.tmps, hs.defers, fun d p hd => ?_, hs.sat.st hev (fun _ _ => rfl), hs.run.trans hr⟩, fun j d p hj => ?_, by simp, fun j k o hj => ?_⟩
  · rw [rg_drp] at hd
    cases hb : (dsts l).any (Nat.beq d) with
    | true => rw [hb] at hd; cases hd
    | false =>
      rw [hb] at hd
      obtain ⟨v, hv, hp⟩ := hs.regs d p hd
      exact ⟨v, hv, p.st hev hp⟩
  · simp [Array.getD_eq_getD_getElem?, Array.getElem?_replicate] at hj
    split at hj <;> simp at hj
  · simp [Array.getD_eq_getD_getElem?, Array.getElem?_replicate] at hj
    split at hj <;> simp at hj
theorem left_start (n : Nat) : left (Array.replicate n false) = n := by
  unfold left
  simp [List.countP_replicate]
/-- A region that draws its order and only computes. -/
theorem drw {id : Nat} {l : List Oper} (res : List (Option VP)) (hm : P.follows .mixedOrders = true) (he : Each P fz h l res (drp (dsts l) σ) l res) (k : K .normal (fcts l res (List.range l.length) (drp (dsts l) σ)) h) (hnd : nodup (dsts l) = true := by rfl) (hb : backOk l 0 l = true := by rfl) : EvC P fz B K (.region id l.toArray true) σ h := by
  intro a w W S hs
  refine wp_region_any hm ?_
  rw [show l.toArray.size = l.length from by simp]
  refine wpAny_inv (σ := drp (dsts l) σ) (h := h) (res := res) hnd drp_none hb l.length (fun i o ho hne => he.get i o ho) (fun listed o a w W S hi ho => by simp at ho) (fun listed a w W S hi _ hall => ?_) l.length _ _ _ W S (by rw [left_start]; exact Nat.le_refl _) (fun hlt => absurd hlt (Nat.lt_irrefl _)) (Inv.start hs)
  exact ⟨nofun, nofun, _, h, W, S, hi.regs (List.range l.length) (fun j hj => hall j (List.mem_range.1 hj)), k⟩
theorem ahead_listed {l : List Oper} {res : List (Option VP)} {listed : Array Bool} {a : Act} {w : World} {W : WS} {S : Nat → Prop} (hi : Inv fz B σ h l res listed a w W S) : ∀ (n : Nat) (js : List Nat), (∀ j ∈ js, listed.getD j false = true) → ∀ j ∈ ahead l n js, listed.getD j false = true
  | 0, js, hj, j, h => hj j h
  | n + 1, js, hj, j, h => by
    unfold ahead at h
    refine ahead_listed hi n _ (fun k hk => ?_) j h
    rcases List.mem_append.1 hk with hk | hk
    · exact hj k hk
    · obtain ⟨m, hm, hkm⟩ := List.mem_flatMap.1 hk
      cases ho : l[m]? with
      | none => rw [ho] at hkm; cases hkm
      | some o => rw [ho] at hkm; exact hi.down m k o (hj m hm) ho hkm
/-- A region that draws its order, the last operation of which writes. -/
theorem drwL {id : Nat} {l : List Oper} {o : Oper} (res : List (Option VP)) (hm : P.follows .mixedOrders = true) (he : Each P fz h (l ++ [o]) res (drp (dsts (l ++ [o])) σ) l res) (k : EvL P fz B K (l ++ [o]).toArray [o] (fcts (l ++ [o]) res (List.range l.length) (drp (dsts (l ++ [o])) σ)) h)
    (hnd : nodup (dsts (l ++ [o])) = true := by rfl) (hb : backOk (l ++ [o]) 0 (l ++ [o]) = true := by rfl) (hlast : ((List.range l.length).all fun i => (ahead (l ++ [o]) l.length (deps o)).any (Nat.beq i)) = true := by rfl) : EvC P fz B K (.region id (l ++ [o]).toArray true) σ h := by
  intro a w W S hs
  refine wp_region_any hm ?_
  rw [show (l ++ [o]).toArray.size = (l ++ [o]).length from by simp]
  refine wpAny_inv (σ := drp (dsts (l ++ [o])) σ) (h := h) (res := res) hnd drp_none hb l.length (fun i o' ho hne => ?_) (fun listed o' a w W S hi ho h1 h2 => ?_) (fun listed a w W S hi hmf hall => ?_) (l ++ [o]).length _ _ _ W S (by rw [left_start]; exact Nat.le_refl _) (fun _ => by rw [Array.getD_eq_getD_getElem?, Array.getElem?_replicate]; split <;> rfl) (Inv.start hs)
  · have hlt : i < l.length := by
      have := (List.getElem?_eq_some_iff.1 ho).1
      rw [List.length_append, List.length_singleton] at this
      omega
    rw [List.getElem?_append_left hlt] at ho
    exact he.get i o' ho
  · have ho' : o' = o := by
      rw [List.getElem?_append_right (Nat.le_refl _), Nat.sub_self] at ho
      simpa using ho.symm
    subst ho'
    have hah := ahead_listed hi l.length (deps o') h2
    have hothers : ∀ j, j < l.length → listed.getD j false = true := by
      intro j hj
      have := List.all_eq_true.1 hlast j (List.mem_range.2 hj)
      obtain ⟨x, hx, hxj⟩ := List.any_eq_true.1 this
      have := Nat.eq_of_beq_eq_true hxj
      subst this
      exact hah j hx
    have hk := k a w W S (hi.regs (List.range l.length) (fun j hj => hothers j (List.mem_range.1 hj)))
    constructor
    · unfold wpOp
      have hoa : (l ++ [o']).toArray[l.length]? = some o' := by simp
      rw [hoa]
      simp only
      unfold wpList at hk
      exact hk
    · have hls := left_set h1
      have hz : left (listed.setIfInBounds l.length true) = 0 := by
        unfold left
        rw [List.countP_eq_zero]
        intro b hb
        obtain ⟨j, hj, hjb⟩ := List.getElem_of_mem hb
        rw [Array.toList_setIfInBounds, List.length_set] at hj
        have hjs : j < listed.size := by simpa using hj
        rw [hi.size, List.length_append, List.length_singleton] at hjs
        by_cases hjl : j = l.length
        · subst hjl
          simp at hjb
          simp [← hjb]
        · have := hothers j (by omega)
          have hjs2 : j < listed.size := by rw [hi.size, List.length_append, List.length_singleton]; omega
          simp [Array.toList_setIfInBounds, List.getElem_set_ne (fun e => hjl e.symm)] at hjb
          simp [Array.getD_eq_getD_getElem?, hjs2] at this
          rw [this] at hjb
          simp [← hjb]
      omega
  · have h1 := hall l.length (by simp)
    rw [hmf (by simp)] at h1
    cases h1
end
end Go.Proofs.Ytkcpejbabbbjpaa
