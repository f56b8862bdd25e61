/- A part of the proof: contracts over a program of the model. -/
import Derived.Test.YtagkniimpekhjaaGreatE7
import Derived.Orders
set_option linter.unusedVariables false
namespace Go.Proofs.YtagkniimpekhjaaGreat
open Go.RowKit

/-! ### a region whose order is open: each operation by what it hangs on; one that writes, if any, the last in every order -/
def dsts (l : List Oper) : List Nat := l.filterMap (·.dst)
/-- what the operations of these numbers gave -/
def fcts (l : List Oper) (res : List (Option VP)) : List Nat → Regs → Regs
  | [], σ => σ
  | j :: js, σ => match (l[j]?).bind (·.dst), (res[j]?).join with
    | some d, some p => (d, p) :: fcts l res js σ
    | _, _ => fcts l res js σ
def deps (o : Oper) : List Nat := (o.after.toList.filter (Region.binds .any)).map (·.on)
/-- two operations don't write one slot -/
def nodup : List Nat → Bool
  | [] => true
  | d :: ds => !(ds.any (Nat.beq d)) && nodup ds
def Kfct (d : Option Nat) (p : Option VP) (h : List HP) : KP := fun e σ' h' => e = .normal ∧ (∀ d' p', d = some d' → p = some p' → rg σ' d' = some p') ∧ h' = h
theorem kfct {d : Nat} {p : VP} {h h' : List HP} {σ' : Regs} (hr : rg σ' d = some p) (hh : h' = h) : Kfct (some d) (some p) h .normal σ' h' := ⟨rfl, fun d' p' h1 h2 => by cases h1; cases h2; exact hr, hh⟩
theorem kfct0 {d : Option Nat} {h h' : List HP} {σ' : Regs} (hh : h' = h) : Kfct d none h .normal σ' h' := ⟨rfl, nofun, hh⟩
theorem kfctu {p : Option VP} {h h' : List HP} {σ' : Regs} (hh : h' = h) : Kfct none p h .normal σ' h' := ⟨rfl, nofun, hh⟩
/-- every operation of the list, one by one -/
inductive Each (P : Program) (fz : Nat) (h : List HP) (ops : List Oper) (res : List (Option VP)) (σ : Regs) : List Oper → List (Option VP) → Prop
  | nil : Each P fz h ops res σ [] []
  | cons {o : Oper} {l : List Oper} {r : Option VP} {rs : List (Option VP)} (h1 : ∀ B, EvL P fz B (Kfct o.dst r h) ops.toArray [o] (fcts ops res (deps o) σ) h) (h2 : Each P fz h ops res σ l rs) : Each P fz h ops res σ (o :: l) (r :: rs)
theorem Each.get {P : Program} {fz : Nat} {h : List HP} {ops : List Oper} {res : List (Option VP)} {σ : Regs} : ∀ {l : List Oper} {rs : List (Option VP)}, Each P fz h ops res σ l rs → ∀ (i : Nat) (o : Oper), l[i]? = some o → ∃ r, rs[i]? = some r ∧ ∀ B, EvL P fz B (Kfct o.dst r h) ops.toArray [o] (fcts ops res (deps o) σ) h
  | _, _, .nil, i, o, hi => by simp at hi
  | _, _, .cons h1 h2, 0, o, hi => by
    simp only [List.getElem?_cons_zero, Option.some.injEq] at hi
    subst hi
    exact ⟨_, rfl, h1⟩
  | _, _, .cons h1 h2, i + 1, o, hi => by
    simp only [List.getElem?_cons_succ] at hi ⊢
    exact h2.get i o hi
/-- which come ahead of an operation, through others too -/
def ahead (l : List Oper) : Nat → List Nat → List Nat
  | 0, js => js
  | n + 1, js => ahead l n (js ++ js.flatMap fun j => match l[j]? with | some o => deps o | none => [])
/-- the last one comes last in every order -/
def lastLast (l : List Oper) : Bool := match l.getLast? with
  | some o => (List.range (l.length - 1)).all fun i => (ahead l l.length (deps o)).any (Nat.beq i)
  | none => false

section
variable {P : Program} {fz : Nat} {B : Bs} {K : KP} {σ : Regs} {h : List HP}

theorem fcts_rg {l : List Oper} {res : List (Option VP)} {d : Nat} {p : VP} : ∀ {js : List Nat}, rg (fcts l res js σ) d = some p → (∃ j ∈ js, (l[j]?).bind (·.dst) = some d ∧ (res[j]?).join = some p) ∨ rg σ d = some p
  | [], h => .inr h
  | j :: js, h => by
    unfold fcts at h
    split at h
    · rename_i d' p' h1 h2
      simp only [rg] at h
      cases hb : Nat.beq d' d with
      | true =>
        have := Nat.eq_of_beq_eq_true hb
        subst this
        rw [hb] at h
        simp only [cond_true, Option.some.injEq] at h
        subst h
        exact .inl ⟨j, List.mem_cons_self .., h1, h2⟩
      | false =>
        rw [hb] at h
        rcases fcts_rg h with ⟨k, hk, h3⟩ | h3
        · exact .inl ⟨k, List.mem_cons_of_mem _ hk, h3⟩
        · exact .inr h3
    · rcases fcts_rg h with ⟨k, hk, h3⟩ | h3
      · exact .inl ⟨k, List.mem_cons_of_mem _ hk, h3⟩
      · exact .inr h3
theorem nodup_ne : ∀ {l : List Oper} {i j : Nat} {d : Nat}, nodup (dsts l) = true → (l[i]?).bind (·.dst) = some d → (l[j]?).bind (·.dst) = some d → i = j
  | [], i, j, d, _, h, _ => by simp at h
  | o :: l, i, j, d, hn, hi, hj => by
    have key : ∀ {k : Nat}, (l[k]?).bind (·.dst) = some d → o.dst = some d → False := by
      intro k hk ho
      unfold dsts at hn
      rw [List.filterMap_cons, ho] at hn
      simp only [nodup, Bool.and_eq_true, Bool.not_eq_true'] at hn
      have : d ∈ List.filterMap (·.dst) l := by
        obtain ⟨o', ho', hd'⟩ := Option.bind_eq_some_iff.1 hk
        exact List.mem_filterMap.2 ⟨o', List.mem_of_getElem? ho', hd'⟩
      have h2 : (List.filterMap (·.dst) l).any (Nat.beq d) = true := List.any_eq_true.2 ⟨d, this, by simp⟩
      rw [h2] at hn
      exact absurd hn.1 (by simp)
    have hn' : nodup (dsts l) = true := by
      unfold dsts at hn ⊢
      rw [List.filterMap_cons] at hn
      cases ho : o.dst with
      | none => rw [ho] at hn; exact hn
      | some d' => rw [ho] at hn; simp only [nodup, Bool.and_eq_true] at hn; exact hn.2
    cases i with
    | zero =>
      cases j with
      | zero => rfl
      | succ j => simp only [List.getElem?_cons_zero, Option.bind_some, List.getElem?_cons_succ] at hi hj; exact (key hj hi).elim
    | succ i =>
      cases j with
      | zero => simp only [List.getElem?_cons_zero, Option.bind_some, List.getElem?_cons_succ] at hi hj; exact (key hi hj).elim
      | succ j => simp only [List.getElem?_cons_succ] at hi hj; rw [nodup_ne hn' hi hj]

/-- What holds when those of 'listed' have been carried out. -/
structure Inv (fz : Nat) (B : Bs) (σ : Regs) (h : List HP) (l : List Oper) (res : List (Option VP)) (listed : Array Bool) (a : Act) (w : World) (W : WS) (S : Nat → Prop) : Prop where
  st : St fz B.dfr B.w0 B.W0 B.S0 σ h a w W S
  fct : ∀ (j : Nat) (d : Nat) (p : VP), listed.getD j false = true → (l[j]?).bind (·.dst) = some d → (res[j]?).join = some p → ∃ v, a.tmps[d]? = some v ∧ p.p w W v
  size : listed.size = l.length
  down : ∀ (j k : Nat) (o : Oper), listed.getD j false = true → l[j]? = some o → k ∈ deps o → listed.getD k false = true
theorem Inv.regs {l : List Oper} {res : List (Option VP)} {listed : Array Bool} {a : Act} {w : World} {W : WS} {S : Nat → Prop} (hi : Inv fz B σ h l res listed a w W S) (js : List Nat) (hj : ∀ j ∈ js, listed.getD j false = true) :
    St fz B.dfr B.w0 B.W0 B.S0 (fcts l res js σ) h a w W S :=
  ⟨hi.st.tmps, hi.st.defers, fun d p hd => by
    rcases fcts_rg hd with ⟨j, hjm, h1, h2⟩ | h1
    · exact hi.fct j d p (hj j hjm) h1 h2
    · exact hi.st.regs d p h1, hi.st.sat, hi.st.run⟩
theorem mem_rdy {l : List Oper} {listed : Array Bool} {i : Nat} (hi : i ∈ Region.ready .any l.toArray listed) : ∃ o, l[i]? = some o ∧ listed.getD i true = false ∧ ∀ k ∈ deps o, listed.getD k false = true := by
  unfold Region.ready at hi
  simp only [List.mem_filter, List.mem_range, Bool.and_eq_true, Bool.not_eq_true'] at hi
  obtain ⟨h1, h2, h3⟩ := hi
  cases ho : l.toArray[i]? with
  | none => rw [ho] at h3; simp at h3
  | some o =>
    rw [ho] at h3
    simp only [Option.map_some, Option.getD_some] at h3
    refine ⟨o, by simpa using ho, h2, fun k hk => ?_⟩
    unfold deps at hk
    simp only [List.mem_map, List.mem_filter] at hk
    obtain ⟨e, ⟨he1, he2⟩, rfl⟩ := hk
    have := (Array.all_eq_true_iff_forall_mem.1 h3) e (by simpa using he1)
    simpa [he2] using this
theorem ready_none {l : List Oper} {listed : Array Bool} (hsz : listed.size = l.length) (hback : ∀ (i : Nat) (o : Oper), l[i]? = some o → ∀ k ∈ deps o, k < i) (hr : Region.ready .any l.toArray listed = []) : ∀ i, i < l.length → listed.getD i false = true := by
  intro i
  induction i using Nat.strongRecOn with
  | _ i ih =>
    intro hi
    cases hl : listed.getD i false with
    | true => rfl
    | false =>
      exfalso
      have hmem : i ∈ Region.ready .any l.toArray listed := by
        unfold Region.ready
        simp only [List.mem_filter, List.mem_range, Bool.and_eq_true, Bool.not_eq_true']
        refine ⟨by simpa using hi, ?_, ?_⟩
        · have : i < listed.size := by omega
          simp only [Array.getD_eq_getD_getElem?, Array.getElem?_eq_getElem this, Option.getD_some] at hl ⊢
          exact hl
        · have hg : l.toArray[i]? = some l[i] := by simp [hi]
          rw [hg]
          simp only [Option.map_some, Option.getD_some, Array.all_eq_true_iff_forall_mem]
          intro e he
          cases hb : Region.binds .any e with
          | false => simp
          | true =>
            have hk : e.on ∈ deps l[i] := List.mem_map.2 ⟨e, List.mem_filter.2 ⟨by simpa using he, hb⟩, rfl⟩
            have hlt := hback i _ (by simp [hi]) _ hk
            simp [ih _ hlt (by omega)]
      rw [hr] at hmem
      cases hmem
def backOk (l : List Oper) : Nat → List Oper → Bool
  | _, [] => true
  | i, o :: os => (deps o).all (fun k => Nat.blt k i) && backOk l (i + 1) os
theorem backOk_spec {l0 : List Oper} : ∀ {os : List Oper} {i : Nat}, backOk l0 i os = true → ∀ (j : Nat) (o : Oper), os[j]? = some o → ∀ k ∈ deps o, k < i + j
  | [], i, _, j, o, h, _, _ => by simp at h
  | o' :: os, i, hb, 0, o, h, k, hk => by
    simp only [backOk, Bool.and_eq_true] at hb
    simp only [List.getElem?_cons_zero, Option.some.injEq] at h
    subst h
    have := List.all_eq_true.1 hb.1 k hk
    have : k < i := by simpa [Nat.blt_eq] using this
    omega
  | o' :: os, i, hb, j + 1, o, h, k, hk => by
    simp only [backOk, Bool.and_eq_true] at hb
    simp only [List.getElem?_cons_succ] at h
    have := backOk_spec hb.2 j o h k hk
    omega
/-- One operation more. -/
theorem Inv.step {l : List Oper} {res : List (Option VP)} (hnd : nodup (dsts l) = true) (hσ : ∀ d ∈ dsts l, rg σ d = none) {listed : Array Bool} {a : Act} {w : World} {W : WS} {S : Nat → Prop} (hi : Inv fz B σ h l res listed a w W S) {i : Nat} {o : Oper} {r : Option VP} (ho : l[i]? = some o) (hr : res[i]? = some r)
    (hdeps : ∀ k ∈ deps o, listed.getD k false = true) (hev : ∀ B, EvL P fz B (Kfct o.dst r h) l.toArray [o] (fcts l res (deps o) σ) h) {Q : Exit → Act → World → Prop} {Kn : Act → World → Prop}
    (hk : ∀ a w W S, Inv fz B σ h l res (listed.setIfInBounds i true) a w W S → Kn a w) : wpOpIn (FB B) 0 P l.toArray Q i Kn a w := by
  have h1 := hev ⟨w, W, S, hi.st.run.sub, B.ro, B.dfr⟩ a w W S (by
    have := hi.regs (deps o) hdeps
    exact ⟨this.tmps, this.defers, this.regs, this.sat, Run.refl hi.st.run.sub hi.st.run.bound⟩)
  have hds : ([o].all (fun o' => match o'.dst with | some e => (match o.dst with | some d => [d] | none => []).any (Nat.beq e) | none => true)) = true := by
    cases hd : o.dst <;> simp [hd]
  have h2 := wpList_same QK.noout (ds := match o.dst with | some d => [d] | none => []) [o] a w hds h1
  have key : ∀ a' w', (QK fz ⟨w, W, S, hi.st.run.sub, B.ro, B.dfr⟩ (Kfct o.dst r h) .normal a' w' ∧ (Exit.normal = .normal → ∀ e, (match o.dst with | some d => [d] | none => []).any (Nat.beq e) = false → a'.tmps[e]? = a.tmps[e]?)) → Kn a' w' := by
    rintro a' w' ⟨⟨_, _, σ', h', W', S', hs', _, hp, rfl⟩, hsame⟩
    have hsame := hsame rfl
    have hevo : Evo w W w' W' := hs'.run.evo hi.st.run.sub
    refine hk a' w' W' S' ⟨⟨hs'.tmps, hs'.defers, fun d p hd => ?_, hs'.sat, hi.st.run.trans hs'.run⟩, fun j d p hj hd hpj => ?_, by rw [Array.size_setIfInBounds]; exact hi.size, fun j k o' hj hoj hkk => ?_⟩
    · obtain ⟨v, hv, hpv⟩ := hi.st.regs d p hd
      have hne : (match o.dst with | some d => [d] | none => []).any (Nat.beq d) = false := by
        cases hod : o.dst with
        | none => rfl
        | some d' =>
          simp only [List.any_cons, List.any_nil, Bool.or_false]
          rw [← Bool.not_eq_true]
          intro hb
          have := Nat.eq_of_beq_eq_true hb
          subst this
          rw [hσ d (List.mem_filterMap.2 ⟨o, List.mem_of_getElem? ho, hod⟩)] at hd
          cases hd
      exact ⟨v, by rw [hsame d hne]; exact hv, p.st hevo hpv⟩
    · by_cases hji : j = i
      · subst hji
        rw [ho] at hd
        rw [hr] at hpj
        exact hs'.regs d p (hp d p hd hpj)
      · have hj' : listed.getD j false = true := by
          rw [Array.getD_eq_getD_getElem?, Array.getElem?_setIfInBounds_ne (fun e => hji e.symm)] at hj
          rw [Array.getD_eq_getD_getElem?]
          exact hj
        obtain ⟨v, hv, hpv⟩ := hi.fct j d p hj' hd hpj
        have hne : (match o.dst with | some d => [d] | none => []).any (Nat.beq d) = false := by
          cases hod : o.dst with
          | none => rfl
          | some d' =>
            simp only [List.any_cons, List.any_nil, Bool.or_false]
            rw [← Bool.not_eq_true]
            intro hb
            have := Nat.eq_of_beq_eq_true hb
            subst this
            exact hji (nodup_ne hnd hd (by rw [ho]; exact hod))
        exact ⟨v, by rw [hsame d hne]; exact hv, p.st hevo hpv⟩
    · have hset : ∀ m, listed.getD m false = true → (listed.setIfInBounds i true).getD m false = true := by
        intro m hm
        by_cases hmi : m = i
        · subst hmi
          have : m < listed.size := by rw [hi.size]; exact (List.getElem?_eq_some_iff.1 ho).1
          simp [Array.getD_eq_getD_getElem?, this]
        · rw [Array.getD_eq_getD_getElem?, Array.getElem?_setIfInBounds_ne (fun e => hmi e.symm)]
          rw [Array.getD_eq_getD_getElem?] at hm
          exact hm
      by_cases hji : j = i
      · subst hji
        rw [ho] at hoj
        injection hoj with hoj
        subst hoj
        exact hset k (hdeps k hkk)
      · have hj' : listed.getD j false = true := by
          rw [Array.getD_eq_getD_getElem?, Array.getElem?_setIfInBounds_ne (fun e => hji e.symm)] at hj
          rw [Array.getD_eq_getD_getElem?]
          exact hj
        exact hset k (hi.down j k o' hj' hoj hkk)
  unfold wpOpIn
  have hoa : l.toArray[i]? = some o := by simpa using ho
  rw [hoa]
  simp only
  unfold wpListIn at h2
  split at h2
  · rename_i hw
    rw [if_pos hw]
    exact ⟨h2.1, upon_change (B := B) (fun a w hh => key a w hh) (fun c a w hh => QK.nopanic c a w hh.1) (fun ⟨a, w, hh⟩ => hh.1.2.1 rfl) _ h2.2⟩
  · rename_i hw
    rw [if_neg hw]
    exact ⟨h2.1, key _ _ h2.2⟩

theorem count_le (listed : Array Bool) : True := trivial
/-- how many are still to come -/
def left (listed : Array Bool) : Nat := listed.toList.countP (fun b => !b)
theorem left_set {listed : Array Bool} {i : Nat} (hi : listed.getD i true = false) : left (listed.setIfInBounds i true) + 1 = left listed := by
  unfold left
  have hlt : i < listed.size := by
    rcases Nat.lt_or_ge i listed.size with h | h
    · exact h
    · simp [Array.getD_eq_getD_getElem?, Array.getElem?_eq_none h] at hi
  have hv : listed[i] = false := by simpa [Array.getD_eq_getD_getElem?, hlt] using hi
  rw [Array.toList_setIfInBounds]
  have hl : i < listed.toList.length := by simpa using hlt
  have hv' : listed.toList[i] = false := by simpa using hv
  have h1 := List.take_append_drop i listed.toList
  have h2 : listed.toList.drop i = false :: listed.toList.drop (i + 1) := by rw [List.drop_eq_getElem_cons hl, hv']
  have h3 : listed.toList.set i true = listed.toList.take i ++ true :: listed.toList.drop (i + 1) := List.set_eq_take_append_cons_drop.trans (by rw [if_pos hl])
  rw [h3]
  conv => rhs; rw [← h1, h2]
  simp only [List.countP_append, List.countP_cons]
  simp
  omega
theorem left_zero {listed : Array Bool} (h : left listed = 0) : ∀ i, i < listed.size → listed.getD i false = true := by
  intro i hi
  unfold left at h
  rw [List.countP_eq_zero] at h
  have := h listed[i] (by simp)
  simpa [Array.getD_eq_getD_getElem?, hi] using this
theorem wpAny_inv {l : List Oper} {res : List (Option VP)} (hnd : nodup (dsts l) = true) (hσ : ∀ d ∈ dsts l, rg σ d = none) (hb : backOk l 0 l = true) (m : Nat) {Q : Exit → Act → World → Prop}
    (heach : ∀ (i : Nat) (o : Oper), l[i]? = some o → i ≠ m → ∃ r, res[i]? = some r ∧ ∀ B, EvL P fz B (Kfct o.dst r h) l.toArray [o] (fcts l res (deps o) σ) h)
    (hlast : ∀ (listed : Array Bool) (o : Oper) a w W S, Inv fz B σ h l res listed a w W S → l[m]? = some o → listed.getD m true = false → (∀ k ∈ deps o, listed.getD k false = true) → wpOpIn (FB B) 0 P l.toArray Q m (fun a w => Q .normal a w) a w ∧ left listed = 1)
    (hall : ∀ (listed : Array Bool) a w W S, Inv fz B σ h l res listed a w W S → (m < l.length → listed.getD m false = false) → (∀ i, i < l.length → listed.getD i false = true) → Q .normal a w) :
    ∀ (fuel : Nat) (listed : Array Bool) a w W S, left listed ≤ fuel → (m < l.length → listed.getD m false = false) → Inv fz B σ h l res listed a w W S → wpAnyIn (FB B) 0 P .any l.toArray Q fuel listed a w := by
  have hback : ∀ (i : Nat) (o : Oper), l[i]? = some o → ∀ k ∈ deps o, k < i := fun i o ho k hk => by have := backOk_spec hb i o ho k hk; omega
  intro fuel
  induction fuel with
  | zero =>
    intro listed a w W S hl hmf hi
    have hz := left_zero (show left listed = 0 by omega)
    refine ⟨?_, hall listed a w W S hi hmf (fun i hlt => hz i (by rw [hi.size]; exact hlt))⟩
    cases hr : Region.ready .any l.toArray listed with
    | nil => rfl
    | cons x xs =>
      exfalso
      obtain ⟨o, ho, h1, _⟩ := mem_rdy (l := l) (listed := listed) (i := x) (by rw [hr]; exact List.mem_cons_self ..)
      have hlt : x < listed.size := by rw [hi.size]; exact (List.getElem?_eq_some_iff.1 ho).1
      have := hz x hlt
      simp [Array.getD_eq_getD_getElem?, hlt] at h1 this
      rw [h1] at this
      cases this
  | succ fuel ih =>
    intro listed a w W S hl hmf hi
    refine ⟨fun hr => hall listed a w W S hi hmf (ready_none hi.size hback hr), fun i hir => ?_⟩
    obtain ⟨o, ho, h1, h2⟩ := mem_rdy hir
    have hls := left_set h1
    by_cases him : i = m
    · subst him
      obtain ⟨h3, h4⟩ := hlast listed o a w W S hi ho h1 h2
      refine wpOpIn_mono (fun a w hq => ?_) h3
      have hz0 : left (listed.setIfInBounds i true) = 0 := by omega
      have hz := left_zero hz0
      have hrn : Region.ready .any l.toArray (listed.setIfInBounds i true) = [] := by
        cases hr : Region.ready .any l.toArray (listed.setIfInBounds i true) with
        | nil => rfl
        | cons x xs =>
          exfalso
          obtain ⟨o', ho', k1, _⟩ := mem_rdy (l := l) (listed := listed.setIfInBounds i true) (i := x) (by rw [hr]; exact List.mem_cons_self ..)
          have hlt : x < (listed.setIfInBounds i true).size := by rw [Array.size_setIfInBounds, hi.size]; exact (List.getElem?_eq_some_iff.1 ho').1
          have := hz x hlt
          rw [Array.getD_eq_getD_getElem?, Array.getElem?_eq_getElem hlt] at k1 this
          simp only [Option.getD_some] at k1 this
          rw [k1] at this
          cases this
      cases fuel with
      | zero => exact ⟨hrn, hq⟩
      | succ f => exact ⟨fun _ => hq, fun j hj => by rw [hrn] at hj; cases hj⟩
    · obtain ⟨r, hr, hev⟩ := heach i o ho him
      exact Inv.step hnd hσ hi ho hr h2 hev (fun a w W S hi' => ih _ a w W S (by omega) (fun hlt => by rw [Array.getD_eq_getD_getElem?, Array.getElem?_setIfInBounds_ne him, ← Array.getD_eq_getD_getElem?]; exact hmf hlt) hi')
theorem drp_none {l : List Oper} : ∀ d ∈ dsts l, rg (drp (dsts l) σ) d = none := by
  intro d hd
  rw [rg_drp, List.any_eq_true.2 ⟨d, hd, by simp⟩]
  rfl
theorem Inv.start {l : List Oper} {res : List (Option VP)} {a : Act} {w : World} {W : WS} {S : Nat → Prop} (hs : St fz B.dfr B.w0 B.W0 B.S0 σ h a w W S) : Inv fz B (drp (dsts l) σ) h l res (Array.replicate l.length false) a { w with drawn := w.drawn + 1 } W S := by
  have hr := Run.drew hs.run.sub hs.run.bound
  have hev := hr.evo hs.run.sub
  refine ⟨⟨hs.tmps, hs.defers, fun d p hd => ?_, hs.sat.st hev (fun _ _ => rfl), hs.run.trans hr⟩, fun j d p hj => ?_, by simp, fun j k o hj => ?_⟩
  · rw [rg_drp] at hd
    cases hb : (dsts l).any (Nat.beq d) with
    | true => rw [hb] at hd; cases hd
    | false =>
      rw [hb] at hd
      obtain ⟨v, hv, hp⟩ := hs.regs d p hd
      exact ⟨v, hv, p.st hev hp⟩
  · simp [Array.getD_eq_getD_getElem?, Array.getElem?_replicate] at hj
    split at hj <;> simp at hj
  · simp [Array.getD_eq_getD_getElem?, Array.getElem?_replicate] at hj
    split at hj <;> simp at hj
theorem left_start (n : Nat) : left (Array.replicate n false) = n := by
  unfold left
  simp [List.countP_replicate]
/-- A region that draws its order and only computes. -/
theorem drw {id : Nat} {l : List Oper} (res : List (Option VP)) (hm : P.follows .mixedOrders = true) (he : Each P fz h l res (drp (dsts l) σ) l res) (k : K .normal (fcts l res (List.range l.length) (drp (dsts l) σ)) h) (hnd : nodup (dsts l) = true := by rfl) (hb : backOk l 0 l = true := by rfl) : EvC P fz B K (.region id l.toArray true) σ h := by
  intro a w W S hs
  refine wpIn_region_any hm ?_
  rw [show l.toArray.size = l.length from by simp]
  refine wpAny_inv (σ := drp (dsts l) σ) (h := h) (res := res) hnd drp_none hb l.length (fun i o ho hne => he.get i o ho) (fun listed o a w W S hi ho => by simp at ho) (fun listed a w W S hi _ hall => ?_) l.length _ _ _ W S (by rw [left_start]; exact Nat.le_refl _) (fun hlt => absurd hlt (Nat.lt_irrefl _)) (Inv.start hs)
  exact ⟨nofun, nofun, _, h, W, S, hi.regs (List.range l.length) (fun j hj => hall j (List.mem_range.1 hj)), k⟩
theorem ahead_listed {l : List Oper} {res : List (Option VP)} {listed : Array Bool} {a : Act} {w : World} {W : WS} {S : Nat → Prop} (hi : Inv fz B σ h l res listed a w W S) : ∀ (n : Nat) (js : List Nat), (∀ j ∈ js, listed.getD j false = true) → ∀ j ∈ ahead l n js, listed.getD j false = true
  | 0, js, hj, j, h => hj j h
  | n + 1, js, hj, j, h => by
    unfold ahead at h
    refine ahead_listed hi n _ (fun k hk => ?_) j h
    rcases List.mem_append.1 hk with hk | hk
    · exact hj k hk
    · obtain ⟨m, hm, hkm⟩ := List.mem_flatMap.1 hk
      cases ho : l[m]? with
      | none => rw [ho] at hkm; cases hkm
      | some o => rw [ho] at hkm; exact hi.down m k o (hj m hm) ho hkm
/-- A region that draws its order, the last operation of which writes. -/
theorem drwL {id : Nat} {l : List Oper} {o : Oper} (res : List (Option VP)) (hm : P.follows .mixedOrders = true) (he : Each P fz h (l ++ [o]) res (drp (dsts (l ++ [o])) σ) l res) (k : EvL P fz B K (l ++ [o]).toArray [o] (fcts (l ++ [o]) res (List.range l.length) (drp (dsts (l ++ [o])) σ)) h)
    (hnd : nodup (dsts (l ++ [o])) = true := by rfl) (hb : backOk (l ++ [o]) 0 (l ++ [o]) = true := by rfl) (hlast : ((List.range l.length).all fun i => (ahead (l ++ [o]) l.length (deps o)).any (Nat.beq i)) = true := by rfl) : EvC P fz B K (.region id (l ++ [o]).toArray true) σ h := by
  intro a w W S hs
  refine wpIn_region_any hm ?_
  rw [show (l ++ [o]).toArray.size = (l ++ [o]).length from by simp]
  refine wpAny_inv (σ := drp (dsts (l ++ [o])) σ) (h := h) (res := res) hnd drp_none hb l.length (fun i o' ho hne => ?_) (fun listed o' a w W S hi ho h1 h2 => ?_) (fun listed a w W S hi hmf hall => ?_) (l ++ [o]).length _ _ _ W S (by rw [left_start]; exact Nat.le_refl _) (fun _ => by rw [Array.getD_eq_getD_getElem?, Array.getElem?_replicate]; split <;> rfl) (Inv.start hs)
  · have hlt : i < l.length := by
      have := (List.getElem?_eq_some_iff.1 ho).1
      rw [List.length_append, List.length_singleton] at this
      omega
    rw [List.getElem?_append_left hlt] at ho
    exact he.get i o' ho
  · have ho' : o' = o := by
      rw [List.getElem?_append_right (Nat.le_refl _), Nat.sub_self] at ho
      simpa using ho.symm
    subst ho'
    have hah := ahead_listed hi l.length (deps o') h2
    have hothers : ∀ j, j < l.length → listed.getD j false = true := by
      intro j hj
      have := List.all_eq_true.1 hlast j (List.mem_range.2 hj)
      obtain ⟨x, hx, hxj⟩ := List.any_eq_true.1 this
      have := Nat.eq_of_beq_eq_true hxj
      subst this
      exact hah j hx
    have hk := k a w W S (hi.regs (List.range l.length) (fun j hj => hothers j (List.mem_range.1 hj)))
    constructor
    · unfold wpOpIn
      have hoa : (l ++ [o']).toArray[l.length]? = some o' := by simp
      rw [hoa]
      simp only
      unfold wpListIn at hk
      exact hk
    · have hls := left_set h1
      have hz : left (listed.setIfInBounds l.length true) = 0 := by
        unfold left
        rw [List.countP_eq_zero]
        intro b hb
        obtain ⟨j, hj, hjb⟩ := List.getElem_of_mem hb
        rw [Array.toList_setIfInBounds, List.length_set] at hj
        have hjs : j < listed.size := by simpa using hj
        rw [hi.size, List.length_append, List.length_singleton] at hjs
        by_cases hjl : j = l.length
        · subst hjl
          simp at hjb
          simp [← hjb]
        · have := hothers j (by omega)
          have hjs2 : j < listed.size := by rw [hi.size, List.length_append, List.length_singleton]; omega
          simp [Array.toList_setIfInBounds, List.getElem_set_ne (fun e => hjl e.symm)] at hjb
          simp [Array.getD_eq_getD_getElem?, hjs2] at this
          rw [this] at hjb
          simp [← hjb]
      omega
  · have h1 := hall l.length (by simp)
    rw [hmf (by simp)] at h1
    cases h1
end
end Go.Proofs.YtagkniimpekhjaaGreat

set_option linter.unusedVariables false
namespace Go.Proofs.YtagkniimpekhjaaGreat
open Go.RowKit
section
variable {P : Program} {fz : Nat} {B : Bs} {K : KP} {ops : Array Oper} {rest : List Oper} {σ : Regs} {h : List HP} {d : Nat} {ty : TypeId} {pos : String} {af : Array Edge} {g : Option (Nat × Bool)} {α : Type} {sz bytes : Nat} {zs : List Value} {enc : α → List VP} {l l2 : List α} {t e : TypeId}

/-! ### stores into a row of one's own -/
theorem row_store {w : World} {W : WS} {S1 : Nat → Prop} {v : Value} (hr : (hrow v e sz enc l).p w W S1) (hsub : ∀ b, S1 b → W b) (hbd : ∀ b, W b → b < w.heap.size) {i o : Nat} {qs : List VP} {us : List Value} {x : α} (hi : i < l.length) (hq : VPs w W qs us) (h1 : ∀ u ∈ us, u.oneCell' = true) (ho : o + qs.length ≤ sz) (hx : enc x = spl (enc (l[i]'hi)) o qs) :
    ∃ w', (storeCells ((sAddr v).add (i * sz + o)) us).run P w = .ok () w' ∧ (hrow v e sz enc (l.set i x)).p w' W S1 ∧ Run w W S1 w' W S1 := by
  rcases hr with ⟨rfl, rfl, hS⟩ | ⟨g, o', c, cs, rfl, hlc, hh, hcs, hone, hbnd, hel, hS⟩
  · simp at hi
  · have hg : S1 g := (hS g).2 rfl
    have hql := hq.length
    have hic : i * sz + sz ≤ c * sz := by rw [← Nat.succ_mul]; exact Nat.mul_le_mul_right _ (by omega)
    obtain ⟨w', cs', hr, hb', hsz', hcs', e1, e2, e3, e4, e5⟩ := run_storeCells (P := P) (b := g) (e := e) us 0 (o' + (i * sz + o)) w cs hh h1 (by omega)
    have hrun : Run w W S1 w' W S1 := ⟨e1, e2, e3, by omega, fun k hk hn => e5 k (fun e => hn (e ▸ hg)), fun _ _ _ => Iff.rfl, fun _ _ h => h, fun _ h => .inl h, hsub, fun k hk => by rw [e4]; exact hbd k hk⟩
    have hev := hrun.evo hsub
    refine ⟨w', by rw [show sAddr (.slice (some ⟨g, o', none⟩) l.length c) = ⟨g, o', none⟩ from rfl, add_pl]; exact hr, .inr ⟨g, o', c, cs', by rw [List.length_set], by rw [List.length_set]; exact hlc, hb', by rw [hsz']; exact hcs, ?_, by rw [List.length_set]; exact hbnd, fun j hj => ?_, hS⟩, hrun⟩
    · intro u hu
      rw [List.length_set] at hu
      obtain ⟨j, hjl, hju⟩ := mem_seg.1 hu
      have hj' : cs'[o' + j]? = some u := by
        rw [← Array.getElem?_toList, hju]
      rw [hcs' (o' + j)] at hj'
      split at hj'
      · exact h1 u (List.mem_of_getElem? hj')
      · rw [← Array.getElem?_toList] at hj'
        exact hone u (mem_seg.2 ⟨j, hjl, hj'⟩)
    · rw [List.length_set] at hj
      have hseg : ∀ k, k < sz → ((cs'.toList.drop (o' + j * sz)).take sz)[k]? = if i = j ∧ o ≤ k ∧ k < o + us.length then us[k - o]? else ((cs.toList.drop (o' + j * sz)).take sz)[k]? := by
        intro k hk
        rw [List.getElem?_take, if_pos hk, List.getElem?_drop, Array.getElem?_toList (xs := cs'), hcs', Nat.add_zero, List.getElem?_take, if_pos hk, List.getElem?_drop, Array.getElem?_toList (xs := cs)]
        by_cases hij : i = j
        · subst hij
          by_cases hok : o ≤ k ∧ k < o + us.length
          · rw [if_pos (⟨by omega, by omega⟩ : o' + (i * sz + o) ≤ o' + i * sz + k ∧ o' + i * sz + k < o' + (i * sz + o) + us.length), if_pos ⟨rfl, hok⟩]
            have : o' + i * sz + k - (o' + (i * sz + o)) = k - o := by omega
            rw [this]
          · rw [if_neg (fun h : o' + (i * sz + o) ≤ o' + i * sz + k ∧ o' + i * sz + k < o' + (i * sz + o) + us.length => hok ⟨by omega, by omega⟩), if_neg (fun h => hok h.2)]
        · rw [if_neg (fun h : i = j ∧ o ≤ k ∧ k < o + us.length => hij h.1), if_neg]
          rintro ⟨h2, h3⟩
          apply hij
          rcases Nat.lt_trichotomy i j with hlt | rfl | hlt
          · have := Nat.mul_le_mul_right sz (show i + 1 ≤ j from hlt)
            rw [Nat.succ_mul] at this
            omega
          · rfl
          · have := Nat.mul_le_mul_right sz (show j + 1 ≤ i from hlt)
            rw [Nat.succ_mul] at this
            omega
      have hlen : ((cs'.toList.drop (o' + j * sz)).take sz).length = sz := by
        have := Nat.mul_le_mul_right sz (show j + 1 ≤ c by omega)
        rw [Nat.succ_mul] at this
        rw [List.length_take, List.length_drop, Array.length_toList (xs := cs'), hsz']
        omega
      by_cases hij : i = j
      · subst hij
        rw [List.getElem_set_self]
        obtain ⟨q1, q2⟩ := hel i hi
        obtain ⟨vs', p1, p2, p3⟩ := VPs.spl o hq q2
        refine ⟨by rw [hx, spl_length, q1], ?_⟩
        have hvs : (cs'.toList.drop (o' + i * sz)).take sz = vs' := by
          have hl2 := q2.length
          rw [q1] at hl2
          apply List.ext_getElem?
          intro k
          by_cases hk : k < sz
          · rw [hseg k hk, p3 k (by omega)]
            simp
          · rw [List.getElem?_eq_none (by omega), List.getElem?_eq_none (by omega)]
        rw [hvs, hx]
        exact p2.st hev
      · rw [List.getElem_set_ne hij]
        obtain ⟨q1, q2⟩ := hel j hj
        refine ⟨q1, ?_⟩
        have hvs : (cs'.toList.drop (o' + j * sz)).take sz = (cs.toList.drop (o' + j * sz)).take sz := by
          have hl2 := q2.length
          rw [q1] at hl2
          apply List.ext_getElem?
          intro k
          by_cases hk : k < sz
          · rw [hseg k hk, if_neg (fun h => hij h.1)]
          · rw [List.getElem?_eq_none (by omega), List.getElem?_eq_none (by omega)]
        rw [hvs]
        exact q2.st hev
/-- one cell of element i is written: it is x then -/
theorem sw1 {s : TypeId} {a b : Operand} {v : Value} {p : VP} {j i o : Nat} (x : α) (ht : tOne P s = true) (hj : h[j]? = some (hrow v e sz enc l)) (hi : i < l.length) (hp : One p) (ho : Nat.ble (o + 1) sz = true) (hx : enc x = (enc (l[i]'hi)).set o p) (kk : EvL P fz B K ops rest σ (h.set j (hrow v e sz enc (l.set i x)))) (ha : og σ a = some (velt v sz i o) := by rfl) (hb : og σ b = some p := by rfl) (hg : Gk ops σ g := by first | exact gk0 | exact gk1 rfl rfl rfl (by assumption)) :
    EvL P fz B K ops (⟨none, .store s a b, ty, pos, af, g⟩ :: rest) σ h :=
  opu hg (fun ac w W S hs => by
    have hpv := hs.eval hb
    have h1 := hp _ _ _ hpv
    obtain ⟨_, info, _, hinf, _, h4⟩ := tOne_parts ht
    have hc := cells_one h1
    have hbd := hs.run.bound
    obtain ⟨S1, S2, g1, g2, hd, hS⟩ := Sat.pick hj hs.sat
    obtain ⟨w', hr, hrow', hrun⟩ := row_store (P := P) (qs := [p]) (us := [ac.eval b]) g1 (fun b hb => hs.run.sub b ((hS b).2 (.inl hb))) hbd hi ⟨hpv, trivial⟩ (fun u hu => by simp only [List.mem_singleton] at hu; rw [hu]; exact h1) (Nat.le_of_ble_eq_true ho) hx
    have hlt := g2.lt
    obtain ⟨hr2, hd2⟩ := Run.framed (T := S2) (S := S) hrun hlt hd hS hs.run.sub
    have hev := hr2.evo hs.run.sub
    exact ⟨w', W, _, .inl (ex_store rfl (hs.eval ha) rfl hinf (by rw [hc, h4]; rfl) (by rw [hc]; exact hr)), Sat.put hj hrow' (g2.st hev (fun b hb => hrun.keep b (hlt b hb) (fun hc => hd b hc hb))) hd2, hr2⟩) kk
theorem spl_all : ∀ (qs pre ps : List VP), ps.length = qs.length → spl (pre ++ ps) pre.length qs = pre ++ qs
  | [], pre, ps, h => by rw [List.eq_nil_of_length_eq_zero h]; rfl
  | q :: qs, pre, [], h => by simp at h
  | q :: qs, pre, p :: ps, h => by
    unfold spl
    rw [List.set_append_right _ _ (Nat.le_refl _), Nat.sub_self, List.set_cons_zero]
    have := spl_all qs (pre ++ [q]) ps (by simpa using h)
    simp only [List.length_append, List.length_singleton, List.append_assoc, List.singleton_append] at this
    exact this
/-- a whole element -/
theorem swA {s : TypeId} {n : Nat} {a b : Operand} {v : Value} {j i : Nat} {qs : List VP} (x : α) (ht : tAgg P s n = true) (hj : h[j]? = some (hrow v e n enc l)) (hi : i < l.length) (hx : enc x = qs) (hq : Nat.beq qs.length n = true) (hl : (enc (l[i]'hi)).length = n) (kk : EvL P fz B K ops rest σ (h.set j (hrow v e n enc (l.set i x)))) (ha : og σ a = some (velt v n i 0) := by rfl) (hb : og σ b = some (vagg qs) := by rfl) (hg : Gk ops σ g := by first | exact gk0 | exact gk1 rfl rfl rfl (by assumption)) :
    EvL P fz B K ops (⟨none, .store s a b, ty, pos, af, g⟩ :: rest) σ h :=
  opu hg (fun ac w W S hs => by
    obtain ⟨cs, e1, e2, e3⟩ : ∃ cs : Array Value, ac.eval b = .agg cs ∧ VPs w W qs cs.toList ∧ ∀ u ∈ cs.toList, u.oneCell' = true := hs.eval hb
    obtain ⟨_, info, _, hinf, _, h4⟩ := tAgg_parts ht
    have hq' := Nat.eq_of_beq_eq_true hq
    have hbd := hs.run.bound
    obtain ⟨S1, S2, g1, g2, hd, hS⟩ := Sat.pick hj hs.sat
    obtain ⟨w', hr, hrow', hrun⟩ := row_store (P := P) (o := 0) (x := x) g1 (fun b hb => hs.run.sub b ((hS b).2 (.inl hb))) hbd hi e2 e3 (by omega) (by
      have := spl_all qs [] (enc (l[i]'hi)) (by omega)
      simp only [List.nil_append, List.length_nil] at this
      rw [hx, this])
    have hlt := g2.lt
    obtain ⟨hr2, hd2⟩ := Run.framed (T := S2) (S := S) hrun hlt hd hS hs.run.sub
    have hev := hr2.evo hs.run.sub
    exact ⟨w', W, _, .inl (ex_store rfl (hs.eval ha) e1 hinf (by rw [h4, ← hq', ← e2.length]; rfl) hr), Sat.put hj hrow' (g2.st hev (fun b hb => hrun.keep b (hlt b hb) (fun hc => hd b hc hb))) hd2, hr2⟩) kk

/-! ### s[lo:hi] of a row of one's own: the row is that from then on -/
theorem cutw {x : Operand} {lo hi : Option Operand} {t e : TypeId} {l' h' j : Nat} {k1 k2 : IntKind} {v : Value} (ht : tSl P t e sz = true) (hj : h[j]? = some (hrow v e sz enc l)) (h1 : l' ≤ h') (h2 : h' ≤ l.length) (kk : ∀ v', v'.oneCell' = true → EvL P fz B K ops rest ((d, vis v') :: σ) (h.set j (hrow v' e sz enc ((l.take h').drop l')))) (hx : og σ x = some (vis v) := by rfl)
    (hlo : BdR σ k1 0 l' lo := by rfl) (hhi : BdR σ k2 l.length h' hi := by rfl) (hd : Nat.ble (d + 1) fz = true := by rfl) (hg : Gk ops σ g := by first | exact gk0 | exact gk1 rfl rfl rfl (by assumption)) :
    EvL P fz B K ops (⟨some d, .slice t x lo hi none, ty, pos, af, g⟩ :: rest) σ h :=
  opx hd hg fun a w W S hs => by
    have hxv : a.eval x = v := hs.eval hx
    have hlo' : BdOk a k1 0 l' lo := by
      cases lo with
      | none => exact hlo
      | some y => exact hs.eval hlo
    have hhi' : BdOk a k2 l.length h' hi := by
      cases hi with
      | none => exact hhi
      | some y => exact hs.eval hhi
    have hbd := hs.run.bound
    have hll : ((l.take h').drop l').length = h' - l' := by rw [List.length_drop, List.length_take]; omega
    obtain ⟨S1, S2, g1, g2, hdj, hS⟩ := Sat.pick hj hs.sat
    have hcongr : ∀ b, ((S1 b ∨ S2 b) ↔ S b) := fun b => (hS b).symm
    rcases g1 with ⟨rfl, rfl, hS1⟩ | ⟨g, o, c, cs, rfl, hlc, hh, hcs, hone, hbnd, hel, hS1⟩
    · have e1 : h' = 0 := by simpa using h2
      subst e1
      have e2 : l' = 0 := by omega
      subst e2
      refine ⟨vis (.slice none 0 0), h.set j (hrow (.slice none 0 0) e sz enc []), _, w, W, S, ex_cut (n := 0) ht rfl hxv hlo' hhi' (Nat.le_refl _) (Nat.le_refl _), rfl, (Sat.put (y := hrow (.slice none 0 0) e sz enc []) hj (Or.inl ⟨rfl, rfl, hS1⟩) g2 hdj).congr hcongr, Run.refl hs.run.sub hbd, kk _ rfl⟩
    · obtain ⟨o2, he, ho2⟩ : ∃ o2, (if c = l' then some (⟨g, o, none⟩ : Addr) else (some (⟨g, o, none⟩ : Addr)).map (·.add (l' * sz))) = some ⟨g, o2, none⟩ ∧ (l' < h' → o2 = o + l' * sz) ∧ o2 + (c - l') * sz ≤ cs.size := by
        by_cases hc : c = l'
        · exact ⟨o, by rw [if_pos hc], fun hlt => by omega, by rw [hc, Nat.sub_self]; omega⟩
        · refine ⟨o + l' * sz, by rw [if_neg hc, Option.map_some, add_pl], fun _ => rfl, ?_⟩
          rw [Nat.add_assoc, ← Nat.add_mul]
          have : l' + (c - l') = c := by omega
          rw [this]
          exact hcs
      refine ⟨vis (.slice (some ⟨g, o2, none⟩) (h' - l') (c - l')), h.set j (hrow (.slice (some ⟨g, o2, none⟩) (h' - l') (c - l')) e sz enc ((l.take h').drop l')), _, w, W, S, by rw [← he]; exact ex_cut ht rfl hxv hlo' hhi' h1 (by omega), rfl, (Sat.put (y := hrow (.slice (some ⟨g, o2, none⟩) (h' - l') (c - l')) e sz enc ((l.take h').drop l')) hj (Or.inr ⟨g, o2, c - l', cs, by rw [hll], by rw [hll]; omega, hh, ho2.2, fun u hu => (by
        rw [hll] at hu
        obtain ⟨j, hj1, hj2⟩ := mem_seg.1 hu
        rcases Nat.lt_or_ge l' h' with hlt | hge
        · rw [ho2.1 hlt, Nat.add_assoc] at hj2
          refine hone u (mem_seg.2 ⟨l' * sz + j, ?_, hj2⟩)
          have h8 : h' * sz ≤ l.length * sz := Nat.mul_le_mul_right _ h2
          have h9 : l' * sz + (h' - l') * sz = h' * sz := by rw [← Nat.add_mul]; congr 1; omega
          omega
        · rw [show h' - l' = 0 by omega, Nat.zero_mul] at hj1; omega), by rw [hll]; exact Nat.le_trans (Nat.mul_le_mul_right _ (by omega)) hbnd, fun i hi => ?_, hS1⟩) g2 hdj).congr hcongr, Run.refl hs.run.sub hbd, kk _ rfl⟩
      rw [hll] at hi
      obtain ⟨q1, q2⟩ := hel (l' + i) (by omega)
      have : ((l.take h').drop l')[i]'(by rw [hll]; omega) = l[l' + i]'(by omega) := by
        rw [List.getElem_drop, List.getElem_take]
      have ho3 := ho2.1 (by omega)
      have h5 : o2 + i * sz = o + (l' + i) * sz := by rw [ho3, Nat.add_assoc, ← Nat.add_mul]
      rw [this, h5]
      exact ⟨q1, q2⟩

/-! ### make([]T, n) -/
theorem mk_run {x y : Operand} {n : Nat} {z : α} {a : Act} {w : World} {W : WS} {S : Nat → Prop} {df : List Deferred} {o : Oper} {w0 : World} {W0 : WS} {S0 : Nat → Prop} (ho : o.op = .makeSlice t x y) (ht : tRow P t e sz bytes zs) (hz : enc z = visL zs) (hsz : 0 < sz) (hsm : n * bytes ≤ 281474976710656) (hsm2 : n * (sz + 1) ≤ 9223372036854775807) (hs : St fz df w0 W0 S0 σ h a w W S) (hxv : a.eval x = .int .i64 n) (hyv : a.eval y = .int .i64 n) :
    ∃ w' W' S', (execOp a.eval o).run P w = .ok (.value (.slice (some ⟨w.heap.size, 0, none⟩) n n)) w' ∧ Sat w' W' (hrow (.slice (some ⟨w.heap.size, 0, none⟩) n n) e sz enc (List.replicate n z) :: h) S' ∧ Run w W S w' W' S' := by
    obtain ⟨hu, info, zv, hi, hsize, hby, hzv, hzs, hz1, hzl⟩ := ht
    have hn63 : n ≤ 9223372036854775807 := Nat.le_trans (Nat.le_mul_of_pos_right _ (by omega)) hsm2
    have hw : IntKind.i64.wrap (n : Int) = n := wrapI (by omega) (by omega)
    have hr := Run.new hs.run.sub hs.run.bound (.cells ((Array.range (n * sz)).map (fun i => zv.cells[i % zv.cells.size]!)) e)
    have hev := hr.evo hs.run.sub
    have hzsz : zv.cells.size = sz := by rw [← Array.length_toList, hzs, hzl]
    have hrun : (execOp a.eval o).run P w = .ok (.value (.slice (some ⟨w.heap.size, 0, none⟩) n n)) { w with heap := w.heap.push (.cells ((Array.range (n * sz)).map (fun i => zv.cells[i % zv.cells.size]!)) e) } := by
      have c1 : ¬ ((n : Int) < 0 ∨ (bytes : Int) * (n : Int) > 2 ^ 48) := by
        rintro (h | h)
        · omega
        · have : (2 : Int) ^ 48 = 281474976710656 := rfl
          rw [this, Int.mul_comm] at h
          have h2 : ((n * bytes : Nat) : Int) > 281474976710656 := by rw [Int.natCast_mul]; exact h
          omega
      unfold execOp
      simp only [ho, Instr.makeSlice, hxv, hyv, asInt, asIntOf, Sem.run_bind, run_underlying hu, Result.andThen_ok, Sem.run_pure, run_tinfo hi, hby, hw]
      have c2 : (decide ((n : Int) < 0) || decide ((bytes : Int) * (n : Int) > 2 ^ 48)) = false := by simpa using c1
      simp only [c2, Bool.false_or]
      rw [if_neg (by simp)]
      simp only [Sem.run_bind, wp_mark, Result.andThen_ok, run_size hi, hsize, Int.toNat_natCast]
      by_cases h0 : n * sz = 0
      · simp only [h0, if_true, Sem.run_bind, Sem.run_pure, Result.andThen_ok, newRow, newObj]
        have hr0 : Array.range 0 = #[] := rfl
        simp only [hr0, Array.map_empty]
        rfl
      · simp only [h0, if_false, Sem.run_bind, zeroValue, run_tinfo hi, hzv, Sem.run_pure, Result.andThen_ok, newRow, newObj]
        rfl
    refine ⟨_, _, _, hrun, ?_, hr⟩
    refine ⟨fun b => b = w.heap.size, S, .inr ⟨w.heap.size, 0, n, _, by rw [List.length_replicate], by rw [List.length_replicate]; exact Nat.le_refl _, new_at w _, by simp, ?_, by rw [List.length_replicate]; exact hsm2, fun i hi => ?_, fun _ => Iff.rfl⟩, hs.sat.st hev (fun b hb => by have := hs.sat.lt b hb; simp [Array.getElem?_push, Nat.ne_of_lt this]), fun b hb hS => by have := hs.sat.lt b hS; omega, fun _ => Iff.rfl⟩
    · intro u hu
      have hu := List.mem_of_mem_drop (List.mem_of_mem_take hu)
      simp only [Array.toList_map, List.mem_map] at hu
      obtain ⟨i, _, rfl⟩ := hu
      have hlt : i % zv.cells.size < zv.cells.size := Nat.mod_lt _ (by omega)
      rw [getElem!_pos zv.cells _ hlt]
      exact hz1 _ (by rw [← hzs]; simp)
    · rw [List.getElem_replicate, hz]
      rw [List.length_replicate] at hi
      have hvl : (visL zs).length = sz := by rw [← hzl]; exact ((VPs.visL (w := w) (W := W) zs).length).symm
      refine ⟨hvl, ?_⟩
      have : (List.drop (0 + i * sz) ((Array.range (n * sz)).map (fun i => zv.cells[i % zv.cells.size]!)).toList).take sz = zs := by
        have hin : i * sz + sz ≤ n * sz := by rw [← Nat.succ_mul]; exact Nat.mul_le_mul_right _ hi
        apply List.ext_getElem?
        intro k
        by_cases hk : k < sz
        · rw [List.getElem?_take, if_pos hk, List.getElem?_drop, Array.getElem?_toList]
          have h3 : 0 + i * sz + k < n * sz := by omega
          simp only [Array.getElem?_map, Array.getElem?_range, h3, if_true, Option.map_some]
          rw [hzsz, Nat.zero_add, Nat.add_comm (i * sz), Nat.add_mul_mod_self_right, Nat.mod_eq_of_lt hk, getElem!_pos zv.cells k (by omega)]
          have h4 : zs[k]? = zv.cells.toList[k]? := by rw [hzs]
          rw [h4]
          simp [hzsz, hk]
        · rw [List.getElem?_eq_none (by rw [List.length_take]; omega), List.getElem?_eq_none (by omega)]
      rw [this]
      exact VPs.visL zs
theorem mk {x y : Operand} {n : Nat} {z : α} (ht : tRow P t e sz bytes zs) (hz : enc z = visL zs) (hsz : 0 < sz) (hsm : n * bytes ≤ 281474976710656) (hsm2 : n * (sz + 1) ≤ 9223372036854775807) (kk : ∀ v, v.oneCell' = true → EvL P fz B K ops rest ((d, vis v) :: σ) (hrow v e sz enc (List.replicate n z) :: h)) (hx : og σ x = some (vint .i64 (n : Int)) := by rfl) (hy : og σ y = some (vint .i64 (n : Int)) := by rfl) (hd : Nat.ble (d + 1) fz = true := by rfl) (hg : Gk ops σ g := by first | exact gk0 | exact gk1 rfl rfl rfl (by assumption)) :
    EvL P fz B K ops (⟨some d, .makeSlice t x y, ty, pos, af, g⟩ :: rest) σ h :=
  opx hd hg fun a w W S hs => by
    obtain ⟨w', W', S', h1, h2, h3⟩ := mk_run (o := ⟨some d, .makeSlice t x y, ty, pos, af, g⟩) rfl ht hz hsz hsm hsm2 hs (hs.eval hx) (hs.eval hy)
    exact ⟨_, _, _, _, _, _, h1, rfl, h2, h3, kk _ rfl⟩
end
end Go.Proofs.YtagkniimpekhjaaGreat

set_option linter.unusedVariables false
set_option linter.unusedSectionVars false
set_option linter.unusedSimpArgs false
namespace Go.Proofs.YtagkniimpekhjaaGreat
open Go.RowKit

/-! ### maps of one's own -/
section model
variable {κ ν : Type} [DecidableEq κ]
def mget : List (κ × ν) → κ → Option ν
  | [], _ => none
  | (k', v) :: m, k => if k' = k then some v else mget m k
def mset : List (κ × ν) → κ → ν → List (κ × ν)
  | [], k, v => [(k, v)]
  | (k', v') :: m, k, v => if k' = k then (k, v) :: m else (k', v') :: mset m k v
def midx : List (κ × ν) → κ → Option Nat
  | [], _ => none
  | (k', _) :: m, k => if k' = k then some 0 else (midx m k).map (· + 1)
end model
def vmap (b : Nat) : VP := vis (.map (some b))
/-- entries -/
def EntOk {κ ν : Type} (w : World) (W : WS) (encK : κ → Value) (encV : ν → VP) : List MapEntry → List (κ × ν) → Prop
  | [], [] => True
  | e :: es, (k, v) :: m => e.key = encK k ∧ (encV v).p w W e.val ∧ EntOk w W encK encV es m
  | _, _ => False
/-- the entries' births rise, and are below the clock -/
def Born (clock : Nat) : List MapEntry → Prop
  | [] => True
  | e :: es => e.born < clock ∧ (∀ e' ∈ es, e.born < e'.born) ∧ Born clock es
theorem EntOk.st {κ ν : Type} {w w' : World} {W W' : WS} {encK : κ → Value} {encV : ν → VP} (he : Evo w W w' W') : ∀ {es : List MapEntry} {m : List (κ × ν)}, EntOk w W encK encV es m → EntOk w' W' encK encV es m
  | [], [], _ => trivial
  | _ :: _, (_, _) :: _, ⟨h1, h2, h3⟩ => ⟨h1, VP.st _ he h2, EntOk.st he h3⟩
  | [], _ :: _, h => h.elim
  | _ :: _, [], h => h.elim
def hmap {κ ν : Type} (b : Nat) (encK : κ → Value) (encV : ν → VP) (m : List (κ × ν)) : HP where
  p := fun w W S => (∃ (es : Array MapEntry) (clock : Nat), w.heap[b]? = some (.map es clock) ∧ EntOk w W encK encV es.toList m ∧ Born clock es.toList ∧ m.length ≤ 9223372036854775807 ∧ (m.map (·.1)).Nodup) ∧ ∀ x, S x ↔ x = b
  st := by
    rintro w W w' W' S he hk ⟨⟨es, c, h1, h2, h3, h4, h5⟩, hS⟩
    exact ⟨⟨es, c, by rw [hk b ((hS b).2 rfl)]; exact h1, h2.st he, h3, h4, h5⟩, hS⟩
  lt := by
    rintro w W S ⟨⟨es, c, h1, _⟩, hS⟩ x hx
    have := (hS x).1 hx
    subst this
    exact (Array.getElem?_eq_some_iff.1 h1).1
/-- What the model's search for a key of this type does. -/
structure KeyOk {κ : Type} [DecidableEq κ] (P : Program) (kt : TypeId) (encK : κ → Value) : Prop where
  ck : ∀ b k w, (Instr.checkKey b 10000 kt (encK k)).run P w = .ok () w
  find : ∀ (ks : List κ) (es : List MapEntry) (k : κ) w, es.map (·.key) = ks.map encK → (Instr.findKey kt (encK k) es).run P w = .ok ((ks.findIdx? (fun k' => decide (k' = k))).bind fun i => (es[i]?).map fun e => (i, e.val)) w
  bits : ∀ k, Instr.sameBits 10000 (encK k) (encK k) = true
theorem findNow_spec {κ : Type} [DecidableEq κ] {kd : TypeDesc} {encK : κ → Value} (hs : ∀ k k', Instr.sameNow kd (encK k) (encK k') = some (decide (k' = k))) (k : κ) : ∀ (ks : List κ) (es : List MapEntry) (i : Nat), es.map (·.key) = ks.map encK →
    Instr.findNow kd (encK k) es i = some ((ks.findIdx? (fun k' => decide (k' = k))).bind fun j => (es[j]?).map fun e => (j + i, e.val))
  | [], [], i, _ => rfl
  | k' :: ks, e :: es, i, h => by
    simp only [List.map_cons, List.cons.injEq] at h
    unfold Instr.findNow
    rw [h.1, hs]
    by_cases hk : k' = k
    · simp [hk, List.findIdx?_cons]
    · simp only [hk, decide_false]
      rw [findNow_spec hs k ks es (i + 1) h.2]
      simp only [List.findIdx?_cons, hk, decide_false, Bool.false_eq_true, if_false]
      cases ks.findIdx? (fun k' => decide (k' = k)) with
      | none => rfl
      | some j => simp [Nat.add_assoc, Nat.add_comm 1 i]
  | [], _ :: _, _, h => by simp at h
  | _ :: _, [], _, h => by simp at h
def eI (n : Int) : Value := .int .i64 n
theorem keyInt {P : Program} {kt : TypeId} (h : P.underlying kt = some (.int .i64)) : KeyOk P kt eI where
  ck := fun b k w => by
    unfold Instr.checkKey
    simp only [Sem.run_bind, run_underlying h, Result.andThen_ok, eI]
    rfl
  find := fun ks es k w hk => by
    unfold Instr.findKey
    simp only [Sem.run_bind, run_underlying h, Result.andThen_ok]
    rw [findNow_spec (kd := .int .i64) (fun k k' => by simp only [eI, Instr.sameNow, if_true]; congr 1; by_cases h : k' = k <;> simp [h]; exact fun h2 => h h2.symm) k ks es 0 hk]
    simp
  bits := fun k => by simp [eI, Instr.sameBits]
theorem ba_beq (a b : ByteArray) : (a == b) = decide (a = b) := by
  rcases a with ⟨a⟩
  rcases b with ⟨b⟩
  show (a == b) = _
  by_cases h : a = b
  · simp [h]
  · simp [h]
def eS (s : List UInt8) : Value := .string ⟨s.toArray⟩
theorem keyStr {P : Program} {kt : TypeId} (h : P.underlying kt = some .string) : KeyOk P kt eS where
  ck := fun b k w => by
    unfold Instr.checkKey
    simp only [Sem.run_bind, run_underlying h, Result.andThen_ok, eS]
    rfl
  find := fun ks es k w hk => by
    unfold Instr.findKey
    simp only [Sem.run_bind, run_underlying h, Result.andThen_ok]
    rw [findNow_spec (kd := .string) (fun k k' => by
      simp only [eS, Instr.sameNow, ba_beq]
      congr 1
      rw [decide_eq_decide]
      constructor
      · intro h2
        injection h2 with h2
        have : k.toArray.toList = k'.toArray.toList := by rw [h2]
        simp at this
        exact this.symm
      · rintro rfl
        rfl) k ks es 0 hk]
    simp
  bits := fun k => by simp [eS, Instr.sameBits, ba_beq]

section
variable {κ ν : Type} [DecidableEq κ] {w : World} {W : WS} {encK : κ → Value} {encV : ν → VP}
theorem EntOk.keys : ∀ {es : List MapEntry} {m : List (κ × ν)}, EntOk w W encK encV es m → es.map (·.key) = (m.map (·.1)).map encK
  | [], [], _ => rfl
  | e :: es, (k, v) :: m, ⟨h1, _, h3⟩ => by simp only [List.map_cons, h1, EntOk.keys h3]
  | [], _ :: _, h => h.elim
  | _ :: _, [], h => h.elim
theorem EntOk.len : ∀ {es : List MapEntry} {m : List (κ × ν)}, EntOk w W encK encV es m → es.length = m.length
  | [], [], _ => rfl
  | e :: es, (k, v) :: m, ⟨h1, _, h3⟩ => congrArg (· + 1) (EntOk.len h3)
  | [], _ :: _, h => h.elim
  | _ :: _, [], h => h.elim
theorem EntOk.get : ∀ {es : List MapEntry} {m : List (κ × ν)} (k : κ), EntOk w W encK encV es m →
    match (((m.map (·.1)).findIdx? (fun k' => decide (k' = k))).bind fun i => (es[i]?).map fun e => (i, e.val)), mget m k with
    | some (i, u), some v => (encV v).p w W u ∧ (es[i]?).map (·.key) = some (encK k)
    | none, none => True
    | _, _ => False
  | [], [], k, _ => trivial
  | e :: es, (k', v) :: m, k, ⟨h1, h2, h3⟩ => by
    simp only [List.map_cons, List.findIdx?_cons, mget]
    by_cases hk : k' = k
    · subst hk
      simp [h2, h1]
    · have ih := EntOk.get k h3
      simp only [hk, decide_false, Bool.false_eq_true, if_false]
      cases hf : (m.map (·.1)).findIdx? (fun k' => decide (k' = k)) with
      | none =>
        rw [hf] at ih
        simp only [Option.bind_none] at ih
        simp only [Option.map_none, Option.bind_none]
        cases hg : mget m k with
        | none => trivial
        | some v => rw [hg] at ih; exact ih.elim
      | some i =>
        rw [hf] at ih
        simp only [Option.bind_some] at ih
        simp only [Option.map_some, Option.bind_some, List.getElem?_cons_succ]
        cases he : es[i]? with
        | none =>
          rw [he] at ih
          simp only [Option.map_none] at ih ⊢
          cases hg : mget m k with
          | none => trivial
          | some v => rw [hg] at ih; exact ih.elim
        | some e' =>
          rw [he] at ih
          simp only [Option.map_some] at ih ⊢
          cases hg : mget m k with
          | none => rw [hg] at ih; exact ih.elim
          | some v =>
            rw [hg] at ih
            simp only [List.getElem?_cons_succ, he, Option.map_some] at ih ⊢
            exact ih
  | [], _ :: _, _, h => h.elim
  | _ :: _, [], _, h => h.elim
theorem mget_none {m : List (κ × ν)} {k : κ} (h : mget m k = none) : ∀ v, (k, v) ∉ m := by
  induction m with
  | nil => simp
  | cons e m ih =>
    obtain ⟨k', v'⟩ := e
    simp only [mget] at h
    split at h
    · cases h
    · rename_i hne
      intro v hv
      rcases List.mem_cons.1 hv with hv | hv
      · injection hv with h1; exact hne h1.symm
      · exact ih h v hv
theorem mset_keys {m : List (κ × ν)} {k : κ} {v : ν} : (mset m k v).map (·.1) = if mget m k = none then m.map (·.1) ++ [k] else m.map (·.1) := by
  induction m with
  | nil => rfl
  | cons e m ih =>
    obtain ⟨k', v'⟩ := e
    simp only [mset, mget]
    by_cases hk : k' = k
    · simp [hk]
    · simp only [hk, if_false, List.map_cons, ih]
      split <;> simp
theorem mget_mem {m : List (κ × ν)} {k : κ} : mget m k = none ↔ k ∉ m.map (·.1) := by
  induction m with
  | nil => simp [mget]
  | cons e m ih =>
    obtain ⟨k', v'⟩ := e
    simp only [mget, List.map_cons, List.mem_cons, not_or]
    by_cases hk : k' = k
    · simp [hk]
    · simp only [hk, if_false, ih]
      constructor
      · exact fun h => ⟨fun h2 => hk h2.symm, h⟩
      · exact fun h => h.2
theorem mset_nodup {m : List (κ × ν)} {k : κ} {v : ν} (h : (m.map (·.1)).Nodup) : ((mset m k v).map (·.1)).Nodup := by
  rw [mset_keys]
  split
  · rename_i hn
    rw [mget_mem] at hn
    rw [List.nodup_append]
    exact ⟨h, by simp, fun a ha b hb => by simp only [List.mem_singleton] at hb; subst hb; exact fun he => hn (he ▸ ha)⟩
  · exact h
theorem EntOk.setE : ∀ {es : List MapEntry} {m : List (κ × ν)} {k : κ} {v : ν} {u : Value} {i : Nat}, EntOk w W encK encV es m → (m.map (·.1)).findIdx? (fun k' => decide (k' = k)) = some i → (encV v).p w W u →
    EntOk w W encK encV (es.modify i fun e => { e with key := encK k, val := u }) (mset m k v)
  | e :: es, (k', v') :: m, k, v, u, i, ⟨h1, h2, h3⟩, hi, hv => by
    simp only [List.map_cons, List.findIdx?_cons] at hi
    simp only [mset]
    by_cases hk : k' = k
    · subst hk
      simp only [decide_true, if_true, Option.some.injEq] at hi
      subst hi
      simp only [if_true, List.modify_zero_cons]
      exact ⟨rfl, hv, h3⟩
    · simp only [hk, decide_false, Bool.false_eq_true, if_false, Option.map_eq_some_iff] at hi
      obtain ⟨j, hj, rfl⟩ := hi
      simp only [hk, if_false, List.modify_succ_cons]
      exact ⟨h1, h2, EntOk.setE h3 hj hv⟩
  | [], [], k, v, u, i, _, hi, _ => by simp at hi
  | [], _ :: _, _, _, _, _, h, _, _ => h.elim
  | _ :: _, [], _, _, _, _, h, _, _ => h.elim
theorem EntOk.push : ∀ {es : List MapEntry} {m : List (κ × ν)} {k : κ} {v : ν} {e : MapEntry}, EntOk w W encK encV es m → mget m k = none → e.key = encK k → (encV v).p w W e.val → EntOk w W encK encV (es ++ [e]) (mset m k v)
  | [], [], k, v, e, _, _, h1, h2 => ⟨h1, h2, trivial⟩
  | e' :: es, (k', v') :: m, k, v, e, ⟨h1, h2, h3⟩, hn, hk, hv => by
    simp only [mget] at hn
    simp only [mset]
    split at hn
    · cases hn
    · rename_i hne
      simp only [hne, if_false, List.cons_append]
      exact ⟨h1, h2, EntOk.push h3 hn hk hv⟩
  | [], _ :: _, _, _, _, h, _, _, _ => h.elim
  | _ :: _, [], _, _, _, h, _, _, _ => h.elim
theorem Born.modify {c : Nat} {f : MapEntry → MapEntry} (hf : ∀ e, (f e).born = e.born) : ∀ {es : List MapEntry} {i : Nat}, Born c es → Born c (es.modify i f)
  | [], i, h => by simpa using h
  | e :: es, 0, ⟨h1, h2, h3⟩ => by
    rw [List.modify_zero_cons]
    exact ⟨by rw [hf]; exact h1, fun e' he' => by rw [hf]; exact h2 e' he', h3⟩
  | e :: es, i + 1, ⟨h1, h2, h3⟩ => by
    rw [List.modify_succ_cons]
    refine ⟨h1, fun e' he' => ?_, Born.modify hf h3⟩
    obtain ⟨j, hj, rfl⟩ := List.getElem_of_mem he'
    rw [List.getElem_modify]
    have hj' : j < es.length := by rwa [List.length_modify] at hj
    split
    · rw [hf]; exact h2 _ (List.getElem_mem hj')
    · exact h2 _ (List.getElem_mem hj')
theorem Born.push {c : Nat} {e : MapEntry} (he : e.born = c) : ∀ {es : List MapEntry}, Born c es → Born (c + 1) (es ++ [e])
  | [], _ => ⟨by omega, by simp, trivial⟩
  | e' :: es, ⟨h1, h2, h3⟩ => by
    refine ⟨by omega, fun x hx => ?_, Born.push he h3⟩
    rcases List.mem_append.1 hx with hx | hx
    · exact h2 x hx
    · simp only [List.mem_singleton] at hx; subst hx; omega
end

section
variable {P : Program} {fz : Nat} {B : Bs} {K : KP} {ops : Array Oper} {rest : List Oper} {σ : Regs} {h : List HP} {d : Nat} {ty : TypeId} {pos : String} {af : Array Edge} {g : Option (Nat × Bool)} {κ ν : Type} [DecidableEq κ] {encK : κ → Value} {encV : ν → VP} {m : List (κ × ν)} {t kt vt : TypeId}

def tMap (P : Program) (t kt vt : TypeId) : Bool := match P.underlying t with
  | some (.map k v) => Nat.beq k kt && Nat.beq v vt
  | _ => false
theorem tMap_parts (h : tMap P t kt vt = true) : P.underlying t = some (.map kt vt) := by
  unfold tMap at h
  split at h
  · rename_i k v hu
    simp only [Bool.and_eq_true] at h
    rw [hu, Nat.eq_of_beq_eq_true h.1, Nat.eq_of_beq_eq_true h.2]
  · cases h
theorem run_getMap {w : World} {b : Nat} {es : Array MapEntry} {c : Nat} (h : w.heap[b]? = some (.map es c)) : (getObj b).run P w = .ok (.map es c) w := by
  simp [getObj, Sem.run, h]
/-- a new map -/
theorem mkmap (encK : κ → Value) (encV : ν → VP) (kk : ∀ b, EvL P fz B K ops rest ((d, vmap b) :: σ) (hmap b encK encV [] :: h)) (hd : Nat.ble (d + 1) fz = true := by rfl) (hg : Gk ops σ g := by first | exact gk0 | exact gk1 rfl rfl rfl (by assumption)) :
    EvL P fz B K ops (⟨some d, .makeMap t none, ty, pos, af, g⟩ :: rest) σ h :=
  opx hd hg fun a w W S hs => by
    have hr := Run.new hs.run.sub hs.run.bound (.map #[] 0)
    have hev := hr.evo hs.run.sub
    refine ⟨vmap w.heap.size, _, _, _, _, _, ?_, rfl, ?_, hr, kk w.heap.size⟩
    · unfold execOp
      simp only [Instr.makeMap, Option.map_none, newObj, Sem.run_bind, Sem.run_pure]
      rfl
    · exact ⟨fun b => b = w.heap.size, S, ⟨⟨#[], 0, new_at w _, trivial, trivial, by simp, by simp⟩, fun _ => Iff.rfl⟩, hs.sat.st hev (fun b hb => by have := hs.sat.lt b hb; simp [Array.getElem?_push, Nat.ne_of_lt this]), fun b hb hS => by have := hs.sat.lt b hS; omega, fun _ => Iff.rfl⟩
theorem run_lookup {w : World} {W : WS} {b : Nat} {S1 : Nat → Prop} {k : κ} {ok : Bool} {z : Value} {d0 : ν} (ht : tMap P t kt vt = true) (hk : KeyOk P kt encK) (hm : (hmap b encK encV m).p w W S1) (hz : (P.info? vt).bind (·.zero) = some z) (hd0 : ∀ w W, (encV d0).p w W z) :
    ∃ u, (Instr.lookup t (.map (some b)) (encK k) ok).run P w = .ok (if ok then .tuple #[u, .bool (mget m k).isSome] else u) w ∧ (encV ((mget m k).getD d0)).p w W u := by
  obtain ⟨⟨es, c, h1, h2, h3, h4, h5⟩, _⟩ := hm
  have hget := h2.get k
  have hfind := hk.find (m.map (·.1)) es.toList k w h2.keys
  obtain ⟨i, hi, hiz⟩ := Option.bind_eq_some_iff.1 hz
  have hzr : (zeroValue vt).run P w = .ok z w := by
    simp only [zeroValue, Sem.run_bind, run_tinfo hi, Result.andThen_ok, hiz, Sem.run_pure]
  unfold Instr.lookup
  simp only [Sem.run_bind, run_underlying (tMap_parts ht), Result.andThen_ok, run_getMap h1, Sem.run_pure, hk.ck, hfind]
  cases hf : ((m.map (·.1)).findIdx? (fun k' => decide (k' = k))).bind fun i => (es.toList[i]?).map fun e => (i, e.val) with
  | none =>
    rw [hf] at hget
    cases hg : mget m k with
    | some v => rw [hg] at hget; exact hget.elim
    | none =>
      refine ⟨z, ?_, hd0 w W⟩
      simp only [Sem.run_bind, hzr, Result.andThen_ok, Sem.run_pure]
      cases ok <;> rfl
  | some iu =>
    obtain ⟨i, u⟩ := iu
    rw [hf] at hget
    cases hg : mget m k with
    | none => rw [hg] at hget; exact hget.elim
    | some v =>
      rw [hg] at hget
      refine ⟨u, ?_, hget.1⟩
      simp only [Sem.run_bind, Result.andThen_ok, Sem.run_pure]
      cases ok <;> rfl
/-- m[k] -/
theorem lk {x y : Operand} {b j : Nat} {z : Value} (k : κ) (d0 : ν) (ht : tMap P t kt vt = true) (hk : KeyOk P kt encK) (hj : h[j]? = some (hmap b encK encV m)) (hz : (P.info? vt).bind (·.zero) = some z) (hd0 : ∀ w W, (encV d0).p w W z) (kk : EvL P fz B K ops rest ((d, encV ((mget m k).getD d0)) :: σ) h) (hx : og σ x = some (vmap b) := by rfl) (hy : og σ y = some (vis (encK k)) := by rfl) (hd : Nat.ble (d + 1) fz = true := by rfl) (hg : Gk ops σ g := by first | exact gk0 | exact gk1 rfl rfl rfl (by assumption)) :
    EvL P fz B K ops (⟨some d, .lookup t x y false, ty, pos, af, g⟩ :: rest) σ h :=
  opp hd hg (fun a w W S hs => by
    obtain ⟨S1, S2, h1, _⟩ := Sat.pick hj hs.sat
    obtain ⟨u, hr, hu⟩ := run_lookup (k := k) (ok := false) ht hk h1 hz hd0
    refine ⟨u, ?_, hu⟩
    have e1 : a.eval x = .map (some b) := hs.eval hx
    have e2 : a.eval y = encK k := hs.eval hy
    unfold execOp
    simp only [e1, e2, Sem.run_bind, hr, Result.andThen_ok, Sem.run_pure]
    rfl) kk
/-- v, ok := m[k] -/
theorem lko {x y : Operand} {b j : Nat} {z : Value} (k : κ) (d0 : ν) (ht : tMap P t kt vt = true) (hk : KeyOk P kt encK) (hj : h[j]? = some (hmap b encK encV m)) (hz : (P.info? vt).bind (·.zero) = some z) (hd0 : ∀ w W, (encV d0).p w W z) (kk : EvL P fz B K ops rest ((d, vtup [encV ((mget m k).getD d0), vbool (mget m k).isSome]) :: σ) h) (hx : og σ x = some (vmap b) := by rfl) (hy : og σ y = some (vis (encK k)) := by rfl) (hd : Nat.ble (d + 1) fz = true := by rfl) (hg : Gk ops σ g := by first | exact gk0 | exact gk1 rfl rfl rfl (by assumption)) :
    EvL P fz B K ops (⟨some d, .lookup t x y true, ty, pos, af, g⟩ :: rest) σ h :=
  opp hd hg (fun a w W S hs => by
    obtain ⟨S1, S2, h1, _⟩ := Sat.pick hj hs.sat
    obtain ⟨u, hr, hu⟩ := run_lookup (k := k) (ok := true) ht hk h1 hz hd0
    refine ⟨.tuple #[u, .bool (mget m k).isSome], ?_, #[u, .bool (mget m k).isSome], rfl, hu, rfl, trivial⟩
    have e1 : a.eval x = .map (some b) := hs.eval hx
    have e2 : a.eval y = encK k := hs.eval hy
    unfold execOp
    simp only [e1, e2, Sem.run_bind, hr, Result.andThen_ok, Sem.run_pure]
    rfl) kk
/-- m[k] = v -/
theorem mst {x y z : Operand} {b j : Nat} (k : κ) (v : ν) (ht : tMap P t kt vt = true) (hk : KeyOk P kt encK) (hj : h[j]? = some (hmap b encK encV m)) (hlen : m.length < 9223372036854775807) (kk : EvL P fz B K ops rest σ (h.set j (hmap b encK encV (mset m k v)))) (hx : og σ x = some (vmap b) := by rfl) (hy : og σ y = some (vis (encK k)) := by rfl) (hzv : og σ z = some (encV v) := by rfl) (hg : Gk ops σ g := by first | exact gk0 | exact gk1 rfl rfl rfl (by assumption)) :
    EvL P fz B K ops (⟨none, .mapUpdate t x y z, ty, pos, af, g⟩ :: rest) σ h :=
  opu hg (fun a w W S hs => by
    have hbd := hs.run.bound
    have e1 : a.eval x = .map (some b) := hs.eval hx
    have e2 : a.eval y = encK k := hs.eval hy
    have hv := hs.eval hzv
    have key : ∀ S1, (hmap b encK encV m).p w W S1 → (∀ b, S1 b → W b) → ∃ w', (Instr.mapUpdate t (.map (some b)) (encK k) (a.eval z)).run P w = .ok () w' ∧ (hmap b encK encV (mset m k v)).p w' W S1 ∧ Run w W S1 w' W S1 := by
      rintro S1 ⟨⟨es, c, h1, h2, h3, h4, h5⟩, hS1⟩ hsub
      have hbS : S1 b := (hS1 b).2 rfl
      have hget := h2.get k
      have hfind := hk.find (m.map (·.1)) es.toList k w h2.keys
      have hset : ∀ (es' : Array MapEntry) (c' : Nat), (setObj b (.map es' c')).run P w = .ok () { w with heap := w.heap.setIfInBounds b (.map es' c') } := by
        intro es' c'
        simp [setObj, Sem.run, h1]
      have hrun : ∀ (es' : Array MapEntry) (c' : Nat), Run w W S1 { w with heap := w.heap.setIfInBounds b (.map es' c') } W S1 := fun es' c' =>
        ⟨rfl, rfl, rfl, by simp, fun x hl hn => by
          have : b ≠ x := fun e => hn (e ▸ hbS)
          simp [Array.getElem?_setIfInBounds_ne this], fun _ _ _ => Iff.rfl, fun _ _ h => h, fun _ h => .inl h, hsub, fun x hx => by simpa using hbd x hx⟩
      have hat : ∀ (es' : Array MapEntry) (c' : Nat), ({ w with heap := w.heap.setIfInBounds b (.map es' c') } : World).heap[b]? = some (.map es' c') := by
        intro es' c'
        have := (Array.getElem?_eq_some_iff.1 h1).1
        simp [this]
      have hml : (mset m k v).length ≤ 9223372036854775807 := by
        have := congrArg List.length (mset_keys (m := m) (k := k) (v := v))
        rw [List.length_map] at this
        split at this
        · rw [List.length_append, List.length_map, List.length_singleton] at this; omega
        · rw [List.length_map] at this; omega
      have hnd := mset_nodup (k := k) (v := v) h5
      unfold Instr.mapUpdate
      simp only [Sem.run_bind, run_underlying (tMap_parts ht), Result.andThen_ok, run_getMap h1, hk.ck, hfind]
      cases hf : ((m.map (·.1)).findIdx? (fun k' => decide (k' = k))).bind fun i => (es.toList[i]?).map fun e => (i, e.val) with
      | none =>
        rw [hf] at hget
        have hg : mget m k = none := by
          cases hg : mget m k with
          | some v => rw [hg] at hget; exact hget.elim
          | none => rfl
        have hev := (hrun (es.push { key := encK k, val := a.eval z, born := c }) (c + 1)).evo hsub
        refine ⟨{ w with heap := w.heap.setIfInBounds b (.map (es.push { key := encK k, val := a.eval z, born := c }) (c + 1)) }, by simp only [hset], ⟨⟨_, _, hat _ _, ?_, ?_, hml, hnd⟩, hS1⟩, hrun _ _⟩
        · rw [Array.toList_push]
          exact (h2.push hg rfl hv).st hev
        · rw [Array.toList_push]
          exact Born.push (e := { key := encK k, val := a.eval z, born := c }) rfl h3
      | some iu =>
        obtain ⟨i, u⟩ := iu
        rw [hf] at hget
        cases hg : mget m k with
        | none => rw [hg] at hget; exact hget.elim
        | some v0 =>
          rw [hg] at hget
          have hi : (m.map (·.1)).findIdx? (fun k' => decide (k' = k)) = some i := by
            obtain ⟨i', hi', he⟩ := Option.bind_eq_some_iff.1 hf
            obtain ⟨e, _, he2⟩ := Option.map_eq_some_iff.1 he
            injection he2 with h6
            rw [← h6]
            exact hi'
          have hkey : ((es[i]?).map (·.key)).getD (encK k) = encK k := by
            have := hget.2
            rw [Array.getElem?_toList] at this
            rw [this]
            rfl
          have hstay : (Instr.keyThatStays (((es[i]?).map (·.key)).getD (encK k)) (encK k)).run P w = .ok (encK k) w := by
            rw [hkey]
            unfold Instr.keyThatStays
            rw [hk.bits]
            rfl
          have hev := (hrun (es.modify i fun e => { e with key := encK k, val := a.eval z }) c).evo hsub
          refine ⟨{ w with heap := w.heap.setIfInBounds b (.map (es.modify i fun e => { e with key := encK k, val := a.eval z }) c) }, by simp only [Sem.run_bind, hstay, Result.andThen_ok, hset], ⟨⟨_, _, hat _ _, ?_, ?_, hml, hnd⟩, hS1⟩, hrun _ _⟩
          · rw [Array.toList_modify]
            exact (h2.setE hi hv).st hev
          · rw [Array.toList_modify]
            exact Born.modify (f := fun e => { e with key := encK k, val := a.eval z }) (fun _ => rfl) h3
    obtain ⟨S1, S2, g1, g2, hd, hS⟩ := Sat.pick hj hs.sat
    obtain ⟨w', hr, hm', hrun⟩ := key S1 g1 (fun b hb => hs.run.sub b ((hS b).2 (.inl hb)))
    have hlt := g2.lt
    obtain ⟨hr2, hd2⟩ := Run.framed (T := S2) (S := S) hrun hlt hd hS hs.run.sub
    have hev := hr2.evo hs.run.sub
    refine ⟨w', W, _, .inl ?_, Sat.put hj hm' (g2.st hev (fun b hb => hrun.keep b (hlt b hb) (fun hc => hd b hc hb))) hd2, hr2⟩
    unfold execOp
    simp only [e1, e2, Sem.run_bind, hr, Result.andThen_ok, Sem.run_pure]) kk
theorem mln {x : Operand} {b j : Nat} (ht : tMap P t kt vt = true) (hj : h[j]? = some (hmap b encK encV m)) (kk : m.length ≤ 9223372036854775807 → EvL P fz B K ops rest ((d, vint .i64 (m.length : Int)) :: σ) h) (hx : og σ x = some (vmap b) := by rfl) (hd : Nat.ble (d + 1) fz = true := by rfl) (hg : Gk ops σ g := by first | exact gk0 | exact gk1 rfl rfl rfl (by assumption)) :
    EvL P fz B K ops (⟨some d, .call { callee := .builtin .len, args := #[x], argTypes := #[t] }, ty, pos, af, g⟩ :: rest) σ h :=
  opx hd hg fun a w W S hs => by
    have e1 : a.eval x = .map (some b) := hs.eval hx
    obtain ⟨S1, S2, ⟨⟨es, c, h1, h2, h3, h4, h5⟩, hS1⟩, _⟩ := Sat.pick hj hs.sat
    refine ⟨vint .i64 (m.length : Int), h, .int .i64 m.length, w, W, S, ?_, rfl, hs.sat, Run.refl hs.run.sub hs.run.bound, kk h4⟩
    have hl := h2.len
    rw [Array.length_toList] at hl
    unfold execOp
    simp only [resolve, invoke, builtin, Builtin.len_, List.map_toArray, List.map_cons, List.map_nil, e1, Sem.run_bind, Sem.run_pure, Result.andThen_ok, List.getElem?_toArray, List.getElem?_cons_zero, run_underlying (tMap_parts ht), goInt, run_getMap h1, hl]
end
end Go.Proofs.YtagkniimpekhjaaGreat

set_option linter.unusedVariables false
set_option linter.unusedSectionVars false
set_option linter.unusedSimpArgs false
namespace Go.Proofs.YtagkniimpekhjaaGreat
open Go.RowKit
section
variable {P : Program} {fz : Nat} {B : Bs} {K : KP} {ops : Array Oper} {rest : List Oper} {σ : Regs} {h : List HP} {d : Nat} {ty : TypeId} {pos : String} {af : Array Edge} {g : Option (Nat × Bool)} {t e : TypeId}

/-! ### function values -/
def vfn (f : FuncId) (first captured : List Value) : VP := vis (.func (.func f) first.toArray captured.toArray)
theorem ofVis {w : World} {W : WS} : ∀ {us vs : List Value}, VPs w W (visL us) vs → vs = us
  | [], [], _ => rfl
  | u :: us, v :: vs, ⟨h1, h2⟩ => by
    have h1' : v = u := h1
    rw [h1', ofVis h2]
  | [], _ :: _, h => h.elim
  | _ :: _, [], h => h.elim
theorem mkfn {f : FuncId} {xs ys : List Operand} (us vs : List Value) (kk : EvL P fz B K ops rest ((d, vfn f us vs) :: σ) h) (hx : ogs σ xs = some (visL us) := by rfl) (hy : ogs σ ys = some (visL vs) := by rfl) (hd : Nat.ble (d + 1) fz = true := by rfl) (hg : Gk ops σ g := by first | exact gk0 | exact gk1 rfl rfl rfl (by assumption)) :
    EvL P fz B K ops (⟨some d, .makeFunc (.func f) xs.toArray ys.toArray, ty, pos, af, g⟩ :: rest) σ h :=
  opp hd hg (fun a w W S hs => by
    refine ⟨.func (.func f) us.toArray vs.toArray, ?_, rfl⟩
    have h1 := ofVis (hs.evals hx)
    have h2 := ofVis (hs.evals hy)
    unfold execOp
    simp only [Instr.makeFunc, List.map_toArray, h1, h2, Sem.run_bind, Sem.run_pure, Result.andThen_ok]) kk
theorem visApp {w : World} {W : WS} {us : List Value} {ps : List VP} {vs : List Value} (h : VPs w W ps vs) (ws : List Value) : VPs w W (visL us ++ ps ++ visL ws) (us ++ vs ++ ws) :=
  ((VPs.visL us).append h).append (VPs.visL ws)
/-- A call of a function value. -/
theorem callv {f : FuncId} {x : Operand} {us ws : List Value} {hc hf : List HP} {ps : List VP} {Post : VP → List HP → Prop} {xs : List Operand} {ts : Array TypeId} (hfn : Fn P f (visL us ++ ps ++ visL ws) hc Post) (hgo : isGo P f = true) (hsel : Sel h hc hf) (k : ∀ r h', Post r h' → EvL P fz B K ops rest ((d, r) :: σ) (h' ++ hf)) (hxv : og σ x = some (vfn f us ws) := by rfl) (hx : ogs σ xs = some ps := by rfl) (hd : Nat.ble (d + 1) fz = true := by rfl) (hg : Gk ops σ g := by first | exact gk0 | exact gk1 rfl rfl rfl (by assumption)) :
    EvL P fz B K ops (⟨some d, .call { callee := .value x, args := xs.toArray, argTypes := ts }, ty, pos, af, g⟩ :: rest) σ h :=
  opcall (args := []) hfn hsel (fun d' hd' => by cases hd'; exact hd) hg (fun a w W S hs => by
    have h1 : a.eval x = .func (.func f) us.toArray ws.toArray := hs.eval hxv
    refine ⟨us ++ xs.map a.eval ++ ws, ?_, visApp (hs.evals hx) ws⟩
    unfold execOp
    simp only [resolve, h1, Deferred.ofValue, Sem.run_bind, Sem.run_pure, Result.andThen_ok, invoke, List.map_toArray]
    rw [run_callFunc hgo]
    simp) k

/-! ### structs and arrays built by value -/
def tPlaces (P : Program) (t : TypeId) : Option (List (Nat × Nat)) := match P.underlying t with
  | some (.struct fs) => fs.toList.mapM fun f => (P.info? f.type).map fun i => (f.offset, i.size)
  | some (.array n e) => (P.info? e).map fun i => (List.range n).map fun j => (j * i.size, i.size)
  | _ => none
/-- parts laid over the zero value's cells -/
def bld : List VP → List (Nat × List VP) → List VP
  | ps, [] => ps
  | ps, (o, qs) :: l => bld (spl ps o qs) l
inductive BParts (σ : Regs) (pl : List (Nat × Nat)) : List (Nat × Operand) → List (Nat × List VP) → Prop
  | nil : BParts σ pl [] []
  | cons {i : Nat} {x : Operand} {xs : List (Nat × Operand)} {o : Nat} {q : List VP} {l : List (Nat × List VP)} {p : VP} (hp : og σ x = some p) (hc : Cel p q) (ho : pl[i]? = some (o, q.length)) (k : BParts σ pl xs l) : BParts σ pl ((i, x) :: xs) ((o, q) :: l)
theorem run_places {w : World} : ∀ (fs : List Field) (pl : List (Nat × Nat)), (fs.mapM fun f => (P.info? f.type).map fun i => (f.offset, i.size)) = some pl → (fs.mapM (m := Sem) fun f => do pure (f.offset, ← sizeOf f.type)).run P w = .ok pl w
  | [], pl, h => by simp at h; subst h; rfl
  | f :: fs, pl, h => by
    rw [List.mapM_cons] at h
    cases hi : P.info? f.type with
    | none => rw [hi] at h; simp at h
    | some i =>
      rw [hi] at h
      simp only [Option.map_some, Option.bind_eq_bind, Option.bind_some] at h
      cases hr : fs.mapM fun f => (P.info? f.type).map fun i => (f.offset, i.size) with
      | none => rw [hr] at h; simp at h
      | some r =>
        rw [hr] at h
        simp at h
        subst h
        rw [List.mapM_cons]
        simp only [Sem.run_bind, run_size hi, Result.andThen_ok, Sem.run_pure, run_places fs r hr]
theorem fill_parts {w : World} {W : WS} {a : Act} {S : Nat → Prop} {w0 : World} {W0 : WS} {S0 : Nat → Prop} {df : List Deferred} (hs : St fz df w0 W0 S0 σ h a w W S) {pl : List (Nat × Nat)} : ∀ {xs : List (Nat × Operand)} {l : List (Nat × List VP)} {cs : Array Value} {ps : List VP}, BParts σ pl xs l → VPs w W ps cs.toList → (∀ u ∈ cs.toList, u.oneCell' = true) → (∀ oq ∈ l, oq.1 + oq.2.length ≤ ps.length) →
    ∃ cs', Instr.fill (fun i => pl[i]?) cs (xs.map fun x => (x.1, a.eval x.2)) = some cs' ∧ VPs w W (bld ps l) cs'.toList ∧ ∀ u ∈ cs'.toList, u.oneCell' = true
  | _, _, cs, ps, .nil, hp, h1, _ => ⟨cs, rfl, hp, h1⟩
  | _, _, cs, ps, .cons (i := i) (x := x) (o := o) (q := q) (l := l) hpx hc ho k, hp, h1, hle => by
    have hv := hc _ _ _ (hs.eval hpx)
    have hvl := hv.1.length
    have hpl := hp.length
    have ho2 := hle (o, q) (List.mem_cons_self ..)
    simp only at ho2
    have hcsz : cs.size = ps.length := by rw [← Array.length_toList, hpl]
    have hvsz : (a.eval x).cells.size = q.length := by rw [← Array.length_toList, hvl]
    have hz : ((a.eval x).cells.zipIdx.foldl (fun cs (c, j) => cs.setIfInBounds (o + j) c) cs) = (((a.eval x).cells.toList.zipIdx 0).foldl (fun cs (c, j) => cs.setIfInBounds (o + j) c) cs) := by
      rw [← Array.foldl_toList, Array.toList_zipIdx]
    have hl := lay_list (a.eval x).cells.toList o 0 cs (by rw [Array.length_toList (xs := (a.eval x).cells), hvsz]; omega)
    obtain ⟨vs', p1, p2, p3⟩ := VPs.spl o hv.1 hp
    have hcl : ((a.eval x).cells.zipIdx.foldl (fun cs (c, j) => cs.setIfInBounds (o + j) c) cs).toList = vs' := by
      rw [hz, hl, Nat.add_zero]
      apply List.ext_getElem?
      intro j
      have hcl : cs.toList.length = ps.length := hpl
      by_cases hj : j < cs.toList.length
      · rw [p3 j hj]
        have htl : (cs.toList.take o).length = o := by rw [List.length_take]; omega
        by_cases h2 : o ≤ j ∧ j < o + (a.eval x).cells.toList.length
        · rw [if_pos h2, List.getElem?_append_left (by rw [List.length_append, htl]; omega), List.getElem?_append_right (by omega), htl]
        · rw [if_neg h2]
          by_cases h3 : j < o
          · rw [List.append_assoc, List.getElem?_append_left (by omega), List.getElem?_take, if_pos h3]
          · rw [List.getElem?_append_right (by rw [List.length_append, htl]; omega), List.length_append, htl, List.getElem?_drop]
            congr 1
            omega
      · rw [List.getElem?_eq_none (by simp only [List.length_append, List.length_take, List.length_drop]; omega), List.getElem?_eq_none (by omega)]
    have hone : ∀ u ∈ ((a.eval x).cells.zipIdx.foldl (fun cs (c, j) => cs.setIfInBounds (o + j) c) cs).toList, u.oneCell' = true := by
      intro u hu
      rw [hz, hl] at hu
      simp only [List.mem_append] at hu
      rcases hu with (hu | hu) | hu
      · exact h1 u (List.mem_of_mem_take hu)
      · exact hv.2 u hu
      · exact h1 u (List.mem_of_mem_drop hu)
    obtain ⟨cs', q1, q2, q3⟩ := fill_parts hs k (by rw [hcl]; exact p2) hone (fun oq hoq => by rw [spl_length]; exact hle oq (List.mem_cons_of_mem _ hoq))
    refine ⟨cs', ?_, q2, q3⟩
    rw [List.map_cons]
    unfold Instr.fill
    simp only [ho]
    rw [if_neg (by simp only [hvsz, ne_eq, not_true, decide_false, Bool.false_or, decide_eq_true_eq]; simp; omega)]
    exact q1
/-- what a place function does on the indexes that occur -/
theorem fill_congr {f g : Nat → Option (Nat × Nat)} : ∀ (xs : List (Nat × Value)) (cs : Array Value), (∀ x ∈ xs, f x.1 = g x.1) → Instr.fill f cs xs = Instr.fill g cs xs
  | [], cs, _ => rfl
  | (i, v) :: xs, cs, h => by
    have hi : f i = g i := h (i, v) (List.mem_cons_self ..)
    unfold Instr.fill
    rw [hi]
    cases g i with
    | none => rfl
    | some os =>
      simp only
      split
      · rfl
      · exact fill_congr xs _ (fun x hx => h x (List.mem_cons_of_mem _ hx))
theorem BParts.dom {pl : List (Nat × Nat)} : ∀ {xs : List (Nat × Operand)} {l : List (Nat × List VP)}, BParts σ pl xs l → ∀ x ∈ xs, ∃ oq, pl[x.1]? = some oq
  | _, _, .nil, x, hx => by cases hx
  | _, _, .cons hp hc ho k, x, hx => by
    rcases List.mem_cons.1 hx with rfl | hx
    · exact ⟨_, ho⟩
    · exact BParts.dom k x hx
theorem blds {xs : List (Nat × Operand)} {pl : List (Nat × Nat)} {zs : List Value} {l : List (Nat × List VP)} (ht : tPlaces P t = some pl) (hz : zOk P t zs) (hb : BParts σ pl xs l) (kk : EvL P fz B K ops rest ((d, vagg (bld (visL zs) l)) :: σ) h) (hle : (l.all fun oq => Nat.ble (oq.1 + oq.2.length) zs.length) = true := by rfl) (hd : Nat.ble (d + 1) fz = true := by rfl) (hg : Gk ops σ g := by first | exact gk0 | exact gk1 rfl rfl rfl (by assumption)) :
    EvL P fz B K ops (⟨some d, .build t xs.toArray, ty, pos, af, g⟩ :: rest) σ h :=
  opp hd hg (fun a w W S hs => by
    obtain ⟨hz1, hz2⟩ := hz
    unfold tZero at hz1
    obtain ⟨z, hz3, hz4⟩ := Option.map_eq_some_iff.1 hz1
    obtain ⟨i, hi, hiz⟩ := Option.bind_eq_some_iff.1 hz3
    obtain ⟨cs', h1, h2, h3⟩ := fill_parts hs hb (cs := z.cells) (ps := visL zs) (by rw [hz4]; exact VPs.visL zs) (by rw [hz4]; exact hz2) (fun oq hoq => by
      have := Nat.le_of_ble_eq_true (List.all_eq_true.1 hle oq hoq)
      have h4 := (VPs.visL (w := w) (W := W) zs).length
      omega)
    refine ⟨.agg cs', ?_, cs', rfl, h2, h3⟩
    have hm : (Array.map (fun x => (x.1, a.eval x.2)) xs.toArray).toList = xs.map fun x => (x.1, a.eval x.2) := by simp
    unfold tPlaces at ht
    unfold execOp
    split at ht
    · rename_i fs hu
      have hpl := run_places (P := P) (w := w) fs.toList pl ht
      have hpl2 : (fs.mapM (m := Sem) fun f => do pure (f.offset, ← sizeOf f.type)).run P w = .ok pl.toArray w := by
        rw [Array.mapM_eq_mapM_toList]
        simp only [Sem.run_map, hpl]
        rfl
      have hf : (fun (x : Nat) => pl.toArray[x]?) = fun (i : Nat) => pl[i]? := by funext i; simp
      simp only [Instr.build, Sem.run_bind, zeroValue, run_tinfo hi, Result.andThen_ok, hiz, Sem.run_pure, run_underlying hu]
      rw [hpl2]
      simp only [Result.andThen_ok, hf, hm, h1, Sem.run_pure]
    · rename_i n e hu
      obtain ⟨ie, hie, hple⟩ := Option.map_eq_some_iff.1 ht
      have hfc : Instr.fill (fun i => some (i * ie.size, ie.size)) z.cells (xs.map fun x => (x.1, a.eval x.2)) = some cs' := by
        rw [← h1]
        refine fill_congr _ _ (fun x hx => ?_)
        obtain ⟨y, hy, rfl⟩ := List.mem_map.1 hx
        obtain ⟨oq, hoq⟩ := hb.dom y hy
        rw [← hple] at hoq ⊢
        simp only at hoq ⊢
        rw [List.getElem?_map] at hoq ⊢
        cases hr : (List.range n)[y.1]? with
        | none => rw [hr] at hoq; simp at hoq
        | some j =>
          have : j = y.1 := by
            obtain ⟨h5, h6⟩ := List.getElem?_eq_some_iff.1 hr
            simpa using h6.symm
          subst this
          rfl
      simp only [Instr.build, Sem.run_bind, zeroValue, run_tinfo hi, Result.andThen_ok, hiz, Sem.run_pure, run_underlying hu, run_size hie, hm, hfc]
    · cases ht) kk
/-! ### a part of a struct by value -/
def tPart (P : Program) (t : TypeId) (f : Nat) (off : Nat) : Option (Option Nat) := match P.underlying t with
  | some (.struct fs) => match fs[f]? with
    | some fd => if fd.offset = off then match P.underlying fd.type, P.info? fd.type with
        | some d, some i => if isAggD d then some (some i.size) else some none
        | _, _ => none
      else none
    | none => none
  | _ => none
theorem fld1 {x : Operand} {f off : Nat} {ps : List VP} {p : VP} (ht : tPart P t f off = some none) (kk : EvL P fz B K ops rest ((d, p) :: σ) h) (hx : og σ x = some (vagg ps) := by rfl) (hp : ps[off]? = some p := by rfl) (hd : Nat.ble (d + 1) fz = true := by rfl) (hg : Gk ops σ g := by first | exact gk0 | exact gk1 rfl rfl rfl (by assumption)) :
    EvL P fz B K ops (⟨some d, .field t x f, ty, pos, af, g⟩ :: rest) σ h :=
  opp hd hg (fun a w W S hs => by
    obtain ⟨cs, h1, h2, h3⟩ : ∃ cs : Array Value, a.eval x = .agg cs ∧ VPs w W ps cs.toList ∧ ∀ u ∈ cs.toList, u.oneCell' = true := hs.eval hx
    obtain ⟨v, hv, hpv⟩ := h2.get hp
    refine ⟨v, ?_, hpv⟩
    unfold tPart at ht
    split at ht
    · rename_i fs hu
      split at ht
      · rename_i fd hfd
        split at ht
        · rename_i hoff
          split at ht
          · rename_i dd ii hud hid
            split at ht
            · cases ht
            · rename_i hna
              have hc : cs[fd.offset]? = some v := by rw [hoff]; simpa using hv
              unfold execOp
              simp only [Instr.field, h1, asAgg, Sem.run_bind, run_underlying hu, Result.andThen_ok, hfd, Sem.run_pure, part, run_isAgg hud, hna, if_false, hc]
              rfl
          · cases ht
        · cases ht
      · cases ht
    · cases ht) kk
theorem fldA {x : Operand} {f off n : Nat} {ps : List VP} (ht : tPart P t f off = some (some n)) (kk : EvL P fz B K ops rest ((d, vagg ((ps.drop off).take n)) :: σ) h) (hx : og σ x = some (vagg ps) := by rfl) (hd : Nat.ble (d + 1) fz = true := by rfl) (hg : Gk ops σ g := by first | exact gk0 | exact gk1 rfl rfl rfl (by assumption)) :
    EvL P fz B K ops (⟨some d, .field t x f, ty, pos, af, g⟩ :: rest) σ h :=
  opp hd hg (fun a w W S hs => by
    obtain ⟨cs, h1, h2, h3⟩ : ∃ cs : Array Value, a.eval x = .agg cs ∧ VPs w W ps cs.toList ∧ ∀ u ∈ cs.toList, u.oneCell' = true := hs.eval hx
    refine ⟨.agg (cs.extract off (off + n)), ?_, _, rfl, ?_, ?_⟩
    · unfold tPart at ht
      split at ht
      · rename_i fs hu
        split at ht
        · rename_i fd hfd
          split at ht
          · rename_i hoff
            split at ht
            · rename_i dd ii hud hid
              split at ht
              · rename_i hna
                simp only [Option.some.injEq] at ht
                subst hoff
                unfold execOp
                simp only [Instr.field, h1, asAgg, Sem.run_bind, run_underlying hu, Result.andThen_ok, hfd, Sem.run_pure, part, run_isAgg hud, hna, if_true, run_size hid, ht]
              · cases ht
            · cases ht
          · cases ht
        · cases ht
      · cases ht
    · have : (cs.extract off (off + n)).toList = (cs.toList.drop off).take n := by
        rw [Array.toList_extract, List.extract_eq_take_drop, Nat.add_sub_cancel_left]
      rw [this]
      exact (h2.drop off).take n
    · intro u hu
      have : (cs.extract off (off + n)).toList = (cs.toList.drop off).take n := by
        rw [Array.toList_extract, List.extract_eq_take_drop, Nat.add_sub_cancel_left]
      rw [this] at hu
      exact h3 u (List.mem_of_mem_drop (List.mem_of_mem_take hu))) kk
end
end Go.Proofs.YtagkniimpekhjaaGreat
