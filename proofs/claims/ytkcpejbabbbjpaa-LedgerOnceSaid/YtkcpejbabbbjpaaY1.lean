/- A part of the proof: contracts over a program of the model. -/
import Derived.Test.YtkcpejbabbbjpaaX11
set_option linter.unusedVariables false
set_option linter.unusedSectionVars false
set_option linter.unusedSimpArgs false
namespace Go.Proofs.Ytkcpejbabbbjpaa
open Go.RowKit

section
variable {P : Program} {fz : Nat} {B : Bs} {φ : Env} {s : XS} {a : Act} {w : World} {W : WS} {S : Nat → Prop}
theorem keep_same {x : Option AV} {r : AV × List Ent × Nat} (e : keep s x = some r) : r.2 = (s.heap, s.n) := by
  obtain ⟨av, h1, h2⟩ := bnd_some e
  injection h2 with h2
  subst h2
  rfl
theorem valE_pure {op : Op} {r : AV × List Ent × Nat} (hr : isR op = true) (h : valE P s op = some r) : r.2 = (s.heap, s.n) := by
  cases op with
  | move x => exact keep_same h
  | assign x => exact keep_same h
  | pick c x y =>
    simp only [valE] at h
    obtain ⟨_, _, h⟩ := bnd_some h
    obtain ⟨b, _, h⟩ := bnd_some h
    cases b <;> exact keep_same h
  | load t x => simp only [valE] at h; obtain ⟨_, _, h⟩ := bnd_some h; exact keep_same h
  | fieldAddr t x f => simp only [valE] at h; obtain ⟨_, _, h⟩ := bnd_some h; exact keep_same h
  | field t x f => simp only [valE] at h; obtain ⟨_, _, h⟩ := bnd_some h; obtain ⟨_, _, h⟩ := bnd_some h; exact keep_same h
  | nilCheck x => simp only [valE] at h; obtain ⟨_, _, h⟩ := bnd_some h; exact keep_same h
  | binOp op t x y t' => simp only [valE] at h; obtain ⟨_, _, h⟩ := bnd_some h; obtain ⟨_, _, h⟩ := bnd_some h; exact keep_same h
  | unOp op t x =>
    simp only [valE] at h
    split at h
    · obtain ⟨_, _, h⟩ := bnd_some h; obtain ⟨_, _, h⟩ := bnd_some h; exact keep_same h
    · obtain ⟨_, _, h⟩ := bnd_some h; obtain ⟨_, _, h⟩ := bnd_some h; exact keep_same h
    · cases h
  | convert t u x => simp only [valE] at h; obtain ⟨_, _, h⟩ := bnd_some h; exact keep_same h
  | extract x i => simp only [valE] at h; obtain ⟨_, _, h⟩ := bnd_some h; obtain ⟨_, _, h⟩ := bnd_some h; exact keep_same h
  | build t xs => simp only [valE] at h; obtain ⟨_, _, h⟩ := bnd_some h; obtain ⟨_, _, h⟩ := bnd_some h; obtain ⟨_, _, h⟩ := bnd_some h; obtain ⟨_, _, h⟩ := bnd_some h; exact keep_same h
  | indexAddr t x y => simp only [valE] at h; obtain ⟨_, _, h⟩ := bnd_some h; obtain ⟨_, _, h⟩ := bnd_some h; obtain ⟨_, _, h⟩ := bnd_some h; obtain ⟨_, _, h⟩ := bnd_some h; exact keep_same (lp1_some h).2
  | slice t x lo hi m =>
    cases m with
    | none => simp only [valE] at h; obtain ⟨_, _, h⟩ := bnd_some h; exact keep_same h
    | some m => cases h
  | makeFunc f xs ys =>
    cases f with
    | func f => simp only [valE] at h; obtain ⟨_, _, h⟩ := bnd_some h; obtain ⟨_, _, h⟩ := bnd_some h; exact keep_same h
    | _ => cases h
  | lookup t x y ok => simp only [valE] at h; obtain ⟨_, _, h⟩ := bnd_some h; obtain ⟨_, _, h⟩ := bnd_some h; obtain ⟨_, _, h⟩ := bnd_some h; obtain ⟨_, _, h⟩ := bnd_some h; exact keep_same (lp1_some h).2
  | call c =>
    cases hc : c.callee with
    | value f => simp only [valE, hc] at h; cases h
    | invoke x m => simp only [valE, hc] at h; cases h
    | builtin b =>
      cases b with
      | len =>
        simp only [valE, hc] at h
        obtain ⟨_, _, h⟩ := bnd_some h
        split at h
        · exact keep_same h
        · cases h
      | cap =>
        simp only [valE, hc] at h
        obtain ⟨_, _, h⟩ := bnd_some h
        split at h
        · obtain ⟨_, _, h⟩ := bnd_some h; exact keep_same (lp1_some h).2
        · cases h
      | max =>
        simp only [valE, hc] at h
        obtain ⟨_, _, h⟩ := bnd_some h
        split at h
        · obtain ⟨_, _, h⟩ := bnd_some h; obtain ⟨_, _, h⟩ := bnd_some h; exact keep_same h
        · cases h
      | _ => simp [isR, hc] at hr
  | _ => cases hr
theorem effE_notR {op : Op} {h' : List Ent} (hr : isR op = true) (h : effE P s op = some h') : False := by
  cases op <;> first | (cases h; done) | (cases hr; done)
theorem callOf_notR {op : Op} {x : Operand × List Operand} (hr : isR op = true) (h : callOf op = some x) : False := by
  unfold callOf at h
  split at h
  · cases hr
  · cases h
theorem opE_pure {cal : CAL} {ops : Array Oper} {o : Oper} {s' : XS} (hr : isR o.op = true) (h : opE P cal fz ops s o = some s') : s'.heap = s.heap ∧ s'.n = s.n := by
  unfold opE at h
  obtain ⟨g, hg, h⟩ := bnd_some h
  cases g with
  | false =>
    simp only [cond_false] at h
    cases hd : o.dst with
    | none => rw [hd] at h; injection h with h; subst h; exact ⟨rfl, rfl⟩
    | some d => rw [hd] at h; obtain ⟨_, h⟩ := lp1_some h; injection h with h; subst h; exact ⟨rfl, rfl⟩
  | true =>
    simp only [cond_true] at h
    cases hc : callOf o.op with
    | some fx => exact (callOf_notR hr hc).elim
    | none =>
      rw [hc] at h
      simp only at h
      cases hd : o.dst with
      | some d =>
        rw [hd] at h
        obtain ⟨_, h⟩ := lp1_some h
        obtain ⟨r, h2, h⟩ := bnd_some h
        injection h with h
        subst h
        have := valE_pure hr h2
        exact ⟨congrArg Prod.fst this, congrArg Prod.snd this⟩
      | none =>
        rw [hd] at h
        simp only at h
        cases he : effE P s o.op with
        | some h' => exact (effE_notR hr he).elim
        | none =>
          rw [he] at h
          obtain ⟨r, h2, h⟩ := bnd_some h
          injection h with h
          subst h
          have := valE_pure hr h2
          exact ⟨congrArg Prod.fst this, congrArg Prod.snd this⟩
theorem vBeq_eq {u v : Value} (h : vBeq u v = true) : u = v := by
  unfold vBeq at h
  split at h
  · rw [eq_of_beq h]
  · simp only [Bool.and_eq_true, decide_eq_true_eq] at h; rw [h.1, eq_of_beq h.2]
  · rfl
  · simp only [Bool.and_eq_true] at h; rw [Nat.eq_of_beq_eq_true h.1, Nat.eq_of_beq_eq_true h.2]
  · rfl
  · rfl
  · cases h
mutual
theorem aBeq_eq : ∀ {x y : AV}, aBeq x y = true → x = y
  | .v u, y, h => by cases y <;> simp only [aBeq] at h <;> first | (rw [vBeq_eq h]) | cases h
  | .ptr k o, y, h => by
    cases y <;> simp only [aBeq, Bool.and_eq_true] at h <;> first | (rw [Nat.eq_of_beq_eq_true h.1, Nat.eq_of_beq_eq_true h.2]) | cases h
  | .sl k p q r, y, h => by
    cases y <;> simp only [aBeq, Bool.and_eq_true] at h <;> first | (rw [Nat.eq_of_beq_eq_true h.1.1.1, Nat.eq_of_beq_eq_true h.1.1.2, Nat.eq_of_beq_eq_true h.1.2, Nat.eq_of_beq_eq_true h.2]) | cases h
  | .el k p q r, y, h => by
    cases y <;> simp only [aBeq, Bool.and_eq_true] at h <;> first | (rw [Nat.eq_of_beq_eq_true h.1.1.1, Nat.eq_of_beq_eq_true h.1.1.2, Nat.eq_of_beq_eq_true h.1.2, Nat.eq_of_beq_eq_true h.2]) | cases h
  | .mp k, y, h => by cases y <;> simp only [aBeq] at h <;> first | (rw [Nat.eq_of_beq_eq_true h]) | cases h
  | .agg l, y, h => by cases y <;> simp only [aBeq] at h <;> first | (rw [lBeq_eq h]) | cases h
  | .tup l, y, h => by cases y <;> simp only [aBeq] at h <;> first | (rw [lBeq_eq h]) | cases h
  | .fn f us ws, y, h => by
    cases y <;> simp only [aBeq, Bool.and_eq_true] at h <;> first | (rw [Nat.eq_of_beq_eq_true h.1.1, lBeq_eq h.1.2, lBeq_eq h.2]) | cases h
  | .un, y, h => by cases y <;> simp only [aBeq] at h <;> first | rfl | cases h
theorem lBeq_eq : ∀ {x y : List AV}, lBeq x y = true → x = y
  | [], y, h => by cases y <;> first | rfl | cases h
  | a :: l, y, h => by
    cases y with
    | nil => cases h
    | cons b l' =>
      simp only [lBeq, Bool.and_eq_true] at h
      rw [aBeq_eq h.1, lBeq_eq h.2]
end
theorem oBeq_eq {x y : Option AV} (h : oBeq x y = true) : x = y := by
  unfold oBeq at h
  split at h
  · rfl
  · rw [aBeq_eq h]
  · cases h
theorem has_mem {l : List Nat} {i : Nat} : has l i = true ↔ i ∈ l := by
  unfold has
  rw [List.any_eq_true]
  constructor
  · rintro ⟨x, hx, h⟩
    rw [Nat.eq_of_beq_eq_true h]
    exact hx
  · intro h
    exact ⟨i, h, by simp⟩
theorem unL_mem {j : Nat} : ∀ {ys xs : List Nat}, j ∈ unL xs ys → j ∈ xs ∨ j ∈ ys
  | [], _, h => .inl h
  | y :: ys, xs, h => by
    simp only [unL] at h
    cases hb : has xs y with
    | true =>
      rw [hb] at h
      rcases unL_mem h with h | h
      · exact .inl h
      · exact .inr (List.mem_cons_of_mem _ h)
    | false =>
      rw [hb] at h
      rcases unL_mem h with h | h
      · rcases List.mem_cons.1 h with rfl | h
        · exact .inr (List.mem_cons_self ..)
        · exact .inl h
      · exact .inr (List.mem_cons_of_mem _ h)
theorem ahGo_ok {l : List Oper} {Lst : Nat → Prop} (down : ∀ j o, Lst j → l[j]? = some o → ∀ k ∈ depsOf o, Lst k) (hin : ∀ j, Lst j → j < l.length) : ∀ {os pre : List Oper} {acc : List (List Nat)}, l = pre ++ os → acc.length = pre.length →
    (∀ (i : Nat) (js : List Nat) (o : Oper), acc[i]? = some js → l[i]? = some o → (∀ k ∈ depsOf o, Lst k) → ∀ j ∈ js, Lst j) → ∀ (i : Nat) (js : List Nat) (o : Oper), (ahGo os acc)[i]? = some js → l[i]? = some o → (∀ k ∈ depsOf o, Lst k) → ∀ j ∈ js, Lst j
  | [], pre, acc, hl, hlen, hacc => hacc
  | o :: os, pre, acc, hl, hlen, hacc => by
    simp only [ahGo]
    refine ahGo_ok (l := l) (Lst := Lst) (os := os) (pre := pre ++ [o]) down hin (by rw [hl]; simp) (by simp [hlen]) ?_
    intro i js o' hi ho' hdeps j hj
    by_cases hlt : i < acc.length
    · rw [List.getElem?_append_left hlt] at hi
      exact hacc i js o' hi ho' hdeps j hj
    · have hie : i = acc.length := by
        have := (List.getElem?_eq_some_iff.1 hi).1
        rw [List.length_append, List.length_singleton] at this
        omega
      subst hie
      rw [List.getElem?_append_right (Nat.le_refl _), Nat.sub_self] at hi
      simp only [List.getElem?_cons_zero, Option.some.injEq] at hi
      subst hi
      have key : ∀ (ds : List Nat) (st : List Nat), (∀ k ∈ ds, Lst k) → (∀ j ∈ st, Lst j) → ∀ j ∈ ds.foldl (fun s d => unL s (d :: (lget acc d).getD [])) st, Lst j := by
        intro ds
        induction ds with
        | nil => intro st _ h j hj; exact h j hj
        | cons d ds ih =>
          intro st h1 h2 j hj
          refine ih _ (fun k hk => h1 k (List.mem_cons_of_mem _ hk)) (fun j hj => ?_) j hj
          have hd := h1 d (List.mem_cons_self ..)
          rcases unL_mem hj with hj | hj
          · exact h2 j hj
          · rcases List.mem_cons.1 hj with rfl | hj
            · exact hd
            · rw [lget_eq] at hj
              cases ha : acc[d]? with
              | none => rw [ha] at hj; cases hj
              | some js =>
                rw [ha] at hj
                have hdl := hin d hd
                exact hacc d js l[d] ha (by simp [hdl]) (fun k hk => down d l[d] hd (by simp [hdl]) k hk) j hj
      have ho2 : o' = o := by
        rw [hl, hlen, List.getElem?_append_right (Nat.le_refl _), Nat.sub_self] at ho'
        simpa using ho'.symm
      subst ho2
      exact key _ _ hdeps (fun j h => by cases h) j hj
end
end Go.Proofs.Ytkcpejbabbbjpaa
