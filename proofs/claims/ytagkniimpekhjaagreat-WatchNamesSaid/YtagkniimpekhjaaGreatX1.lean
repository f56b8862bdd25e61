/- A part of the proof: contracts over a program of the model. -/
import Derived.Test.YtagkniimpekhjaaGreatX0P
set_option linter.unusedVariables false
set_option linter.unusedSectionVars false
set_option linter.unusedSimpArgs false
namespace Go.Proofs.YtagkniimpekhjaaGreat
open Go.RowKit

/-! ### what the evaluator's values and entries mean -/
structure Loc where
  b : Nat
  o : Nat
  c : Nat
abbrev Env := Nat → Option Loc
mutual
def val (φ : Env) : AV → Option Value
  | .v u => some u
  | .ptr k o => (φ k).map fun L => .pointer (some ⟨L.b, L.o + o, none⟩)
  | .sl k sz lo hi => (φ k).map fun L => .slice (some ⟨L.b, L.o + lo * sz, none⟩) (hi - lo) (L.c - lo)
  | .el k sz i o => (φ k).map fun L => .pointer (some ⟨L.b, L.o + (i * sz + o), none⟩)
  | .mp k => (φ k).map fun L => .map (some L.b)
  | .ch k => (φ k).map fun L => .chan (some L.b)
  | .agg l => (vals φ l).map fun vs => .agg vs.toArray
  | .tup l => (vals φ l).map fun vs => .tuple vs.toArray
  | .fn f us ws => match vals φ us, vals φ ws with
    | some a, some b => some (.func (.func f) a.toArray b.toArray)
    | _, _ => none
  | .un => some undef
def vals (φ : Env) : List AV → Option (List Value)
  | [] => some []
  | a :: l => match val φ a, vals φ l with
    | some x, some xs => some (x :: xs)
    | _, _ => none
end
def Le (φ φ' : Env) : Prop := ∀ k L, φ k = some L → φ' k = some L
theorem Le.refl (φ : Env) : Le φ φ := fun _ _ h => h
theorem Le.trans {φ φ' φ'' : Env} (h : Le φ φ') (k : Le φ' φ'') : Le φ φ'' := fun a L e => k a L (h a L e)
mutual
theorem val_le {φ φ' : Env} (h : Le φ φ') : ∀ {a : AV} {u : Value}, val φ a = some u → val φ' a = some u
  | .v u, w, e => e
  | .ptr k o, w, e => by
    simp only [val, Option.map_eq_some_iff] at e ⊢
    obtain ⟨L, h1, h2⟩ := e
    exact ⟨L, h k L h1, h2⟩
  | .sl k sz lo hi, w, e => by
    simp only [val, Option.map_eq_some_iff] at e ⊢
    obtain ⟨L, h1, h2⟩ := e
    exact ⟨L, h k L h1, h2⟩
  | .el k sz i o, w, e => by
    simp only [val, Option.map_eq_some_iff] at e ⊢
    obtain ⟨L, h1, h2⟩ := e
    exact ⟨L, h k L h1, h2⟩
  | .mp k, w, e => by
    simp only [val, Option.map_eq_some_iff] at e ⊢
    obtain ⟨L, h1, h2⟩ := e
    exact ⟨L, h k L h1, h2⟩
  | .ch k, w, e => by
    simp only [val, Option.map_eq_some_iff] at e ⊢
    obtain ⟨L, h1, h2⟩ := e
    exact ⟨L, h k L h1, h2⟩
  | .agg l, w, e => by
    simp only [val, Option.map_eq_some_iff] at e ⊢
    obtain ⟨L, h1, h2⟩ := e
    exact ⟨L, vals_le h h1, h2⟩
  | .tup l, w, e => by
    simp only [val, Option.map_eq_some_iff] at e ⊢
    obtain ⟨L, h1, h2⟩ := e
    exact ⟨L, vals_le h h1, h2⟩
  | .fn f us ws, w, e => by
    simp only [val] at e ⊢
    cases h1 : vals φ us with
    | none => rw [h1] at e; cases e
    | some a =>
      cases h2 : vals φ ws with
      | none => rw [h1, h2] at e; cases e
      | some b =>
        rw [h1, h2] at e
        rw [vals_le h h1, vals_le h h2]
        exact e
  | .un, w, e => e
theorem vals_le {φ φ' : Env} (h : Le φ φ') : ∀ {a : List AV} {u : List Value}, vals φ a = some u → vals φ' a = some u
  | [], u, e => e
  | a :: l, u, e => by
    simp only [vals] at e ⊢
    cases h1 : val φ a with
    | none => rw [h1] at e; cases e
    | some x =>
      cases h2 : vals φ l with
      | none => rw [h1, h2] at e; cases e
      | some xs =>
        rw [h1, h2] at e
        rw [val_le h h1, vals_le h h2]
        exact e
end
def vbot : VP := ⟨fun _ _ _ => False, fun _ h => h⟩
def dn (φ : Env) (a : AV) : VP := match val φ a with
  | some u => vis u
  | none => vbot
theorem dn_p {φ : Env} {a : AV} {w : World} {W : WS} {v : Value} : (dn φ a).p w W v ↔ val φ a = some v := by
  unfold dn
  cases h : val φ a with
  | none => exact ⟨fun h => h.elim, nofun⟩
  | some u => exact ⟨fun h => by rw [show v = u from h], fun h => by injection h with h; exact h.symm⟩
def VLe (p q : VP) : Prop := ∀ w W v, p.p w W v → q.p w W v
theorem dn_le {φ φ' : Env} (h : Le φ φ') (a : AV) : VLe (dn φ a) (dn φ' a) := fun w W v e => dn_p.2 (val_le h (dn_p.1 e))
theorem vals_vps {φ : Env} {w : World} {W : WS} : ∀ {l : List AV} {vs : List Value}, VPs w W (l.map (dn φ)) vs ↔ vals φ l = some vs
  | [], [] => ⟨fun _ => rfl, fun _ => trivial⟩
  | [], v :: vs => ⟨fun h => h.elim, fun h => by simp [vals] at h⟩
  | a :: l, [] => ⟨fun h => h.elim, fun h => by
      simp only [vals] at h
      cases h1 : val φ a with
      | none => rw [h1] at h; cases h
      | some x =>
        cases h2 : vals φ l with
        | none => rw [h1, h2] at h; cases h
        | some xs => rw [h1, h2] at h; simp at h⟩
  | a :: l, v :: vs => by
    show ((dn φ a).p w W v ∧ VPs w W (l.map (dn φ)) vs) ↔ _
    rw [dn_p, vals_vps (l := l) (vs := vs)]
    simp only [vals]
    constructor
    · rintro ⟨h1, h2⟩
      rw [h1, h2]
    · intro h
      cases h1 : val φ a with
      | none => rw [h1] at h; cases h
      | some x =>
        cases h2 : vals φ l with
        | none => rw [h1, h2] at h; cases h
        | some xs =>
          rw [h1, h2] at h
          simp only [Option.some.injEq, List.cons.injEq] at h
          exact ⟨by rw [h.1], by rw [h.2]⟩
def hbot : HP := ⟨fun _ _ _ => False, fun _ _ h => h, fun h => h.elim⟩
def hemp : HP := ⟨fun _ _ S => ∀ b, ¬ S b, fun _ _ h => h, fun h b hb => (h b hb).elim⟩
/-- a channel in which nothing is -/
def hchan (b : Nat) : HP where
  p := fun w W S => (∃ c, w.heap[b]? = some (.chan c #[] false 0 0 false)) ∧ ∀ x, S x ↔ x = b
  st := by
    rintro w W w' W' S he hk ⟨⟨c, h1⟩, hS⟩
    exact ⟨⟨c, by rw [hk b ((hS b).2 rfl)]; exact h1⟩, hS⟩
  lt := by
    rintro w W S ⟨⟨c, h1⟩, hS⟩ x hx
    have := (hS x).1 hx
    subst this
    exact (Array.getElem?_eq_some_iff.1 h1).1
def enc (φ : Env) (q : List AV) : List VP := q.map (dn φ)
def dnE (φ : Env) : Ent → HP
  | .cells k e cs => match φ k with
    | some L => bif Nat.beq L.o 0 then hvar L.b e (enc φ cs) else hbot
    | none => hbot
  | .row k e sz l => match φ k with
    | some L => hrow (.slice (some ⟨L.b, L.o, none⟩) l.length L.c) e sz (enc φ) l
    | none => hbot
  | .map k _ _ m => match φ k with
    | some L => hmap L.b eI (dn φ) m
    | none => hbot
  | .mapT k _ _ m => match φ k with
    | some L => hmap L.b eTri (dn φ) m
    | none => hbot
  | .chan k => match φ k with
    | some L => hchan L.b
    | none => hbot
  | .dead => hemp
def dnR (φ : Env) (σ : RG) : Regs := σ.map fun x => (x.1, dn φ x.2)
def dnH (φ : Env) (h : List Ent) : List HP := h.map (dnE φ)
def HLe (p q : HP) : Prop := ∀ w W S, p.p w W S → q.p w W S
theorem VPs_le {w : World} {W : WS} {φ φ' : Env} (h : Le φ φ') {l : List AV} {vs : List Value} (e : VPs w W (enc φ l) vs) : VPs w W (enc φ' l) vs := vals_vps.2 (vals_le h (vals_vps.1 e))
theorem EntOk_le {κ : Type} {eK : κ → Value} {w : World} {W : WS} {φ φ' : Env} (h : Le φ φ') : ∀ {es : List MapEntry} {m : List (κ × AV)}, EntOk w W eK (dn φ) es m → EntOk w W eK (dn φ') es m
  | [], [], _ => trivial
  | _ :: _, (_, _) :: _, ⟨h1, h2, h3⟩ => ⟨h1, dn_le h _ _ _ _ h2, EntOk_le h h3⟩
  | [], _ :: _, e => e.elim
  | _ :: _, [], e => e.elim
theorem dnE_le {φ φ' : Env} (h : Le φ φ') (x : Ent) : HLe (dnE φ x) (dnE φ' x) := by
  intro w W S e
  cases x with
  | cells k t cs =>
    simp only [dnE] at e ⊢
    cases hk : φ k with
    | none => rw [hk] at e; exact e.elim
    | some L =>
      rw [hk] at e
      rw [h k L hk]
      simp only at e ⊢
      cases hb : Nat.beq L.o 0 with
      | false => rw [hb] at e; exact e.elim
      | true =>
        rw [hb] at e
        obtain ⟨⟨c, h1, h2, h3⟩, h4⟩ := e
        exact ⟨⟨c, h1, VPs_le h h2, h3⟩, h4⟩
  | row k t sz l =>
    simp only [dnE] at e ⊢
    cases hk : φ k with
    | none => rw [hk] at e; exact e.elim
    | some L =>
      rw [hk] at e
      rw [h k L hk]
      rcases e with e | ⟨g, o, c, cs, h1, h2, h3, h4, h5, h6, h7, h8⟩
      · exact .inl e
      · exact .inr ⟨g, o, c, cs, h1, h2, h3, h4, h5, h6, fun i hi => ⟨by have := (h7 i hi).1; simp only [enc, List.length_map] at this ⊢; exact this, VPs_le h (h7 i hi).2⟩, h8⟩
  | map k kt vt m =>
    simp only [dnE] at e ⊢
    cases hk : φ k with
    | none => rw [hk] at e; exact e.elim
    | some L =>
      rw [hk] at e
      rw [h k L hk]
      obtain ⟨⟨es, c, h1, h2, h3⟩, h4⟩ := e
      exact ⟨⟨es, c, h1, EntOk_le h h2, h3⟩, h4⟩
  | mapT k kt vt m =>
    simp only [dnE] at e ⊢
    cases hk : φ k with
    | none => rw [hk] at e; exact e.elim
    | some L =>
      rw [hk] at e
      rw [h k L hk]
      obtain ⟨⟨es, c, h1, h2, h3⟩, h4⟩ := e
      exact ⟨⟨es, c, h1, EntOk_le h h2, h3⟩, h4⟩
  | chan k =>
    simp only [dnE] at e ⊢
    cases hk : φ k with
    | none => rw [hk] at e; exact e.elim
    | some L =>
      rw [hk] at e
      rw [h k L hk]
      exact e
  | dead => exact e
theorem Sat_le {w : World} {W : WS} {φ φ' : Env} (h : Le φ φ') : ∀ {l : List Ent} {S : Nat → Prop}, Sat w W (dnH φ l) S → Sat w W (dnH φ' l) S
  | [], _, e => e
  | x :: l, _, ⟨S1, S2, h1, h2, h3, h4⟩ => ⟨S1, S2, dnE_le h x _ _ _ h1, Sat_le h h2, h3, h4⟩
theorem rg_dnR {φ : Env} : ∀ {σ : RG} {d : Nat}, rg (dnR φ σ) d = (gR σ d).map (dn φ)
  | [], _ => rfl
  | (e, a) :: σ, d => by
    show (bif Nat.beq e d then some (dn φ a) else rg (dnR φ σ) d) = _
    simp only [gR]
    cases Nat.beq e d with
    | true => rfl
    | false => exact rg_dnR
theorem gR_pR {d : Nat} {a : AV} : ∀ {σ : RG} {k : Nat}, gR (pR d a σ) k = bif Nat.beq d k then some a else gR σ k
  | [], k => rfl
  | (e, b) :: σ, k => by
    simp only [pR]
    cases he : Nat.beq e d with
    | true =>
      have := Nat.eq_of_beq_eq_true he
      subst this
      simp only [cond_true, gR]
      cases Nat.beq e k <;> rfl
    | false =>
      simp only [cond_false, gR]
      rw [gR_pR]
      cases hk : Nat.beq e k with
      | false => rfl
      | true =>
        have := Nat.eq_of_beq_eq_true hk
        subst this
        have : Nat.beq d e = false := by
          rw [← Bool.not_eq_true]
          intro h
          have := Nat.eq_of_beq_eq_true h
          subst this
          rw [show Nat.beq d d = true by simp] at he
          cases he
        rw [this]; rfl
/-- a change of the environment, between two counts -/
structure Ext (φ φ' : Env) (n n' : Nat) : Prop where
  le : Le φ φ'
  out : ∀ k, k < n ∨ n' ≤ k → φ' k = φ k
def Free (φ : Env) (n n' : Nat) : Prop := ∀ k, n ≤ k → k < n' → φ k = none
theorem Ext.refl (φ : Env) (n n' : Nat) : Ext φ φ n n' := ⟨Le.refl φ, fun _ _ => rfl⟩
theorem Ext.trans {φ φ' φ'' : Env} {n n' n'' : Nat} (h : Ext φ φ' n n') (k : Ext φ' φ'' n' n'') (h1 : n ≤ n') (h2 : n' ≤ n'') : Ext φ φ'' n n'' :=
  ⟨h.le.trans k.le, fun i hi => by rw [k.out i (by omega), h.out i (by omega)]⟩
theorem Free.left {φ : Env} {n n' n'' : Nat} (h : Free φ n n'') (h2 : n' ≤ n'') : Free φ n n' := fun k h1 h3 => h k h1 (by omega)
theorem Free.right {φ φ' : Env} {n n' n'' : Nat} (h : Free φ n n'') (h1 : n ≤ n') (e : Ext φ φ' n n') : Free φ' n' n'' := fun k h2 h3 => by
  rw [e.out k (.inr h2)]
  exact h k (by omega) h3
def setE (φ : Env) (n : Nat) (L : Loc) : Env := fun k => bif Nat.beq k n then some L else φ k
theorem setE_at (φ : Env) (n : Nat) (L : Loc) : setE φ n L n = some L := by simp [setE]
theorem setE_ext {φ : Env} {n : Nat} (L : Loc) (h : Free φ n (n + 1)) : Ext φ (setE φ n L) n (n + 1) := by
  refine ⟨fun k L' hk => ?_, fun k hk => ?_⟩
  · unfold setE
    cases hb : Nat.beq k n with
    | false => exact hk
    | true =>
      have := Nat.eq_of_beq_eq_true hb
      subst this
      rw [h k (Nat.le_refl _) (Nat.lt_succ_self _)] at hk
      cases hk
  · unfold setE
    have : Nat.beq k n = false := by
      rw [← Bool.not_eq_true]
      intro h
      have := Nat.eq_of_beq_eq_true h
      omega
    rw [this]; rfl

section
variable {P : Program} {fz : Nat} {B : Bs} {K : KP} {ops : Array Oper} {rest : List Oper}
/-- a state of the machine that the evaluator's state tells -/
abbrev Tel (fz : Nat) (B : Bs) (φ : Env) (s : XS) (a : Act) (w : World) (W : WS) (S : Nat → Prop) : Prop := St fz B.dfr B.w0 B.W0 B.S0 (dnR φ s.regs) (dnH φ s.heap) a w W S
theorem oE_val {φ : Env} {s : XS} {a : Act} {w : World} {W : WS} {S : Nat → Prop} (hs : Tel fz B φ s a w W S) {x : Operand} {av : AV} (hx : oE s.regs x = some av) : val φ av = some (a.eval x) := by
  cases x with
  | tmp t =>
    have h1 : rg (dnR φ s.regs) t = some (dn φ av) := by rw [rg_dnR, show gR s.regs t = some av from hx]; rfl
    exact dn_p.1 (hs.eval (x := .tmp t) h1)
  | const v => injection hx with hx; subst hx; rfl
  | global g => cases hx
  | func f => injection hx with hx; subst hx; rfl
theorem oEs_val {φ : Env} {s : XS} {a : Act} {w : World} {W : WS} {S : Nat → Prop} (hs : Tel fz B φ s a w W S) : ∀ {xs : List Operand} {l : List AV}, oEs s.regs xs = some l → vals φ l = some (xs.map a.eval)
  | [], l, h => by injection h with h; subst h; rfl
  | x :: xs, l, h => by
    simp only [oEs] at h
    cases h1 : oE s.regs x with
    | none => rw [h1] at h; cases h
    | some av =>
      cases h2 : oEs s.regs xs with
      | none => rw [h1, h2] at h; cases h
      | some l' =>
        rw [h1, h2] at h
        injection h with h
        subst h
        simp only [vals, oE_val hs h1, oEs_val hs h2, List.map_cons]
theorem EvL.le {l : List Oper} {σ σ' : Regs} {h h' : List HP} (k : EvL P fz B K ops l σ' h') (hσ : ∀ d p', rg σ' d = some p' → ∃ p, rg σ d = some p ∧ VLe p p') (hh : ∀ w W S, Sat w W h S → Sat w W h' S) : EvL P fz B K ops l σ h :=
  fun a w W S hs => k a w W S ⟨hs.tmps, hs.defers, fun d p' hd => by
    obtain ⟨p, h1, h2⟩ := hσ d p' hd
    obtain ⟨v, hv, hp⟩ := hs.regs d p h1
    exact ⟨v, hv, h2 _ _ _ hp⟩, hh _ _ _ hs.sat, hs.run⟩
theorem EvC.le {c : Code} {σ σ' : Regs} {h h' : List HP} (k : EvC P fz B K c σ' h') (hσ : ∀ d p', rg σ' d = some p' → ∃ p, rg σ d = some p ∧ VLe p p') (hh : ∀ w W S, Sat w W h S → Sat w W h' S) : EvC P fz B K c σ h :=
  fun a w W S hs => k a w W S ⟨hs.tmps, hs.defers, fun d p' hd => by
    obtain ⟨p, h1, h2⟩ := hσ d p' hd
    obtain ⟨v, hv, hp⟩ := hs.regs d p h1
    exact ⟨v, hv, h2 _ _ _ hp⟩, hh _ _ _ hs.sat, hs.run⟩
theorem Tel.put {φ φ' : Env} {s : XS} {a : Act} {w w' : World} {W W' : WS} {S S' : Nat → Prop} {h' : List Ent} {d : Nat} {av : AV} {u : Value} {n' : Nat} (hs : Tel fz B φ s a w W S) (hd : Nat.ble (d + 1) fz = true) (hle : Le φ φ') (hu : val φ' av = some u) (hsat : Sat w' W' (dnH φ' h') S') (hr : Run w W S w' W' S') :
    Tel fz B φ' ⟨pR d av s.regs, h', n'⟩ (a.put (some d) u) w' W' S' := by
  have h1 := hs.step (p := dn φ' av) hd (dn_p.2 hu) hsat hr
  refine ⟨h1.tmps, h1.defers, fun k p hk => ?_, h1.sat, h1.run⟩
  rw [rg_dnR, gR_pR] at hk
  cases hb : Nat.beq d k with
  | true =>
    rw [hb] at hk
    exact h1.regs k p (by simp only [rg, hb, cond_true]; exact hk)
  | false =>
    rw [hb] at hk
    simp only [cond_false, Option.map_eq_some_iff] at hk
    obtain ⟨a', ha, rfl⟩ := hk
    obtain ⟨v, hv, hp⟩ := h1.regs k (dn φ a') (by simp only [rg, hb, cond_false]; rw [rg_dnR, ha]; rfl)
    exact ⟨v, hv, dn_le hle _ _ _ _ hp⟩
end
end Go.Proofs.YtagkniimpekhjaaGreat
