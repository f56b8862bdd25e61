/- A part of the proof: contracts over a program of the model. -/
import Derived.Test.YtkcpejbabbbjpaaX10
import Derived.Scope
set_option linter.unusedVariables false
set_option linter.unusedSectionVars false
set_option linter.unusedSimpArgs false
namespace Go.Proofs.Ytkcpejbabbbjpaa
open Go.RowKit

section
variable {P : Program} {fz : Nat} {B : Bs} {K : KP}
/-- a loop's next round -/
def Lp (P : Program) (fz : Nat) (B : Bs) (K : KP) (c : Code) (σ : Regs) (h : List HP) : Prop :=
  ∀ a w W S, St fz B.w0 B.W0 B.S0 σ h a w W S → ∀ b k cs, ∃ e a' w', QK fz B K e a' w' ∧ Arrives P (lone (b.at a (.code c :: .inLoop c :: k)) cs w) b k cs e a' w'
def Kn (P : Program) (fz : Nat) (B : Bs) (K : KP) (c : Code) : KP
  | .normal, σ, h => Lp P fz B K c σ h
  | e, σ, h => K e σ h
theorem Lp.mk {c : Code} {σ : Regs} {h : List HP} (k1 : EvC P fz B (Kn P fz B K c) c σ h) : Lp P fz B K c σ h := by
  intro a w W S hs b k cs
  obtain ⟨e, a₁, w₁, ⟨h1, h2, σ', h', W', S', hs', hk⟩, harr⟩ := k1 a w W S hs b (.inLoop c :: k) cs
  cases e with
  | normal =>
    obtain ⟨e₂, a₂, w₂, hq₂, harr₂⟩ := hk a₁ w₁ W' S' hs' b k cs
    exact ⟨e₂, a₂, w₂, hq₂, .of_steps (Steps.trans harr (.one step_inLoop)) harr₂⟩
  | exit id => exact ⟨_, a₁, w₁, ⟨h1, h2, σ', h', W', S', hs', hk⟩, .pass (x := .inLoop c) rfl (fun _ _ => .inl (by simp)) harr⟩
  | goto l => exact ⟨_, a₁, w₁, ⟨h1, h2, σ', h', W', S', hs', hk⟩, .pass (x := .inLoop c) rfl (fun _ _ => .inl (by simp)) harr⟩
  | ret => exact ⟨_, a₁, w₁, ⟨h1, h2, σ', h', W', S', hs', hk⟩, .pass (x := .inLoop c) rfl (fun _ _ => .inl (by simp)) harr⟩
  | panic ch => exact (h1 ch rfl).elim
  | outgrown => exact (h2 rfl).elim
theorem Lp.loop {c : Code} {σ : Regs} {h : List HP} (k1 : Lp P fz B K c σ h) : EvC P fz B K (.loop c) σ h := by
  intro a w W S hs b k cs
  obtain ⟨e, a', w', hq, harr⟩ := k1 a w W S hs b k cs
  exact ⟨e, a', w', hq, .of_steps (.one step_loop) harr⟩
/-- a scope, from a label on -/
def Jp (P : Program) (fz : Nat) (B : Bs) (K : KP) (c rest : Code) (σ : Regs) (h : List HP) : Prop :=
  ∀ a w W S, St fz B.w0 B.W0 B.S0 σ h a w W S → ∀ b k cs, ∃ e a' w', QK fz B K e a' w' ∧ Arrives P (lone (b.at a (.code rest :: .inScope c :: k)) cs w) b k cs e a' w'
def Kj (P : Program) (fz : Nat) (B : Bs) (K : KP) (c : Code) : KP
  | .goto l, σ, h => ∃ r, findLabel c l = some r ∧ Jp P fz B K c r σ h
  | .normal, σ, h => K .normal σ h
  | .ret, σ, h => K .ret σ h
  | _, _, _ => False
theorem Jp.mk {c rest : Code} {σ : Regs} {h : List HP} (k1 : EvC P fz B (Kj P fz B K c) rest σ h) : Jp P fz B K c rest σ h := by
  intro a w W S hs b k cs
  obtain ⟨e, a₁, w₁, ⟨h1, h2, σ', h', W', S', hs', hk⟩, harr⟩ := k1 a w W S hs b (.inScope c :: k) cs
  cases e with
  | normal => exact ⟨.normal, a₁, w₁, ⟨nofun, nofun, σ', h', W', S', hs', hk⟩, Steps.trans harr (.one step_inScope)⟩
  | exit id => exact hk.elim
  | goto l =>
    obtain ⟨r, hf, hj⟩ := hk
    have hg : gotoIn l (.inScope c :: k) = some (.code r :: .inScope c :: k) := by simp [gotoIn, hf]
    obtain ⟨e₂, a₂, w₂, hq₂, harr₂⟩ := hj a₁ w₁ W' S' hs' b k cs
    exact ⟨e₂, a₂, w₂, hq₂, .of_steps (harr _ hg) harr₂⟩
  | ret => exact ⟨_, a₁, w₁, ⟨h1, h2, σ', h', W', S', hs', hk⟩, harr⟩
  | panic ch => exact (h1 ch rfl).elim
  | outgrown => exact (h2 rfl).elim
theorem Jp.scope {c : Code} {σ : Regs} {h : List HP} (k1 : Jp P fz B K c c σ h) : EvC P fz B K (.scope c) σ h := by
  intro a w W S hs b k cs
  obtain ⟨e, a', w', hq, harr⟩ := k1 a w W S hs b k cs
  exact ⟨e, a', w', hq, .of_steps (.one step_scope) harr⟩

def Good (fz : Nat) (P : Program) (c : Code) (s : XS) (e : Exit) (s' : XS) : Prop :=
  s.n ≤ s'.n ∧ ∀ φ, Free φ s.n s'.n → ∀ B K, (∀ φ', Ext φ φ' s.n s'.n → K e (dnR φ' s'.regs) (dnH φ' s'.heap)) → EvC P fz B K c (dnR φ s.regs) (dnH φ s.heap)
def EvOk (P : Program) (ev : Nat → Code → XS → Option (Exit × XS)) : Prop := ∀ fz c s e s', ev fz c s = some (e, s') → Good fz P c s e s'
theorem loopE_ok {evb : XS → Option (Exit × XS)} {c : Code} (h0 : ∀ s e s', evb s = some (e, s') → Good fz P c s e s') : ∀ (j : Nat) (s : XS) (e : Exit) (s' : XS), loopE evb j s = some (e, s') →
    s.n ≤ s'.n ∧ ∀ φ, Free φ s.n s'.n → ∀ B K, (∀ φ', Ext φ φ' s.n s'.n → K e (dnR φ' s'.regs) (dnH φ' s'.heap)) → Lp P fz B K c (dnR φ s.regs) (dnH φ s.heap)
  | 0, s, e, s', h => by cases h
  | j + 1, s, e, s', h => by
    simp only [loopE] at h
    obtain ⟨r, h1, h2⟩ := bnd_some h
    obtain ⟨e1, s1⟩ := r
    obtain ⟨g1, g2⟩ := h0 _ _ _ h1
    cases e1 with
    | normal =>
      obtain ⟨m1, m2⟩ := loopE_ok h0 j s1 e s' h2
      exact ⟨Nat.le_trans g1 m1, fun φ hf B K k => Lp.mk (g2 φ (hf.left m1) B _ fun φ' hx => m2 φ' (hf.right g1 hx) B K fun φ'' hx' => k φ'' (hx.trans hx' g1 m1))⟩
    | exit id => injection h2 with h2; injection h2 with h3 h4; subst h3 h4; exact ⟨g1, fun φ hf B K k => Lp.mk (g2 φ hf B _ k)⟩
    | goto id => injection h2 with h2; injection h2 with h3 h4; subst h3 h4; exact ⟨g1, fun φ hf B K k => Lp.mk (g2 φ hf B _ k)⟩
    | ret => injection h2 with h2; injection h2 with h3 h4; subst h3 h4; exact ⟨g1, fun φ hf B K k => Lp.mk (g2 φ hf B _ k)⟩
    | panic c => cases h2
    | outgrown => cases h2
theorem jumpE_ok {ev : Code → XS → Option (Exit × XS)} {c : Code} (h0 : ∀ c s e s', ev c s = some (e, s') → Good fz P c s e s') : ∀ (j : Nat) (rest : Code) (s : XS) (e : Exit) (s' : XS), jumpE ev c j rest s = some (e, s') →
    s.n ≤ s'.n ∧ ∀ φ, Free φ s.n s'.n → ∀ B K, (∀ φ', Ext φ φ' s.n s'.n → K e (dnR φ' s'.regs) (dnH φ' s'.heap)) → Jp P fz B K c rest (dnR φ s.regs) (dnH φ s.heap)
  | 0, rest, s, e, s', h => by cases h
  | j + 1, rest, s, e, s', h => by
    simp only [jumpE] at h
    obtain ⟨r, h1, h2⟩ := bnd_some h
    obtain ⟨e1, s1⟩ := r
    obtain ⟨g1, g2⟩ := h0 _ _ _ _ h1
    cases e1 with
    | goto l =>
      obtain ⟨q, h3, h4⟩ := bnd_some h2
      obtain ⟨m1, m2⟩ := jumpE_ok h0 j q s1 e s' h4
      exact ⟨Nat.le_trans g1 m1, fun φ hf B K k => Jp.mk (g2 φ (hf.left m1) B _ fun φ' hx => ⟨q, h3, m2 φ' (hf.right g1 hx) B K fun φ'' hx' => k φ'' (hx.trans hx' g1 m1)⟩)⟩
    | normal => injection h2 with h2; injection h2 with h3 h4; subst h3 h4; exact ⟨g1, fun φ hf B K k => Jp.mk (g2 φ hf B _ k)⟩
    | ret => injection h2 with h2; injection h2 with h3 h4; subst h3 h4; exact ⟨g1, fun φ hf B K k => Jp.mk (g2 φ hf B _ k)⟩
    | exit id => cases h2
    | panic c => cases h2
    | outgrown => cases h2
end
end Go.Proofs.Ytkcpejbabbbjpaa
