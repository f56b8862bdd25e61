/- A part of the proof: contracts over a program of the model. -/
import Derived.Below
import Derived.TacticsIn
import Derived.OrdersIn
import Derived.WalkKit
import Derived.KernelRfl
import Derived.Tactics
set_option linter.unusedVariables false
namespace Go.Proofs.YtagkniimpekhjaaGreat

/-! ### worlds, writable blocks -/
abbrev WS := Nat → Prop

structure Evo (w : World) (W : WS) (w' : World) (W' : WS) : Prop where
  size : w.heap.size ≤ w'.heap.size
  keep : ∀ b, b < w.heap.size → ¬ W b → w'.heap[b]? = w.heap[b]?
  own : ∀ b, b < w.heap.size → W' b → W b

theorem Evo.refl (w : World) (W : WS) : Evo w W w W := ⟨Nat.le_refl _, fun _ _ _ => rfl, fun _ _ h => h⟩
theorem Evo.trans {w w1 w2 : World} {W W1 W2 : WS} (h : Evo w W w1 W1) (k : Evo w1 W1 w2 W2) : Evo w W w2 W2 :=
  ⟨Nat.le_trans h.size k.size, fun b hb hn => (k.keep b (Nat.lt_of_lt_of_le hb h.size) (fun h1 => hn (h.own b hb h1))).trans (h.keep b hb hn), fun b hb h2 => h.own b hb (k.own b (Nat.lt_of_lt_of_le hb h.size) h2)⟩

/-- What is known of a value. -/
structure VP where
  p : World → WS → Value → Prop
  st : ∀ {w W w' W' v}, Evo w W w' W' → p w W v → p w' W' v

/-- What is known of some blocks that are owned. -/
structure HP where
  p : World → WS → (Nat → Prop) → Prop
  st : ∀ {w W w' W' S}, Evo w W w' W' → (∀ b, S b → w'.heap[b]? = w.heap[b]?) → p w W S → p w' W' S
  lt : ∀ {w W S}, p w W S → ∀ b, S b → b < w.heap.size

def Sat (w : World) (W : WS) : List HP → (Nat → Prop) → Prop
  | [], S => ∀ b, ¬ S b
  | h :: hs, S => ∃ S1 S2, h.p w W S1 ∧ Sat w W hs S2 ∧ (∀ b, S1 b → ¬ S2 b) ∧ ∀ b, S b ↔ (S1 b ∨ S2 b)

theorem Sat.st {w w' : World} {W W' : WS} (he : Evo w W w' W') : ∀ {hs : List HP} {S}, (∀ b, S b → w'.heap[b]? = w.heap[b]?) → Sat w W hs S → Sat w' W' hs S
  | [], _, _, h => h
  | _ :: _, _, hk, ⟨S1, S2, h1, h2, hd, hS⟩ => ⟨S1, S2, HP.st _ he (fun b hb => hk b ((hS b).2 (.inl hb))) h1, Sat.st he (fun b hb => hk b ((hS b).2 (.inr hb))) h2, hd, hS⟩
theorem Sat.lt {w : World} {W : WS} : ∀ {hs : List HP} {S}, Sat w W hs S → ∀ b, S b → b < w.heap.size
  | [], _, h, b, hb => (h b hb).elim
  | _ :: _, _, ⟨_, _, h1, h2, _, hS⟩, b, hb => by
    rcases (hS b).1 hb with h | h
    · exact HP.lt _ h1 b h
    · exact Sat.lt h2 b h
theorem Sat.congr {w : World} {W : WS} {hs : List HP} {S S' : Nat → Prop} (h : Sat w W hs S) (e : ∀ b, S b ↔ S' b) : Sat w W hs S' := by
  have : S = S' := funext fun b => propext (e b)
  rwa [← this]
theorem Sat.split {w : World} {W : WS} : ∀ {a b : List HP} {S}, Sat w W (a ++ b) S → ∃ S1 S2, Sat w W a S1 ∧ Sat w W b S2 ∧ (∀ x, S1 x → ¬ S2 x) ∧ ∀ x, S x ↔ (S1 x ∨ S2 x)
  | [], b, S, h => ⟨fun _ => False, S, fun _ h => h, h, fun _ h => h.elim, fun x => by simp⟩
  | h :: a, b, S, ⟨S1, S2, h1, h2, hd, hS⟩ => by
    obtain ⟨T1, T2, g1, g2, gd, gS⟩ := Sat.split h2
    refine ⟨fun x => S1 x ∨ T1 x, T2, ⟨S1, T1, h1, g1, fun x hx ht => hd x hx ((gS x).2 (.inl ht)), fun _ => Iff.rfl⟩, g2, ?_, ?_⟩
    · rintro x (hx | hx) ht
      · exact hd x hx ((gS x).2 (.inr ht))
      · exact gd x hx ht
    · intro x
      rw [hS x, gS x, or_assoc]
theorem Sat.join {w : World} {W : WS} : ∀ {a b : List HP} {S1 S2 : Nat → Prop}, Sat w W a S1 → Sat w W b S2 → (∀ x, S1 x → ¬ S2 x) → Sat w W (a ++ b) (fun x => S1 x ∨ S2 x)
  | [], b, S1, S2, ha, hb, _ => hb.congr fun x => by simp [ha x]
  | h :: a, b, S1, S2, ⟨T1, T2, h1, h2, hd, hS⟩, hb, hdd => by
    refine ⟨T1, fun x => T2 x ∨ S2 x, h1, Sat.join h2 hb (fun x hx => hdd x ((hS x).2 (.inr hx))), ?_, ?_⟩
    · rintro x hx (ht | ht)
      · exact hd x hx ht
      · exact hdd x ((hS x).2 (.inl hx)) ht
    · intro x
      show S1 x ∨ S2 x ↔ _
      rw [hS x, or_assoc]
/-- entry j taken out -/
theorem Sat.pick {w : World} {W : WS} : ∀ {hs : List HP} {j : Nat} {x : HP} {S}, hs[j]? = some x → Sat w W hs S → ∃ S1 S2, x.p w W S1 ∧ Sat w W (hs.eraseIdx j) S2 ∧ (∀ b, S1 b → ¬ S2 b) ∧ ∀ b, S b ↔ (S1 b ∨ S2 b)
  | [], j, x, S, hj, _ => by simp at hj
  | h :: hs, 0, x, S, hj, ⟨S1, S2, h1, h2, hd, hS⟩ => by
    simp only [List.getElem?_cons_zero, Option.some.injEq] at hj
    subst hj
    exact ⟨S1, S2, h1, h2, hd, hS⟩
  | h :: hs, j + 1, x, S, hj, ⟨S1, S2, h1, h2, hd, hS⟩ => by
    simp only [List.getElem?_cons_succ] at hj
    obtain ⟨T1, T2, g1, g2, gd, gS⟩ := Sat.pick hj h2
    refine ⟨T1, fun b => S1 b ∨ T2 b, g1, ⟨S1, T2, h1, g2, fun b hb ht => hd b hb ((gS b).2 (.inr ht)), fun _ => Iff.rfl⟩, ?_, ?_⟩
    · rintro b hb (h | h)
      · exact hd b h ((gS b).2 (.inl hb))
      · exact gd b hb h
    · intro b
      rw [hS b, gS b]
      constructor
      · rintro (h | h | h) <;> simp [h]
      · rintro (h | h | h) <;> simp [h]
/-- entry j put back as another -/
theorem Sat.put {w : World} {W : WS} : ∀ {hs : List HP} {j : Nat} {x y : HP} {S1 S2 : Nat → Prop}, hs[j]? = some x → y.p w W S1 → Sat w W (hs.eraseIdx j) S2 → (∀ b, S1 b → ¬ S2 b) → Sat w W (hs.set j y) (fun b => S1 b ∨ S2 b)
  | [], j, x, y, _, _, hj, _, _, _ => by simp at hj
  | h :: hs, 0, x, y, S1, S2, hj, h1, h2, hd => ⟨S1, S2, h1, h2, hd, fun _ => Iff.rfl⟩
  | h :: hs, j + 1, x, y, S1, S2, hj, h1, ⟨T1, T2, g1, g2, gd, gS⟩, hd => by
    simp only [List.getElem?_cons_succ] at hj
    refine ⟨T1, fun b => S1 b ∨ T2 b, g1, Sat.put hj h1 g2 (fun b hb ht => hd b hb ((gS b).2 (.inr ht))), ?_, ?_⟩
    · rintro b hb (h | h)
      · exact hd b h ((gS b).2 (.inl hb))
      · exact gd b hb h
    · intro b
      show S1 b ∨ S2 b ↔ _
      rw [gS b]
      constructor
      · rintro (h | h | h) <;> simp [h]
      · rintro (h | h | h) <;> simp [h]

/-- The step from (w0, W0, S0), owned blocks S0, to (w, W, S). -/
structure Run (w0 : World) (W0 : WS) (S0 : Nat → Prop) (w : World) (W : WS) (S : Nat → Prop) : Prop where
  os : w.os = w0.os
  tape : w.tape = w0.tape
  output : w.output = w0.output
  size : w0.heap.size ≤ w.heap.size
  keep : ∀ b, b < w0.heap.size → ¬ S0 b → w.heap[b]? = w0.heap[b]?
  frame : ∀ b, b < w0.heap.size → ¬ S0 b → (W b ↔ W0 b)
  own : ∀ b, b < w0.heap.size → W b → W0 b
  foot : ∀ b, S b → S0 b ∨ w0.heap.size ≤ b
  sub : ∀ b, S b → W b
  bound : ∀ b, W b → b < w.heap.size

theorem Run.evo {w0 w : World} {W0 W : WS} {S0 S : Nat → Prop} (h : Run w0 W0 S0 w W S) (hs : ∀ b, S0 b → W0 b) : Evo w0 W0 w W :=
  ⟨h.size, fun b hb hn => h.keep b hb (fun hS => hn (hs b hS)), h.own⟩
theorem Run.trans {w0 w1 w2 : World} {W0 W1 W2 : WS} {S0 S1 S2 : Nat → Prop} (h : Run w0 W0 S0 w1 W1 S1) (k : Run w1 W1 S1 w2 W2 S2) : Run w0 W0 S0 w2 W2 S2 := by
  have hn : ∀ b, b < w0.heap.size → ¬ S0 b → ¬ S1 b := fun b hb hS h1 => by
    rcases h.foot b h1 with h2 | h2
    · exact hS h2
    · omega
  refine ⟨k.os.trans h.os, k.tape.trans h.tape, k.output.trans h.output, Nat.le_trans h.size k.size, fun b hb hS => ?_, fun b hb hS => ?_, fun b hb h2 => ?_, fun b h2 => ?_, k.sub, k.bound⟩
  · exact (k.keep b (Nat.lt_of_lt_of_le hb h.size) (hn b hb hS)).trans (h.keep b hb hS)
  · exact (k.frame b (Nat.lt_of_lt_of_le hb h.size) (hn b hb hS)).trans (h.frame b hb hS)
  · exact h.own b hb (k.own b (Nat.lt_of_lt_of_le hb h.size) h2)
  · rcases k.foot b h2 with h3 | h3
    · exact h.foot b h3
    · have := h.size
      exact .inr (by omega)
/-- A callee that owns Sc of S, the rest T staying as it is. -/
theorem Run.framed {w w' : World} {W W' : WS} {Sc T S Sc' : Nat → Prop} (h : Run w W Sc w' W' Sc') (hb : ∀ b, T b → b < w.heap.size) (hd : ∀ b, Sc b → ¬ T b) (hS : ∀ b, S b ↔ (Sc b ∨ T b)) (hsub : ∀ b, S b → W b) :
    Run w W S w' W' (fun b => Sc' b ∨ T b) ∧ (∀ b, Sc' b → ¬ T b) := by
  have hT : ∀ b, T b → ¬ Sc b := fun b ht hc => hd b hc ht
  refine ⟨⟨h.os, h.tape, h.output, h.size, fun b hl hn => h.keep b hl (fun hc => hn ((hS b).2 (.inl hc))), fun b hl hn => h.frame b hl (fun hc => hn ((hS b).2 (.inl hc))), h.own, ?_, ?_, h.bound⟩, ?_⟩
  · rintro b (hc | ht)
    · rcases h.foot b hc with h1 | h1
      · exact .inl ((hS b).2 (.inl h1))
      · exact .inr h1
    · exact .inl ((hS b).2 (.inr ht))
  · rintro b (hc | ht)
    · exact h.sub b hc
    · exact (h.frame b (hb b ht) (hT b ht)).2 (hsub b ((hS b).2 (.inr ht)))
  · intro b hc ht
    rcases h.foot b hc with h1 | h1
    · exact hd b h1 ht
    · have := hb b ht
      omega
theorem Run.less {w0 w : World} {W0 W : WS} {S0 S S' : Nat → Prop} (h : Run w0 W0 S0 w W S) (hs : ∀ b, S' b → S b) : Run w0 W0 S0 w W S' :=
  ⟨h.os, h.tape, h.output, h.size, h.keep, h.frame, h.own, fun b hb => h.foot b (hs b hb), fun b hb => h.sub b (hs b hb), h.bound⟩
theorem Run.refl {w : World} {W : WS} {S : Nat → Prop} (hs : ∀ b, S b → W b) (hb : ∀ b, W b → b < w.heap.size) : Run w W S w W S :=
  ⟨rfl, rfl, rfl, Nat.le_refl _, fun _ _ _ => rfl, fun _ _ _ => Iff.rfl, fun _ _ h => h, fun _ h => .inl h, hs, hb⟩

def VPs (w : World) (W : WS) : List VP → List Value → Prop
  | [], [] => True
  | p :: ps, v :: vs => p.p w W v ∧ VPs w W ps vs
  | _, _ => False
theorem VPs.st {w w' : World} {W W' : WS} (he : Evo w W w' W') : ∀ {ps : List VP} {vs : List Value}, VPs w W ps vs → VPs w' W' ps vs
  | [], [], _ => trivial
  | _ :: _, _ :: _, ⟨h1, h2⟩ => ⟨VP.st _ he h1, VPs.st he h2⟩
  | [], _ :: _, h => h.elim
  | _ :: _, [], h => h.elim
theorem VPs.length {w : World} {W : WS} : ∀ {ps : List VP} {vs : List Value}, VPs w W ps vs → vs.length = ps.length
  | [], [], _ => rfl
  | _ :: _, _ :: _, ⟨_, h2⟩ => congrArg (· + 1) (VPs.length h2)
  | [], _ :: _, h => h.elim
  | _ :: _, [], h => h.elim
theorem VPs.get {w : World} {W : WS} : ∀ {ps : List VP} {vs : List Value} {i : Nat} {p : VP}, VPs w W ps vs → ps[i]? = some p → ∃ v, vs[i]? = some v ∧ p.p w W v
  | p :: _, v :: _, 0, q, ⟨h1, _⟩, h => by
    simp only [List.getElem?_cons_zero, Option.some.injEq] at h
    subst h
    exact ⟨v, rfl, h1⟩
  | _ :: ps, _ :: vs, i + 1, q, ⟨_, h2⟩, h => by
    simp only [List.getElem?_cons_succ] at h ⊢
    exact VPs.get h2 h
  | [], [], _, _, _, h => by simp at h
  | [], _ :: _, _, _, h, _ => h.elim
  | _ :: _, [], _, _, h, _ => h.elim
theorem VPs.set {w : World} {W : WS} : ∀ {ps : List VP} {vs : List Value} {i : Nat} {p : VP} {v : Value}, VPs w W ps vs → p.p w W v → VPs w W (ps.set i p) (vs.set i v)
  | _ :: _, _ :: _, 0, _, _, ⟨_, h2⟩, h => ⟨h, h2⟩
  | _ :: _, _ :: _, _ + 1, _, _, ⟨h1, h2⟩, h => ⟨h1, VPs.set h2 h⟩
  | [], [], _, _, _, _, _ => trivial
  | [], _ :: _, _, _, _, h, _ => h.elim
  | _ :: _, [], _, _, _, h, _ => h.elim
theorem VPs.append {w : World} {W : WS} : ∀ {ps qs : List VP} {vs us : List Value}, VPs w W ps vs → VPs w W qs us → VPs w W (ps ++ qs) (vs ++ us)
  | [], _, [], _, _, k => k
  | _ :: _, _, _ :: _, _, ⟨h1, h2⟩, k => ⟨h1, VPs.append h2 k⟩
  | [], _, _ :: _, _, h, _ => h.elim
  | _ :: _, _, [], _, h, _ => h.elim
theorem VPs.drop {w : World} {W : WS} : ∀ {ps : List VP} {vs : List Value} (i : Nat), VPs w W ps vs → VPs w W (ps.drop i) (vs.drop i)
  | _, _, 0, h => h
  | [], [], _ + 1, _ => trivial
  | _ :: _, _ :: _, i + 1, ⟨_, h2⟩ => VPs.drop i h2
  | [], _ :: _, _, h => h.elim
  | _ :: _, [], _, h => h.elim
theorem VPs.take {w : World} {W : WS} : ∀ {ps : List VP} {vs : List Value} (i : Nat), VPs w W ps vs → VPs w W (ps.take i) (vs.take i)
  | _, _, 0, _ => trivial
  | [], [], _ + 1, _ => trivial
  | _ :: _, _ :: _, i + 1, ⟨h1, h2⟩ => ⟨h1, VPs.take i h2⟩
  | [], _ :: _, _, h => h.elim
  | _ :: _, [], _, h => h.elim

/-- THE CONTRACT OF A FUNCTION. -/
def Fn (P : Program) (f : FuncId) (args : List VP) (h : List HP) (Post : VP → List HP → Prop) : Prop :=
  ∀ (w : World) (W : WS) (S : Nat → Prop) (vs : List Value), VPs w W args vs → Sat w W h S → (∀ b, S b → W b) → (∀ b, W b → b < w.heap.size) →
    Calls P f vs.toArray w fun e w' => ∃ v r h' W' S', e = .returned v ∧ r.p w' W' v ∧ Post r h' ∧ Sat w' W' h' S' ∧ Run w W S w' W' S'

/-! ### registers -/
abbrev Regs := List (Nat × VP)
def rg : Regs → Nat → Option VP
  | [], _ => none
  | (d, p) :: σ, k => bif Nat.beq d k then some p else rg σ k

structure St (n : Nat) (df : List Deferred) (w0 : World) (W0 : WS) (S0 : Nat → Prop) (σ : Regs) (h : List HP) (a : Act) (w : World) (W : WS) (S : Nat → Prop) : Prop where
  tmps : a.tmps.size = n
  defers : a.defers = df
  regs : ∀ d p, rg σ d = some p → ∃ v, a.tmps[d]? = some v ∧ p.p w W v
  sat : Sat w W h S
  run : Run w0 W0 S0 w W S

abbrev KP := Exit → Regs → List HP → Prop
/-- Where the call began. -/
structure Bs where
  w0 : World
  W0 : WS
  S0 : Nat → Prop
  sub : ∀ b, S0 b → W0 b
  ro : Option Nat := none
  dfr : List Deferred := []
/-- the fence: a round's, or none -/
def FB (B : Bs) : Fence := { Fence.wide with round := B.ro }

def QK (fz : Nat) (B : Bs) (K : KP) (e : Exit) (a : Act) (w : World) : Prop :=
  (∀ c, e ≠ .panic c) ∧ e ≠ .outgrown ∧ ∃ σ h W S, St fz B.dfr B.w0 B.W0 B.S0 σ h a w W S ∧ K e σ h

def EvC (P : Program) (fz : Nat) (B : Bs) (K : KP) (c : Code) (σ : Regs) (h : List HP) : Prop :=
  ∀ a w W S, St fz B.dfr B.w0 B.W0 B.S0 σ h a w W S → c.wpIn (FB B) 0 P (QK fz B K) a w
def EvL (P : Program) (fz : Nat) (B : Bs) (K : KP) (ops : Array Oper) (l : List Oper) (σ : Regs) (h : List HP) : Prop :=
  ∀ a w W S, St fz B.dfr B.w0 B.W0 B.S0 σ h a w W S → wpListIn (FB B) 0 P ops (QK fz B K) l a w

section control
variable {P : Program} {fz : Nat} {B : Bs} {K : KP} {σ : Regs} {h : List HP}

def Kth (P : Program) (fz : Nat) (B : Bs) (K : KP) (y : Code) : KP
  | .normal, σ, h => EvC P fz B K y σ h
  | e, σ, h => K e σ h
theorem seq {x y : Code} (k : EvC P fz B (Kth P fz B K y) x σ h) : EvC P fz B K (.seq x y) σ h := by
  intro a w W S hs
  refine wpIn_seq (wpIn_mono (k a w W S hs) ?_)
  rintro e a w ⟨h1, h2, σ, h, W, S, hs, hk⟩
  cases e with
  | normal => exact hk a w W S hs
  | exit id => exact ⟨h1, h2, σ, h, W, S, hs, hk⟩
  | goto id => exact ⟨h1, h2, σ, h, W, S, hs, hk⟩
  | ret => exact ⟨h1, h2, σ, h, W, S, hs, hk⟩
  | panic c => exact (h1 c rfl).elim
  | outgrown => exact (h2 rfl).elim
theorem nxt {y : Code} (k : EvC P fz B K y σ h) : Kth P fz B K y .normal σ h := k
theorem skip (k : K .normal σ h) : EvC P fz B K .skip σ h := fun a w W S hs => wpIn_skip ⟨nofun, nofun, σ, h, W, S, hs, k⟩
theorem ret (k : K .ret σ h) : EvC P fz B K .ret σ h := fun a w W S hs => wpIn_ret ⟨nofun, nofun, σ, h, W, S, hs, k⟩
theorem exit {id : Nat} (k : K (.exit id) σ h) : EvC P fz B K (.exit id) σ h := fun a w W S hs => wpIn_exit ⟨nofun, nofun, σ, h, W, S, hs, k⟩
theorem goto_ {id : Nat} (k : K (.goto id) σ h) : EvC P fz B K (.goto id) σ h := fun a w W S hs => wpIn_goto ⟨nofun, nofun, σ, h, W, S, hs, k⟩
theorem label {id : Nat} (k : K .normal σ h) : EvC P fz B K (.label id) σ h := fun a w W S hs => wpIn_label ⟨nofun, nofun, σ, h, W, S, hs, k⟩
def Kbl (K : KP) (id : Nat) : KP
  | .exit id', σ, h => bif Nat.beq id' id then K .normal σ h else K (.exit id') σ h
  | e, σ, h => K e σ h
theorem block {id : Nat} {c : Code} (k : EvC P fz B (Kbl K id) c σ h) : EvC P fz B K (.block id c) σ h := by
  intro a w W S hs
  refine wpIn_block (wpIn_mono (k a w W S hs) ?_)
  rintro e a w ⟨h1, h2, σ, h, W, S, hs, hk⟩
  cases e with
  | normal => exact ⟨h1, h2, σ, h, W, S, hs, hk⟩
  | exit id' =>
    simp only [Exit.inBlock]
    by_cases he : id' = id
    · rw [if_pos he]
      subst he
      have : Nat.beq id' id' = true := by simp
      simp only [Kbl, this, cond_true] at hk
      exact ⟨nofun, nofun, σ, h, W, S, hs, hk⟩
    · rw [if_neg he]
      have : Nat.beq id' id = false := by rw [← Bool.not_eq_true]; exact fun h => he (Nat.eq_of_beq_eq_true h)
      simp only [Kbl, this, cond_false] at hk
      exact ⟨h1, h2, σ, h, W, S, hs, hk⟩
  | goto id => exact ⟨h1, h2, σ, h, W, S, hs, hk⟩
  | ret => exact ⟨h1, h2, σ, h, W, S, hs, hk⟩
  | panic c => exact (h1 c rfl).elim
  | outgrown => exact (h2 rfl).elim

/-- exactly this value -/
def vis (u : Value) : VP := ⟨fun _ _ v => v = u, fun _ h => h⟩
abbrev vint (k : IntKind) (n : Int) : VP := vis (.int k n)
abbrev vbool (b : Bool) : VP := vis (.bool b)

def og (σ : Regs) : Operand → Option VP
  | .tmp t => rg σ t
  | .const v => some (vis v)
  | .global g => some (vis (.pointer (some ⟨g, 0, none⟩)))
  | .func f => some (vis (.func (.func f) #[] #[]))
theorem St.eval {n df w0 W0 S0 a w W S} (hs : St n df w0 W0 S0 σ h a w W S) {x : Operand} {p : VP} (hx : og σ x = some p) : p.p w W (a.eval x) := by
  cases x with
  | tmp t =>
    obtain ⟨v, hv, hp⟩ := hs.regs t p hx
    simp only [Act.eval, Array.getD_eq_getD_getElem?, hv, Option.getD_some]
    exact hp
  | const v => injection hx with hx; subst hx; exact rfl
  | global g => injection hx with hx; subst hx; exact rfl
  | func f => injection hx with hx; subst hx; exact rfl
theorem cond {c : Operand} {x y : Code} {b : Bool} (ht : b = true → EvC P fz B K x σ h) (hf : b = false → EvC P fz B K y σ h) (hc : og σ c = some (vbool b) := by rfl) : EvC P fz B K (.cond c x y) σ h := by
  intro a w W S hs
  have h1 : a.eval c = .bool b := hs.eval hc
  exact wpIn_cond_split h1 (fun e => ht e a w W S hs) (fun e => hf e a w W S hs)
theorem region {id : Nat} {l : List Oper} (k : EvL P fz B K l.toArray l σ h) : EvC P fz B K (.region id l.toArray false) σ h :=
  fun a w W S hs => wpIn_region_lit (k a w W S hs)
theorem done {ops : Array Oper} (k : K .normal σ h) : EvL P fz B K ops [] σ h := fun a w W S hs => wpListIn_nil ⟨nofun, nofun, σ, h, W, S, hs, k⟩

/-- A LOOP: states by an index, a measure. -/
def Klp {ι : Type} (P : Program) (fz : Nat) (B : Bs) (K : KP) (σ : ι → Regs) (h : ι → List HP) (μ : ι → Nat) (i : ι) : KP
  | .normal, σ', h' => ∃ j, μ j < μ i ∧ (∀ d p, rg (σ j) d = some p → rg σ' d = some p) ∧ h' = h j
  | e, σ', h' => K e σ' h'
theorem loop {ι : Type} {c : Code} (σ : ι → Regs) (h : ι → List HP) (μ : ι → Nat) (i0 : ι) (body : ∀ i, EvC P fz B (Klp P fz B K σ h μ i) c (σ i) (h i)) : EvC P fz B K (.loop c) (σ i0) (h i0) := by
  intro a w W S hs b k cs hro hb hr
  have key : ∀ (n : Nat) (i : ι) a w W S, μ i = n → St fz B.dfr B.w0 B.W0 B.S0 (σ i) (h i) a w W S →
      ∃ e a' w', QK fz B K e a' w' ∧ ArrivesIn (Machine.fenced P (FB B)) P (lone (b.atR a (.code c :: .inLoop c :: k)) cs w) b k cs e a' w' := by
    intro n
    induction n using Nat.strongRecOn with
    | _ n ih =>
      intro i a w W S hn hs
      obtain ⟨e, a₁, w₁, ⟨h1, h2, σ', h', W', S', hs', hk⟩, harr⟩ := body i a w W S hs b (.inLoop c :: k) cs hro hb hr
      cases e with
      | normal =>
        obtain ⟨j, hlt, hσ, rfl⟩ := hk
        have hs2 : St fz B.dfr B.w0 B.W0 B.S0 (σ j) (h j) a₁ w₁ W' S' := ⟨hs'.tmps, hs'.defers, fun d p hd => hs'.regs d p (hσ d p hd), hs'.sat, hs'.run⟩
        obtain ⟨e₂, a₂, w₂, hq₂, harr₂⟩ := ih (μ j) (hn ▸ hlt) j a₁ w₁ W' S' rfl hs2
        exact ⟨e₂, a₂, w₂, hq₂, .of_steps (StepsIn.trans harr (.one (fenced_calm hb hr rfl) stepR_inLoop)) harr₂⟩
      | exit id => exact ⟨_, a₁, w₁, ⟨h1, h2, σ', h', W', S', hs', hk⟩, .pass (x := .inLoop c) rfl (fun _ _ => .inl (by simp)) harr⟩
      | goto l => exact ⟨_, a₁, w₁, ⟨h1, h2, σ', h', W', S', hs', hk⟩, .pass (x := .inLoop c) rfl (fun _ _ => .inl (by simp)) harr⟩
      | ret => exact ⟨_, a₁, w₁, ⟨h1, h2, σ', h', W', S', hs', hk⟩, .pass (x := .inLoop c) rfl (fun _ _ => .inl (by simp)) harr⟩
      | panic ch => exact (h1 ch rfl).elim
      | outgrown => exact (h2 rfl).elim
  obtain ⟨e, a', w', hq, harr⟩ := key _ i0 a w W S rfl hs
  exact ⟨e, a', w', hq, .of_steps (.one (fenced_calm hb hr rfl) stepR_loop) harr⟩
/-- what is no more needed, forgotten -/
theorem weakC {c : Code} (σ' : Regs) (k : EvC P fz B K c σ' h) (hσ : ∀ d p, rg σ' d = some p → rg σ d = some p) : EvC P fz B K c σ h :=
  fun a w W S hs => k a w W S ⟨hs.tmps, hs.defers, fun d p hd => hs.regs d p (hσ d p hd), hs.sat, hs.run⟩
end control
end Go.Proofs.YtagkniimpekhjaaGreat

set_option linter.unusedVariables false
namespace Go.Proofs.YtagkniimpekhjaaGreat
open Go.RowKit

/-- guard: the operation is carried out -/
def Gk (ops : Array Oper) (σ : Regs) : Option (Nat × Bool) → Prop
  | none => True
  | some (j, want) => ∃ oj dj, ops[j]? = some oj ∧ oj.dst = some dj ∧ rg σ dj = some (vbool want)
theorem gk0 {ops : Array Oper} {σ : Regs} : Gk ops σ none := trivial
theorem gk1 {ops : Array Oper} {σ : Regs} {j : Nat} {want b : Bool} {oj : Oper} {dj : Nat} (h1 : ops[j]? = some oj) (h2 : oj.dst = some dj) (h3 : rg σ dj = some (vbool b)) (hb : b = want) : Gk ops σ (some (j, want)) := ⟨oj, dj, h1, h2, hb ▸ h3⟩
theorem Gk.wanted {ops : Array Oper} {σ : Regs} {n df w0 W0 S0 h a w W S} {o : Oper} (hg : Gk ops σ o.guard) (hs : St n df w0 W0 S0 σ h a w W S) : Region.wanted o (yielded ops a.tmps) = true := by
  unfold Region.wanted
  cases hgd : o.guard with
  | none => rfl
  | some jw =>
    obtain ⟨j, want⟩ := jw
    rw [hgd] at hg
    obtain ⟨oj, dj, h1, h2, h3⟩ := hg
    obtain ⟨v, hv, hp⟩ := hs.regs dj _ h3
    have hp' : v = .bool want := hp
    subst hp'
    simp [yielded, h1, h2, hv]

section
variable {P : Program} {fz : Nat} {B : Bs} {K : KP} {ops : Array Oper} {rest : List Oper} {σ : Regs} {h : List HP} {d : Nat} {ty : TypeId} {pos : String} {af : Array Edge} {g : Option (Nat × Bool)}

theorem St.step {n df w0 W0 S0 a w W S} {w' : World} {W' : WS} {S' : Nat → Prop} {h' : List HP} {v : Value} {p : VP} (hs : St n df w0 W0 S0 σ h a w W S) (hd : Nat.ble (d + 1) n = true) (hp : p.p w' W' v) (hsat : Sat w' W' h' S') (hr : Run w W S w' W' S') :
    St n df w0 W0 S0 ((d, p) :: σ) h' (a.put (some d) v) w' W' S' := by
  have hdn : d < n := by have := Nat.le_of_ble_eq_true hd; omega
  have he : Evo w W w' W' := hr.evo hs.run.sub
  refine ⟨by simp [Act.put, hs.tmps], hs.defers, fun d' q hq => ?_, hsat, hs.run.trans hr⟩
  simp only [Act.put]
  by_cases e : d = d'
  · subst e
    have : Nat.beq d d = true := by simp
    simp only [rg, this, cond_true, Option.some.injEq] at hq
    subst hq
    exact ⟨v, by rw [Array.getElem?_setIfInBounds_self_of_lt (by rw [hs.tmps]; exact hdn)], hp⟩
  · have : Nat.beq d d' = false := by rw [← Bool.not_eq_true]; exact fun h => e (Nat.eq_of_beq_eq_true h)
    simp only [rg, this, cond_false] at hq
    obtain ⟨u, hu, hup⟩ := hs.regs d' q hq
    exact ⟨u, by rw [Array.getElem?_setIfInBounds_ne e]; exact hu, q.st he hup⟩
theorem St.skip {n df w0 W0 S0 a w W S} {w' : World} {W' : WS} {S' : Nat → Prop} {h' : List HP} (hs : St n df w0 W0 S0 σ h a w W S) (hsat : Sat w' W' h' S') (hr : Run w W S w' W' S') :
    St n df w0 W0 S0 σ h' (a.put none undef) w' W' S' := by
  have he : Evo w W w' W' := hr.evo hs.run.sub
  exact ⟨hs.tmps, hs.defers, fun d' q hq => let ⟨u, hu, hup⟩ := hs.regs d' q hq; ⟨u, hu, q.st he hup⟩, hsat, hs.run.trans hr⟩

theorem semAt_of {P : Program} {ro : Option Nat} {ρ : Operand → Value} {o : Oper} {w w' : World} {x : Next} (h : (execOp ρ o).run P w = .ok x w') (hx : ∀ d, x ≠ .defer d) : (Oper.semAt ro ρ o).run P w = .ok x w' := by
  by_cases hd : ∃ c, o.op = .defer c
  · exfalso
    obtain ⟨c, hc⟩ := hd
    unfold execOp at h
    rw [hc] at h
    simp only [Sem.run_bind] at h
    cases hr : (resolve ρ c o.type).run P w with
    | ok d w1 =>
      rw [hr] at h
      simp only [Result.andThen_ok, Sem.run_pure] at h
      injection h with h1 h2
      exact hx _ h1.symm
    | halt y w1 =>
      rw [hr] at h
      cases h
  · rw [Oper.semAt_eq ro ρ o (fun c hc => hd ⟨c, hc⟩)]
    exact h
theorem opr {P : Program} {B : Bs} {o : Oper} {a : Act} {w w' : World} {x : Next} {next : Act → World → Prop} {Q : Exit → Act → World → Prop} (hrun : (execOp a.eval o).run P w = .ok x w') (hx : ∀ d, x ≠ .defer d) (h : o.uponIn (FB B) 0 P a next Q (.ok x w')) : o.wpIn (FB B) 0 P a w next Q :=
  ⟨fun _ _ => trivial, by rw [semAt_of hrun hx]; exact h⟩
theorem opv {op : Op} {p : VP} {h' : List HP} (hd : Nat.ble (d + 1) fz = true) (hg : Gk ops σ g)
    (hop : ∀ a w W S, St fz B.dfr B.w0 B.W0 B.S0 σ h a w W S → ∃ v w' W' S', (execOp a.eval ⟨some d, op, ty, pos, af, g⟩).run P w = .ok (.value v) w' ∧ p.p w' W' v ∧ Sat w' W' h' S' ∧ Run w W S w' W' S')
    (k : EvL P fz B K ops rest ((d, p) :: σ) h') : EvL P fz B K ops (⟨some d, op, ty, pos, af, g⟩ :: rest) σ h := by
  intro a w W S hs
  obtain ⟨v, w', W', S', hrun, hp, hsat, hr⟩ := hop a w W S hs
  refine wpListIn_step fun C hC => ?_
  rw [if_pos (Gk.wanted (o := ⟨some d, op, ty, pos, af, g⟩) hg hs)]
  refine opr hrun nofun ?_
  exact hC _ _ (k _ _ W' S' (hs.step hd hp hsat hr))
/-- an operation that gives no value -/
theorem opu {op : Op} {h' : List HP} (hg : Gk ops σ g)
    (hop : ∀ a w W S, St fz B.dfr B.w0 B.W0 B.S0 σ h a w W S → ∃ w' W' S', ((execOp a.eval ⟨none, op, ty, pos, af, g⟩).run P w = .ok .skip w' ∨ ∃ v, (execOp a.eval ⟨none, op, ty, pos, af, g⟩).run P w = .ok (.value v) w') ∧ Sat w' W' h' S' ∧ Run w W S w' W' S')
    (k : EvL P fz B K ops rest σ h') : EvL P fz B K ops (⟨none, op, ty, pos, af, g⟩ :: rest) σ h := by
  intro a w W S hs
  obtain ⟨w', W', S', hrun, hsat, hr⟩ := hop a w W S hs
  refine wpListIn_step fun C hC => ?_
  rw [if_pos (Gk.wanted (o := ⟨none, op, ty, pos, af, g⟩) hg hs)]
  rcases hrun with hrun | ⟨v, hrun⟩
  · refine opr hrun nofun ?_
    exact hC _ _ (k _ _ W' S' (hs.skip hsat hr))
  · refine opr hrun nofun ?_
    exact hC _ _ (k _ _ W' S' (hs.skip hsat hr))
/-- one that leaves the world -/
theorem opp {op : Op} {p : VP} (hd : Nat.ble (d + 1) fz = true) (hg : Gk ops σ g)
    (hop : ∀ a w W S, St fz B.dfr B.w0 B.W0 B.S0 σ h a w W S → ∃ v, (execOp a.eval ⟨some d, op, ty, pos, af, g⟩).run P w = .ok (.value v) w ∧ p.p w W v)
    (k : EvL P fz B K ops rest ((d, p) :: σ) h) : EvL P fz B K ops (⟨some d, op, ty, pos, af, g⟩ :: rest) σ h :=
  opv hd hg (fun a w W S hs => let ⟨v, h1, h2⟩ := hop a w W S hs; ⟨v, w, W, S, h1, h2, hs.sat, Run.refl hs.run.sub hs.run.bound⟩) k

theorem mv {x : Operand} {p : VP} (k : EvL P fz B K ops rest ((d, p) :: σ) h) (hx : og σ x = some p := by rfl) (hd : Nat.ble (d + 1) fz = true := by rfl) (hg : Gk ops σ g := by first | exact gk0 | exact gk1 rfl rfl rfl (by assumption)) :
    EvL P fz B K ops (⟨some d, .move x, ty, pos, af, g⟩ :: rest) σ h :=
  opp hd hg (fun a w W S hs => ⟨a.eval x, rfl, hs.eval hx⟩) k
theorem asg {x : Operand} {p : VP} (k : EvL P fz B K ops rest ((d, p) :: σ) h) (hx : og σ x = some p := by rfl) (hd : Nat.ble (d + 1) fz = true := by rfl) (hg : Gk ops σ g := by first | exact gk0 | exact gk1 rfl rfl rfl (by assumption)) :
    EvL P fz B K ops (⟨some d, .assign x, ty, pos, af, g⟩ :: rest) σ h :=
  opp hd hg (fun a w W S hs => ⟨a.eval x, rfl, hs.eval hx⟩) k

/-! ### numbers -/
theorem wrapI {n : Int} (h1 : -9223372036854775808 ≤ n) (h2 : n ≤ 9223372036854775807) : IntKind.i64.wrap n = n := by
  unfold IntKind.wrap
  simp only [IntKind.signed, IntKind.bits]
  simp
  split <;> omega
theorem wrapU {n : Int} (h1 : 0 ≤ n) (h2 : n ≤ 18446744073709551615) : IntKind.u64.wrap n = n := by
  unfold IntKind.wrap
  simp only [IntKind.signed, IntKind.bits]
  simp
  omega
theorem wrapB {n : Int} (h1 : 0 ≤ n) (h2 : n ≤ 255) : IntKind.u8.wrap n = n := by
  unfold IntKind.wrap
  simp only [IntKind.signed, IntKind.bits]
  simp
  omega

theorem run_binI {a : Act} {w : World} {op : BinOp} {t t' : TypeId} {x y : Operand} {k : IntKind} {m n : Int} {v : Value} {o : Oper} (ho : o.op = .binOp op t x y t') (hx : a.eval x = .int k m) (hy : a.eval y = .int k n)
    (hr : (binOp op t (.int k m) (.int k n)).run P w = .ok v w) : (execOp a.eval o).run P w = .ok (.value v) w := by
  unfold execOp
  simp only [ho, hx, hy]
  have : eqGuard op t x y (.int k m) (.int k n) = pure () := by
    unfold eqGuard
    split <;> rfl
  rw [this]
  simp only [pure_bind, Sem.run_bind, hr, Result.andThen_ok]
  rfl
theorem run_binS {a : Act} {w : World} {op : BinOp} {t t' : TypeId} {x y : Operand} {k k' : IntKind} {m n : Int} {v : Value} {o : Oper} (ho : o.op = .binOp op t x y t') (hop : op = .shl ∨ op = .shr) (hx : a.eval x = .int k m) (hy : a.eval y = .int k' n)
    (hr : (Op.shift op k m k' n).run P w = .ok v w) : (execOp a.eval o).run P w = .ok (.value v) w := by
  unfold execOp
  simp only [ho, hx, hy]
  have : eqGuard op t x y (.int k m) (.int k' n) = pure () := by
    unfold eqGuard
    split <;> rfl
  rw [this]
  have h2 : binOp op t (.int k m) (.int k' n) = Op.shift op k m k' n := by rcases hop with rfl | rfl <;> rfl
  rw [h2]
  simp only [pure_bind, Sem.run_bind, hr, Result.andThen_ok]
  rfl
variable {t t' : TypeId} {x y : Operand} {k : IntKind} {m n : Int}
/-- any operation on two whole numbers -/
theorem bin {op : BinOp} (u : Value) (hr : ∀ w, (binOp op t (.int k m) (.int k n)).run P w = .ok u w) (kk : EvL P fz B K ops rest ((d, vis u) :: σ) h) (hx : og σ x = some (vint k m) := by rfl) (hy : og σ y = some (vint k n) := by rfl) (hd : Nat.ble (d + 1) fz = true := by rfl) (hg : Gk ops σ g := by first | exact gk0 | exact gk1 rfl rfl rfl (by assumption)) :
    EvL P fz B K ops (⟨some d, .binOp op t x y t', ty, pos, af, g⟩ :: rest) σ h :=
  opp hd hg (fun a w W S hs => ⟨u, run_binI rfl (hs.eval hx) (hs.eval hy) (hr w), rfl⟩) kk
theorem r_cmp (P : Program) (w : World) (t : TypeId) (k : IntKind) (m n : Int) : (binOp .lss t (.int k m) (.int k n)).run P w = .ok (.bool (decide (m < n))) w ∧ (binOp .leq t (.int k m) (.int k n)).run P w = .ok (.bool (decide (m ≤ n))) w ∧ (binOp .gtr t (.int k m) (.int k n)).run P w = .ok (.bool (decide (n < m))) w ∧ (binOp .geq t (.int k m) (.int k n)).run P w = .ok (.bool (decide (n ≤ m))) w ∧ (binOp .eql t (.int k m) (.int k n)).run P w = .ok (.bool (m == n)) w ∧ (binOp .neq t (.int k m) (.int k n)).run P w = .ok (.bool (m != n)) w := by
  refine ⟨?_, ?_, ?_, ?_, ?_, ?_⟩ <;> simp [binOp, Op.intCmp]
theorem r_ar (P : Program) (w : World) (t : TypeId) (k : IntKind) (m n : Int) : (binOp .add t (.int k m) (.int k n)).run P w = .ok (.int k (k.wrap (m + n))) w ∧ (binOp .sub t (.int k m) (.int k n)).run P w = .ok (.int k (k.wrap (m - n))) w ∧ (binOp .mul t (.int k m) (.int k n)).run P w = .ok (.int k (k.wrap (m * n))) w := by
  refine ⟨?_, ?_, ?_⟩ <;> simp [binOp, Op.intArith]
theorem lss (kk : EvL P fz B K ops rest ((d, vbool (decide (m < n))) :: σ) h) (hx : og σ x = some (vint k m) := by rfl) (hy : og σ y = some (vint k n) := by rfl) (hd : Nat.ble (d + 1) fz = true := by rfl) (hg : Gk ops σ g := by first | exact gk0 | exact gk1 rfl rfl rfl (by assumption)) :
    EvL P fz B K ops (⟨some d, .binOp .lss t x y t', ty, pos, af, g⟩ :: rest) σ h := bin _ (fun w => (r_cmp P w t k m n).1) kk hx hy hd hg
theorem leq (kk : EvL P fz B K ops rest ((d, vbool (decide (m ≤ n))) :: σ) h) (hx : og σ x = some (vint k m) := by rfl) (hy : og σ y = some (vint k n) := by rfl) (hd : Nat.ble (d + 1) fz = true := by rfl) (hg : Gk ops σ g := by first | exact gk0 | exact gk1 rfl rfl rfl (by assumption)) :
    EvL P fz B K ops (⟨some d, .binOp .leq t x y t', ty, pos, af, g⟩ :: rest) σ h := bin _ (fun w => (r_cmp P w t k m n).2.1) kk hx hy hd hg
theorem gtr (kk : EvL P fz B K ops rest ((d, vbool (decide (n < m))) :: σ) h) (hx : og σ x = some (vint k m) := by rfl) (hy : og σ y = some (vint k n) := by rfl) (hd : Nat.ble (d + 1) fz = true := by rfl) (hg : Gk ops σ g := by first | exact gk0 | exact gk1 rfl rfl rfl (by assumption)) :
    EvL P fz B K ops (⟨some d, .binOp .gtr t x y t', ty, pos, af, g⟩ :: rest) σ h := bin _ (fun w => (r_cmp P w t k m n).2.2.1) kk hx hy hd hg
theorem geq (kk : EvL P fz B K ops rest ((d, vbool (decide (n ≤ m))) :: σ) h) (hx : og σ x = some (vint k m) := by rfl) (hy : og σ y = some (vint k n) := by rfl) (hd : Nat.ble (d + 1) fz = true := by rfl) (hg : Gk ops σ g := by first | exact gk0 | exact gk1 rfl rfl rfl (by assumption)) :
    EvL P fz B K ops (⟨some d, .binOp .geq t x y t', ty, pos, af, g⟩ :: rest) σ h := bin _ (fun w => (r_cmp P w t k m n).2.2.2.1) kk hx hy hd hg
theorem eql (kk : EvL P fz B K ops rest ((d, vbool (m == n)) :: σ) h) (hx : og σ x = some (vint k m) := by rfl) (hy : og σ y = some (vint k n) := by rfl) (hd : Nat.ble (d + 1) fz = true := by rfl) (hg : Gk ops σ g := by first | exact gk0 | exact gk1 rfl rfl rfl (by assumption)) :
    EvL P fz B K ops (⟨some d, .binOp .eql t x y t', ty, pos, af, g⟩ :: rest) σ h := bin _ (fun w => (r_cmp P w t k m n).2.2.2.2.1) kk hx hy hd hg
theorem neq (kk : EvL P fz B K ops rest ((d, vbool (m != n)) :: σ) h) (hx : og σ x = some (vint k m) := by rfl) (hy : og σ y = some (vint k n) := by rfl) (hd : Nat.ble (d + 1) fz = true := by rfl) (hg : Gk ops σ g := by first | exact gk0 | exact gk1 rfl rfl rfl (by assumption)) :
    EvL P fz B K ops (⟨some d, .binOp .neq t x y t', ty, pos, af, g⟩ :: rest) σ h := bin _ (fun w => (r_cmp P w t k m n).2.2.2.2.2) kk hx hy hd hg
theorem add (kk : EvL P fz B K ops rest ((d, vint .i64 (m + n)) :: σ) h) (hx : og σ x = some (vint .i64 m) := by rfl) (hy : og σ y = some (vint .i64 n) := by rfl) (h1 : -9223372036854775808 ≤ m + n := by omega) (h2 : m + n ≤ 9223372036854775807 := by omega) (hd : Nat.ble (d + 1) fz = true := by rfl) (hg : Gk ops σ g := by first | exact gk0 | exact gk1 rfl rfl rfl (by assumption)) :
    EvL P fz B K ops (⟨some d, .binOp .add t x y t', ty, pos, af, g⟩ :: rest) σ h := bin _ (fun w => by rw [(r_ar P w t .i64 m n).1, wrapI h1 h2]) kk hx hy hd hg
theorem addw (kk : EvL P fz B K ops rest ((d, vint k (k.wrap (m + n))) :: σ) h) (hx : og σ x = some (vint k m) := by rfl) (hy : og σ y = some (vint k n) := by rfl) (hd : Nat.ble (d + 1) fz = true := by rfl) (hg : Gk ops σ g := by first | exact gk0 | exact gk1 rfl rfl rfl (by assumption)) :
    EvL P fz B K ops (⟨some d, .binOp .add t x y t', ty, pos, af, g⟩ :: rest) σ h := bin _ (fun w => (r_ar P w t k m n).1) kk hx hy hd hg
theorem sub (kk : EvL P fz B K ops rest ((d, vint .i64 (m - n)) :: σ) h) (hx : og σ x = some (vint .i64 m) := by rfl) (hy : og σ y = some (vint .i64 n) := by rfl) (h1 : -9223372036854775808 ≤ m - n := by omega) (h2 : m - n ≤ 9223372036854775807 := by omega) (hd : Nat.ble (d + 1) fz = true := by rfl) (hg : Gk ops σ g := by first | exact gk0 | exact gk1 rfl rfl rfl (by assumption)) :
    EvL P fz B K ops (⟨some d, .binOp .sub t x y t', ty, pos, af, g⟩ :: rest) σ h := bin _ (fun w => by rw [(r_ar P w t .i64 m n).2.1, wrapI h1 h2]) kk hx hy hd hg
theorem subw (kk : EvL P fz B K ops rest ((d, vint k (k.wrap (m - n))) :: σ) h) (hx : og σ x = some (vint k m) := by rfl) (hy : og σ y = some (vint k n) := by rfl) (hd : Nat.ble (d + 1) fz = true := by rfl) (hg : Gk ops σ g := by first | exact gk0 | exact gk1 rfl rfl rfl (by assumption)) :
    EvL P fz B K ops (⟨some d, .binOp .sub t x y t', ty, pos, af, g⟩ :: rest) σ h := bin _ (fun w => (r_ar P w t k m n).2.1) kk hx hy hd hg
theorem mul (kk : EvL P fz B K ops rest ((d, vint .i64 (m * n)) :: σ) h) (hx : og σ x = some (vint .i64 m) := by rfl) (hy : og σ y = some (vint .i64 n) := by rfl) (h1 : -9223372036854775808 ≤ m * n := by omega) (h2 : m * n ≤ 9223372036854775807 := by omega) (hd : Nat.ble (d + 1) fz = true := by rfl) (hg : Gk ops σ g := by first | exact gk0 | exact gk1 rfl rfl rfl (by assumption)) :
    EvL P fz B K ops (⟨some d, .binOp .mul t x y t', ty, pos, af, g⟩ :: rest) σ h := bin _ (fun w => by rw [(r_ar P w t .i64 m n).2.2, wrapI h1 h2]) kk hx hy hd hg
theorem mulw (kk : EvL P fz B K ops rest ((d, vint k (k.wrap (m * n))) :: σ) h) (hx : og σ x = some (vint k m) := by rfl) (hy : og σ y = some (vint k n) := by rfl) (hd : Nat.ble (d + 1) fz = true := by rfl) (hg : Gk ops σ g := by first | exact gk0 | exact gk1 rfl rfl rfl (by assumption)) :
    EvL P fz B K ops (⟨some d, .binOp .mul t x y t', ty, pos, af, g⟩ :: rest) σ h := bin _ (fun w => (r_ar P w t k m n).2.2) kk hx hy hd hg

theorem not_ {b : Bool} (kk : EvL P fz B K ops rest ((d, vbool (!b)) :: σ) h) (hx : og σ x = some (vbool b) := by rfl) (hd : Nat.ble (d + 1) fz = true := by rfl) (hg : Gk ops σ g := by first | exact gk0 | exact gk1 rfl rfl rfl (by assumption)) :
    EvL P fz B K ops (⟨some d, .unOp .not t x, ty, pos, af, g⟩ :: rest) σ h :=
  opp hd hg (fun a w W S hs => ⟨.bool (!b), by have h1 : a.eval x = .bool b := hs.eval hx; simp [execOp, h1, Op.unary], rfl⟩) kk
theorem neg (kk : EvL P fz B K ops rest ((d, vint .i64 (-m)) :: σ) h) (hx : og σ x = some (vint .i64 m) := by rfl) (h1 : -9223372036854775808 ≤ -m := by omega) (h2 : -m ≤ 9223372036854775807 := by omega) (hd : Nat.ble (d + 1) fz = true := by rfl) (hg : Gk ops σ g := by first | exact gk0 | exact gk1 rfl rfl rfl (by assumption)) :
    EvL P fz B K ops (⟨some d, .unOp .neg t x, ty, pos, af, g⟩ :: rest) σ h :=
  opp hd hg (fun a w W S hs => ⟨.int .i64 (-m), by have h3 : a.eval x = .int .i64 m := hs.eval hx; have := wrapI h1 h2; simp [execOp, h3, Op.unary, Op.intArith, this], rfl⟩) kk

/-! ### pick, and the two short ways -/
theorem pickT {c : Operand} {b : Bool} {p : VP} (hb : b = true) (kk : EvL P fz B K ops rest ((d, p) :: σ) h) (hc : og σ c = some (vbool b) := by rfl) (hx : og σ x = some p := by rfl) (hd : Nat.ble (d + 1) fz = true := by rfl) (hg : Gk ops σ g := by first | exact gk0 | exact gk1 rfl rfl rfl (by assumption)) :
    EvL P fz B K ops (⟨some d, .pick c x y, ty, pos, af, g⟩ :: rest) σ h :=
  opp hd hg (fun a w W S hs => ⟨a.eval x, by have h1 : a.eval c = .bool b := hs.eval hc; simp [execOp, h1, hb, asBool], hs.eval hx⟩) kk
theorem pickF {c : Operand} {b : Bool} {p : VP} (hb : b = false) (kk : EvL P fz B K ops rest ((d, p) :: σ) h) (hc : og σ c = some (vbool b) := by rfl) (hy : og σ y = some p := by rfl) (hd : Nat.ble (d + 1) fz = true := by rfl) (hg : Gk ops σ g := by first | exact gk0 | exact gk1 rfl rfl rfl (by assumption)) :
    EvL P fz B K ops (⟨some d, .pick c x y, ty, pos, af, g⟩ :: rest) σ h :=
  opp hd hg (fun a w W S hs => ⟨a.eval y, by have h1 : a.eval c = .bool b := hs.eval hc; simp [execOp, h1, hb, asBool], hs.eval hy⟩) kk

/-- anything -/
def vany : VP := ⟨fun _ _ _ => True, fun _ h => h⟩
/-- which are skipped when operation j's answer is not 'want' -/
def skipping (ops : Array Oper) (j : Nat) (want : Bool) : List Nat → List Oper → Option (List Nat)
  | ds, [] => some ds
  | ds, o :: l => match o.guard with
    | none => none
    | some (i, v) =>
      bif (Nat.beq i j && (v == want)) || (match (ops[i]?).bind (·.dst) with | some e => ds.any (Nat.beq e) | none => false) then
        match o.dst with
        | some e => skipping ops j want (e :: ds) l
        | none => skipping ops j want ds l
      else none
theorem skip_run {j : Nat} {want b : Bool} {oj : Oper} {dj : Nat} (hj : ops[j]? = some oj) (hdj : oj.dst = some dj) (hb : b ≠ want) : ∀ (l rest : List Oper) (ds0 ds : List Nat) (a : Act) (w : World),
    skipping ops j want ds0 l = some ds → (∀ e, ds0.any (Nat.beq e) = true → e ≠ dj ∧ (a.tmps[e]? = some undef ∨ a.tmps[e]? = none)) → a.tmps[dj]? = some (.bool b) → (∀ o, o ∈ l → o.dst ≠ some dj) →
    (∀ a', a'.tmps.size = a.tmps.size → a'.defers = a.defers → (∀ e, ds.any (Nat.beq e) = false → a'.tmps[e]? = a.tmps[e]?) → wpListIn (FB B) 0 P ops (QK fz B K) rest a' w) → wpListIn (FB B) 0 P ops (QK fz B K) (l ++ rest) a w := by
  intro l
  induction l with
  | nil =>
    intro rest ds0 ds a w hs h0 hd hl hk
    exact hk a rfl rfl (fun _ _ => rfl)
  | cons o l ih =>
    intro rest ds0 ds a w hs h0 hd hl hk
    rw [List.cons_append]
    unfold skipping at hs
    cases hgd : o.guard with
    | none => rw [hgd] at hs; simp at hs
    | some iv =>
      obtain ⟨i, v⟩ := iv
      rw [hgd] at hs
      simp only at hs
      have hnw : Region.wanted o (yielded ops a.tmps) = false := by
        cases hc : ((Nat.beq i j && (v == want)) || (match (ops[i]?).bind (·.dst) with | some e => ds0.any (Nat.beq e) | none => false)) with
        | false => rw [hc] at hs; simp at hs
        | true =>
          simp only [Bool.or_eq_true, Bool.and_eq_true] at hc
          unfold Region.wanted
          simp only [hgd]
          rcases hc with ⟨hij, hv⟩ | hc
          · have := Nat.eq_of_beq_eq_true hij
            subst this
            have hv' : v = want := by simpa using hv
            subst hv'
            simp [yielded, hj, hdj, hd, hb]
          · cases he : (ops[i]?).bind (·.dst) with
            | none => rw [he] at hc; simp at hc
            | some e =>
              rw [he] at hc
              obtain ⟨_, h2⟩ := h0 e hc
              unfold yielded
              rw [he]
              simp only [Option.bind_some]
              rcases h2 with h2 | h2 <;> rw [h2] <;> simp [undef]
      cases hc : ((Nat.beq i j && (v == want)) || (match (ops[i]?).bind (·.dst) with | some e => ds0.any (Nat.beq e) | none => false)) with
      | false => rw [hc] at hs; simp at hs
      | true =>
        rw [hc] at hs
        simp only [cond_true] at hs
        refine wpListIn_step fun C hC => ?_
        rw [if_neg (by rw [hnw]; simp)]
        refine ⟨fun _ _ => trivial, hC _ _ ?_⟩
        cases hdst : o.dst with
        | none =>
          rw [hdst] at hs
          exact ih rest ds0 ds a w hs h0 hd (fun o' ho' => hl o' (List.mem_cons_of_mem _ ho')) hk
        | some e =>
          rw [hdst] at hs
          simp only at hs
          have hne : e ≠ dj := fun he => hl o (List.mem_cons_self ..) (by rw [hdst, he])
          refine ih rest (e :: ds0) ds _ w hs (fun e' he' => ?_) ?_ (fun o' ho' => hl o' (List.mem_cons_of_mem _ ho')) (fun a' h1 h2 h3 => hk a' (by rw [h1]; simp [Act.put]) h2 (fun e' he' => ?_))
          · simp only [List.any_cons, Bool.or_eq_true] at he'
            rcases he' with he' | he'
            · have := Nat.eq_of_beq_eq_true he'
              subst this
              refine ⟨hne, ?_⟩
              simp only [Act.put]
              by_cases hlt : e' < a.tmps.size
              · exact .inl (by rw [Array.getElem?_setIfInBounds_self_of_lt hlt])
              · exact .inr (by rw [Array.getElem?_eq_none (by simp; omega)])
            · obtain ⟨h1, h2⟩ := h0 e' he'
              refine ⟨h1, ?_⟩
              simp only [Act.put]
              by_cases hee : e = e'
              · subst hee
                by_cases hlt : e < a.tmps.size
                · exact .inl (by rw [Array.getElem?_setIfInBounds_self_of_lt hlt])
                · exact .inr (by rw [Array.getElem?_eq_none (by rw [Array.size_setIfInBounds]; exact Nat.le_of_not_lt hlt)])
              · rw [Array.getElem?_setIfInBounds_ne hee]
                exact h2
          · simp only [Act.put]
            rw [Array.getElem?_setIfInBounds_ne hne]
            exact hd
          · rw [h3 e' he']
            simp only [Act.put]
            by_cases hee : e = e'
            · subst hee
              have hin : ∀ (l : List Oper) (ds0 : List Nat), skipping ops j want ds0 l = some ds → ∀ x, ds0.any (Nat.beq x) = true → ds.any (Nat.beq x) = true := by
                intro l
                induction l with
                | nil => intro ds0 h x hx; simp only [skipping, Option.some.injEq] at h; subst h; exact hx
                | cons o l ih2 =>
                  intro ds0 h x hx
                  unfold skipping at h
                  split at h
                  · simp at h
                  · rename_i i' v' _
                    cases hc2 : ((Nat.beq i' j && (v' == want)) || (match (ops[i']?).bind (·.dst) with | some e => ds0.any (Nat.beq e) | none => false)) with
                    | false => rw [hc2] at h; simp at h
                    | true =>
                      rw [hc2] at h
                      simp only [cond_true] at h
                      split at h
                      · exact ih2 _ h x (by simp only [List.any_cons, hx, Bool.or_true])
                      · exact ih2 _ h x hx
              rw [hin l _ hs e (by simp)] at he'
              simp at he'
            · rw [Array.getElem?_setIfInBounds_ne hee]

/-- the register where what the guarded part gives lies -/
def Kan (e2 : Nat) (b2 : Bool) (h : List HP) : KP := fun e σ' h' => e = .normal ∧ rg σ' e2 = some (vbool b2) ∧ h' = h
/-- which slots hold what, of what is known, but for some -/
def drp (ds : List Nat) : Regs → Regs
  | [] => []
  | (e, p) :: σ => bif ds.any (Nat.beq e) then drp ds σ else (e, p) :: drp ds σ
theorem rg_drp {ds : List Nat} {e : Nat} : ∀ {σ : Regs}, rg (drp ds σ) e = bif ds.any (Nat.beq e) then none else rg σ e
  | [] => by cases ds.any (Nat.beq e) <;> rfl
  | (e', p) :: σ => by
    unfold drp
    cases hb : ds.any (Nat.beq e') with
    | true =>
      rw [cond_true, rg_drp]
      cases hc : Nat.beq e' e with
      | true =>
        have := Nat.eq_of_beq_eq_true hc
        subst this
        rw [hb]
        rfl
      | false => simp only [rg, hc, cond_false]
    | false =>
      rw [cond_false]
      cases hc : Nat.beq e' e with
      | true =>
        have := Nat.eq_of_beq_eq_true hc
        subst this
        simp only [rg, hc, hb, cond_true, cond_false]
      | false =>
        simp only [rg, hc, cond_false]
        exact rg_drp
theorem upon_change {o : Oper} {a : Act} {next next' : Act → World → Prop} {Q Q' : Exit → Act → World → Prop} (h : ∀ a w, next a w → next' a w) (hp : ∀ c a w, ¬ Q (.panic c) a w) (ho : ¬ LetsOut Q) : ∀ r : Result Next, o.uponIn (FB B) 0 P a next Q r → o.uponIn (FB B) 0 P a next' Q' r := by
  intro r hr
  unfold Oper.uponIn at hr ⊢
  split at hr
  · exact h _ _ hr
  · exact h _ _ hr
  · exact h _ _ hr
  · refine ⟨hr.1, hr.2.mono fun e w'' he => ?_⟩
    cases e with
    | returned v => exact h _ _ he
    | panicked c => exact (hp _ _ _ he).elim
    | outgrown => exact (ho he).elim
  · exact ⟨hr.1, hr.2.mono fun v w'' he => h _ _ he⟩
  · refine ⟨hr.1, hr.2.mono fun e w'' he => ?_⟩
    cases e with
    | returned v => exact h _ _ he
    | panicked c => exact (hp _ _ _ he).elim
    | outgrown => exact (ho he).elim
  · exact (hp _ _ _ hr).elim
  · exact hr.elim
theorem wpList_then {Q Q' : Exit → Act → World → Prop} (hp : ∀ c a w, ¬ Q (.panic c) a w) (ho : ¬ LetsOut Q) {rest : List Oper} (hk : ∀ a w, Q .normal a w → wpListIn (FB B) 0 P ops Q' rest a w) : ∀ (l : List Oper) (a : Act) (w : World), wpListIn (FB B) 0 P ops Q l a w → wpListIn (FB B) 0 P ops Q' (l ++ rest) a w := by
  intro l
  induction l with
  | nil => exact fun a w h => hk a w h
  | cons o l ih =>
    intro a w h
    rw [List.cons_append]
    unfold wpListIn at h ⊢
    split at h
    · rename_i hw
      rw [if_pos hw]
      exact ⟨h.1, upon_change ih hp ho _ h.2⟩
    · rename_i hw
      rw [if_neg hw]
      exact ⟨h.1, ih _ _ h.2⟩
theorem QK.nopanic {K : KP} : ∀ c a w, ¬ QK fz B K (.panic c) a w := fun c a w h => h.1 c rfl
theorem QK.noout {K : KP} : ¬ LetsOut (QK fz B K) := fun ⟨a, w, h⟩ => h.2.1 rfl
/-- A list of operations cut in two: what is known between. -/
theorem cut {l1 l2 : List Oper} {σm : Regs} {hm : List HP} (k1 : EvL P fz B (fun e σ' h' => e = .normal ∧ (∀ d p, rg σm d = some p → rg σ' d = some p) ∧ h' = hm) ops l1 σ h) (k2 : EvL P fz B K ops l2 σm hm) : EvL P fz B K ops (l1 ++ l2) σ h := by
  intro a w W S hs
  refine wpList_then QK.nopanic QK.noout ?_ l1 a w (k1 a w W S hs)
  rintro a w ⟨_, _, σ', h', W', S', hs', _, hσ, rfl⟩
  exact k2 a w W' S' ⟨hs'.tmps, hs'.defers, fun d p hd => hs'.regs d p (hσ d p hd), hs'.sat, hs'.run⟩
theorem wpList_same {Q : Exit → Act → World → Prop} (ho : ¬ LetsOut Q) {ds : List Nat} : ∀ (l : List Oper) (a : Act) (w : World), l.all (fun o => match o.dst with | some e => ds.any (Nat.beq e) | none => true) = true → wpListIn (FB B) 0 P ops Q l a w →
    wpListIn (FB B) 0 P ops (fun e a' w' => Q e a' w' ∧ (e = .normal → ∀ e, ds.any (Nat.beq e) = false → a'.tmps[e]? = a.tmps[e]?)) l a w := by
  intro l
  induction l with
  | nil => exact fun a w _ h => ⟨h, fun _ _ _ => rfl⟩
  | cons o l ih =>
    intro a w hl h
    rw [List.all_cons, Bool.and_eq_true] at hl
    have hput : ∀ v e, ds.any (Nat.beq e) = false → (a.put o.dst v).tmps[e]? = a.tmps[e]? := by
      intro v e he
      cases hd : o.dst with
      | none => rfl
      | some e' =>
        simp only [Act.put]
        have hne : e' ≠ e := by
          rintro rfl
          have := hl.1
          rw [hd] at this
          simp only at this
          rw [this] at he
          cases he
        rw [Array.getElem?_setIfInBounds_ne hne]
    have hn : ∀ v w', wpListIn (FB B) 0 P ops Q l (a.put o.dst v) w' → wpListIn (FB B) 0 P ops (fun e a' w' => Q e a' w' ∧ (e = .normal → ∀ e, ds.any (Nat.beq e) = false → a'.tmps[e]? = a.tmps[e]?)) l (a.put o.dst v) w' := by
      intro v w' hw
      have := ih _ _ hl.2 hw
      refine cast ?_ this
      congr 1
      funext e a' w''
      simp only [eq_iff_iff]
      exact ⟨fun h => ⟨h.1, fun hn e he => (h.2 hn e he).trans (hput v e he)⟩, fun h => ⟨h.1, fun hn e he => (h.2 hn e he).trans (hput v e he).symm⟩⟩
    have hn2 : ∀ (d : Deferred) v w', wpListIn (FB B) 0 P ops Q l (({ a with defers := d :: a.defers } : Act).put o.dst v) w' → wpListIn (FB B) 0 P ops (fun e a' w' => Q e a' w' ∧ (e = .normal → ∀ e, ds.any (Nat.beq e) = false → a'.tmps[e]? = a.tmps[e]?)) l (({ a with defers := d :: a.defers } : Act).put o.dst v) w' := by
      intro d v w' hw
      have := ih _ _ hl.2 hw
      have hput2 : ∀ v e, ds.any (Nat.beq e) = false → (({ a with defers := d :: a.defers } : Act).put o.dst v).tmps[e]? = a.tmps[e]? := by
        intro v e he
        have := hput v e he
        cases hd : o.dst <;> rw [hd] at this <;> exact this
      refine cast ?_ this
      congr 1
      funext e a' w''
      simp only [eq_iff_iff]
      exact ⟨fun h => ⟨h.1, fun hn e he => (h.2 hn e he).trans (hput2 v e he)⟩, fun h => ⟨h.1, fun hn e he => (h.2 hn e he).trans (hput2 v e he).symm⟩⟩
    unfold wpListIn at h ⊢
    split at h
    · rename_i hw
      rw [if_pos hw]
      refine ⟨h.1, ?_⟩
      have h := h.2
      unfold Oper.uponIn at h ⊢
      split at h
      · exact hn _ _ h
      · exact hn _ _ h
      · exact hn2 _ _ _ h
      · refine ⟨h.1, h.2.mono fun e w'' he => ?_⟩
        cases e with
        | returned v => exact hn _ _ he
        | panicked c => exact ⟨he, nofun⟩
        | outgrown => exact (ho he).elim
      · exact ⟨h.1, h.2.mono fun v w'' he => hn _ _ he⟩
      · refine ⟨h.1, h.2.mono fun e w'' he => ?_⟩
        cases e with
        | returned v => exact hn _ _ he
        | panicked c => exact ⟨he, nofun⟩
        | outgrown => exact (ho he).elim
      · exact ⟨h, nofun⟩
      · exact h.elim
    · rename_i hw
      rw [if_neg hw]
      exact ⟨h.1, hn _ _ h.2⟩
/-- 'c && ..', 'c || ..': l1 is carried out where b is 'want'; then the pick. -/
theorem short {e2 dj : Nat} {b b2 : Bool} {oj : Oper} {c x y : Operand} {ds : List Nat} (j : Nat) (want : Bool) (n : Nat)
    (k1 : b = want → ∀ B, EvL P fz B (Kan e2 b2 h) ops (rest.take n) σ h)
    (k : EvL P fz B K ops (rest.drop (n + 1)) ((d, vbool (bif want then b && b2 else b || b2)) :: drp ds σ) h)
    (hpk : rest[n]? = some ⟨some d, .pick c x y, ty, pos, af, g⟩ := by rfl)
    (hj : ops[j]? = some oj := by rfl) (hdj : oj.dst = some dj := by rfl) (hbj : rg σ dj = some (vbool b) := by rfl) (hc : og σ c = some (vbool b) := by rfl)
    (hsk : skipping ops j want [] (rest.take n) = some ds := by rfl) (hcd : ∀ t, c = .tmp t → ds.any (Nat.beq t) = false := by intro t ht; cases ht; rfl)
    (hx : x = bif want then .tmp e2 else .const (.bool true) := by rfl) (hy : y = bif want then .const (.bool false) else .tmp e2 := by rfl)
    (hnd : (rest.take n).all (fun o => match o.dst with | some e => !(Nat.beq e dj) | none => true) = true := by rfl)
    (hal : (rest.take n).all (fun o => match o.dst with | some e => ds.any (Nat.beq e) | none => true) = true := by rfl)
    (hd : Nat.ble (d + 1) fz = true := by rfl) (hg : Gk ops σ g := by first | exact gk0 | exact gk1 rfl rfl rfl (by assumption)) (hdd : ∀ dj', (match g with | some (i, _) => (ops[i]?).bind (·.dst) | none => none) = some dj' → ds.any (Nat.beq dj') = false := by first | nofun | (intro _ h; cases h; rfl)) :
    EvL P fz B K ops rest σ h := by
  have hsplit : rest = rest.take n ++ (⟨some d, .pick c x y, ty, pos, af, g⟩ :: rest.drop (n + 1)) := by
    conv => lhs; rw [← List.take_append_drop n rest]
    congr 1
    exact (List.drop_eq_getElem_cons (List.getElem?_eq_some_iff.1 hpk).1).trans (by rw [(List.getElem?_eq_some_iff.1 hpk).2])
  rw [hsplit]
  have hgd : ∀ σ', (∀ e, ds.any (Nat.beq e) = false → ∀ p, rg σ e = some p → rg σ' e = some p) → Gk ops σ' g := by
    intro σ' hσ'
    cases g with
    | none => trivial
    | some iw =>
      obtain ⟨i, w⟩ := iw
      obtain ⟨oi, di, h1, h2, h3⟩ := hg
      exact ⟨oi, di, h1, h2, hσ' di (hdd di (by simp [h1, h2])) _ h3⟩
  intro a w W S hs
  have hdrp : ∀ {a' w' W' S'} {σ' : Regs}, St fz B.dfr B.w0 B.W0 B.S0 σ' h a' w' W' S' → (∀ e p, rg (drp ds σ) e = some p → rg σ' e = some p) → St fz B.dfr B.w0 B.W0 B.S0 (drp ds σ) h a' w' W' S' := fun hs' hσ => ⟨hs'.tmps, hs'.defers, fun e p he => hs'.regs e p (hσ e p he), hs'.sat, hs'.run⟩
  by_cases hb : b = want
  · have hrun := k1 hb ⟨w, W, S, hs.run.sub, B.ro, B.dfr⟩ a w W S ⟨hs.tmps, hs.defers, hs.regs, hs.sat, Run.refl hs.run.sub hs.run.bound⟩
    refine wpList_then (fun c a w h => QK.nopanic c a w h.1) (fun ⟨a, w, h⟩ => h.1.2.1 rfl) ?_ _ a w (wpList_same QK.noout (ds := ds) _ a w hal hrun)
    rintro a' w' ⟨⟨_, _, σ', h', W', S', hs', _, he2, rfl⟩, hsame⟩
    have hsame := hsame rfl
    have hev : Evo w W w' W' := hs'.run.evo hs.run.sub
    have hs2 : St fz B.dfr B.w0 B.W0 B.S0 (drp ds σ) h' a' w' W' S' := by
      refine ⟨hs'.tmps, hs'.defers, fun e p he => ?_, hs'.sat, hs.run.trans hs'.run⟩
      rw [rg_drp] at he
      cases h1 : ds.any (Nat.beq e) with
      | true => rw [h1] at he; cases he
      | false =>
        rw [h1] at he
        obtain ⟨u, hu, hup⟩ := hs.regs e p he
        exact ⟨u, by rw [hsame e h1]; exact hu, p.st hev hup⟩
    have hcv : a.eval c = .bool b := hs.eval hc
    have hcv' : a'.eval c = .bool b := by
      cases c with
      | tmp t => simp only [Act.eval, Array.getD_eq_getD_getElem?] at hcv ⊢; rw [hsame t (hcd t rfl)]; exact hcv
      | _ => exact hcv
    obtain ⟨v2, hv2, hp2⟩ := hs'.regs e2 _ he2
    have hp2' : v2 = .bool b2 := hp2
    subst hp2'
    have hval : ∃ v, (execOp a'.eval ⟨some d, .pick c x y, ty, pos, af, g⟩).run P w' = .ok (.value v) w' ∧ v = .bool (bif want then b && b2 else b || b2) := by
      cases want with
      | true =>
        subst hb
        simp only [cond_true] at hx
        subst hx
        exact ⟨.bool b2, by unfold execOp; simp only [hcv', asBool]; simp [Act.eval, Array.getD_eq_getD_getElem?, hv2], by simp⟩
      | false =>
        subst hb
        simp only [cond_false] at hy
        subst hy
        exact ⟨.bool b2, by unfold execOp; simp only [hcv', asBool]; simp [Act.eval, Array.getD_eq_getD_getElem?, hv2], by simp⟩
    obtain ⟨v, hrun, hv⟩ := hval
    refine wpListIn_step fun C hC => ?_
    rw [if_pos (Gk.wanted (o := ⟨some d, .pick c x y, ty, pos, af, g⟩) (hgd (drp ds σ) (fun e he p hp => by rw [rg_drp, he]; exact hp)) hs2)]
    refine opr hrun nofun ?_
    exact hC _ _ (k _ _ W' S' (hs2.step hd hv hs2.sat (Run.refl hs2.run.sub hs2.run.bound)))
  · have hcv : a.eval c = .bool b := hs.eval hc
    obtain ⟨vj, hvj, hpj⟩ := hs.regs dj _ hbj
    have hpj' : vj = .bool b := hpj
    subst hpj'
    have hnd' : ∀ o, o ∈ rest.take n → o.dst ≠ some dj := by
      intro o ho he
      have := List.all_eq_true.1 hnd o ho
      rw [he] at this
      simp at this
    refine skip_run (K := K) hj hdj hb (rest.take n) _ [] ds a w hsk (fun e he => by simp at he) hvj hnd' ?_
    intro a' hsz hdf hsame
    have hs' : St fz B.dfr B.w0 B.W0 B.S0 (drp ds σ) h a' w W S := by
      refine ⟨by rw [hsz, hs.tmps], by rw [hdf, hs.defers], fun e p he => ?_, hs.sat, hs.run⟩
      rw [rg_drp] at he
      cases h1 : ds.any (Nat.beq e) with
      | true => rw [h1] at he; cases he
      | false =>
        rw [h1] at he
        obtain ⟨u, hu, hup⟩ := hs.regs e p he
        exact ⟨u, by rw [hsame e h1]; exact hu, hup⟩
    have hcv' : a'.eval c = .bool b := by
      cases c with
      | tmp t => simp only [Act.eval, Array.getD_eq_getD_getElem?] at hcv ⊢; rw [hsame t (hcd t rfl)]; exact hcv
      | _ => exact hcv
    have hval : ∃ v, (execOp a'.eval ⟨some d, .pick c x y, ty, pos, af, g⟩).run P w = .ok (.value v) w ∧ v = .bool (bif want then b && b2 else b || b2) := by
      cases want with
      | true =>
        have hb' : b = false := by simpa using hb
        subst hb'
        simp only [cond_true] at hy
        subst hy
        exact ⟨.bool false, by unfold execOp; simp only [hcv', asBool]; rfl, rfl⟩
      | false =>
        have hb' : b = true := by simpa using hb
        subst hb'
        simp only [cond_false] at hx
        subst hx
        exact ⟨.bool true, by unfold execOp; simp only [hcv', asBool]; rfl, rfl⟩
    obtain ⟨v, hrun, hv⟩ := hval
    refine wpListIn_step fun C hC => ?_
    rw [if_pos (Gk.wanted (o := ⟨some d, .pick c x y, ty, pos, af, g⟩) (hgd (drp ds σ) (fun e he p hp => by rw [rg_drp, he]; exact hp)) hs')]
    refine opr hrun nofun ?_
    exact hC _ _ (k _ _ W S (hs'.step hd hv hs'.sat (Run.refl hs.run.sub hs.run.bound)))
theorem kan {e2 : Nat} {b2 : Bool} {h h' : List HP} {σ' : Regs} (hr : rg σ' e2 = some (vbool b2)) (hh : h' = h) : Kan e2 b2 h .normal σ' h' := ⟨rfl, hr, hh⟩
theorem an1 {o1 : Oper} {e2 dj : Nat} {b : Bool} {oj : Oper} {c : Operand} {ds : List Nat} (j : Nat)
    (k : ∃ b2, (b = true → ∀ B, EvL P fz B (Kan e2 b2 h) ops [o1] σ h) ∧ EvL P fz B K ops rest ((d, vbool (b && b2)) :: drp ds σ) h)
    (hj : ops[j]? = some oj := by rfl) (hdj : oj.dst = some dj := by rfl) (hbj : rg σ dj = some (vbool b) := by rfl) (hc : og σ c = some (vbool b) := by rfl)
    (hsk : skipping ops j true [] [o1] = some ds := by rfl) (hcd : ∀ t, c = .tmp t → ds.any (Nat.beq t) = false := by intro t ht; cases ht; rfl)
    (hnd : [o1].all (fun o => match o.dst with | some e => !(Nat.beq e dj) | none => true) = true := by rfl)
    (hal : [o1].all (fun o => match o.dst with | some e => ds.any (Nat.beq e) | none => true) = true := by rfl)
    (hd : Nat.ble (d + 1) fz = true := by rfl) (hg : Gk ops σ g := by first | exact gk0 | exact gk1 rfl rfl rfl (by assumption)) (hdd : ∀ dj', (match g with | some (i, _) => (ops[i]?).bind (·.dst) | none => none) = some dj' → ds.any (Nat.beq dj') = false := by first | nofun | (intro _ h; cases h; rfl)) :
    EvL P fz B K ops (o1 :: ⟨some d, .pick c (.tmp e2) (.const (.bool false)), ty, pos, af, g⟩ :: rest) σ h :=
  short (rest := o1 :: ⟨some d, .pick c (.tmp e2) (.const (.bool false)), ty, pos, af, g⟩ :: rest) j true 1 k.choose_spec.1 k.choose_spec.2 rfl hj hdj hbj hc hsk hcd rfl rfl hnd hal hd hg hdd
theorem orr1 {o1 : Oper} {e2 dj : Nat} {b : Bool} {oj : Oper} {c : Operand} {ds : List Nat} (j : Nat)
    (k : ∃ b2, (b = false → ∀ B, EvL P fz B (Kan e2 b2 h) ops [o1] σ h) ∧ EvL P fz B K ops rest ((d, vbool (b || b2)) :: drp ds σ) h)
    (hj : ops[j]? = some oj := by rfl) (hdj : oj.dst = some dj := by rfl) (hbj : rg σ dj = some (vbool b) := by rfl) (hc : og σ c = some (vbool b) := by rfl)
    (hsk : skipping ops j false [] [o1] = some ds := by rfl) (hcd : ∀ t, c = .tmp t → ds.any (Nat.beq t) = false := by intro t ht; cases ht; rfl)
    (hnd : [o1].all (fun o => match o.dst with | some e => !(Nat.beq e dj) | none => true) = true := by rfl)
    (hal : [o1].all (fun o => match o.dst with | some e => ds.any (Nat.beq e) | none => true) = true := by rfl)
    (hd : Nat.ble (d + 1) fz = true := by rfl) (hg : Gk ops σ g := by first | exact gk0 | exact gk1 rfl rfl rfl (by assumption)) (hdd : ∀ dj', (match g with | some (i, _) => (ops[i]?).bind (·.dst) | none => none) = some dj' → ds.any (Nat.beq dj') = false := by first | nofun | (intro _ h; cases h; rfl)) :
    EvL P fz B K ops (o1 :: ⟨some d, .pick c (.const (.bool true)) (.tmp e2), ty, pos, af, g⟩ :: rest) σ h :=
  short (rest := o1 :: ⟨some d, .pick c (.const (.bool true)) (.tmp e2), ty, pos, af, g⟩ :: rest) j false 1 k.choose_spec.1 k.choose_spec.2 rfl hj hdj hbj hc hsk hcd rfl rfl hnd hal hd hg hdd
theorem an2 {o1 o2 : Oper} {e2 dj : Nat} {b : Bool} {oj : Oper} {c : Operand} {ds : List Nat} (j : Nat)
    (k : ∃ b2, (b = true → ∀ B, EvL P fz B (Kan e2 b2 h) ops [o1, o2] σ h) ∧ EvL P fz B K ops rest ((d, vbool (b && b2)) :: drp ds σ) h)
    (hj : ops[j]? = some oj := by rfl) (hdj : oj.dst = some dj := by rfl) (hbj : rg σ dj = some (vbool b) := by rfl) (hc : og σ c = some (vbool b) := by rfl)
    (hsk : skipping ops j true [] [o1, o2] = some ds := by rfl) (hcd : ∀ t, c = .tmp t → ds.any (Nat.beq t) = false := by intro t ht; cases ht; rfl)
    (hnd : [o1, o2].all (fun o => match o.dst with | some e => !(Nat.beq e dj) | none => true) = true := by rfl)
    (hal : [o1, o2].all (fun o => match o.dst with | some e => ds.any (Nat.beq e) | none => true) = true := by rfl)
    (hd : Nat.ble (d + 1) fz = true := by rfl) (hg : Gk ops σ g := by first | exact gk0 | exact gk1 rfl rfl rfl (by assumption)) (hdd : ∀ dj', (match g with | some (i, _) => (ops[i]?).bind (·.dst) | none => none) = some dj' → ds.any (Nat.beq dj') = false := by first | nofun | (intro _ h; cases h; rfl)) :
    EvL P fz B K ops (o1 :: o2 :: ⟨some d, .pick c (.tmp e2) (.const (.bool false)), ty, pos, af, g⟩ :: rest) σ h :=
  short (rest := o1 :: o2 :: ⟨some d, .pick c (.tmp e2) (.const (.bool false)), ty, pos, af, g⟩ :: rest) j true 2 k.choose_spec.1 k.choose_spec.2 rfl hj hdj hbj hc hsk hcd rfl rfl hnd hal hd hg hdd
theorem orr2 {o1 o2 : Oper} {e2 dj : Nat} {b : Bool} {oj : Oper} {c : Operand} {ds : List Nat} (j : Nat)
    (k : ∃ b2, (b = false → ∀ B, EvL P fz B (Kan e2 b2 h) ops [o1, o2] σ h) ∧ EvL P fz B K ops rest ((d, vbool (b || b2)) :: drp ds σ) h)
    (hj : ops[j]? = some oj := by rfl) (hdj : oj.dst = some dj := by rfl) (hbj : rg σ dj = some (vbool b) := by rfl) (hc : og σ c = some (vbool b) := by rfl)
    (hsk : skipping ops j false [] [o1, o2] = some ds := by rfl) (hcd : ∀ t, c = .tmp t → ds.any (Nat.beq t) = false := by intro t ht; cases ht; rfl)
    (hnd : [o1, o2].all (fun o => match o.dst with | some e => !(Nat.beq e dj) | none => true) = true := by rfl)
    (hal : [o1, o2].all (fun o => match o.dst with | some e => ds.any (Nat.beq e) | none => true) = true := by rfl)
    (hd : Nat.ble (d + 1) fz = true := by rfl) (hg : Gk ops σ g := by first | exact gk0 | exact gk1 rfl rfl rfl (by assumption)) (hdd : ∀ dj', (match g with | some (i, _) => (ops[i]?).bind (·.dst) | none => none) = some dj' → ds.any (Nat.beq dj') = false := by first | nofun | (intro _ h; cases h; rfl)) :
    EvL P fz B K ops (o1 :: o2 :: ⟨some d, .pick c (.const (.bool true)) (.tmp e2), ty, pos, af, g⟩ :: rest) σ h :=
  short (rest := o1 :: o2 :: ⟨some d, .pick c (.const (.bool true)) (.tmp e2), ty, pos, af, g⟩ :: rest) j false 2 k.choose_spec.1 k.choose_spec.2 rfl hj hdj hbj hc hsk hcd rfl rfl hnd hal hd hg hdd
theorem an3 {o1 o2 o3 : Oper} {e2 dj : Nat} {b : Bool} {oj : Oper} {c : Operand} {ds : List Nat} (j : Nat)
    (k : ∃ b2, (b = true → ∀ B, EvL P fz B (Kan e2 b2 h) ops [o1, o2, o3] σ h) ∧ EvL P fz B K ops rest ((d, vbool (b && b2)) :: drp ds σ) h)
    (hj : ops[j]? = some oj := by rfl) (hdj : oj.dst = some dj := by rfl) (hbj : rg σ dj = some (vbool b) := by rfl) (hc : og σ c = some (vbool b) := by rfl)
    (hsk : skipping ops j true [] [o1, o2, o3] = some ds := by rfl) (hcd : ∀ t, c = .tmp t → ds.any (Nat.beq t) = false := by intro t ht; cases ht; rfl)
    (hnd : [o1, o2, o3].all (fun o => match o.dst with | some e => !(Nat.beq e dj) | none => true) = true := by rfl)
    (hal : [o1, o2, o3].all (fun o => match o.dst with | some e => ds.any (Nat.beq e) | none => true) = true := by rfl)
    (hd : Nat.ble (d + 1) fz = true := by rfl) (hg : Gk ops σ g := by first | exact gk0 | exact gk1 rfl rfl rfl (by assumption)) (hdd : ∀ dj', (match g with | some (i, _) => (ops[i]?).bind (·.dst) | none => none) = some dj' → ds.any (Nat.beq dj') = false := by first | nofun | (intro _ h; cases h; rfl)) :
    EvL P fz B K ops (o1 :: o2 :: o3 :: ⟨some d, .pick c (.tmp e2) (.const (.bool false)), ty, pos, af, g⟩ :: rest) σ h :=
  short (rest := o1 :: o2 :: o3 :: ⟨some d, .pick c (.tmp e2) (.const (.bool false)), ty, pos, af, g⟩ :: rest) j true 3 k.choose_spec.1 k.choose_spec.2 rfl hj hdj hbj hc hsk hcd rfl rfl hnd hal hd hg hdd
theorem orr3 {o1 o2 o3 : Oper} {e2 dj : Nat} {b : Bool} {oj : Oper} {c : Operand} {ds : List Nat} (j : Nat)
    (k : ∃ b2, (b = false → ∀ B, EvL P fz B (Kan e2 b2 h) ops [o1, o2, o3] σ h) ∧ EvL P fz B K ops rest ((d, vbool (b || b2)) :: drp ds σ) h)
    (hj : ops[j]? = some oj := by rfl) (hdj : oj.dst = some dj := by rfl) (hbj : rg σ dj = some (vbool b) := by rfl) (hc : og σ c = some (vbool b) := by rfl)
    (hsk : skipping ops j false [] [o1, o2, o3] = some ds := by rfl) (hcd : ∀ t, c = .tmp t → ds.any (Nat.beq t) = false := by intro t ht; cases ht; rfl)
    (hnd : [o1, o2, o3].all (fun o => match o.dst with | some e => !(Nat.beq e dj) | none => true) = true := by rfl)
    (hal : [o1, o2, o3].all (fun o => match o.dst with | some e => ds.any (Nat.beq e) | none => true) = true := by rfl)
    (hd : Nat.ble (d + 1) fz = true := by rfl) (hg : Gk ops σ g := by first | exact gk0 | exact gk1 rfl rfl rfl (by assumption)) (hdd : ∀ dj', (match g with | some (i, _) => (ops[i]?).bind (·.dst) | none => none) = some dj' → ds.any (Nat.beq dj') = false := by first | nofun | (intro _ h; cases h; rfl)) :
    EvL P fz B K ops (o1 :: o2 :: o3 :: ⟨some d, .pick c (.const (.bool true)) (.tmp e2), ty, pos, af, g⟩ :: rest) σ h :=
  short (rest := o1 :: o2 :: o3 :: ⟨some d, .pick c (.const (.bool true)) (.tmp e2), ty, pos, af, g⟩ :: rest) j false 3 k.choose_spec.1 k.choose_spec.2 rfl hj hdj hbj hc hsk hcd rfl rfl hnd hal hd hg hdd
theorem an4 {o1 o2 o3 o4 : Oper} {e2 dj : Nat} {b : Bool} {oj : Oper} {c : Operand} {ds : List Nat} (j : Nat)
    (k : ∃ b2, (b = true → ∀ B, EvL P fz B (Kan e2 b2 h) ops [o1, o2, o3, o4] σ h) ∧ EvL P fz B K ops rest ((d, vbool (b && b2)) :: drp ds σ) h)
    (hj : ops[j]? = some oj := by rfl) (hdj : oj.dst = some dj := by rfl) (hbj : rg σ dj = some (vbool b) := by rfl) (hc : og σ c = some (vbool b) := by rfl)
    (hsk : skipping ops j true [] [o1, o2, o3, o4] = some ds := by rfl) (hcd : ∀ t, c = .tmp t → ds.any (Nat.beq t) = false := by intro t ht; cases ht; rfl)
    (hnd : [o1, o2, o3, o4].all (fun o => match o.dst with | some e => !(Nat.beq e dj) | none => true) = true := by rfl)
    (hal : [o1, o2, o3, o4].all (fun o => match o.dst with | some e => ds.any (Nat.beq e) | none => true) = true := by rfl)
    (hd : Nat.ble (d + 1) fz = true := by rfl) (hg : Gk ops σ g := by first | exact gk0 | exact gk1 rfl rfl rfl (by assumption)) (hdd : ∀ dj', (match g with | some (i, _) => (ops[i]?).bind (·.dst) | none => none) = some dj' → ds.any (Nat.beq dj') = false := by first | nofun | (intro _ h; cases h; rfl)) :
    EvL P fz B K ops (o1 :: o2 :: o3 :: o4 :: ⟨some d, .pick c (.tmp e2) (.const (.bool false)), ty, pos, af, g⟩ :: rest) σ h :=
  short (rest := o1 :: o2 :: o3 :: o4 :: ⟨some d, .pick c (.tmp e2) (.const (.bool false)), ty, pos, af, g⟩ :: rest) j true 4 k.choose_spec.1 k.choose_spec.2 rfl hj hdj hbj hc hsk hcd rfl rfl hnd hal hd hg hdd
theorem orr4 {o1 o2 o3 o4 : Oper} {e2 dj : Nat} {b : Bool} {oj : Oper} {c : Operand} {ds : List Nat} (j : Nat)
    (k : ∃ b2, (b = false → ∀ B, EvL P fz B (Kan e2 b2 h) ops [o1, o2, o3, o4] σ h) ∧ EvL P fz B K ops rest ((d, vbool (b || b2)) :: drp ds σ) h)
    (hj : ops[j]? = some oj := by rfl) (hdj : oj.dst = some dj := by rfl) (hbj : rg σ dj = some (vbool b) := by rfl) (hc : og σ c = some (vbool b) := by rfl)
    (hsk : skipping ops j false [] [o1, o2, o3, o4] = some ds := by rfl) (hcd : ∀ t, c = .tmp t → ds.any (Nat.beq t) = false := by intro t ht; cases ht; rfl)
    (hnd : [o1, o2, o3, o4].all (fun o => match o.dst with | some e => !(Nat.beq e dj) | none => true) = true := by rfl)
    (hal : [o1, o2, o3, o4].all (fun o => match o.dst with | some e => ds.any (Nat.beq e) | none => true) = true := by rfl)
    (hd : Nat.ble (d + 1) fz = true := by rfl) (hg : Gk ops σ g := by first | exact gk0 | exact gk1 rfl rfl rfl (by assumption)) (hdd : ∀ dj', (match g with | some (i, _) => (ops[i]?).bind (·.dst) | none => none) = some dj' → ds.any (Nat.beq dj') = false := by first | nofun | (intro _ h; cases h; rfl)) :
    EvL P fz B K ops (o1 :: o2 :: o3 :: o4 :: ⟨some d, .pick c (.const (.bool true)) (.tmp e2), ty, pos, af, g⟩ :: rest) σ h :=
  short (rest := o1 :: o2 :: o3 :: o4 :: ⟨some d, .pick c (.const (.bool true)) (.tmp e2), ty, pos, af, g⟩ :: rest) j false 4 k.choose_spec.1 k.choose_spec.2 rfl hj hdj hbj hc hsk hcd rfl rfl hnd hal hd hg hdd
theorem an5 {o1 o2 o3 o4 o5 : Oper} {e2 dj : Nat} {b : Bool} {oj : Oper} {c : Operand} {ds : List Nat} (j : Nat)
    (k : ∃ b2, (b = true → ∀ B, EvL P fz B (Kan e2 b2 h) ops [o1, o2, o3, o4, o5] σ h) ∧ EvL P fz B K ops rest ((d, vbool (b && b2)) :: drp ds σ) h)
    (hj : ops[j]? = some oj := by rfl) (hdj : oj.dst = some dj := by rfl) (hbj : rg σ dj = some (vbool b) := by rfl) (hc : og σ c = some (vbool b) := by rfl)
    (hsk : skipping ops j true [] [o1, o2, o3, o4, o5] = some ds := by rfl) (hcd : ∀ t, c = .tmp t → ds.any (Nat.beq t) = false := by intro t ht; cases ht; rfl)
    (hnd : [o1, o2, o3, o4, o5].all (fun o => match o.dst with | some e => !(Nat.beq e dj) | none => true) = true := by rfl)
    (hal : [o1, o2, o3, o4, o5].all (fun o => match o.dst with | some e => ds.any (Nat.beq e) | none => true) = true := by rfl)
    (hd : Nat.ble (d + 1) fz = true := by rfl) (hg : Gk ops σ g := by first | exact gk0 | exact gk1 rfl rfl rfl (by assumption)) (hdd : ∀ dj', (match g with | some (i, _) => (ops[i]?).bind (·.dst) | none => none) = some dj' → ds.any (Nat.beq dj') = false := by first | nofun | (intro _ h; cases h; rfl)) :
    EvL P fz B K ops (o1 :: o2 :: o3 :: o4 :: o5 :: ⟨some d, .pick c (.tmp e2) (.const (.bool false)), ty, pos, af, g⟩ :: rest) σ h :=
  short (rest := o1 :: o2 :: o3 :: o4 :: o5 :: ⟨some d, .pick c (.tmp e2) (.const (.bool false)), ty, pos, af, g⟩ :: rest) j true 5 k.choose_spec.1 k.choose_spec.2 rfl hj hdj hbj hc hsk hcd rfl rfl hnd hal hd hg hdd
theorem orr5 {o1 o2 o3 o4 o5 : Oper} {e2 dj : Nat} {b : Bool} {oj : Oper} {c : Operand} {ds : List Nat} (j : Nat)
    (k : ∃ b2, (b = false → ∀ B, EvL P fz B (Kan e2 b2 h) ops [o1, o2, o3, o4, o5] σ h) ∧ EvL P fz B K ops rest ((d, vbool (b || b2)) :: drp ds σ) h)
    (hj : ops[j]? = some oj := by rfl) (hdj : oj.dst = some dj := by rfl) (hbj : rg σ dj = some (vbool b) := by rfl) (hc : og σ c = some (vbool b) := by rfl)
    (hsk : skipping ops j false [] [o1, o2, o3, o4, o5] = some ds := by rfl) (hcd : ∀ t, c = .tmp t → ds.any (Nat.beq t) = false := by intro t ht; cases ht; rfl)
    (hnd : [o1, o2, o3, o4, o5].all (fun o => match o.dst with | some e => !(Nat.beq e dj) | none => true) = true := by rfl)
    (hal : [o1, o2, o3, o4, o5].all (fun o => match o.dst with | some e => ds.any (Nat.beq e) | none => true) = true := by rfl)
    (hd : Nat.ble (d + 1) fz = true := by rfl) (hg : Gk ops σ g := by first | exact gk0 | exact gk1 rfl rfl rfl (by assumption)) (hdd : ∀ dj', (match g with | some (i, _) => (ops[i]?).bind (·.dst) | none => none) = some dj' → ds.any (Nat.beq dj') = false := by first | nofun | (intro _ h; cases h; rfl)) :
    EvL P fz B K ops (o1 :: o2 :: o3 :: o4 :: o5 :: ⟨some d, .pick c (.const (.bool true)) (.tmp e2), ty, pos, af, g⟩ :: rest) σ h :=
  short (rest := o1 :: o2 :: o3 :: o4 :: o5 :: ⟨some d, .pick c (.const (.bool true)) (.tmp e2), ty, pos, af, g⟩ :: rest) j false 5 k.choose_spec.1 k.choose_spec.2 rfl hj hdj hbj hc hsk hcd rfl rfl hnd hal hd hg hdd
theorem an6 {o1 o2 o3 o4 o5 o6 : Oper} {e2 dj : Nat} {b : Bool} {oj : Oper} {c : Operand} {ds : List Nat} (j : Nat)
    (k : ∃ b2, (b = true → ∀ B, EvL P fz B (Kan e2 b2 h) ops [o1, o2, o3, o4, o5, o6] σ h) ∧ EvL P fz B K ops rest ((d, vbool (b && b2)) :: drp ds σ) h)
    (hj : ops[j]? = some oj := by rfl) (hdj : oj.dst = some dj := by rfl) (hbj : rg σ dj = some (vbool b) := by rfl) (hc : og σ c = some (vbool b) := by rfl)
    (hsk : skipping ops j true [] [o1, o2, o3, o4, o5, o6] = some ds := by rfl) (hcd : ∀ t, c = .tmp t → ds.any (Nat.beq t) = false := by intro t ht; cases ht; rfl)
    (hnd : [o1, o2, o3, o4, o5, o6].all (fun o => match o.dst with | some e => !(Nat.beq e dj) | none => true) = true := by rfl)
    (hal : [o1, o2, o3, o4, o5, o6].all (fun o => match o.dst with | some e => ds.any (Nat.beq e) | none => true) = true := by rfl)
    (hd : Nat.ble (d + 1) fz = true := by rfl) (hg : Gk ops σ g := by first | exact gk0 | exact gk1 rfl rfl rfl (by assumption)) (hdd : ∀ dj', (match g with | some (i, _) => (ops[i]?).bind (·.dst) | none => none) = some dj' → ds.any (Nat.beq dj') = false := by first | nofun | (intro _ h; cases h; rfl)) :
    EvL P fz B K ops (o1 :: o2 :: o3 :: o4 :: o5 :: o6 :: ⟨some d, .pick c (.tmp e2) (.const (.bool false)), ty, pos, af, g⟩ :: rest) σ h :=
  short (rest := o1 :: o2 :: o3 :: o4 :: o5 :: o6 :: ⟨some d, .pick c (.tmp e2) (.const (.bool false)), ty, pos, af, g⟩ :: rest) j true 6 k.choose_spec.1 k.choose_spec.2 rfl hj hdj hbj hc hsk hcd rfl rfl hnd hal hd hg hdd
theorem orr6 {o1 o2 o3 o4 o5 o6 : Oper} {e2 dj : Nat} {b : Bool} {oj : Oper} {c : Operand} {ds : List Nat} (j : Nat)
    (k : ∃ b2, (b = false → ∀ B, EvL P fz B (Kan e2 b2 h) ops [o1, o2, o3, o4, o5, o6] σ h) ∧ EvL P fz B K ops rest ((d, vbool (b || b2)) :: drp ds σ) h)
    (hj : ops[j]? = some oj := by rfl) (hdj : oj.dst = some dj := by rfl) (hbj : rg σ dj = some (vbool b) := by rfl) (hc : og σ c = some (vbool b) := by rfl)
    (hsk : skipping ops j false [] [o1, o2, o3, o4, o5, o6] = some ds := by rfl) (hcd : ∀ t, c = .tmp t → ds.any (Nat.beq t) = false := by intro t ht; cases ht; rfl)
    (hnd : [o1, o2, o3, o4, o5, o6].all (fun o => match o.dst with | some e => !(Nat.beq e dj) | none => true) = true := by rfl)
    (hal : [o1, o2, o3, o4, o5, o6].all (fun o => match o.dst with | some e => ds.any (Nat.beq e) | none => true) = true := by rfl)
    (hd : Nat.ble (d + 1) fz = true := by rfl) (hg : Gk ops σ g := by first | exact gk0 | exact gk1 rfl rfl rfl (by assumption)) (hdd : ∀ dj', (match g with | some (i, _) => (ops[i]?).bind (·.dst) | none => none) = some dj' → ds.any (Nat.beq dj') = false := by first | nofun | (intro _ h; cases h; rfl)) :
    EvL P fz B K ops (o1 :: o2 :: o3 :: o4 :: o5 :: o6 :: ⟨some d, .pick c (.const (.bool true)) (.tmp e2), ty, pos, af, g⟩ :: rest) σ h :=
  short (rest := o1 :: o2 :: o3 :: o4 :: o5 :: o6 :: ⟨some d, .pick c (.const (.bool true)) (.tmp e2), ty, pos, af, g⟩ :: rest) j false 6 k.choose_spec.1 k.choose_spec.2 rfl hj hdj hbj hc hsk hcd rfl rfl hnd hal hd hg hdd
theorem an7 {o1 o2 o3 o4 o5 o6 o7 : Oper} {e2 dj : Nat} {b : Bool} {oj : Oper} {c : Operand} {ds : List Nat} (j : Nat)
    (k : ∃ b2, (b = true → ∀ B, EvL P fz B (Kan e2 b2 h) ops [o1, o2, o3, o4, o5, o6, o7] σ h) ∧ EvL P fz B K ops rest ((d, vbool (b && b2)) :: drp ds σ) h)
    (hj : ops[j]? = some oj := by rfl) (hdj : oj.dst = some dj := by rfl) (hbj : rg σ dj = some (vbool b) := by rfl) (hc : og σ c = some (vbool b) := by rfl)
    (hsk : skipping ops j true [] [o1, o2, o3, o4, o5, o6, o7] = some ds := by rfl) (hcd : ∀ t, c = .tmp t → ds.any (Nat.beq t) = false := by intro t ht; cases ht; rfl)
    (hnd : [o1, o2, o3, o4, o5, o6, o7].all (fun o => match o.dst with | some e => !(Nat.beq e dj) | none => true) = true := by rfl)
    (hal : [o1, o2, o3, o4, o5, o6, o7].all (fun o => match o.dst with | some e => ds.any (Nat.beq e) | none => true) = true := by rfl)
    (hd : Nat.ble (d + 1) fz = true := by rfl) (hg : Gk ops σ g := by first | exact gk0 | exact gk1 rfl rfl rfl (by assumption)) (hdd : ∀ dj', (match g with | some (i, _) => (ops[i]?).bind (·.dst) | none => none) = some dj' → ds.any (Nat.beq dj') = false := by first | nofun | (intro _ h; cases h; rfl)) :
    EvL P fz B K ops (o1 :: o2 :: o3 :: o4 :: o5 :: o6 :: o7 :: ⟨some d, .pick c (.tmp e2) (.const (.bool false)), ty, pos, af, g⟩ :: rest) σ h :=
  short (rest := o1 :: o2 :: o3 :: o4 :: o5 :: o6 :: o7 :: ⟨some d, .pick c (.tmp e2) (.const (.bool false)), ty, pos, af, g⟩ :: rest) j true 7 k.choose_spec.1 k.choose_spec.2 rfl hj hdj hbj hc hsk hcd rfl rfl hnd hal hd hg hdd
theorem orr7 {o1 o2 o3 o4 o5 o6 o7 : Oper} {e2 dj : Nat} {b : Bool} {oj : Oper} {c : Operand} {ds : List Nat} (j : Nat)
    (k : ∃ b2, (b = false → ∀ B, EvL P fz B (Kan e2 b2 h) ops [o1, o2, o3, o4, o5, o6, o7] σ h) ∧ EvL P fz B K ops rest ((d, vbool (b || b2)) :: drp ds σ) h)
    (hj : ops[j]? = some oj := by rfl) (hdj : oj.dst = some dj := by rfl) (hbj : rg σ dj = some (vbool b) := by rfl) (hc : og σ c = some (vbool b) := by rfl)
    (hsk : skipping ops j false [] [o1, o2, o3, o4, o5, o6, o7] = some ds := by rfl) (hcd : ∀ t, c = .tmp t → ds.any (Nat.beq t) = false := by intro t ht; cases ht; rfl)
    (hnd : [o1, o2, o3, o4, o5, o6, o7].all (fun o => match o.dst with | some e => !(Nat.beq e dj) | none => true) = true := by rfl)
    (hal : [o1, o2, o3, o4, o5, o6, o7].all (fun o => match o.dst with | some e => ds.any (Nat.beq e) | none => true) = true := by rfl)
    (hd : Nat.ble (d + 1) fz = true := by rfl) (hg : Gk ops σ g := by first | exact gk0 | exact gk1 rfl rfl rfl (by assumption)) (hdd : ∀ dj', (match g with | some (i, _) => (ops[i]?).bind (·.dst) | none => none) = some dj' → ds.any (Nat.beq dj') = false := by first | nofun | (intro _ h; cases h; rfl)) :
    EvL P fz B K ops (o1 :: o2 :: o3 :: o4 :: o5 :: o6 :: o7 :: ⟨some d, .pick c (.const (.bool true)) (.tmp e2), ty, pos, af, g⟩ :: rest) σ h :=
  short (rest := o1 :: o2 :: o3 :: o4 :: o5 :: o6 :: o7 :: ⟨some d, .pick c (.const (.bool true)) (.tmp e2), ty, pos, af, g⟩ :: rest) j false 7 k.choose_spec.1 k.choose_spec.2 rfl hj hdj hbj hc hsk hcd rfl rfl hnd hal hd hg hdd
theorem an8 {o1 o2 o3 o4 o5 o6 o7 o8 : Oper} {e2 dj : Nat} {b : Bool} {oj : Oper} {c : Operand} {ds : List Nat} (j : Nat)
    (k : ∃ b2, (b = true → ∀ B, EvL P fz B (Kan e2 b2 h) ops [o1, o2, o3, o4, o5, o6, o7, o8] σ h) ∧ EvL P fz B K ops rest ((d, vbool (b && b2)) :: drp ds σ) h)
    (hj : ops[j]? = some oj := by rfl) (hdj : oj.dst = some dj := by rfl) (hbj : rg σ dj = some (vbool b) := by rfl) (hc : og σ c = some (vbool b) := by rfl)
    (hsk : skipping ops j true [] [o1, o2, o3, o4, o5, o6, o7, o8] = some ds := by rfl) (hcd : ∀ t, c = .tmp t → ds.any (Nat.beq t) = false := by intro t ht; cases ht; rfl)
    (hnd : [o1, o2, o3, o4, o5, o6, o7, o8].all (fun o => match o.dst with | some e => !(Nat.beq e dj) | none => true) = true := by rfl)
    (hal : [o1, o2, o3, o4, o5, o6, o7, o8].all (fun o => match o.dst with | some e => ds.any (Nat.beq e) | none => true) = true := by rfl)
    (hd : Nat.ble (d + 1) fz = true := by rfl) (hg : Gk ops σ g := by first | exact gk0 | exact gk1 rfl rfl rfl (by assumption)) (hdd : ∀ dj', (match g with | some (i, _) => (ops[i]?).bind (·.dst) | none => none) = some dj' → ds.any (Nat.beq dj') = false := by first | nofun | (intro _ h; cases h; rfl)) :
    EvL P fz B K ops (o1 :: o2 :: o3 :: o4 :: o5 :: o6 :: o7 :: o8 :: ⟨some d, .pick c (.tmp e2) (.const (.bool false)), ty, pos, af, g⟩ :: rest) σ h :=
  short (rest := o1 :: o2 :: o3 :: o4 :: o5 :: o6 :: o7 :: o8 :: ⟨some d, .pick c (.tmp e2) (.const (.bool false)), ty, pos, af, g⟩ :: rest) j true 8 k.choose_spec.1 k.choose_spec.2 rfl hj hdj hbj hc hsk hcd rfl rfl hnd hal hd hg hdd
theorem orr8 {o1 o2 o3 o4 o5 o6 o7 o8 : Oper} {e2 dj : Nat} {b : Bool} {oj : Oper} {c : Operand} {ds : List Nat} (j : Nat)
    (k : ∃ b2, (b = false → ∀ B, EvL P fz B (Kan e2 b2 h) ops [o1, o2, o3, o4, o5, o6, o7, o8] σ h) ∧ EvL P fz B K ops rest ((d, vbool (b || b2)) :: drp ds σ) h)
    (hj : ops[j]? = some oj := by rfl) (hdj : oj.dst = some dj := by rfl) (hbj : rg σ dj = some (vbool b) := by rfl) (hc : og σ c = some (vbool b) := by rfl)
    (hsk : skipping ops j false [] [o1, o2, o3, o4, o5, o6, o7, o8] = some ds := by rfl) (hcd : ∀ t, c = .tmp t → ds.any (Nat.beq t) = false := by intro t ht; cases ht; rfl)
    (hnd : [o1, o2, o3, o4, o5, o6, o7, o8].all (fun o => match o.dst with | some e => !(Nat.beq e dj) | none => true) = true := by rfl)
    (hal : [o1, o2, o3, o4, o5, o6, o7, o8].all (fun o => match o.dst with | some e => ds.any (Nat.beq e) | none => true) = true := by rfl)
    (hd : Nat.ble (d + 1) fz = true := by rfl) (hg : Gk ops σ g := by first | exact gk0 | exact gk1 rfl rfl rfl (by assumption)) (hdd : ∀ dj', (match g with | some (i, _) => (ops[i]?).bind (·.dst) | none => none) = some dj' → ds.any (Nat.beq dj') = false := by first | nofun | (intro _ h; cases h; rfl)) :
    EvL P fz B K ops (o1 :: o2 :: o3 :: o4 :: o5 :: o6 :: o7 :: o8 :: ⟨some d, .pick c (.const (.bool true)) (.tmp e2), ty, pos, af, g⟩ :: rest) σ h :=
  short (rest := o1 :: o2 :: o3 :: o4 :: o5 :: o6 :: o7 :: o8 :: ⟨some d, .pick c (.const (.bool true)) (.tmp e2), ty, pos, af, g⟩ :: rest) j false 8 k.choose_spec.1 k.choose_spec.2 rfl hj hdj hbj hc hsk hcd rfl rfl hnd hal hd hg hdd
theorem an9 {o1 o2 o3 o4 o5 o6 o7 o8 o9 : Oper} {e2 dj : Nat} {b : Bool} {oj : Oper} {c : Operand} {ds : List Nat} (j : Nat)
    (k : ∃ b2, (b = true → ∀ B, EvL P fz B (Kan e2 b2 h) ops [o1, o2, o3, o4, o5, o6, o7, o8, o9] σ h) ∧ EvL P fz B K ops rest ((d, vbool (b && b2)) :: drp ds σ) h)
    (hj : ops[j]? = some oj := by rfl) (hdj : oj.dst = some dj := by rfl) (hbj : rg σ dj = some (vbool b) := by rfl) (hc : og σ c = some (vbool b) := by rfl)
    (hsk : skipping ops j true [] [o1, o2, o3, o4, o5, o6, o7, o8, o9] = some ds := by rfl) (hcd : ∀ t, c = .tmp t → ds.any (Nat.beq t) = false := by intro t ht; cases ht; rfl)
    (hnd : [o1, o2, o3, o4, o5, o6, o7, o8, o9].all (fun o => match o.dst with | some e => !(Nat.beq e dj) | none => true) = true := by rfl)
    (hal : [o1, o2, o3, o4, o5, o6, o7, o8, o9].all (fun o => match o.dst with | some e => ds.any (Nat.beq e) | none => true) = true := by rfl)
    (hd : Nat.ble (d + 1) fz = true := by rfl) (hg : Gk ops σ g := by first | exact gk0 | exact gk1 rfl rfl rfl (by assumption)) (hdd : ∀ dj', (match g with | some (i, _) => (ops[i]?).bind (·.dst) | none => none) = some dj' → ds.any (Nat.beq dj') = false := by first | nofun | (intro _ h; cases h; rfl)) :
    EvL P fz B K ops (o1 :: o2 :: o3 :: o4 :: o5 :: o6 :: o7 :: o8 :: o9 :: ⟨some d, .pick c (.tmp e2) (.const (.bool false)), ty, pos, af, g⟩ :: rest) σ h :=
  short (rest := o1 :: o2 :: o3 :: o4 :: o5 :: o6 :: o7 :: o8 :: o9 :: ⟨some d, .pick c (.tmp e2) (.const (.bool false)), ty, pos, af, g⟩ :: rest) j true 9 k.choose_spec.1 k.choose_spec.2 rfl hj hdj hbj hc hsk hcd rfl rfl hnd hal hd hg hdd
theorem orr9 {o1 o2 o3 o4 o5 o6 o7 o8 o9 : Oper} {e2 dj : Nat} {b : Bool} {oj : Oper} {c : Operand} {ds : List Nat} (j : Nat)
    (k : ∃ b2, (b = false → ∀ B, EvL P fz B (Kan e2 b2 h) ops [o1, o2, o3, o4, o5, o6, o7, o8, o9] σ h) ∧ EvL P fz B K ops rest ((d, vbool (b || b2)) :: drp ds σ) h)
    (hj : ops[j]? = some oj := by rfl) (hdj : oj.dst = some dj := by rfl) (hbj : rg σ dj = some (vbool b) := by rfl) (hc : og σ c = some (vbool b) := by rfl)
    (hsk : skipping ops j false [] [o1, o2, o3, o4, o5, o6, o7, o8, o9] = some ds := by rfl) (hcd : ∀ t, c = .tmp t → ds.any (Nat.beq t) = false := by intro t ht; cases ht; rfl)
    (hnd : [o1, o2, o3, o4, o5, o6, o7, o8, o9].all (fun o => match o.dst with | some e => !(Nat.beq e dj) | none => true) = true := by rfl)
    (hal : [o1, o2, o3, o4, o5, o6, o7, o8, o9].all (fun o => match o.dst with | some e => ds.any (Nat.beq e) | none => true) = true := by rfl)
    (hd : Nat.ble (d + 1) fz = true := by rfl) (hg : Gk ops σ g := by first | exact gk0 | exact gk1 rfl rfl rfl (by assumption)) (hdd : ∀ dj', (match g with | some (i, _) => (ops[i]?).bind (·.dst) | none => none) = some dj' → ds.any (Nat.beq dj') = false := by first | nofun | (intro _ h; cases h; rfl)) :
    EvL P fz B K ops (o1 :: o2 :: o3 :: o4 :: o5 :: o6 :: o7 :: o8 :: o9 :: ⟨some d, .pick c (.const (.bool true)) (.tmp e2), ty, pos, af, g⟩ :: rest) σ h :=
  short (rest := o1 :: o2 :: o3 :: o4 :: o5 :: o6 :: o7 :: o8 :: o9 :: ⟨some d, .pick c (.const (.bool true)) (.tmp e2), ty, pos, af, g⟩ :: rest) j false 9 k.choose_spec.1 k.choose_spec.2 rfl hj hdj hbj hc hsk hcd rfl rfl hnd hal hd hg hdd
theorem an10 {o1 o2 o3 o4 o5 o6 o7 o8 o9 o10 : Oper} {e2 dj : Nat} {b : Bool} {oj : Oper} {c : Operand} {ds : List Nat} (j : Nat)
    (k : ∃ b2, (b = true → ∀ B, EvL P fz B (Kan e2 b2 h) ops [o1, o2, o3, o4, o5, o6, o7, o8, o9, o10] σ h) ∧ EvL P fz B K ops rest ((d, vbool (b && b2)) :: drp ds σ) h)
    (hj : ops[j]? = some oj := by rfl) (hdj : oj.dst = some dj := by rfl) (hbj : rg σ dj = some (vbool b) := by rfl) (hc : og σ c = some (vbool b) := by rfl)
    (hsk : skipping ops j true [] [o1, o2, o3, o4, o5, o6, o7, o8, o9, o10] = some ds := by rfl) (hcd : ∀ t, c = .tmp t → ds.any (Nat.beq t) = false := by intro t ht; cases ht; rfl)
    (hnd : [o1, o2, o3, o4, o5, o6, o7, o8, o9, o10].all (fun o => match o.dst with | some e => !(Nat.beq e dj) | none => true) = true := by rfl)
    (hal : [o1, o2, o3, o4, o5, o6, o7, o8, o9, o10].all (fun o => match o.dst with | some e => ds.any (Nat.beq e) | none => true) = true := by rfl)
    (hd : Nat.ble (d + 1) fz = true := by rfl) (hg : Gk ops σ g := by first | exact gk0 | exact gk1 rfl rfl rfl (by assumption)) (hdd : ∀ dj', (match g with | some (i, _) => (ops[i]?).bind (·.dst) | none => none) = some dj' → ds.any (Nat.beq dj') = false := by first | nofun | (intro _ h; cases h; rfl)) :
    EvL P fz B K ops (o1 :: o2 :: o3 :: o4 :: o5 :: o6 :: o7 :: o8 :: o9 :: o10 :: ⟨some d, .pick c (.tmp e2) (.const (.bool false)), ty, pos, af, g⟩ :: rest) σ h :=
  short (rest := o1 :: o2 :: o3 :: o4 :: o5 :: o6 :: o7 :: o8 :: o9 :: o10 :: ⟨some d, .pick c (.tmp e2) (.const (.bool false)), ty, pos, af, g⟩ :: rest) j true 10 k.choose_spec.1 k.choose_spec.2 rfl hj hdj hbj hc hsk hcd rfl rfl hnd hal hd hg hdd
theorem orr10 {o1 o2 o3 o4 o5 o6 o7 o8 o9 o10 : Oper} {e2 dj : Nat} {b : Bool} {oj : Oper} {c : Operand} {ds : List Nat} (j : Nat)
    (k : ∃ b2, (b = false → ∀ B, EvL P fz B (Kan e2 b2 h) ops [o1, o2, o3, o4, o5, o6, o7, o8, o9, o10] σ h) ∧ EvL P fz B K ops rest ((d, vbool (b || b2)) :: drp ds σ) h)
    (hj : ops[j]? = some oj := by rfl) (hdj : oj.dst = some dj := by rfl) (hbj : rg σ dj = some (vbool b) := by rfl) (hc : og σ c = some (vbool b) := by rfl)
    (hsk : skipping ops j false [] [o1, o2, o3, o4, o5, o6, o7, o8, o9, o10] = some ds := by rfl) (hcd : ∀ t, c = .tmp t → ds.any (Nat.beq t) = false := by intro t ht; cases ht; rfl)
    (hnd : [o1, o2, o3, o4, o5, o6, o7, o8, o9, o10].all (fun o => match o.dst with | some e => !(Nat.beq e dj) | none => true) = true := by rfl)
    (hal : [o1, o2, o3, o4, o5, o6, o7, o8, o9, o10].all (fun o => match o.dst with | some e => ds.any (Nat.beq e) | none => true) = true := by rfl)
    (hd : Nat.ble (d + 1) fz = true := by rfl) (hg : Gk ops σ g := by first | exact gk0 | exact gk1 rfl rfl rfl (by assumption)) (hdd : ∀ dj', (match g with | some (i, _) => (ops[i]?).bind (·.dst) | none => none) = some dj' → ds.any (Nat.beq dj') = false := by first | nofun | (intro _ h; cases h; rfl)) :
    EvL P fz B K ops (o1 :: o2 :: o3 :: o4 :: o5 :: o6 :: o7 :: o8 :: o9 :: o10 :: ⟨some d, .pick c (.const (.bool true)) (.tmp e2), ty, pos, af, g⟩ :: rest) σ h :=
  short (rest := o1 :: o2 :: o3 :: o4 :: o5 :: o6 :: o7 :: o8 :: o9 :: o10 :: ⟨some d, .pick c (.const (.bool true)) (.tmp e2), ty, pos, af, g⟩ :: rest) j false 10 k.choose_spec.1 k.choose_spec.2 rfl hj hdj hbj hc hsk hcd rfl rfl hnd hal hd hg hdd
theorem an11 {o1 o2 o3 o4 o5 o6 o7 o8 o9 o10 o11 : Oper} {e2 dj : Nat} {b : Bool} {oj : Oper} {c : Operand} {ds : List Nat} (j : Nat)
    (k : ∃ b2, (b = true → ∀ B, EvL P fz B (Kan e2 b2 h) ops [o1, o2, o3, o4, o5, o6, o7, o8, o9, o10, o11] σ h) ∧ EvL P fz B K ops rest ((d, vbool (b && b2)) :: drp ds σ) h)
    (hj : ops[j]? = some oj := by rfl) (hdj : oj.dst = some dj := by rfl) (hbj : rg σ dj = some (vbool b) := by rfl) (hc : og σ c = some (vbool b) := by rfl)
    (hsk : skipping ops j true [] [o1, o2, o3, o4, o5, o6, o7, o8, o9, o10, o11] = some ds := by rfl) (hcd : ∀ t, c = .tmp t → ds.any (Nat.beq t) = false := by intro t ht; cases ht; rfl)
    (hnd : [o1, o2, o3, o4, o5, o6, o7, o8, o9, o10, o11].all (fun o => match o.dst with | some e => !(Nat.beq e dj) | none => true) = true := by rfl)
    (hal : [o1, o2, o3, o4, o5, o6, o7, o8, o9, o10, o11].all (fun o => match o.dst with | some e => ds.any (Nat.beq e) | none => true) = true := by rfl)
    (hd : Nat.ble (d + 1) fz = true := by rfl) (hg : Gk ops σ g := by first | exact gk0 | exact gk1 rfl rfl rfl (by assumption)) (hdd : ∀ dj', (match g with | some (i, _) => (ops[i]?).bind (·.dst) | none => none) = some dj' → ds.any (Nat.beq dj') = false := by first | nofun | (intro _ h; cases h; rfl)) :
    EvL P fz B K ops (o1 :: o2 :: o3 :: o4 :: o5 :: o6 :: o7 :: o8 :: o9 :: o10 :: o11 :: ⟨some d, .pick c (.tmp e2) (.const (.bool false)), ty, pos, af, g⟩ :: rest) σ h :=
  short (rest := o1 :: o2 :: o3 :: o4 :: o5 :: o6 :: o7 :: o8 :: o9 :: o10 :: o11 :: ⟨some d, .pick c (.tmp e2) (.const (.bool false)), ty, pos, af, g⟩ :: rest) j true 11 k.choose_spec.1 k.choose_spec.2 rfl hj hdj hbj hc hsk hcd rfl rfl hnd hal hd hg hdd
theorem orr11 {o1 o2 o3 o4 o5 o6 o7 o8 o9 o10 o11 : Oper} {e2 dj : Nat} {b : Bool} {oj : Oper} {c : Operand} {ds : List Nat} (j : Nat)
    (k : ∃ b2, (b = false → ∀ B, EvL P fz B (Kan e2 b2 h) ops [o1, o2, o3, o4, o5, o6, o7, o8, o9, o10, o11] σ h) ∧ EvL P fz B K ops rest ((d, vbool (b || b2)) :: drp ds σ) h)
    (hj : ops[j]? = some oj := by rfl) (hdj : oj.dst = some dj := by rfl) (hbj : rg σ dj = some (vbool b) := by rfl) (hc : og σ c = some (vbool b) := by rfl)
    (hsk : skipping ops j false [] [o1, o2, o3, o4, o5, o6, o7, o8, o9, o10, o11] = some ds := by rfl) (hcd : ∀ t, c = .tmp t → ds.any (Nat.beq t) = false := by intro t ht; cases ht; rfl)
    (hnd : [o1, o2, o3, o4, o5, o6, o7, o8, o9, o10, o11].all (fun o => match o.dst with | some e => !(Nat.beq e dj) | none => true) = true := by rfl)
    (hal : [o1, o2, o3, o4, o5, o6, o7, o8, o9, o10, o11].all (fun o => match o.dst with | some e => ds.any (Nat.beq e) | none => true) = true := by rfl)
    (hd : Nat.ble (d + 1) fz = true := by rfl) (hg : Gk ops σ g := by first | exact gk0 | exact gk1 rfl rfl rfl (by assumption)) (hdd : ∀ dj', (match g with | some (i, _) => (ops[i]?).bind (·.dst) | none => none) = some dj' → ds.any (Nat.beq dj') = false := by first | nofun | (intro _ h; cases h; rfl)) :
    EvL P fz B K ops (o1 :: o2 :: o3 :: o4 :: o5 :: o6 :: o7 :: o8 :: o9 :: o10 :: o11 :: ⟨some d, .pick c (.const (.bool true)) (.tmp e2), ty, pos, af, g⟩ :: rest) σ h :=
  short (rest := o1 :: o2 :: o3 :: o4 :: o5 :: o6 :: o7 :: o8 :: o9 :: o10 :: o11 :: ⟨some d, .pick c (.const (.bool true)) (.tmp e2), ty, pos, af, g⟩ :: rest) j false 11 k.choose_spec.1 k.choose_spec.2 rfl hj hdj hbj hc hsk hcd rfl rfl hnd hal hd hg hdd
theorem an12 {o1 o2 o3 o4 o5 o6 o7 o8 o9 o10 o11 o12 : Oper} {e2 dj : Nat} {b : Bool} {oj : Oper} {c : Operand} {ds : List Nat} (j : Nat)
    (k : ∃ b2, (b = true → ∀ B, EvL P fz B (Kan e2 b2 h) ops [o1, o2, o3, o4, o5, o6, o7, o8, o9, o10, o11, o12] σ h) ∧ EvL P fz B K ops rest ((d, vbool (b && b2)) :: drp ds σ) h)
    (hj : ops[j]? = some oj := by rfl) (hdj : oj.dst = some dj := by rfl) (hbj : rg σ dj = some (vbool b) := by rfl) (hc : og σ c = some (vbool b) := by rfl)
    (hsk : skipping ops j true [] [o1, o2, o3, o4, o5, o6, o7, o8, o9, o10, o11, o12] = some ds := by rfl) (hcd : ∀ t, c = .tmp t → ds.any (Nat.beq t) = false := by intro t ht; cases ht; rfl)
    (hnd : [o1, o2, o3, o4, o5, o6, o7, o8, o9, o10, o11, o12].all (fun o => match o.dst with | some e => !(Nat.beq e dj) | none => true) = true := by rfl)
    (hal : [o1, o2, o3, o4, o5, o6, o7, o8, o9, o10, o11, o12].all (fun o => match o.dst with | some e => ds.any (Nat.beq e) | none => true) = true := by rfl)
    (hd : Nat.ble (d + 1) fz = true := by rfl) (hg : Gk ops σ g := by first | exact gk0 | exact gk1 rfl rfl rfl (by assumption)) (hdd : ∀ dj', (match g with | some (i, _) => (ops[i]?).bind (·.dst) | none => none) = some dj' → ds.any (Nat.beq dj') = false := by first | nofun | (intro _ h; cases h; rfl)) :
    EvL P fz B K ops (o1 :: o2 :: o3 :: o4 :: o5 :: o6 :: o7 :: o8 :: o9 :: o10 :: o11 :: o12 :: ⟨some d, .pick c (.tmp e2) (.const (.bool false)), ty, pos, af, g⟩ :: rest) σ h :=
  short (rest := o1 :: o2 :: o3 :: o4 :: o5 :: o6 :: o7 :: o8 :: o9 :: o10 :: o11 :: o12 :: ⟨some d, .pick c (.tmp e2) (.const (.bool false)), ty, pos, af, g⟩ :: rest) j true 12 k.choose_spec.1 k.choose_spec.2 rfl hj hdj hbj hc hsk hcd rfl rfl hnd hal hd hg hdd
theorem orr12 {o1 o2 o3 o4 o5 o6 o7 o8 o9 o10 o11 o12 : Oper} {e2 dj : Nat} {b : Bool} {oj : Oper} {c : Operand} {ds : List Nat} (j : Nat)
    (k : ∃ b2, (b = false → ∀ B, EvL P fz B (Kan e2 b2 h) ops [o1, o2, o3, o4, o5, o6, o7, o8, o9, o10, o11, o12] σ h) ∧ EvL P fz B K ops rest ((d, vbool (b || b2)) :: drp ds σ) h)
    (hj : ops[j]? = some oj := by rfl) (hdj : oj.dst = some dj := by rfl) (hbj : rg σ dj = some (vbool b) := by rfl) (hc : og σ c = some (vbool b) := by rfl)
    (hsk : skipping ops j false [] [o1, o2, o3, o4, o5, o6, o7, o8, o9, o10, o11, o12] = some ds := by rfl) (hcd : ∀ t, c = .tmp t → ds.any (Nat.beq t) = false := by intro t ht; cases ht; rfl)
    (hnd : [o1, o2, o3, o4, o5, o6, o7, o8, o9, o10, o11, o12].all (fun o => match o.dst with | some e => !(Nat.beq e dj) | none => true) = true := by rfl)
    (hal : [o1, o2, o3, o4, o5, o6, o7, o8, o9, o10, o11, o12].all (fun o => match o.dst with | some e => ds.any (Nat.beq e) | none => true) = true := by rfl)
    (hd : Nat.ble (d + 1) fz = true := by rfl) (hg : Gk ops σ g := by first | exact gk0 | exact gk1 rfl rfl rfl (by assumption)) (hdd : ∀ dj', (match g with | some (i, _) => (ops[i]?).bind (·.dst) | none => none) = some dj' → ds.any (Nat.beq dj') = false := by first | nofun | (intro _ h; cases h; rfl)) :
    EvL P fz B K ops (o1 :: o2 :: o3 :: o4 :: o5 :: o6 :: o7 :: o8 :: o9 :: o10 :: o11 :: o12 :: ⟨some d, .pick c (.const (.bool true)) (.tmp e2), ty, pos, af, g⟩ :: rest) σ h :=
  short (rest := o1 :: o2 :: o3 :: o4 :: o5 :: o6 :: o7 :: o8 :: o9 :: o10 :: o11 :: o12 :: ⟨some d, .pick c (.const (.bool true)) (.tmp e2), ty, pos, af, g⟩ :: rest) j false 12 k.choose_spec.1 k.choose_spec.2 rfl hj hdj hbj hc hsk hcd rfl rfl hnd hal hd hg hdd
theorem an13 {o1 o2 o3 o4 o5 o6 o7 o8 o9 o10 o11 o12 o13 : Oper} {e2 dj : Nat} {b : Bool} {oj : Oper} {c : Operand} {ds : List Nat} (j : Nat)
    (k : ∃ b2, (b = true → ∀ B, EvL P fz B (Kan e2 b2 h) ops [o1, o2, o3, o4, o5, o6, o7, o8, o9, o10, o11, o12, o13] σ h) ∧ EvL P fz B K ops rest ((d, vbool (b && b2)) :: drp ds σ) h)
    (hj : ops[j]? = some oj := by rfl) (hdj : oj.dst = some dj := by rfl) (hbj : rg σ dj = some (vbool b) := by rfl) (hc : og σ c = some (vbool b) := by rfl)
    (hsk : skipping ops j true [] [o1, o2, o3, o4, o5, o6, o7, o8, o9, o10, o11, o12, o13] = some ds := by rfl) (hcd : ∀ t, c = .tmp t → ds.any (Nat.beq t) = false := by intro t ht; cases ht; rfl)
    (hnd : [o1, o2, o3, o4, o5, o6, o7, o8, o9, o10, o11, o12, o13].all (fun o => match o.dst with | some e => !(Nat.beq e dj) | none => true) = true := by rfl)
    (hal : [o1, o2, o3, o4, o5, o6, o7, o8, o9, o10, o11, o12, o13].all (fun o => match o.dst with | some e => ds.any (Nat.beq e) | none => true) = true := by rfl)
    (hd : Nat.ble (d + 1) fz = true := by rfl) (hg : Gk ops σ g := by first | exact gk0 | exact gk1 rfl rfl rfl (by assumption)) (hdd : ∀ dj', (match g with | some (i, _) => (ops[i]?).bind (·.dst) | none => none) = some dj' → ds.any (Nat.beq dj') = false := by first | nofun | (intro _ h; cases h; rfl)) :
    EvL P fz B K ops (o1 :: o2 :: o3 :: o4 :: o5 :: o6 :: o7 :: o8 :: o9 :: o10 :: o11 :: o12 :: o13 :: ⟨some d, .pick c (.tmp e2) (.const (.bool false)), ty, pos, af, g⟩ :: rest) σ h :=
  short (rest := o1 :: o2 :: o3 :: o4 :: o5 :: o6 :: o7 :: o8 :: o9 :: o10 :: o11 :: o12 :: o13 :: ⟨some d, .pick c (.tmp e2) (.const (.bool false)), ty, pos, af, g⟩ :: rest) j true 13 k.choose_spec.1 k.choose_spec.2 rfl hj hdj hbj hc hsk hcd rfl rfl hnd hal hd hg hdd
theorem orr13 {o1 o2 o3 o4 o5 o6 o7 o8 o9 o10 o11 o12 o13 : Oper} {e2 dj : Nat} {b : Bool} {oj : Oper} {c : Operand} {ds : List Nat} (j : Nat)
    (k : ∃ b2, (b = false → ∀ B, EvL P fz B (Kan e2 b2 h) ops [o1, o2, o3, o4, o5, o6, o7, o8, o9, o10, o11, o12, o13] σ h) ∧ EvL P fz B K ops rest ((d, vbool (b || b2)) :: drp ds σ) h)
    (hj : ops[j]? = some oj := by rfl) (hdj : oj.dst = some dj := by rfl) (hbj : rg σ dj = some (vbool b) := by rfl) (hc : og σ c = some (vbool b) := by rfl)
    (hsk : skipping ops j false [] [o1, o2, o3, o4, o5, o6, o7, o8, o9, o10, o11, o12, o13] = some ds := by rfl) (hcd : ∀ t, c = .tmp t → ds.any (Nat.beq t) = false := by intro t ht; cases ht; rfl)
    (hnd : [o1, o2, o3, o4, o5, o6, o7, o8, o9, o10, o11, o12, o13].all (fun o => match o.dst with | some e => !(Nat.beq e dj) | none => true) = true := by rfl)
    (hal : [o1, o2, o3, o4, o5, o6, o7, o8, o9, o10, o11, o12, o13].all (fun o => match o.dst with | some e => ds.any (Nat.beq e) | none => true) = true := by rfl)
    (hd : Nat.ble (d + 1) fz = true := by rfl) (hg : Gk ops σ g := by first | exact gk0 | exact gk1 rfl rfl rfl (by assumption)) (hdd : ∀ dj', (match g with | some (i, _) => (ops[i]?).bind (·.dst) | none => none) = some dj' → ds.any (Nat.beq dj') = false := by first | nofun | (intro _ h; cases h; rfl)) :
    EvL P fz B K ops (o1 :: o2 :: o3 :: o4 :: o5 :: o6 :: o7 :: o8 :: o9 :: o10 :: o11 :: o12 :: o13 :: ⟨some d, .pick c (.const (.bool true)) (.tmp e2), ty, pos, af, g⟩ :: rest) σ h :=
  short (rest := o1 :: o2 :: o3 :: o4 :: o5 :: o6 :: o7 :: o8 :: o9 :: o10 :: o11 :: o12 :: o13 :: ⟨some d, .pick c (.const (.bool true)) (.tmp e2), ty, pos, af, g⟩ :: rest) j false 13 k.choose_spec.1 k.choose_spec.2 rfl hj hdj hbj hc hsk hcd rfl rfl hnd hal hd hg hdd
theorem an14 {o1 o2 o3 o4 o5 o6 o7 o8 o9 o10 o11 o12 o13 o14 : Oper} {e2 dj : Nat} {b : Bool} {oj : Oper} {c : Operand} {ds : List Nat} (j : Nat)
    (k : ∃ b2, (b = true → ∀ B, EvL P fz B (Kan e2 b2 h) ops [o1, o2, o3, o4, o5, o6, o7, o8, o9, o10, o11, o12, o13, o14] σ h) ∧ EvL P fz B K ops rest ((d, vbool (b && b2)) :: drp ds σ) h)
    (hj : ops[j]? = some oj := by rfl) (hdj : oj.dst = some dj := by rfl) (hbj : rg σ dj = some (vbool b) := by rfl) (hc : og σ c = some (vbool b) := by rfl)
    (hsk : skipping ops j true [] [o1, o2, o3, o4, o5, o6, o7, o8, o9, o10, o11, o12, o13, o14] = some ds := by rfl) (hcd : ∀ t, c = .tmp t → ds.any (Nat.beq t) = false := by intro t ht; cases ht; rfl)
    (hnd : [o1, o2, o3, o4, o5, o6, o7, o8, o9, o10, o11, o12, o13, o14].all (fun o => match o.dst with | some e => !(Nat.beq e dj) | none => true) = true := by rfl)
    (hal : [o1, o2, o3, o4, o5, o6, o7, o8, o9, o10, o11, o12, o13, o14].all (fun o => match o.dst with | some e => ds.any (Nat.beq e) | none => true) = true := by rfl)
    (hd : Nat.ble (d + 1) fz = true := by rfl) (hg : Gk ops σ g := by first | exact gk0 | exact gk1 rfl rfl rfl (by assumption)) (hdd : ∀ dj', (match g with | some (i, _) => (ops[i]?).bind (·.dst) | none => none) = some dj' → ds.any (Nat.beq dj') = false := by first | nofun | (intro _ h; cases h; rfl)) :
    EvL P fz B K ops (o1 :: o2 :: o3 :: o4 :: o5 :: o6 :: o7 :: o8 :: o9 :: o10 :: o11 :: o12 :: o13 :: o14 :: ⟨some d, .pick c (.tmp e2) (.const (.bool false)), ty, pos, af, g⟩ :: rest) σ h :=
  short (rest := o1 :: o2 :: o3 :: o4 :: o5 :: o6 :: o7 :: o8 :: o9 :: o10 :: o11 :: o12 :: o13 :: o14 :: ⟨some d, .pick c (.tmp e2) (.const (.bool false)), ty, pos, af, g⟩ :: rest) j true 14 k.choose_spec.1 k.choose_spec.2 rfl hj hdj hbj hc hsk hcd rfl rfl hnd hal hd hg hdd
theorem orr14 {o1 o2 o3 o4 o5 o6 o7 o8 o9 o10 o11 o12 o13 o14 : Oper} {e2 dj : Nat} {b : Bool} {oj : Oper} {c : Operand} {ds : List Nat} (j : Nat)
    (k : ∃ b2, (b = false → ∀ B, EvL P fz B (Kan e2 b2 h) ops [o1, o2, o3, o4, o5, o6, o7, o8, o9, o10, o11, o12, o13, o14] σ h) ∧ EvL P fz B K ops rest ((d, vbool (b || b2)) :: drp ds σ) h)
    (hj : ops[j]? = some oj := by rfl) (hdj : oj.dst = some dj := by rfl) (hbj : rg σ dj = some (vbool b) := by rfl) (hc : og σ c = some (vbool b) := by rfl)
    (hsk : skipping ops j false [] [o1, o2, o3, o4, o5, o6, o7, o8, o9, o10, o11, o12, o13, o14] = some ds := by rfl) (hcd : ∀ t, c = .tmp t → ds.any (Nat.beq t) = false := by intro t ht; cases ht; rfl)
    (hnd : [o1, o2, o3, o4, o5, o6, o7, o8, o9, o10, o11, o12, o13, o14].all (fun o => match o.dst with | some e => !(Nat.beq e dj) | none => true) = true := by rfl)
    (hal : [o1, o2, o3, o4, o5, o6, o7, o8, o9, o10, o11, o12, o13, o14].all (fun o => match o.dst with | some e => ds.any (Nat.beq e) | none => true) = true := by rfl)
    (hd : Nat.ble (d + 1) fz = true := by rfl) (hg : Gk ops σ g := by first | exact gk0 | exact gk1 rfl rfl rfl (by assumption)) (hdd : ∀ dj', (match g with | some (i, _) => (ops[i]?).bind (·.dst) | none => none) = some dj' → ds.any (Nat.beq dj') = false := by first | nofun | (intro _ h; cases h; rfl)) :
    EvL P fz B K ops (o1 :: o2 :: o3 :: o4 :: o5 :: o6 :: o7 :: o8 :: o9 :: o10 :: o11 :: o12 :: o13 :: o14 :: ⟨some d, .pick c (.const (.bool true)) (.tmp e2), ty, pos, af, g⟩ :: rest) σ h :=
  short (rest := o1 :: o2 :: o3 :: o4 :: o5 :: o6 :: o7 :: o8 :: o9 :: o10 :: o11 :: o12 :: o13 :: o14 :: ⟨some d, .pick c (.const (.bool true)) (.tmp e2), ty, pos, af, g⟩ :: rest) j false 14 k.choose_spec.1 k.choose_spec.2 rfl hj hdj hbj hc hsk hcd rfl rfl hnd hal hd hg hdd
theorem an15 {o1 o2 o3 o4 o5 o6 o7 o8 o9 o10 o11 o12 o13 o14 o15 : Oper} {e2 dj : Nat} {b : Bool} {oj : Oper} {c : Operand} {ds : List Nat} (j : Nat)
    (k : ∃ b2, (b = true → ∀ B, EvL P fz B (Kan e2 b2 h) ops [o1, o2, o3, o4, o5, o6, o7, o8, o9, o10, o11, o12, o13, o14, o15] σ h) ∧ EvL P fz B K ops rest ((d, vbool (b && b2)) :: drp ds σ) h)
    (hj : ops[j]? = some oj := by rfl) (hdj : oj.dst = some dj := by rfl) (hbj : rg σ dj = some (vbool b) := by rfl) (hc : og σ c = some (vbool b) := by rfl)
    (hsk : skipping ops j true [] [o1, o2, o3, o4, o5, o6, o7, o8, o9, o10, o11, o12, o13, o14, o15] = some ds := by rfl) (hcd : ∀ t, c = .tmp t → ds.any (Nat.beq t) = false := by intro t ht; cases ht; rfl)
    (hnd : [o1, o2, o3, o4, o5, o6, o7, o8, o9, o10, o11, o12, o13, o14, o15].all (fun o => match o.dst with | some e => !(Nat.beq e dj) | none => true) = true := by rfl)
    (hal : [o1, o2, o3, o4, o5, o6, o7, o8, o9, o10, o11, o12, o13, o14, o15].all (fun o => match o.dst with | some e => ds.any (Nat.beq e) | none => true) = true := by rfl)
    (hd : Nat.ble (d + 1) fz = true := by rfl) (hg : Gk ops σ g := by first | exact gk0 | exact gk1 rfl rfl rfl (by assumption)) (hdd : ∀ dj', (match g with | some (i, _) => (ops[i]?).bind (·.dst) | none => none) = some dj' → ds.any (Nat.beq dj') = false := by first | nofun | (intro _ h; cases h; rfl)) :
    EvL P fz B K ops (o1 :: o2 :: o3 :: o4 :: o5 :: o6 :: o7 :: o8 :: o9 :: o10 :: o11 :: o12 :: o13 :: o14 :: o15 :: ⟨some d, .pick c (.tmp e2) (.const (.bool false)), ty, pos, af, g⟩ :: rest) σ h :=
  short (rest := o1 :: o2 :: o3 :: o4 :: o5 :: o6 :: o7 :: o8 :: o9 :: o10 :: o11 :: o12 :: o13 :: o14 :: o15 :: ⟨some d, .pick c (.tmp e2) (.const (.bool false)), ty, pos, af, g⟩ :: rest) j true 15 k.choose_spec.1 k.choose_spec.2 rfl hj hdj hbj hc hsk hcd rfl rfl hnd hal hd hg hdd
theorem orr15 {o1 o2 o3 o4 o5 o6 o7 o8 o9 o10 o11 o12 o13 o14 o15 : Oper} {e2 dj : Nat} {b : Bool} {oj : Oper} {c : Operand} {ds : List Nat} (j : Nat)
    (k : ∃ b2, (b = false → ∀ B, EvL P fz B (Kan e2 b2 h) ops [o1, o2, o3, o4, o5, o6, o7, o8, o9, o10, o11, o12, o13, o14, o15] σ h) ∧ EvL P fz B K ops rest ((d, vbool (b || b2)) :: drp ds σ) h)
    (hj : ops[j]? = some oj := by rfl) (hdj : oj.dst = some dj := by rfl) (hbj : rg σ dj = some (vbool b) := by rfl) (hc : og σ c = some (vbool b) := by rfl)
    (hsk : skipping ops j false [] [o1, o2, o3, o4, o5, o6, o7, o8, o9, o10, o11, o12, o13, o14, o15] = some ds := by rfl) (hcd : ∀ t, c = .tmp t → ds.any (Nat.beq t) = false := by intro t ht; cases ht; rfl)
    (hnd : [o1, o2, o3, o4, o5, o6, o7, o8, o9, o10, o11, o12, o13, o14, o15].all (fun o => match o.dst with | some e => !(Nat.beq e dj) | none => true) = true := by rfl)
    (hal : [o1, o2, o3, o4, o5, o6, o7, o8, o9, o10, o11, o12, o13, o14, o15].all (fun o => match o.dst with | some e => ds.any (Nat.beq e) | none => true) = true := by rfl)
    (hd : Nat.ble (d + 1) fz = true := by rfl) (hg : Gk ops σ g := by first | exact gk0 | exact gk1 rfl rfl rfl (by assumption)) (hdd : ∀ dj', (match g with | some (i, _) => (ops[i]?).bind (·.dst) | none => none) = some dj' → ds.any (Nat.beq dj') = false := by first | nofun | (intro _ h; cases h; rfl)) :
    EvL P fz B K ops (o1 :: o2 :: o3 :: o4 :: o5 :: o6 :: o7 :: o8 :: o9 :: o10 :: o11 :: o12 :: o13 :: o14 :: o15 :: ⟨some d, .pick c (.const (.bool true)) (.tmp e2), ty, pos, af, g⟩ :: rest) σ h :=
  short (rest := o1 :: o2 :: o3 :: o4 :: o5 :: o6 :: o7 :: o8 :: o9 :: o10 :: o11 :: o12 :: o13 :: o14 :: o15 :: ⟨some d, .pick c (.const (.bool true)) (.tmp e2), ty, pos, af, g⟩ :: rest) j false 15 k.choose_spec.1 k.choose_spec.2 rfl hj hdj hbj hc hsk hcd rfl rfl hnd hal hd hg hdd
theorem an16 {o1 o2 o3 o4 o5 o6 o7 o8 o9 o10 o11 o12 o13 o14 o15 o16 : Oper} {e2 dj : Nat} {b : Bool} {oj : Oper} {c : Operand} {ds : List Nat} (j : Nat)
    (k : ∃ b2, (b = true → ∀ B, EvL P fz B (Kan e2 b2 h) ops [o1, o2, o3, o4, o5, o6, o7, o8, o9, o10, o11, o12, o13, o14, o15, o16] σ h) ∧ EvL P fz B K ops rest ((d, vbool (b && b2)) :: drp ds σ) h)
    (hj : ops[j]? = some oj := by rfl) (hdj : oj.dst = some dj := by rfl) (hbj : rg σ dj = some (vbool b) := by rfl) (hc : og σ c = some (vbool b) := by rfl)
    (hsk : skipping ops j true [] [o1, o2, o3, o4, o5, o6, o7, o8, o9, o10, o11, o12, o13, o14, o15, o16] = some ds := by rfl) (hcd : ∀ t, c = .tmp t → ds.any (Nat.beq t) = false := by intro t ht; cases ht; rfl)
    (hnd : [o1, o2, o3, o4, o5, o6, o7, o8, o9, o10, o11, o12, o13, o14, o15, o16].all (fun o => match o.dst with | some e => !(Nat.beq e dj) | none => true) = true := by rfl)
    (hal : [o1, o2, o3, o4, o5, o6, o7, o8, o9, o10, o11, o12, o13, o14, o15, o16].all (fun o => match o.dst with | some e => ds.any (Nat.beq e) | none => true) = true := by rfl)
    (hd : Nat.ble (d + 1) fz = true := by rfl) (hg : Gk ops σ g := by first | exact gk0 | exact gk1 rfl rfl rfl (by assumption)) (hdd : ∀ dj', (match g with | some (i, _) => (ops[i]?).bind (·.dst) | none => none) = some dj' → ds.any (Nat.beq dj') = false := by first | nofun | (intro _ h; cases h; rfl)) :
    EvL P fz B K ops (o1 :: o2 :: o3 :: o4 :: o5 :: o6 :: o7 :: o8 :: o9 :: o10 :: o11 :: o12 :: o13 :: o14 :: o15 :: o16 :: ⟨some d, .pick c (.tmp e2) (.const (.bool false)), ty, pos, af, g⟩ :: rest) σ h :=
  short (rest := o1 :: o2 :: o3 :: o4 :: o5 :: o6 :: o7 :: o8 :: o9 :: o10 :: o11 :: o12 :: o13 :: o14 :: o15 :: o16 :: ⟨some d, .pick c (.tmp e2) (.const (.bool false)), ty, pos, af, g⟩ :: rest) j true 16 k.choose_spec.1 k.choose_spec.2 rfl hj hdj hbj hc hsk hcd rfl rfl hnd hal hd hg hdd
theorem orr16 {o1 o2 o3 o4 o5 o6 o7 o8 o9 o10 o11 o12 o13 o14 o15 o16 : Oper} {e2 dj : Nat} {b : Bool} {oj : Oper} {c : Operand} {ds : List Nat} (j : Nat)
    (k : ∃ b2, (b = false → ∀ B, EvL P fz B (Kan e2 b2 h) ops [o1, o2, o3, o4, o5, o6, o7, o8, o9, o10, o11, o12, o13, o14, o15, o16] σ h) ∧ EvL P fz B K ops rest ((d, vbool (b || b2)) :: drp ds σ) h)
    (hj : ops[j]? = some oj := by rfl) (hdj : oj.dst = some dj := by rfl) (hbj : rg σ dj = some (vbool b) := by rfl) (hc : og σ c = some (vbool b) := by rfl)
    (hsk : skipping ops j false [] [o1, o2, o3, o4, o5, o6, o7, o8, o9, o10, o11, o12, o13, o14, o15, o16] = some ds := by rfl) (hcd : ∀ t, c = .tmp t → ds.any (Nat.beq t) = false := by intro t ht; cases ht; rfl)
    (hnd : [o1, o2, o3, o4, o5, o6, o7, o8, o9, o10, o11, o12, o13, o14, o15, o16].all (fun o => match o.dst with | some e => !(Nat.beq e dj) | none => true) = true := by rfl)
    (hal : [o1, o2, o3, o4, o5, o6, o7, o8, o9, o10, o11, o12, o13, o14, o15, o16].all (fun o => match o.dst with | some e => ds.any (Nat.beq e) | none => true) = true := by rfl)
    (hd : Nat.ble (d + 1) fz = true := by rfl) (hg : Gk ops σ g := by first | exact gk0 | exact gk1 rfl rfl rfl (by assumption)) (hdd : ∀ dj', (match g with | some (i, _) => (ops[i]?).bind (·.dst) | none => none) = some dj' → ds.any (Nat.beq dj') = false := by first | nofun | (intro _ h; cases h; rfl)) :
    EvL P fz B K ops (o1 :: o2 :: o3 :: o4 :: o5 :: o6 :: o7 :: o8 :: o9 :: o10 :: o11 :: o12 :: o13 :: o14 :: o15 :: o16 :: ⟨some d, .pick c (.const (.bool true)) (.tmp e2), ty, pos, af, g⟩ :: rest) σ h :=
  short (rest := o1 :: o2 :: o3 :: o4 :: o5 :: o6 :: o7 :: o8 :: o9 :: o10 :: o11 :: o12 :: o13 :: o14 :: o15 :: o16 :: ⟨some d, .pick c (.const (.bool true)) (.tmp e2), ty, pos, af, g⟩ :: rest) j false 16 k.choose_spec.1 k.choose_spec.2 rfl hj hdj hbj hc hsk hcd rfl rfl hnd hal hd hg hdd
theorem an17 {o1 o2 o3 o4 o5 o6 o7 o8 o9 o10 o11 o12 o13 o14 o15 o16 o17 : Oper} {e2 dj : Nat} {b : Bool} {oj : Oper} {c : Operand} {ds : List Nat} (j : Nat)
    (k : ∃ b2, (b = true → ∀ B, EvL P fz B (Kan e2 b2 h) ops [o1, o2, o3, o4, o5, o6, o7, o8, o9, o10, o11, o12, o13, o14, o15, o16, o17] σ h) ∧ EvL P fz B K ops rest ((d, vbool (b && b2)) :: drp ds σ) h)
    (hj : ops[j]? = some oj := by rfl) (hdj : oj.dst = some dj := by rfl) (hbj : rg σ dj = some (vbool b) := by rfl) (hc : og σ c = some (vbool b) := by rfl)
    (hsk : skipping ops j true [] [o1, o2, o3, o4, o5, o6, o7, o8, o9, o10, o11, o12, o13, o14, o15, o16, o17] = some ds := by rfl) (hcd : ∀ t, c = .tmp t → ds.any (Nat.beq t) = false := by intro t ht; cases ht; rfl)
    (hnd : [o1, o2, o3, o4, o5, o6, o7, o8, o9, o10, o11, o12, o13, o14, o15, o16, o17].all (fun o => match o.dst with | some e => !(Nat.beq e dj) | none => true) = true := by rfl)
    (hal : [o1, o2, o3, o4, o5, o6, o7, o8, o9, o10, o11, o12, o13, o14, o15, o16, o17].all (fun o => match o.dst with | some e => ds.any (Nat.beq e) | none => true) = true := by rfl)
    (hd : Nat.ble (d + 1) fz = true := by rfl) (hg : Gk ops σ g := by first | exact gk0 | exact gk1 rfl rfl rfl (by assumption)) (hdd : ∀ dj', (match g with | some (i, _) => (ops[i]?).bind (·.dst) | none => none) = some dj' → ds.any (Nat.beq dj') = false := by first | nofun | (intro _ h; cases h; rfl)) :
    EvL P fz B K ops (o1 :: o2 :: o3 :: o4 :: o5 :: o6 :: o7 :: o8 :: o9 :: o10 :: o11 :: o12 :: o13 :: o14 :: o15 :: o16 :: o17 :: ⟨some d, .pick c (.tmp e2) (.const (.bool false)), ty, pos, af, g⟩ :: rest) σ h :=
  short (rest := o1 :: o2 :: o3 :: o4 :: o5 :: o6 :: o7 :: o8 :: o9 :: o10 :: o11 :: o12 :: o13 :: o14 :: o15 :: o16 :: o17 :: ⟨some d, .pick c (.tmp e2) (.const (.bool false)), ty, pos, af, g⟩ :: rest) j true 17 k.choose_spec.1 k.choose_spec.2 rfl hj hdj hbj hc hsk hcd rfl rfl hnd hal hd hg hdd
theorem orr17 {o1 o2 o3 o4 o5 o6 o7 o8 o9 o10 o11 o12 o13 o14 o15 o16 o17 : Oper} {e2 dj : Nat} {b : Bool} {oj : Oper} {c : Operand} {ds : List Nat} (j : Nat)
    (k : ∃ b2, (b = false → ∀ B, EvL P fz B (Kan e2 b2 h) ops [o1, o2, o3, o4, o5, o6, o7, o8, o9, o10, o11, o12, o13, o14, o15, o16, o17] σ h) ∧ EvL P fz B K ops rest ((d, vbool (b || b2)) :: drp ds σ) h)
    (hj : ops[j]? = some oj := by rfl) (hdj : oj.dst = some dj := by rfl) (hbj : rg σ dj = some (vbool b) := by rfl) (hc : og σ c = some (vbool b) := by rfl)
    (hsk : skipping ops j false [] [o1, o2, o3, o4, o5, o6, o7, o8, o9, o10, o11, o12, o13, o14, o15, o16, o17] = some ds := by rfl) (hcd : ∀ t, c = .tmp t → ds.any (Nat.beq t) = false := by intro t ht; cases ht; rfl)
    (hnd : [o1, o2, o3, o4, o5, o6, o7, o8, o9, o10, o11, o12, o13, o14, o15, o16, o17].all (fun o => match o.dst with | some e => !(Nat.beq e dj) | none => true) = true := by rfl)
    (hal : [o1, o2, o3, o4, o5, o6, o7, o8, o9, o10, o11, o12, o13, o14, o15, o16, o17].all (fun o => match o.dst with | some e => ds.any (Nat.beq e) | none => true) = true := by rfl)
    (hd : Nat.ble (d + 1) fz = true := by rfl) (hg : Gk ops σ g := by first | exact gk0 | exact gk1 rfl rfl rfl (by assumption)) (hdd : ∀ dj', (match g with | some (i, _) => (ops[i]?).bind (·.dst) | none => none) = some dj' → ds.any (Nat.beq dj') = false := by first | nofun | (intro _ h; cases h; rfl)) :
    EvL P fz B K ops (o1 :: o2 :: o3 :: o4 :: o5 :: o6 :: o7 :: o8 :: o9 :: o10 :: o11 :: o12 :: o13 :: o14 :: o15 :: o16 :: o17 :: ⟨some d, .pick c (.const (.bool true)) (.tmp e2), ty, pos, af, g⟩ :: rest) σ h :=
  short (rest := o1 :: o2 :: o3 :: o4 :: o5 :: o6 :: o7 :: o8 :: o9 :: o10 :: o11 :: o12 :: o13 :: o14 :: o15 :: o16 :: o17 :: ⟨some d, .pick c (.const (.bool true)) (.tmp e2), ty, pos, af, g⟩ :: rest) j false 17 k.choose_spec.1 k.choose_spec.2 rfl hj hdj hbj hc hsk hcd rfl rfl hnd hal hd hg hdd
theorem an18 {o1 o2 o3 o4 o5 o6 o7 o8 o9 o10 o11 o12 o13 o14 o15 o16 o17 o18 : Oper} {e2 dj : Nat} {b : Bool} {oj : Oper} {c : Operand} {ds : List Nat} (j : Nat)
    (k : ∃ b2, (b = true → ∀ B, EvL P fz B (Kan e2 b2 h) ops [o1, o2, o3, o4, o5, o6, o7, o8, o9, o10, o11, o12, o13, o14, o15, o16, o17, o18] σ h) ∧ EvL P fz B K ops rest ((d, vbool (b && b2)) :: drp ds σ) h)
    (hj : ops[j]? = some oj := by rfl) (hdj : oj.dst = some dj := by rfl) (hbj : rg σ dj = some (vbool b) := by rfl) (hc : og σ c = some (vbool b) := by rfl)
    (hsk : skipping ops j true [] [o1, o2, o3, o4, o5, o6, o7, o8, o9, o10, o11, o12, o13, o14, o15, o16, o17, o18] = some ds := by rfl) (hcd : ∀ t, c = .tmp t → ds.any (Nat.beq t) = false := by intro t ht; cases ht; rfl)
    (hnd : [o1, o2, o3, o4, o5, o6, o7, o8, o9, o10, o11, o12, o13, o14, o15, o16, o17, o18].all (fun o => match o.dst with | some e => !(Nat.beq e dj) | none => true) = true := by rfl)
    (hal : [o1, o2, o3, o4, o5, o6, o7, o8, o9, o10, o11, o12, o13, o14, o15, o16, o17, o18].all (fun o => match o.dst with | some e => ds.any (Nat.beq e) | none => true) = true := by rfl)
    (hd : Nat.ble (d + 1) fz = true := by rfl) (hg : Gk ops σ g := by first | exact gk0 | exact gk1 rfl rfl rfl (by assumption)) (hdd : ∀ dj', (match g with | some (i, _) => (ops[i]?).bind (·.dst) | none => none) = some dj' → ds.any (Nat.beq dj') = false := by first | nofun | (intro _ h; cases h; rfl)) :
    EvL P fz B K ops (o1 :: o2 :: o3 :: o4 :: o5 :: o6 :: o7 :: o8 :: o9 :: o10 :: o11 :: o12 :: o13 :: o14 :: o15 :: o16 :: o17 :: o18 :: ⟨some d, .pick c (.tmp e2) (.const (.bool false)), ty, pos, af, g⟩ :: rest) σ h :=
  short (rest := o1 :: o2 :: o3 :: o4 :: o5 :: o6 :: o7 :: o8 :: o9 :: o10 :: o11 :: o12 :: o13 :: o14 :: o15 :: o16 :: o17 :: o18 :: ⟨some d, .pick c (.tmp e2) (.const (.bool false)), ty, pos, af, g⟩ :: rest) j true 18 k.choose_spec.1 k.choose_spec.2 rfl hj hdj hbj hc hsk hcd rfl rfl hnd hal hd hg hdd
theorem orr18 {o1 o2 o3 o4 o5 o6 o7 o8 o9 o10 o11 o12 o13 o14 o15 o16 o17 o18 : Oper} {e2 dj : Nat} {b : Bool} {oj : Oper} {c : Operand} {ds : List Nat} (j : Nat)
    (k : ∃ b2, (b = false → ∀ B, EvL P fz B (Kan e2 b2 h) ops [o1, o2, o3, o4, o5, o6, o7, o8, o9, o10, o11, o12, o13, o14, o15, o16, o17, o18] σ h) ∧ EvL P fz B K ops rest ((d, vbool (b || b2)) :: drp ds σ) h)
    (hj : ops[j]? = some oj := by rfl) (hdj : oj.dst = some dj := by rfl) (hbj : rg σ dj = some (vbool b) := by rfl) (hc : og σ c = some (vbool b) := by rfl)
    (hsk : skipping ops j false [] [o1, o2, o3, o4, o5, o6, o7, o8, o9, o10, o11, o12, o13, o14, o15, o16, o17, o18] = some ds := by rfl) (hcd : ∀ t, c = .tmp t → ds.any (Nat.beq t) = false := by intro t ht; cases ht; rfl)
    (hnd : [o1, o2, o3, o4, o5, o6, o7, o8, o9, o10, o11, o12, o13, o14, o15, o16, o17, o18].all (fun o => match o.dst with | some e => !(Nat.beq e dj) | none => true) = true := by rfl)
    (hal : [o1, o2, o3, o4, o5, o6, o7, o8, o9, o10, o11, o12, o13, o14, o15, o16, o17, o18].all (fun o => match o.dst with | some e => ds.any (Nat.beq e) | none => true) = true := by rfl)
    (hd : Nat.ble (d + 1) fz = true := by rfl) (hg : Gk ops σ g := by first | exact gk0 | exact gk1 rfl rfl rfl (by assumption)) (hdd : ∀ dj', (match g with | some (i, _) => (ops[i]?).bind (·.dst) | none => none) = some dj' → ds.any (Nat.beq dj') = false := by first | nofun | (intro _ h; cases h; rfl)) :
    EvL P fz B K ops (o1 :: o2 :: o3 :: o4 :: o5 :: o6 :: o7 :: o8 :: o9 :: o10 :: o11 :: o12 :: o13 :: o14 :: o15 :: o16 :: o17 :: o18 :: ⟨some d, .pick c (.const (.bool true)) (.tmp e2), ty, pos, af, g⟩ :: rest) σ h :=
  short (rest := o1 :: o2 :: o3 :: o4 :: o5 :: o6 :: o7 :: o8 :: o9 :: o10 :: o11 :: o12 :: o13 :: o14 :: o15 :: o16 :: o17 :: o18 :: ⟨some d, .pick c (.const (.bool true)) (.tmp e2), ty, pos, af, g⟩ :: rest) j false 18 k.choose_spec.1 k.choose_spec.2 rfl hj hdj hbj hc hsk hcd rfl rfl hnd hal hd hg hdd
theorem an19 {o1 o2 o3 o4 o5 o6 o7 o8 o9 o10 o11 o12 o13 o14 o15 o16 o17 o18 o19 : Oper} {e2 dj : Nat} {b : Bool} {oj : Oper} {c : Operand} {ds : List Nat} (j : Nat)
    (k : ∃ b2, (b = true → ∀ B, EvL P fz B (Kan e2 b2 h) ops [o1, o2, o3, o4, o5, o6, o7, o8, o9, o10, o11, o12, o13, o14, o15, o16, o17, o18, o19] σ h) ∧ EvL P fz B K ops rest ((d, vbool (b && b2)) :: drp ds σ) h)
    (hj : ops[j]? = some oj := by rfl) (hdj : oj.dst = some dj := by rfl) (hbj : rg σ dj = some (vbool b) := by rfl) (hc : og σ c = some (vbool b) := by rfl)
    (hsk : skipping ops j true [] [o1, o2, o3, o4, o5, o6, o7, o8, o9, o10, o11, o12, o13, o14, o15, o16, o17, o18, o19] = some ds := by rfl) (hcd : ∀ t, c = .tmp t → ds.any (Nat.beq t) = false := by intro t ht; cases ht; rfl)
    (hnd : [o1, o2, o3, o4, o5, o6, o7, o8, o9, o10, o11, o12, o13, o14, o15, o16, o17, o18, o19].all (fun o => match o.dst with | some e => !(Nat.beq e dj) | none => true) = true := by rfl)
    (hal : [o1, o2, o3, o4, o5, o6, o7, o8, o9, o10, o11, o12, o13, o14, o15, o16, o17, o18, o19].all (fun o => match o.dst with | some e => ds.any (Nat.beq e) | none => true) = true := by rfl)
    (hd : Nat.ble (d + 1) fz = true := by rfl) (hg : Gk ops σ g := by first | exact gk0 | exact gk1 rfl rfl rfl (by assumption)) (hdd : ∀ dj', (match g with | some (i, _) => (ops[i]?).bind (·.dst) | none => none) = some dj' → ds.any (Nat.beq dj') = false := by first | nofun | (intro _ h; cases h; rfl)) :
    EvL P fz B K ops (o1 :: o2 :: o3 :: o4 :: o5 :: o6 :: o7 :: o8 :: o9 :: o10 :: o11 :: o12 :: o13 :: o14 :: o15 :: o16 :: o17 :: o18 :: o19 :: ⟨some d, .pick c (.tmp e2) (.const (.bool false)), ty, pos, af, g⟩ :: rest) σ h :=
  short (rest := o1 :: o2 :: o3 :: o4 :: o5 :: o6 :: o7 :: o8 :: o9 :: o10 :: o11 :: o12 :: o13 :: o14 :: o15 :: o16 :: o17 :: o18 :: o19 :: ⟨some d, .pick c (.tmp e2) (.const (.bool false)), ty, pos, af, g⟩ :: rest) j true 19 k.choose_spec.1 k.choose_spec.2 rfl hj hdj hbj hc hsk hcd rfl rfl hnd hal hd hg hdd
theorem orr19 {o1 o2 o3 o4 o5 o6 o7 o8 o9 o10 o11 o12 o13 o14 o15 o16 o17 o18 o19 : Oper} {e2 dj : Nat} {b : Bool} {oj : Oper} {c : Operand} {ds : List Nat} (j : Nat)
    (k : ∃ b2, (b = false → ∀ B, EvL P fz B (Kan e2 b2 h) ops [o1, o2, o3, o4, o5, o6, o7, o8, o9, o10, o11, o12, o13, o14, o15, o16, o17, o18, o19] σ h) ∧ EvL P fz B K ops rest ((d, vbool (b || b2)) :: drp ds σ) h)
    (hj : ops[j]? = some oj := by rfl) (hdj : oj.dst = some dj := by rfl) (hbj : rg σ dj = some (vbool b) := by rfl) (hc : og σ c = some (vbool b) := by rfl)
    (hsk : skipping ops j false [] [o1, o2, o3, o4, o5, o6, o7, o8, o9, o10, o11, o12, o13, o14, o15, o16, o17, o18, o19] = some ds := by rfl) (hcd : ∀ t, c = .tmp t → ds.any (Nat.beq t) = false := by intro t ht; cases ht; rfl)
    (hnd : [o1, o2, o3, o4, o5, o6, o7, o8, o9, o10, o11, o12, o13, o14, o15, o16, o17, o18, o19].all (fun o => match o.dst with | some e => !(Nat.beq e dj) | none => true) = true := by rfl)
    (hal : [o1, o2, o3, o4, o5, o6, o7, o8, o9, o10, o11, o12, o13, o14, o15, o16, o17, o18, o19].all (fun o => match o.dst with | some e => ds.any (Nat.beq e) | none => true) = true := by rfl)
    (hd : Nat.ble (d + 1) fz = true := by rfl) (hg : Gk ops σ g := by first | exact gk0 | exact gk1 rfl rfl rfl (by assumption)) (hdd : ∀ dj', (match g with | some (i, _) => (ops[i]?).bind (·.dst) | none => none) = some dj' → ds.any (Nat.beq dj') = false := by first | nofun | (intro _ h; cases h; rfl)) :
    EvL P fz B K ops (o1 :: o2 :: o3 :: o4 :: o5 :: o6 :: o7 :: o8 :: o9 :: o10 :: o11 :: o12 :: o13 :: o14 :: o15 :: o16 :: o17 :: o18 :: o19 :: ⟨some d, .pick c (.const (.bool true)) (.tmp e2), ty, pos, af, g⟩ :: rest) σ h :=
  short (rest := o1 :: o2 :: o3 :: o4 :: o5 :: o6 :: o7 :: o8 :: o9 :: o10 :: o11 :: o12 :: o13 :: o14 :: o15 :: o16 :: o17 :: o18 :: o19 :: ⟨some d, .pick c (.const (.bool true)) (.tmp e2), ty, pos, af, g⟩ :: rest) j false 19 k.choose_spec.1 k.choose_spec.2 rfl hj hdj hbj hc hsk hcd rfl rfl hnd hal hd hg hdd
theorem an20 {o1 o2 o3 o4 o5 o6 o7 o8 o9 o10 o11 o12 o13 o14 o15 o16 o17 o18 o19 o20 : Oper} {e2 dj : Nat} {b : Bool} {oj : Oper} {c : Operand} {ds : List Nat} (j : Nat)
    (k : ∃ b2, (b = true → ∀ B, EvL P fz B (Kan e2 b2 h) ops [o1, o2, o3, o4, o5, o6, o7, o8, o9, o10, o11, o12, o13, o14, o15, o16, o17, o18, o19, o20] σ h) ∧ EvL P fz B K ops rest ((d, vbool (b && b2)) :: drp ds σ) h)
    (hj : ops[j]? = some oj := by rfl) (hdj : oj.dst = some dj := by rfl) (hbj : rg σ dj = some (vbool b) := by rfl) (hc : og σ c = some (vbool b) := by rfl)
    (hsk : skipping ops j true [] [o1, o2, o3, o4, o5, o6, o7, o8, o9, o10, o11, o12, o13, o14, o15, o16, o17, o18, o19, o20] = some ds := by rfl) (hcd : ∀ t, c = .tmp t → ds.any (Nat.beq t) = false := by intro t ht; cases ht; rfl)
    (hnd : [o1, o2, o3, o4, o5, o6, o7, o8, o9, o10, o11, o12, o13, o14, o15, o16, o17, o18, o19, o20].all (fun o => match o.dst with | some e => !(Nat.beq e dj) | none => true) = true := by rfl)
    (hal : [o1, o2, o3, o4, o5, o6, o7, o8, o9, o10, o11, o12, o13, o14, o15, o16, o17, o18, o19, o20].all (fun o => match o.dst with | some e => ds.any (Nat.beq e) | none => true) = true := by rfl)
    (hd : Nat.ble (d + 1) fz = true := by rfl) (hg : Gk ops σ g := by first | exact gk0 | exact gk1 rfl rfl rfl (by assumption)) (hdd : ∀ dj', (match g with | some (i, _) => (ops[i]?).bind (·.dst) | none => none) = some dj' → ds.any (Nat.beq dj') = false := by first | nofun | (intro _ h; cases h; rfl)) :
    EvL P fz B K ops (o1 :: o2 :: o3 :: o4 :: o5 :: o6 :: o7 :: o8 :: o9 :: o10 :: o11 :: o12 :: o13 :: o14 :: o15 :: o16 :: o17 :: o18 :: o19 :: o20 :: ⟨some d, .pick c (.tmp e2) (.const (.bool false)), ty, pos, af, g⟩ :: rest) σ h :=
  short (rest := o1 :: o2 :: o3 :: o4 :: o5 :: o6 :: o7 :: o8 :: o9 :: o10 :: o11 :: o12 :: o13 :: o14 :: o15 :: o16 :: o17 :: o18 :: o19 :: o20 :: ⟨some d, .pick c (.tmp e2) (.const (.bool false)), ty, pos, af, g⟩ :: rest) j true 20 k.choose_spec.1 k.choose_spec.2 rfl hj hdj hbj hc hsk hcd rfl rfl hnd hal hd hg hdd
theorem orr20 {o1 o2 o3 o4 o5 o6 o7 o8 o9 o10 o11 o12 o13 o14 o15 o16 o17 o18 o19 o20 : Oper} {e2 dj : Nat} {b : Bool} {oj : Oper} {c : Operand} {ds : List Nat} (j : Nat)
    (k : ∃ b2, (b = false → ∀ B, EvL P fz B (Kan e2 b2 h) ops [o1, o2, o3, o4, o5, o6, o7, o8, o9, o10, o11, o12, o13, o14, o15, o16, o17, o18, o19, o20] σ h) ∧ EvL P fz B K ops rest ((d, vbool (b || b2)) :: drp ds σ) h)
    (hj : ops[j]? = some oj := by rfl) (hdj : oj.dst = some dj := by rfl) (hbj : rg σ dj = some (vbool b) := by rfl) (hc : og σ c = some (vbool b) := by rfl)
    (hsk : skipping ops j false [] [o1, o2, o3, o4, o5, o6, o7, o8, o9, o10, o11, o12, o13, o14, o15, o16, o17, o18, o19, o20] = some ds := by rfl) (hcd : ∀ t, c = .tmp t → ds.any (Nat.beq t) = false := by intro t ht; cases ht; rfl)
    (hnd : [o1, o2, o3, o4, o5, o6, o7, o8, o9, o10, o11, o12, o13, o14, o15, o16, o17, o18, o19, o20].all (fun o => match o.dst with | some e => !(Nat.beq e dj) | none => true) = true := by rfl)
    (hal : [o1, o2, o3, o4, o5, o6, o7, o8, o9, o10, o11, o12, o13, o14, o15, o16, o17, o18, o19, o20].all (fun o => match o.dst with | some e => ds.any (Nat.beq e) | none => true) = true := by rfl)
    (hd : Nat.ble (d + 1) fz = true := by rfl) (hg : Gk ops σ g := by first | exact gk0 | exact gk1 rfl rfl rfl (by assumption)) (hdd : ∀ dj', (match g with | some (i, _) => (ops[i]?).bind (·.dst) | none => none) = some dj' → ds.any (Nat.beq dj') = false := by first | nofun | (intro _ h; cases h; rfl)) :
    EvL P fz B K ops (o1 :: o2 :: o3 :: o4 :: o5 :: o6 :: o7 :: o8 :: o9 :: o10 :: o11 :: o12 :: o13 :: o14 :: o15 :: o16 :: o17 :: o18 :: o19 :: o20 :: ⟨some d, .pick c (.const (.bool true)) (.tmp e2), ty, pos, af, g⟩ :: rest) σ h :=
  short (rest := o1 :: o2 :: o3 :: o4 :: o5 :: o6 :: o7 :: o8 :: o9 :: o10 :: o11 :: o12 :: o13 :: o14 :: o15 :: o16 :: o17 :: o18 :: o19 :: o20 :: ⟨some d, .pick c (.const (.bool true)) (.tmp e2), ty, pos, af, g⟩ :: rest) j false 20 k.choose_spec.1 k.choose_spec.2 rfl hj hdj hbj hc hsk hcd rfl rfl hnd hal hd hg hdd
theorem an21 {o1 o2 o3 o4 o5 o6 o7 o8 o9 o10 o11 o12 o13 o14 o15 o16 o17 o18 o19 o20 o21 : Oper} {e2 dj : Nat} {b : Bool} {oj : Oper} {c : Operand} {ds : List Nat} (j : Nat)
    (k : ∃ b2, (b = true → ∀ B, EvL P fz B (Kan e2 b2 h) ops [o1, o2, o3, o4, o5, o6, o7, o8, o9, o10, o11, o12, o13, o14, o15, o16, o17, o18, o19, o20, o21] σ h) ∧ EvL P fz B K ops rest ((d, vbool (b && b2)) :: drp ds σ) h)
    (hj : ops[j]? = some oj := by rfl) (hdj : oj.dst = some dj := by rfl) (hbj : rg σ dj = some (vbool b) := by rfl) (hc : og σ c = some (vbool b) := by rfl)
    (hsk : skipping ops j true [] [o1, o2, o3, o4, o5, o6, o7, o8, o9, o10, o11, o12, o13, o14, o15, o16, o17, o18, o19, o20, o21] = some ds := by rfl) (hcd : ∀ t, c = .tmp t → ds.any (Nat.beq t) = false := by intro t ht; cases ht; rfl)
    (hnd : [o1, o2, o3, o4, o5, o6, o7, o8, o9, o10, o11, o12, o13, o14, o15, o16, o17, o18, o19, o20, o21].all (fun o => match o.dst with | some e => !(Nat.beq e dj) | none => true) = true := by rfl)
    (hal : [o1, o2, o3, o4, o5, o6, o7, o8, o9, o10, o11, o12, o13, o14, o15, o16, o17, o18, o19, o20, o21].all (fun o => match o.dst with | some e => ds.any (Nat.beq e) | none => true) = true := by rfl)
    (hd : Nat.ble (d + 1) fz = true := by rfl) (hg : Gk ops σ g := by first | exact gk0 | exact gk1 rfl rfl rfl (by assumption)) (hdd : ∀ dj', (match g with | some (i, _) => (ops[i]?).bind (·.dst) | none => none) = some dj' → ds.any (Nat.beq dj') = false := by first | nofun | (intro _ h; cases h; rfl)) :
    EvL P fz B K ops (o1 :: o2 :: o3 :: o4 :: o5 :: o6 :: o7 :: o8 :: o9 :: o10 :: o11 :: o12 :: o13 :: o14 :: o15 :: o16 :: o17 :: o18 :: o19 :: o20 :: o21 :: ⟨some d, .pick c (.tmp e2) (.const (.bool false)), ty, pos, af, g⟩ :: rest) σ h :=
  short (rest := o1 :: o2 :: o3 :: o4 :: o5 :: o6 :: o7 :: o8 :: o9 :: o10 :: o11 :: o12 :: o13 :: o14 :: o15 :: o16 :: o17 :: o18 :: o19 :: o20 :: o21 :: ⟨some d, .pick c (.tmp e2) (.const (.bool false)), ty, pos, af, g⟩ :: rest) j true 21 k.choose_spec.1 k.choose_spec.2 rfl hj hdj hbj hc hsk hcd rfl rfl hnd hal hd hg hdd
theorem orr21 {o1 o2 o3 o4 o5 o6 o7 o8 o9 o10 o11 o12 o13 o14 o15 o16 o17 o18 o19 o20 o21 : Oper} {e2 dj : Nat} {b : Bool} {oj : Oper} {c : Operand} {ds : List Nat} (j : Nat)
    (k : ∃ b2, (b = false → ∀ B, EvL P fz B (Kan e2 b2 h) ops [o1, o2, o3, o4, o5, o6, o7, o8, o9, o10, o11, o12, o13, o14, o15, o16, o17, o18, o19, o20, o21] σ h) ∧ EvL P fz B K ops rest ((d, vbool (b || b2)) :: drp ds σ) h)
    (hj : ops[j]? = some oj := by rfl) (hdj : oj.dst = some dj := by rfl) (hbj : rg σ dj = some (vbool b) := by rfl) (hc : og σ c = some (vbool b) := by rfl)
    (hsk : skipping ops j false [] [o1, o2, o3, o4, o5, o6, o7, o8, o9, o10, o11, o12, o13, o14, o15, o16, o17, o18, o19, o20, o21] = some ds := by rfl) (hcd : ∀ t, c = .tmp t → ds.any (Nat.beq t) = false := by intro t ht; cases ht; rfl)
    (hnd : [o1, o2, o3, o4, o5, o6, o7, o8, o9, o10, o11, o12, o13, o14, o15, o16, o17, o18, o19, o20, o21].all (fun o => match o.dst with | some e => !(Nat.beq e dj) | none => true) = true := by rfl)
    (hal : [o1, o2, o3, o4, o5, o6, o7, o8, o9, o10, o11, o12, o13, o14, o15, o16, o17, o18, o19, o20, o21].all (fun o => match o.dst with | some e => ds.any (Nat.beq e) | none => true) = true := by rfl)
    (hd : Nat.ble (d + 1) fz = true := by rfl) (hg : Gk ops σ g := by first | exact gk0 | exact gk1 rfl rfl rfl (by assumption)) (hdd : ∀ dj', (match g with | some (i, _) => (ops[i]?).bind (·.dst) | none => none) = some dj' → ds.any (Nat.beq dj') = false := by first | nofun | (intro _ h; cases h; rfl)) :
    EvL P fz B K ops (o1 :: o2 :: o3 :: o4 :: o5 :: o6 :: o7 :: o8 :: o9 :: o10 :: o11 :: o12 :: o13 :: o14 :: o15 :: o16 :: o17 :: o18 :: o19 :: o20 :: o21 :: ⟨some d, .pick c (.const (.bool true)) (.tmp e2), ty, pos, af, g⟩ :: rest) σ h :=
  short (rest := o1 :: o2 :: o3 :: o4 :: o5 :: o6 :: o7 :: o8 :: o9 :: o10 :: o11 :: o12 :: o13 :: o14 :: o15 :: o16 :: o17 :: o18 :: o19 :: o20 :: o21 :: ⟨some d, .pick c (.const (.bool true)) (.tmp e2), ty, pos, af, g⟩ :: rest) j false 21 k.choose_spec.1 k.choose_spec.2 rfl hj hdj hbj hc hsk hcd rfl rfl hnd hal hd hg hdd
theorem an22 {o1 o2 o3 o4 o5 o6 o7 o8 o9 o10 o11 o12 o13 o14 o15 o16 o17 o18 o19 o20 o21 o22 : Oper} {e2 dj : Nat} {b : Bool} {oj : Oper} {c : Operand} {ds : List Nat} (j : Nat)
    (k : ∃ b2, (b = true → ∀ B, EvL P fz B (Kan e2 b2 h) ops [o1, o2, o3, o4, o5, o6, o7, o8, o9, o10, o11, o12, o13, o14, o15, o16, o17, o18, o19, o20, o21, o22] σ h) ∧ EvL P fz B K ops rest ((d, vbool (b && b2)) :: drp ds σ) h)
    (hj : ops[j]? = some oj := by rfl) (hdj : oj.dst = some dj := by rfl) (hbj : rg σ dj = some (vbool b) := by rfl) (hc : og σ c = some (vbool b) := by rfl)
    (hsk : skipping ops j true [] [o1, o2, o3, o4, o5, o6, o7, o8, o9, o10, o11, o12, o13, o14, o15, o16, o17, o18, o19, o20, o21, o22] = some ds := by rfl) (hcd : ∀ t, c = .tmp t → ds.any (Nat.beq t) = false := by intro t ht; cases ht; rfl)
    (hnd : [o1, o2, o3, o4, o5, o6, o7, o8, o9, o10, o11, o12, o13, o14, o15, o16, o17, o18, o19, o20, o21, o22].all (fun o => match o.dst with | some e => !(Nat.beq e dj) | none => true) = true := by rfl)
    (hal : [o1, o2, o3, o4, o5, o6, o7, o8, o9, o10, o11, o12, o13, o14, o15, o16, o17, o18, o19, o20, o21, o22].all (fun o => match o.dst with | some e => ds.any (Nat.beq e) | none => true) = true := by rfl)
    (hd : Nat.ble (d + 1) fz = true := by rfl) (hg : Gk ops σ g := by first | exact gk0 | exact gk1 rfl rfl rfl (by assumption)) (hdd : ∀ dj', (match g with | some (i, _) => (ops[i]?).bind (·.dst) | none => none) = some dj' → ds.any (Nat.beq dj') = false := by first | nofun | (intro _ h; cases h; rfl)) :
    EvL P fz B K ops (o1 :: o2 :: o3 :: o4 :: o5 :: o6 :: o7 :: o8 :: o9 :: o10 :: o11 :: o12 :: o13 :: o14 :: o15 :: o16 :: o17 :: o18 :: o19 :: o20 :: o21 :: o22 :: ⟨some d, .pick c (.tmp e2) (.const (.bool false)), ty, pos, af, g⟩ :: rest) σ h :=
  short (rest := o1 :: o2 :: o3 :: o4 :: o5 :: o6 :: o7 :: o8 :: o9 :: o10 :: o11 :: o12 :: o13 :: o14 :: o15 :: o16 :: o17 :: o18 :: o19 :: o20 :: o21 :: o22 :: ⟨some d, .pick c (.tmp e2) (.const (.bool false)), ty, pos, af, g⟩ :: rest) j true 22 k.choose_spec.1 k.choose_spec.2 rfl hj hdj hbj hc hsk hcd rfl rfl hnd hal hd hg hdd
theorem orr22 {o1 o2 o3 o4 o5 o6 o7 o8 o9 o10 o11 o12 o13 o14 o15 o16 o17 o18 o19 o20 o21 o22 : Oper} {e2 dj : Nat} {b : Bool} {oj : Oper} {c : Operand} {ds : List Nat} (j : Nat)
    (k : ∃ b2, (b = false → ∀ B, EvL P fz B (Kan e2 b2 h) ops [o1, o2, o3, o4, o5, o6, o7, o8, o9, o10, o11, o12, o13, o14, o15, o16, o17, o18, o19, o20, o21, o22] σ h) ∧ EvL P fz B K ops rest ((d, vbool (b || b2)) :: drp ds σ) h)
    (hj : ops[j]? = some oj := by rfl) (hdj : oj.dst = some dj := by rfl) (hbj : rg σ dj = some (vbool b) := by rfl) (hc : og σ c = some (vbool b) := by rfl)
    (hsk : skipping ops j false [] [o1, o2, o3, o4, o5, o6, o7, o8, o9, o10, o11, o12, o13, o14, o15, o16, o17, o18, o19, o20, o21, o22] = some ds := by rfl) (hcd : ∀ t, c = .tmp t → ds.any (Nat.beq t) = false := by intro t ht; cases ht; rfl)
    (hnd : [o1, o2, o3, o4, o5, o6, o7, o8, o9, o10, o11, o12, o13, o14, o15, o16, o17, o18, o19, o20, o21, o22].all (fun o => match o.dst with | some e => !(Nat.beq e dj) | none => true) = true := by rfl)
    (hal : [o1, o2, o3, o4, o5, o6, o7, o8, o9, o10, o11, o12, o13, o14, o15, o16, o17, o18, o19, o20, o21, o22].all (fun o => match o.dst with | some e => ds.any (Nat.beq e) | none => true) = true := by rfl)
    (hd : Nat.ble (d + 1) fz = true := by rfl) (hg : Gk ops σ g := by first | exact gk0 | exact gk1 rfl rfl rfl (by assumption)) (hdd : ∀ dj', (match g with | some (i, _) => (ops[i]?).bind (·.dst) | none => none) = some dj' → ds.any (Nat.beq dj') = false := by first | nofun | (intro _ h; cases h; rfl)) :
    EvL P fz B K ops (o1 :: o2 :: o3 :: o4 :: o5 :: o6 :: o7 :: o8 :: o9 :: o10 :: o11 :: o12 :: o13 :: o14 :: o15 :: o16 :: o17 :: o18 :: o19 :: o20 :: o21 :: o22 :: ⟨some d, .pick c (.const (.bool true)) (.tmp e2), ty, pos, af, g⟩ :: rest) σ h :=
  short (rest := o1 :: o2 :: o3 :: o4 :: o5 :: o6 :: o7 :: o8 :: o9 :: o10 :: o11 :: o12 :: o13 :: o14 :: o15 :: o16 :: o17 :: o18 :: o19 :: o20 :: o21 :: o22 :: ⟨some d, .pick c (.const (.bool true)) (.tmp e2), ty, pos, af, g⟩ :: rest) j false 22 k.choose_spec.1 k.choose_spec.2 rfl hj hdj hbj hc hsk hcd rfl rfl hnd hal hd hg hdd
theorem an23 {o1 o2 o3 o4 o5 o6 o7 o8 o9 o10 o11 o12 o13 o14 o15 o16 o17 o18 o19 o20 o21 o22 o23 : Oper} {e2 dj : Nat} {b : Bool} {oj : Oper} {c : Operand} {ds : List Nat} (j : Nat)
    (k : ∃ b2, (b = true → ∀ B, EvL P fz B (Kan e2 b2 h) ops [o1, o2, o3, o4, o5, o6, o7, o8, o9, o10, o11, o12, o13, o14, o15, o16, o17, o18, o19, o20, o21, o22, o23] σ h) ∧ EvL P fz B K ops rest ((d, vbool (b && b2)) :: drp ds σ) h)
    (hj : ops[j]? = some oj := by rfl) (hdj : oj.dst = some dj := by rfl) (hbj : rg σ dj = some (vbool b) := by rfl) (hc : og σ c = some (vbool b) := by rfl)
    (hsk : skipping ops j true [] [o1, o2, o3, o4, o5, o6, o7, o8, o9, o10, o11, o12, o13, o14, o15, o16, o17, o18, o19, o20, o21, o22, o23] = some ds := by rfl) (hcd : ∀ t, c = .tmp t → ds.any (Nat.beq t) = false := by intro t ht; cases ht; rfl)
    (hnd : [o1, o2, o3, o4, o5, o6, o7, o8, o9, o10, o11, o12, o13, o14, o15, o16, o17, o18, o19, o20, o21, o22, o23].all (fun o => match o.dst with | some e => !(Nat.beq e dj) | none => true) = true := by rfl)
    (hal : [o1, o2, o3, o4, o5, o6, o7, o8, o9, o10, o11, o12, o13, o14, o15, o16, o17, o18, o19, o20, o21, o22, o23].all (fun o => match o.dst with | some e => ds.any (Nat.beq e) | none => true) = true := by rfl)
    (hd : Nat.ble (d + 1) fz = true := by rfl) (hg : Gk ops σ g := by first | exact gk0 | exact gk1 rfl rfl rfl (by assumption)) (hdd : ∀ dj', (match g with | some (i, _) => (ops[i]?).bind (·.dst) | none => none) = some dj' → ds.any (Nat.beq dj') = false := by first | nofun | (intro _ h; cases h; rfl)) :
    EvL P fz B K ops (o1 :: o2 :: o3 :: o4 :: o5 :: o6 :: o7 :: o8 :: o9 :: o10 :: o11 :: o12 :: o13 :: o14 :: o15 :: o16 :: o17 :: o18 :: o19 :: o20 :: o21 :: o22 :: o23 :: ⟨some d, .pick c (.tmp e2) (.const (.bool false)), ty, pos, af, g⟩ :: rest) σ h :=
  short (rest := o1 :: o2 :: o3 :: o4 :: o5 :: o6 :: o7 :: o8 :: o9 :: o10 :: o11 :: o12 :: o13 :: o14 :: o15 :: o16 :: o17 :: o18 :: o19 :: o20 :: o21 :: o22 :: o23 :: ⟨some d, .pick c (.tmp e2) (.const (.bool false)), ty, pos, af, g⟩ :: rest) j true 23 k.choose_spec.1 k.choose_spec.2 rfl hj hdj hbj hc hsk hcd rfl rfl hnd hal hd hg hdd
theorem orr23 {o1 o2 o3 o4 o5 o6 o7 o8 o9 o10 o11 o12 o13 o14 o15 o16 o17 o18 o19 o20 o21 o22 o23 : Oper} {e2 dj : Nat} {b : Bool} {oj : Oper} {c : Operand} {ds : List Nat} (j : Nat)
    (k : ∃ b2, (b = false → ∀ B, EvL P fz B (Kan e2 b2 h) ops [o1, o2, o3, o4, o5, o6, o7, o8, o9, o10, o11, o12, o13, o14, o15, o16, o17, o18, o19, o20, o21, o22, o23] σ h) ∧ EvL P fz B K ops rest ((d, vbool (b || b2)) :: drp ds σ) h)
    (hj : ops[j]? = some oj := by rfl) (hdj : oj.dst = some dj := by rfl) (hbj : rg σ dj = some (vbool b) := by rfl) (hc : og σ c = some (vbool b) := by rfl)
    (hsk : skipping ops j false [] [o1, o2, o3, o4, o5, o6, o7, o8, o9, o10, o11, o12, o13, o14, o15, o16, o17, o18, o19, o20, o21, o22, o23] = some ds := by rfl) (hcd : ∀ t, c = .tmp t → ds.any (Nat.beq t) = false := by intro t ht; cases ht; rfl)
    (hnd : [o1, o2, o3, o4, o5, o6, o7, o8, o9, o10, o11, o12, o13, o14, o15, o16, o17, o18, o19, o20, o21, o22, o23].all (fun o => match o.dst with | some e => !(Nat.beq e dj) | none => true) = true := by rfl)
    (hal : [o1, o2, o3, o4, o5, o6, o7, o8, o9, o10, o11, o12, o13, o14, o15, o16, o17, o18, o19, o20, o21, o22, o23].all (fun o => match o.dst with | some e => ds.any (Nat.beq e) | none => true) = true := by rfl)
    (hd : Nat.ble (d + 1) fz = true := by rfl) (hg : Gk ops σ g := by first | exact gk0 | exact gk1 rfl rfl rfl (by assumption)) (hdd : ∀ dj', (match g with | some (i, _) => (ops[i]?).bind (·.dst) | none => none) = some dj' → ds.any (Nat.beq dj') = false := by first | nofun | (intro _ h; cases h; rfl)) :
    EvL P fz B K ops (o1 :: o2 :: o3 :: o4 :: o5 :: o6 :: o7 :: o8 :: o9 :: o10 :: o11 :: o12 :: o13 :: o14 :: o15 :: o16 :: o17 :: o18 :: o19 :: o20 :: o21 :: o22 :: o23 :: ⟨some d, .pick c (.const (.bool true)) (.tmp e2), ty, pos, af, g⟩ :: rest) σ h :=
  short (rest := o1 :: o2 :: o3 :: o4 :: o5 :: o6 :: o7 :: o8 :: o9 :: o10 :: o11 :: o12 :: o13 :: o14 :: o15 :: o16 :: o17 :: o18 :: o19 :: o20 :: o21 :: o22 :: o23 :: ⟨some d, .pick c (.const (.bool true)) (.tmp e2), ty, pos, af, g⟩ :: rest) j false 23 k.choose_spec.1 k.choose_spec.2 rfl hj hdj hbj hc hsk hcd rfl rfl hnd hal hd hg hdd
theorem an24 {o1 o2 o3 o4 o5 o6 o7 o8 o9 o10 o11 o12 o13 o14 o15 o16 o17 o18 o19 o20 o21 o22 o23 o24 : Oper} {e2 dj : Nat} {b : Bool} {oj : Oper} {c : Operand} {ds : List Nat} (j : Nat)
    (k : ∃ b2, (b = true → ∀ B, EvL P fz B (Kan e2 b2 h) ops [o1, o2, o3, o4, o5, o6, o7, o8, o9, o10, o11, o12, o13, o14, o15, o16, o17, o18, o19, o20, o21, o22, o23, o24] σ h) ∧ EvL P fz B K ops rest ((d, vbool (b && b2)) :: drp ds σ) h)
    (hj : ops[j]? = some oj := by rfl) (hdj : oj.dst = some dj := by rfl) (hbj : rg σ dj = some (vbool b) := by rfl) (hc : og σ c = some (vbool b) := by rfl)
    (hsk : skipping ops j true [] [o1, o2, o3, o4, o5, o6, o7, o8, o9, o10, o11, o12, o13, o14, o15, o16, o17, o18, o19, o20, o21, o22, o23, o24] = some ds := by rfl) (hcd : ∀ t, c = .tmp t → ds.any (Nat.beq t) = false := by intro t ht; cases ht; rfl)
    (hnd : [o1, o2, o3, o4, o5, o6, o7, o8, o9, o10, o11, o12, o13, o14, o15, o16, o17, o18, o19, o20, o21, o22, o23, o24].all (fun o => match o.dst with | some e => !(Nat.beq e dj) | none => true) = true := by rfl)
    (hal : [o1, o2, o3, o4, o5, o6, o7, o8, o9, o10, o11, o12, o13, o14, o15, o16, o17, o18, o19, o20, o21, o22, o23, o24].all (fun o => match o.dst with | some e => ds.any (Nat.beq e) | none => true) = true := by rfl)
    (hd : Nat.ble (d + 1) fz = true := by rfl) (hg : Gk ops σ g := by first | exact gk0 | exact gk1 rfl rfl rfl (by assumption)) (hdd : ∀ dj', (match g with | some (i, _) => (ops[i]?).bind (·.dst) | none => none) = some dj' → ds.any (Nat.beq dj') = false := by first | nofun | (intro _ h; cases h; rfl)) :
    EvL P fz B K ops (o1 :: o2 :: o3 :: o4 :: o5 :: o6 :: o7 :: o8 :: o9 :: o10 :: o11 :: o12 :: o13 :: o14 :: o15 :: o16 :: o17 :: o18 :: o19 :: o20 :: o21 :: o22 :: o23 :: o24 :: ⟨some d, .pick c (.tmp e2) (.const (.bool false)), ty, pos, af, g⟩ :: rest) σ h :=
  short (rest := o1 :: o2 :: o3 :: o4 :: o5 :: o6 :: o7 :: o8 :: o9 :: o10 :: o11 :: o12 :: o13 :: o14 :: o15 :: o16 :: o17 :: o18 :: o19 :: o20 :: o21 :: o22 :: o23 :: o24 :: ⟨some d, .pick c (.tmp e2) (.const (.bool false)), ty, pos, af, g⟩ :: rest) j true 24 k.choose_spec.1 k.choose_spec.2 rfl hj hdj hbj hc hsk hcd rfl rfl hnd hal hd hg hdd
theorem orr24 {o1 o2 o3 o4 o5 o6 o7 o8 o9 o10 o11 o12 o13 o14 o15 o16 o17 o18 o19 o20 o21 o22 o23 o24 : Oper} {e2 dj : Nat} {b : Bool} {oj : Oper} {c : Operand} {ds : List Nat} (j : Nat)
    (k : ∃ b2, (b = false → ∀ B, EvL P fz B (Kan e2 b2 h) ops [o1, o2, o3, o4, o5, o6, o7, o8, o9, o10, o11, o12, o13, o14, o15, o16, o17, o18, o19, o20, o21, o22, o23, o24] σ h) ∧ EvL P fz B K ops rest ((d, vbool (b || b2)) :: drp ds σ) h)
    (hj : ops[j]? = some oj := by rfl) (hdj : oj.dst = some dj := by rfl) (hbj : rg σ dj = some (vbool b) := by rfl) (hc : og σ c = some (vbool b) := by rfl)
    (hsk : skipping ops j false [] [o1, o2, o3, o4, o5, o6, o7, o8, o9, o10, o11, o12, o13, o14, o15, o16, o17, o18, o19, o20, o21, o22, o23, o24] = some ds := by rfl) (hcd : ∀ t, c = .tmp t → ds.any (Nat.beq t) = false := by intro t ht; cases ht; rfl)
    (hnd : [o1, o2, o3, o4, o5, o6, o7, o8, o9, o10, o11, o12, o13, o14, o15, o16, o17, o18, o19, o20, o21, o22, o23, o24].all (fun o => match o.dst with | some e => !(Nat.beq e dj) | none => true) = true := by rfl)
    (hal : [o1, o2, o3, o4, o5, o6, o7, o8, o9, o10, o11, o12, o13, o14, o15, o16, o17, o18, o19, o20, o21, o22, o23, o24].all (fun o => match o.dst with | some e => ds.any (Nat.beq e) | none => true) = true := by rfl)
    (hd : Nat.ble (d + 1) fz = true := by rfl) (hg : Gk ops σ g := by first | exact gk0 | exact gk1 rfl rfl rfl (by assumption)) (hdd : ∀ dj', (match g with | some (i, _) => (ops[i]?).bind (·.dst) | none => none) = some dj' → ds.any (Nat.beq dj') = false := by first | nofun | (intro _ h; cases h; rfl)) :
    EvL P fz B K ops (o1 :: o2 :: o3 :: o4 :: o5 :: o6 :: o7 :: o8 :: o9 :: o10 :: o11 :: o12 :: o13 :: o14 :: o15 :: o16 :: o17 :: o18 :: o19 :: o20 :: o21 :: o22 :: o23 :: o24 :: ⟨some d, .pick c (.const (.bool true)) (.tmp e2), ty, pos, af, g⟩ :: rest) σ h :=
  short (rest := o1 :: o2 :: o3 :: o4 :: o5 :: o6 :: o7 :: o8 :: o9 :: o10 :: o11 :: o12 :: o13 :: o14 :: o15 :: o16 :: o17 :: o18 :: o19 :: o20 :: o21 :: o22 :: o23 :: o24 :: ⟨some d, .pick c (.const (.bool true)) (.tmp e2), ty, pos, af, g⟩ :: rest) j false 24 k.choose_spec.1 k.choose_spec.2 rfl hj hdj hbj hc hsk hcd rfl rfl hnd hal hd hg hdd
theorem an25 {o1 o2 o3 o4 o5 o6 o7 o8 o9 o10 o11 o12 o13 o14 o15 o16 o17 o18 o19 o20 o21 o22 o23 o24 o25 : Oper} {e2 dj : Nat} {b : Bool} {oj : Oper} {c : Operand} {ds : List Nat} (j : Nat)
    (k : ∃ b2, (b = true → ∀ B, EvL P fz B (Kan e2 b2 h) ops [o1, o2, o3, o4, o5, o6, o7, o8, o9, o10, o11, o12, o13, o14, o15, o16, o17, o18, o19, o20, o21, o22, o23, o24, o25] σ h) ∧ EvL P fz B K ops rest ((d, vbool (b && b2)) :: drp ds σ) h)
    (hj : ops[j]? = some oj := by rfl) (hdj : oj.dst = some dj := by rfl) (hbj : rg σ dj = some (vbool b) := by rfl) (hc : og σ c = some (vbool b) := by rfl)
    (hsk : skipping ops j true [] [o1, o2, o3, o4, o5, o6, o7, o8, o9, o10, o11, o12, o13, o14, o15, o16, o17, o18, o19, o20, o21, o22, o23, o24, o25] = some ds := by rfl) (hcd : ∀ t, c = .tmp t → ds.any (Nat.beq t) = false := by intro t ht; cases ht; rfl)
    (hnd : [o1, o2, o3, o4, o5, o6, o7, o8, o9, o10, o11, o12, o13, o14, o15, o16, o17, o18, o19, o20, o21, o22, o23, o24, o25].all (fun o => match o.dst with | some e => !(Nat.beq e dj) | none => true) = true := by rfl)
    (hal : [o1, o2, o3, o4, o5, o6, o7, o8, o9, o10, o11, o12, o13, o14, o15, o16, o17, o18, o19, o20, o21, o22, o23, o24, o25].all (fun o => match o.dst with | some e => ds.any (Nat.beq e) | none => true) = true := by rfl)
    (hd : Nat.ble (d + 1) fz = true := by rfl) (hg : Gk ops σ g := by first | exact gk0 | exact gk1 rfl rfl rfl (by assumption)) (hdd : ∀ dj', (match g with | some (i, _) => (ops[i]?).bind (·.dst) | none => none) = some dj' → ds.any (Nat.beq dj') = false := by first | nofun | (intro _ h; cases h; rfl)) :
    EvL P fz B K ops (o1 :: o2 :: o3 :: o4 :: o5 :: o6 :: o7 :: o8 :: o9 :: o10 :: o11 :: o12 :: o13 :: o14 :: o15 :: o16 :: o17 :: o18 :: o19 :: o20 :: o21 :: o22 :: o23 :: o24 :: o25 :: ⟨some d, .pick c (.tmp e2) (.const (.bool false)), ty, pos, af, g⟩ :: rest) σ h :=
  short (rest := o1 :: o2 :: o3 :: o4 :: o5 :: o6 :: o7 :: o8 :: o9 :: o10 :: o11 :: o12 :: o13 :: o14 :: o15 :: o16 :: o17 :: o18 :: o19 :: o20 :: o21 :: o22 :: o23 :: o24 :: o25 :: ⟨some d, .pick c (.tmp e2) (.const (.bool false)), ty, pos, af, g⟩ :: rest) j true 25 k.choose_spec.1 k.choose_spec.2 rfl hj hdj hbj hc hsk hcd rfl rfl hnd hal hd hg hdd
theorem orr25 {o1 o2 o3 o4 o5 o6 o7 o8 o9 o10 o11 o12 o13 o14 o15 o16 o17 o18 o19 o20 o21 o22 o23 o24 o25 : Oper} {e2 dj : Nat} {b : Bool} {oj : Oper} {c : Operand} {ds : List Nat} (j : Nat)
    (k : ∃ b2, (b = false → ∀ B, EvL P fz B (Kan e2 b2 h) ops [o1, o2, o3, o4, o5, o6, o7, o8, o9, o10, o11, o12, o13, o14, o15, o16, o17, o18, o19, o20, o21, o22, o23, o24, o25] σ h) ∧ EvL P fz B K ops rest ((d, vbool (b || b2)) :: drp ds σ) h)
    (hj : ops[j]? = some oj := by rfl) (hdj : oj.dst = some dj := by rfl) (hbj : rg σ dj = some (vbool b) := by rfl) (hc : og σ c = some (vbool b) := by rfl)
    (hsk : skipping ops j false [] [o1, o2, o3, o4, o5, o6, o7, o8, o9, o10, o11, o12, o13, o14, o15, o16, o17, o18, o19, o20, o21, o22, o23, o24, o25] = some ds := by rfl) (hcd : ∀ t, c = .tmp t → ds.any (Nat.beq t) = false := by intro t ht; cases ht; rfl)
    (hnd : [o1, o2, o3, o4, o5, o6, o7, o8, o9, o10, o11, o12, o13, o14, o15, o16, o17, o18, o19, o20, o21, o22, o23, o24, o25].all (fun o => match o.dst with | some e => !(Nat.beq e dj) | none => true) = true := by rfl)
    (hal : [o1, o2, o3, o4, o5, o6, o7, o8, o9, o10, o11, o12, o13, o14, o15, o16, o17, o18, o19, o20, o21, o22, o23, o24, o25].all (fun o => match o.dst with | some e => ds.any (Nat.beq e) | none => true) = true := by rfl)
    (hd : Nat.ble (d + 1) fz = true := by rfl) (hg : Gk ops σ g := by first | exact gk0 | exact gk1 rfl rfl rfl (by assumption)) (hdd : ∀ dj', (match g with | some (i, _) => (ops[i]?).bind (·.dst) | none => none) = some dj' → ds.any (Nat.beq dj') = false := by first | nofun | (intro _ h; cases h; rfl)) :
    EvL P fz B K ops (o1 :: o2 :: o3 :: o4 :: o5 :: o6 :: o7 :: o8 :: o9 :: o10 :: o11 :: o12 :: o13 :: o14 :: o15 :: o16 :: o17 :: o18 :: o19 :: o20 :: o21 :: o22 :: o23 :: o24 :: o25 :: ⟨some d, .pick c (.const (.bool true)) (.tmp e2), ty, pos, af, g⟩ :: rest) σ h :=
  short (rest := o1 :: o2 :: o3 :: o4 :: o5 :: o6 :: o7 :: o8 :: o9 :: o10 :: o11 :: o12 :: o13 :: o14 :: o15 :: o16 :: o17 :: o18 :: o19 :: o20 :: o21 :: o22 :: o23 :: o24 :: o25 :: ⟨some d, .pick c (.const (.bool true)) (.tmp e2), ty, pos, af, g⟩ :: rest) j false 25 k.choose_spec.1 k.choose_spec.2 rfl hj hdj hbj hc hsk hcd rfl rfl hnd hal hd hg hdd
theorem an26 {o1 o2 o3 o4 o5 o6 o7 o8 o9 o10 o11 o12 o13 o14 o15 o16 o17 o18 o19 o20 o21 o22 o23 o24 o25 o26 : Oper} {e2 dj : Nat} {b : Bool} {oj : Oper} {c : Operand} {ds : List Nat} (j : Nat)
    (k : ∃ b2, (b = true → ∀ B, EvL P fz B (Kan e2 b2 h) ops [o1, o2, o3, o4, o5, o6, o7, o8, o9, o10, o11, o12, o13, o14, o15, o16, o17, o18, o19, o20, o21, o22, o23, o24, o25, o26] σ h) ∧ EvL P fz B K ops rest ((d, vbool (b && b2)) :: drp ds σ) h)
    (hj : ops[j]? = some oj := by rfl) (hdj : oj.dst = some dj := by rfl) (hbj : rg σ dj = some (vbool b) := by rfl) (hc : og σ c = some (vbool b) := by rfl)
    (hsk : skipping ops j true [] [o1, o2, o3, o4, o5, o6, o7, o8, o9, o10, o11, o12, o13, o14, o15, o16, o17, o18, o19, o20, o21, o22, o23, o24, o25, o26] = some ds := by rfl) (hcd : ∀ t, c = .tmp t → ds.any (Nat.beq t) = false := by intro t ht; cases ht; rfl)
    (hnd : [o1, o2, o3, o4, o5, o6, o7, o8, o9, o10, o11, o12, o13, o14, o15, o16, o17, o18, o19, o20, o21, o22, o23, o24, o25, o26].all (fun o => match o.dst with | some e => !(Nat.beq e dj) | none => true) = true := by rfl)
    (hal : [o1, o2, o3, o4, o5, o6, o7, o8, o9, o10, o11, o12, o13, o14, o15, o16, o17, o18, o19, o20, o21, o22, o23, o24, o25, o26].all (fun o => match o.dst with | some e => ds.any (Nat.beq e) | none => true) = true := by rfl)
    (hd : Nat.ble (d + 1) fz = true := by rfl) (hg : Gk ops σ g := by first | exact gk0 | exact gk1 rfl rfl rfl (by assumption)) (hdd : ∀ dj', (match g with | some (i, _) => (ops[i]?).bind (·.dst) | none => none) = some dj' → ds.any (Nat.beq dj') = false := by first | nofun | (intro _ h; cases h; rfl)) :
    EvL P fz B K ops (o1 :: o2 :: o3 :: o4 :: o5 :: o6 :: o7 :: o8 :: o9 :: o10 :: o11 :: o12 :: o13 :: o14 :: o15 :: o16 :: o17 :: o18 :: o19 :: o20 :: o21 :: o22 :: o23 :: o24 :: o25 :: o26 :: ⟨some d, .pick c (.tmp e2) (.const (.bool false)), ty, pos, af, g⟩ :: rest) σ h :=
  short (rest := o1 :: o2 :: o3 :: o4 :: o5 :: o6 :: o7 :: o8 :: o9 :: o10 :: o11 :: o12 :: o13 :: o14 :: o15 :: o16 :: o17 :: o18 :: o19 :: o20 :: o21 :: o22 :: o23 :: o24 :: o25 :: o26 :: ⟨some d, .pick c (.tmp e2) (.const (.bool false)), ty, pos, af, g⟩ :: rest) j true 26 k.choose_spec.1 k.choose_spec.2 rfl hj hdj hbj hc hsk hcd rfl rfl hnd hal hd hg hdd
theorem orr26 {o1 o2 o3 o4 o5 o6 o7 o8 o9 o10 o11 o12 o13 o14 o15 o16 o17 o18 o19 o20 o21 o22 o23 o24 o25 o26 : Oper} {e2 dj : Nat} {b : Bool} {oj : Oper} {c : Operand} {ds : List Nat} (j : Nat)
    (k : ∃ b2, (b = false → ∀ B, EvL P fz B (Kan e2 b2 h) ops [o1, o2, o3, o4, o5, o6, o7, o8, o9, o10, o11, o12, o13, o14, o15, o16, o17, o18, o19, o20, o21, o22, o23, o24, o25, o26] σ h) ∧ EvL P fz B K ops rest ((d, vbool (b || b2)) :: drp ds σ) h)
    (hj : ops[j]? = some oj := by rfl) (hdj : oj.dst = some dj := by rfl) (hbj : rg σ dj = some (vbool b) := by rfl) (hc : og σ c = some (vbool b) := by rfl)
    (hsk : skipping ops j false [] [o1, o2, o3, o4, o5, o6, o7, o8, o9, o10, o11, o12, o13, o14, o15, o16, o17, o18, o19, o20, o21, o22, o23, o24, o25, o26] = some ds := by rfl) (hcd : ∀ t, c = .tmp t → ds.any (Nat.beq t) = false := by intro t ht; cases ht; rfl)
    (hnd : [o1, o2, o3, o4, o5, o6, o7, o8, o9, o10, o11, o12, o13, o14, o15, o16, o17, o18, o19, o20, o21, o22, o23, o24, o25, o26].all (fun o => match o.dst with | some e => !(Nat.beq e dj) | none => true) = true := by rfl)
    (hal : [o1, o2, o3, o4, o5, o6, o7, o8, o9, o10, o11, o12, o13, o14, o15, o16, o17, o18, o19, o20, o21, o22, o23, o24, o25, o26].all (fun o => match o.dst with | some e => ds.any (Nat.beq e) | none => true) = true := by rfl)
    (hd : Nat.ble (d + 1) fz = true := by rfl) (hg : Gk ops σ g := by first | exact gk0 | exact gk1 rfl rfl rfl (by assumption)) (hdd : ∀ dj', (match g with | some (i, _) => (ops[i]?).bind (·.dst) | none => none) = some dj' → ds.any (Nat.beq dj') = false := by first | nofun | (intro _ h; cases h; rfl)) :
    EvL P fz B K ops (o1 :: o2 :: o3 :: o4 :: o5 :: o6 :: o7 :: o8 :: o9 :: o10 :: o11 :: o12 :: o13 :: o14 :: o15 :: o16 :: o17 :: o18 :: o19 :: o20 :: o21 :: o22 :: o23 :: o24 :: o25 :: o26 :: ⟨some d, .pick c (.const (.bool true)) (.tmp e2), ty, pos, af, g⟩ :: rest) σ h :=
  short (rest := o1 :: o2 :: o3 :: o4 :: o5 :: o6 :: o7 :: o8 :: o9 :: o10 :: o11 :: o12 :: o13 :: o14 :: o15 :: o16 :: o17 :: o18 :: o19 :: o20 :: o21 :: o22 :: o23 :: o24 :: o25 :: o26 :: ⟨some d, .pick c (.const (.bool true)) (.tmp e2), ty, pos, af, g⟩ :: rest) j false 26 k.choose_spec.1 k.choose_spec.2 rfl hj hdj hbj hc hsk hcd rfl rfl hnd hal hd hg hdd
theorem an27 {o1 o2 o3 o4 o5 o6 o7 o8 o9 o10 o11 o12 o13 o14 o15 o16 o17 o18 o19 o20 o21 o22 o23 o24 o25 o26 o27 : Oper} {e2 dj : Nat} {b : Bool} {oj : Oper} {c : Operand} {ds : List Nat} (j : Nat)
    (k : ∃ b2, (b = true → ∀ B, EvL P fz B (Kan e2 b2 h) ops [o1, o2, o3, o4, o5, o6, o7, o8, o9, o10, o11, o12, o13, o14, o15, o16, o17, o18, o19, o20, o21, o22, o23, o24, o25, o26, o27] σ h) ∧ EvL P fz B K ops rest ((d, vbool (b && b2)) :: drp ds σ) h)
    (hj : ops[j]? = some oj := by rfl) (hdj : oj.dst = some dj := by rfl) (hbj : rg σ dj = some (vbool b) := by rfl) (hc : og σ c = some (vbool b) := by rfl)
    (hsk : skipping ops j true [] [o1, o2, o3, o4, o5, o6, o7, o8, o9, o10, o11, o12, o13, o14, o15, o16, o17, o18, o19, o20, o21, o22, o23, o24, o25, o26, o27] = some ds := by rfl) (hcd : ∀ t, c = .tmp t → ds.any (Nat.beq t) = false := by intro t ht; cases ht; rfl)
    (hnd : [o1, o2, o3, o4, o5, o6, o7, o8, o9, o10, o11, o12, o13, o14, o15, o16, o17, o18, o19, o20, o21, o22, o23, o24, o25, o26, o27].all (fun o => match o.dst with | some e => !(Nat.beq e dj) | none => true) = true := by rfl)
    (hal : [o1, o2, o3, o4, o5, o6, o7, o8, o9, o10, o11, o12, o13, o14, o15, o16, o17, o18, o19, o20, o21, o22, o23, o24, o25, o26, o27].all (fun o => match o.dst with | some e => ds.any (Nat.beq e) | none => true) = true := by rfl)
    (hd : Nat.ble (d + 1) fz = true := by rfl) (hg : Gk ops σ g := by first | exact gk0 | exact gk1 rfl rfl rfl (by assumption)) (hdd : ∀ dj', (match g with | some (i, _) => (ops[i]?).bind (·.dst) | none => none) = some dj' → ds.any (Nat.beq dj') = false := by first | nofun | (intro _ h; cases h; rfl)) :
    EvL P fz B K ops (o1 :: o2 :: o3 :: o4 :: o5 :: o6 :: o7 :: o8 :: o9 :: o10 :: o11 :: o12 :: o13 :: o14 :: o15 :: o16 :: o17 :: o18 :: o19 :: o20 :: o21 :: o22 :: o23 :: o24 :: o25 :: o26 :: o27 :: ⟨some d, .pick c (.tmp e2) (.const (.bool false)), ty, pos, af, g⟩ :: rest) σ h :=
  short (rest := o1 :: o2 :: o3 :: o4 :: o5 :: o6 :: o7 :: o8 :: o9 :: o10 :: o11 :: o12 :: o13 :: o14 :: o15 :: o16 :: o17 :: o18 :: o19 :: o20 :: o21 :: o22 :: o23 :: o24 :: o25 :: o26 :: o27 :: ⟨some d, .pick c (.tmp e2) (.const (.bool false)), ty, pos, af, g⟩ :: rest) j true 27 k.choose_spec.1 k.choose_spec.2 rfl hj hdj hbj hc hsk hcd rfl rfl hnd hal hd hg hdd
theorem orr27 {o1 o2 o3 o4 o5 o6 o7 o8 o9 o10 o11 o12 o13 o14 o15 o16 o17 o18 o19 o20 o21 o22 o23 o24 o25 o26 o27 : Oper} {e2 dj : Nat} {b : Bool} {oj : Oper} {c : Operand} {ds : List Nat} (j : Nat)
    (k : ∃ b2, (b = false → ∀ B, EvL P fz B (Kan e2 b2 h) ops [o1, o2, o3, o4, o5, o6, o7, o8, o9, o10, o11, o12, o13, o14, o15, o16, o17, o18, o19, o20, o21, o22, o23, o24, o25, o26, o27] σ h) ∧ EvL P fz B K ops rest ((d, vbool (b || b2)) :: drp ds σ) h)
    (hj : ops[j]? = some oj := by rfl) (hdj : oj.dst = some dj := by rfl) (hbj : rg σ dj = some (vbool b) := by rfl) (hc : og σ c = some (vbool b) := by rfl)
    (hsk : skipping ops j false [] [o1, o2, o3, o4, o5, o6, o7, o8, o9, o10, o11, o12, o13, o14, o15, o16, o17, o18, o19, o20, o21, o22, o23, o24, o25, o26, o27] = some ds := by rfl) (hcd : ∀ t, c = .tmp t → ds.any (Nat.beq t) = false := by intro t ht; cases ht; rfl)
    (hnd : [o1, o2, o3, o4, o5, o6, o7, o8, o9, o10, o11, o12, o13, o14, o15, o16, o17, o18, o19, o20, o21, o22, o23, o24, o25, o26, o27].all (fun o => match o.dst with | some e => !(Nat.beq e dj) | none => true) = true := by rfl)
    (hal : [o1, o2, o3, o4, o5, o6, o7, o8, o9, o10, o11, o12, o13, o14, o15, o16, o17, o18, o19, o20, o21, o22, o23, o24, o25, o26, o27].all (fun o => match o.dst with | some e => ds.any (Nat.beq e) | none => true) = true := by rfl)
    (hd : Nat.ble (d + 1) fz = true := by rfl) (hg : Gk ops σ g := by first | exact gk0 | exact gk1 rfl rfl rfl (by assumption)) (hdd : ∀ dj', (match g with | some (i, _) => (ops[i]?).bind (·.dst) | none => none) = some dj' → ds.any (Nat.beq dj') = false := by first | nofun | (intro _ h; cases h; rfl)) :
    EvL P fz B K ops (o1 :: o2 :: o3 :: o4 :: o5 :: o6 :: o7 :: o8 :: o9 :: o10 :: o11 :: o12 :: o13 :: o14 :: o15 :: o16 :: o17 :: o18 :: o19 :: o20 :: o21 :: o22 :: o23 :: o24 :: o25 :: o26 :: o27 :: ⟨some d, .pick c (.const (.bool true)) (.tmp e2), ty, pos, af, g⟩ :: rest) σ h :=
  short (rest := o1 :: o2 :: o3 :: o4 :: o5 :: o6 :: o7 :: o8 :: o9 :: o10 :: o11 :: o12 :: o13 :: o14 :: o15 :: o16 :: o17 :: o18 :: o19 :: o20 :: o21 :: o22 :: o23 :: o24 :: o25 :: o26 :: o27 :: ⟨some d, .pick c (.const (.bool true)) (.tmp e2), ty, pos, af, g⟩ :: rest) j false 27 k.choose_spec.1 k.choose_spec.2 rfl hj hdj hbj hc hsk hcd rfl rfl hnd hal hd hg hdd
theorem an28 {o1 o2 o3 o4 o5 o6 o7 o8 o9 o10 o11 o12 o13 o14 o15 o16 o17 o18 o19 o20 o21 o22 o23 o24 o25 o26 o27 o28 : Oper} {e2 dj : Nat} {b : Bool} {oj : Oper} {c : Operand} {ds : List Nat} (j : Nat)
    (k : ∃ b2, (b = true → ∀ B, EvL P fz B (Kan e2 b2 h) ops [o1, o2, o3, o4, o5, o6, o7, o8, o9, o10, o11, o12, o13, o14, o15, o16, o17, o18, o19, o20, o21, o22, o23, o24, o25, o26, o27, o28] σ h) ∧ EvL P fz B K ops rest ((d, vbool (b && b2)) :: drp ds σ) h)
    (hj : ops[j]? = some oj := by rfl) (hdj : oj.dst = some dj := by rfl) (hbj : rg σ dj = some (vbool b) := by rfl) (hc : og σ c = some (vbool b) := by rfl)
    (hsk : skipping ops j true [] [o1, o2, o3, o4, o5, o6, o7, o8, o9, o10, o11, o12, o13, o14, o15, o16, o17, o18, o19, o20, o21, o22, o23, o24, o25, o26, o27, o28] = some ds := by rfl) (hcd : ∀ t, c = .tmp t → ds.any (Nat.beq t) = false := by intro t ht; cases ht; rfl)
    (hnd : [o1, o2, o3, o4, o5, o6, o7, o8, o9, o10, o11, o12, o13, o14, o15, o16, o17, o18, o19, o20, o21, o22, o23, o24, o25, o26, o27, o28].all (fun o => match o.dst with | some e => !(Nat.beq e dj) | none => true) = true := by rfl)
    (hal : [o1, o2, o3, o4, o5, o6, o7, o8, o9, o10, o11, o12, o13, o14, o15, o16, o17, o18, o19, o20, o21, o22, o23, o24, o25, o26, o27, o28].all (fun o => match o.dst with | some e => ds.any (Nat.beq e) | none => true) = true := by rfl)
    (hd : Nat.ble (d + 1) fz = true := by rfl) (hg : Gk ops σ g := by first | exact gk0 | exact gk1 rfl rfl rfl (by assumption)) (hdd : ∀ dj', (match g with | some (i, _) => (ops[i]?).bind (·.dst) | none => none) = some dj' → ds.any (Nat.beq dj') = false := by first | nofun | (intro _ h; cases h; rfl)) :
    EvL P fz B K ops (o1 :: o2 :: o3 :: o4 :: o5 :: o6 :: o7 :: o8 :: o9 :: o10 :: o11 :: o12 :: o13 :: o14 :: o15 :: o16 :: o17 :: o18 :: o19 :: o20 :: o21 :: o22 :: o23 :: o24 :: o25 :: o26 :: o27 :: o28 :: ⟨some d, .pick c (.tmp e2) (.const (.bool false)), ty, pos, af, g⟩ :: rest) σ h :=
  short (rest := o1 :: o2 :: o3 :: o4 :: o5 :: o6 :: o7 :: o8 :: o9 :: o10 :: o11 :: o12 :: o13 :: o14 :: o15 :: o16 :: o17 :: o18 :: o19 :: o20 :: o21 :: o22 :: o23 :: o24 :: o25 :: o26 :: o27 :: o28 :: ⟨some d, .pick c (.tmp e2) (.const (.bool false)), ty, pos, af, g⟩ :: rest) j true 28 k.choose_spec.1 k.choose_spec.2 rfl hj hdj hbj hc hsk hcd rfl rfl hnd hal hd hg hdd
theorem orr28 {o1 o2 o3 o4 o5 o6 o7 o8 o9 o10 o11 o12 o13 o14 o15 o16 o17 o18 o19 o20 o21 o22 o23 o24 o25 o26 o27 o28 : Oper} {e2 dj : Nat} {b : Bool} {oj : Oper} {c : Operand} {ds : List Nat} (j : Nat)
    (k : ∃ b2, (b = false → ∀ B, EvL P fz B (Kan e2 b2 h) ops [o1, o2, o3, o4, o5, o6, o7, o8, o9, o10, o11, o12, o13, o14, o15, o16, o17, o18, o19, o20, o21, o22, o23, o24, o25, o26, o27, o28] σ h) ∧ EvL P fz B K ops rest ((d, vbool (b || b2)) :: drp ds σ) h)
    (hj : ops[j]? = some oj := by rfl) (hdj : oj.dst = some dj := by rfl) (hbj : rg σ dj = some (vbool b) := by rfl) (hc : og σ c = some (vbool b) := by rfl)
    (hsk : skipping ops j false [] [o1, o2, o3, o4, o5, o6, o7, o8, o9, o10, o11, o12, o13, o14, o15, o16, o17, o18, o19, o20, o21, o22, o23, o24, o25, o26, o27, o28] = some ds := by rfl) (hcd : ∀ t, c = .tmp t → ds.any (Nat.beq t) = false := by intro t ht; cases ht; rfl)
    (hnd : [o1, o2, o3, o4, o5, o6, o7, o8, o9, o10, o11, o12, o13, o14, o15, o16, o17, o18, o19, o20, o21, o22, o23, o24, o25, o26, o27, o28].all (fun o => match o.dst with | some e => !(Nat.beq e dj) | none => true) = true := by rfl)
    (hal : [o1, o2, o3, o4, o5, o6, o7, o8, o9, o10, o11, o12, o13, o14, o15, o16, o17, o18, o19, o20, o21, o22, o23, o24, o25, o26, o27, o28].all (fun o => match o.dst with | some e => ds.any (Nat.beq e) | none => true) = true := by rfl)
    (hd : Nat.ble (d + 1) fz = true := by rfl) (hg : Gk ops σ g := by first | exact gk0 | exact gk1 rfl rfl rfl (by assumption)) (hdd : ∀ dj', (match g with | some (i, _) => (ops[i]?).bind (·.dst) | none => none) = some dj' → ds.any (Nat.beq dj') = false := by first | nofun | (intro _ h; cases h; rfl)) :
    EvL P fz B K ops (o1 :: o2 :: o3 :: o4 :: o5 :: o6 :: o7 :: o8 :: o9 :: o10 :: o11 :: o12 :: o13 :: o14 :: o15 :: o16 :: o17 :: o18 :: o19 :: o20 :: o21 :: o22 :: o23 :: o24 :: o25 :: o26 :: o27 :: o28 :: ⟨some d, .pick c (.const (.bool true)) (.tmp e2), ty, pos, af, g⟩ :: rest) σ h :=
  short (rest := o1 :: o2 :: o3 :: o4 :: o5 :: o6 :: o7 :: o8 :: o9 :: o10 :: o11 :: o12 :: o13 :: o14 :: o15 :: o16 :: o17 :: o18 :: o19 :: o20 :: o21 :: o22 :: o23 :: o24 :: o25 :: o26 :: o27 :: o28 :: ⟨some d, .pick c (.const (.bool true)) (.tmp e2), ty, pos, af, g⟩ :: rest) j false 28 k.choose_spec.1 k.choose_spec.2 rfl hj hdj hbj hc hsk hcd rfl rfl hnd hal hd hg hdd
theorem an29 {o1 o2 o3 o4 o5 o6 o7 o8 o9 o10 o11 o12 o13 o14 o15 o16 o17 o18 o19 o20 o21 o22 o23 o24 o25 o26 o27 o28 o29 : Oper} {e2 dj : Nat} {b : Bool} {oj : Oper} {c : Operand} {ds : List Nat} (j : Nat)
    (k : ∃ b2, (b = true → ∀ B, EvL P fz B (Kan e2 b2 h) ops [o1, o2, o3, o4, o5, o6, o7, o8, o9, o10, o11, o12, o13, o14, o15, o16, o17, o18, o19, o20, o21, o22, o23, o24, o25, o26, o27, o28, o29] σ h) ∧ EvL P fz B K ops rest ((d, vbool (b && b2)) :: drp ds σ) h)
    (hj : ops[j]? = some oj := by rfl) (hdj : oj.dst = some dj := by rfl) (hbj : rg σ dj = some (vbool b) := by rfl) (hc : og σ c = some (vbool b) := by rfl)
    (hsk : skipping ops j true [] [o1, o2, o3, o4, o5, o6, o7, o8, o9, o10, o11, o12, o13, o14, o15, o16, o17, o18, o19, o20, o21, o22, o23, o24, o25, o26, o27, o28, o29] = some ds := by rfl) (hcd : ∀ t, c = .tmp t → ds.any (Nat.beq t) = false := by intro t ht; cases ht; rfl)
    (hnd : [o1, o2, o3, o4, o5, o6, o7, o8, o9, o10, o11, o12, o13, o14, o15, o16, o17, o18, o19, o20, o21, o22, o23, o24, o25, o26, o27, o28, o29].all (fun o => match o.dst with | some e => !(Nat.beq e dj) | none => true) = true := by rfl)
    (hal : [o1, o2, o3, o4, o5, o6, o7, o8, o9, o10, o11, o12, o13, o14, o15, o16, o17, o18, o19, o20, o21, o22, o23, o24, o25, o26, o27, o28, o29].all (fun o => match o.dst with | some e => ds.any (Nat.beq e) | none => true) = true := by rfl)
    (hd : Nat.ble (d + 1) fz = true := by rfl) (hg : Gk ops σ g := by first | exact gk0 | exact gk1 rfl rfl rfl (by assumption)) (hdd : ∀ dj', (match g with | some (i, _) => (ops[i]?).bind (·.dst) | none => none) = some dj' → ds.any (Nat.beq dj') = false := by first | nofun | (intro _ h; cases h; rfl)) :
    EvL P fz B K ops (o1 :: o2 :: o3 :: o4 :: o5 :: o6 :: o7 :: o8 :: o9 :: o10 :: o11 :: o12 :: o13 :: o14 :: o15 :: o16 :: o17 :: o18 :: o19 :: o20 :: o21 :: o22 :: o23 :: o24 :: o25 :: o26 :: o27 :: o28 :: o29 :: ⟨some d, .pick c (.tmp e2) (.const (.bool false)), ty, pos, af, g⟩ :: rest) σ h :=
  short (rest := o1 :: o2 :: o3 :: o4 :: o5 :: o6 :: o7 :: o8 :: o9 :: o10 :: o11 :: o12 :: o13 :: o14 :: o15 :: o16 :: o17 :: o18 :: o19 :: o20 :: o21 :: o22 :: o23 :: o24 :: o25 :: o26 :: o27 :: o28 :: o29 :: ⟨some d, .pick c (.tmp e2) (.const (.bool false)), ty, pos, af, g⟩ :: rest) j true 29 k.choose_spec.1 k.choose_spec.2 rfl hj hdj hbj hc hsk hcd rfl rfl hnd hal hd hg hdd
theorem orr29 {o1 o2 o3 o4 o5 o6 o7 o8 o9 o10 o11 o12 o13 o14 o15 o16 o17 o18 o19 o20 o21 o22 o23 o24 o25 o26 o27 o28 o29 : Oper} {e2 dj : Nat} {b : Bool} {oj : Oper} {c : Operand} {ds : List Nat} (j : Nat)
    (k : ∃ b2, (b = false → ∀ B, EvL P fz B (Kan e2 b2 h) ops [o1, o2, o3, o4, o5, o6, o7, o8, o9, o10, o11, o12, o13, o14, o15, o16, o17, o18, o19, o20, o21, o22, o23, o24, o25, o26, o27, o28, o29] σ h) ∧ EvL P fz B K ops rest ((d, vbool (b || b2)) :: drp ds σ) h)
    (hj : ops[j]? = some oj := by rfl) (hdj : oj.dst = some dj := by rfl) (hbj : rg σ dj = some (vbool b) := by rfl) (hc : og σ c = some (vbool b) := by rfl)
    (hsk : skipping ops j false [] [o1, o2, o3, o4, o5, o6, o7, o8, o9, o10, o11, o12, o13, o14, o15, o16, o17, o18, o19, o20, o21, o22, o23, o24, o25, o26, o27, o28, o29] = some ds := by rfl) (hcd : ∀ t, c = .tmp t → ds.any (Nat.beq t) = false := by intro t ht; cases ht; rfl)
    (hnd : [o1, o2, o3, o4, o5, o6, o7, o8, o9, o10, o11, o12, o13, o14, o15, o16, o17, o18, o19, o20, o21, o22, o23, o24, o25, o26, o27, o28, o29].all (fun o => match o.dst with | some e => !(Nat.beq e dj) | none => true) = true := by rfl)
    (hal : [o1, o2, o3, o4, o5, o6, o7, o8, o9, o10, o11, o12, o13, o14, o15, o16, o17, o18, o19, o20, o21, o22, o23, o24, o25, o26, o27, o28, o29].all (fun o => match o.dst with | some e => ds.any (Nat.beq e) | none => true) = true := by rfl)
    (hd : Nat.ble (d + 1) fz = true := by rfl) (hg : Gk ops σ g := by first | exact gk0 | exact gk1 rfl rfl rfl (by assumption)) (hdd : ∀ dj', (match g with | some (i, _) => (ops[i]?).bind (·.dst) | none => none) = some dj' → ds.any (Nat.beq dj') = false := by first | nofun | (intro _ h; cases h; rfl)) :
    EvL P fz B K ops (o1 :: o2 :: o3 :: o4 :: o5 :: o6 :: o7 :: o8 :: o9 :: o10 :: o11 :: o12 :: o13 :: o14 :: o15 :: o16 :: o17 :: o18 :: o19 :: o20 :: o21 :: o22 :: o23 :: o24 :: o25 :: o26 :: o27 :: o28 :: o29 :: ⟨some d, .pick c (.const (.bool true)) (.tmp e2), ty, pos, af, g⟩ :: rest) σ h :=
  short (rest := o1 :: o2 :: o3 :: o4 :: o5 :: o6 :: o7 :: o8 :: o9 :: o10 :: o11 :: o12 :: o13 :: o14 :: o15 :: o16 :: o17 :: o18 :: o19 :: o20 :: o21 :: o22 :: o23 :: o24 :: o25 :: o26 :: o27 :: o28 :: o29 :: ⟨some d, .pick c (.const (.bool true)) (.tmp e2), ty, pos, af, g⟩ :: rest) j false 29 k.choose_spec.1 k.choose_spec.2 rfl hj hdj hbj hc hsk hcd rfl rfl hnd hal hd hg hdd
theorem an30 {o1 o2 o3 o4 o5 o6 o7 o8 o9 o10 o11 o12 o13 o14 o15 o16 o17 o18 o19 o20 o21 o22 o23 o24 o25 o26 o27 o28 o29 o30 : Oper} {e2 dj : Nat} {b : Bool} {oj : Oper} {c : Operand} {ds : List Nat} (j : Nat)
    (k : ∃ b2, (b = true → ∀ B, EvL P fz B (Kan e2 b2 h) ops [o1, o2, o3, o4, o5, o6, o7, o8, o9, o10, o11, o12, o13, o14, o15, o16, o17, o18, o19, o20, o21, o22, o23, o24, o25, o26, o27, o28, o29, o30] σ h) ∧ EvL P fz B K ops rest ((d, vbool (b && b2)) :: drp ds σ) h)
    (hj : ops[j]? = some oj := by rfl) (hdj : oj.dst = some dj := by rfl) (hbj : rg σ dj = some (vbool b) := by rfl) (hc : og σ c = some (vbool b) := by rfl)
    (hsk : skipping ops j true [] [o1, o2, o3, o4, o5, o6, o7, o8, o9, o10, o11, o12, o13, o14, o15, o16, o17, o18, o19, o20, o21, o22, o23, o24, o25, o26, o27, o28, o29, o30] = some ds := by rfl) (hcd : ∀ t, c = .tmp t → ds.any (Nat.beq t) = false := by intro t ht; cases ht; rfl)
    (hnd : [o1, o2, o3, o4, o5, o6, o7, o8, o9, o10, o11, o12, o13, o14, o15, o16, o17, o18, o19, o20, o21, o22, o23, o24, o25, o26, o27, o28, o29, o30].all (fun o => match o.dst with | some e => !(Nat.beq e dj) | none => true) = true := by rfl)
    (hal : [o1, o2, o3, o4, o5, o6, o7, o8, o9, o10, o11, o12, o13, o14, o15, o16, o17, o18, o19, o20, o21, o22, o23, o24, o25, o26, o27, o28, o29, o30].all (fun o => match o.dst with | some e => ds.any (Nat.beq e) | none => true) = true := by rfl)
    (hd : Nat.ble (d + 1) fz = true := by rfl) (hg : Gk ops σ g := by first | exact gk0 | exact gk1 rfl rfl rfl (by assumption)) (hdd : ∀ dj', (match g with | some (i, _) => (ops[i]?).bind (·.dst) | none => none) = some dj' → ds.any (Nat.beq dj') = false := by first | nofun | (intro _ h; cases h; rfl)) :
    EvL P fz B K ops (o1 :: o2 :: o3 :: o4 :: o5 :: o6 :: o7 :: o8 :: o9 :: o10 :: o11 :: o12 :: o13 :: o14 :: o15 :: o16 :: o17 :: o18 :: o19 :: o20 :: o21 :: o22 :: o23 :: o24 :: o25 :: o26 :: o27 :: o28 :: o29 :: o30 :: ⟨some d, .pick c (.tmp e2) (.const (.bool false)), ty, pos, af, g⟩ :: rest) σ h :=
  short (rest := o1 :: o2 :: o3 :: o4 :: o5 :: o6 :: o7 :: o8 :: o9 :: o10 :: o11 :: o12 :: o13 :: o14 :: o15 :: o16 :: o17 :: o18 :: o19 :: o20 :: o21 :: o22 :: o23 :: o24 :: o25 :: o26 :: o27 :: o28 :: o29 :: o30 :: ⟨some d, .pick c (.tmp e2) (.const (.bool false)), ty, pos, af, g⟩ :: rest) j true 30 k.choose_spec.1 k.choose_spec.2 rfl hj hdj hbj hc hsk hcd rfl rfl hnd hal hd hg hdd
theorem orr30 {o1 o2 o3 o4 o5 o6 o7 o8 o9 o10 o11 o12 o13 o14 o15 o16 o17 o18 o19 o20 o21 o22 o23 o24 o25 o26 o27 o28 o29 o30 : Oper} {e2 dj : Nat} {b : Bool} {oj : Oper} {c : Operand} {ds : List Nat} (j : Nat)
    (k : ∃ b2, (b = false → ∀ B, EvL P fz B (Kan e2 b2 h) ops [o1, o2, o3, o4, o5, o6, o7, o8, o9, o10, o11, o12, o13, o14, o15, o16, o17, o18, o19, o20, o21, o22, o23, o24, o25, o26, o27, o28, o29, o30] σ h) ∧ EvL P fz B K ops rest ((d, vbool (b || b2)) :: drp ds σ) h)
    (hj : ops[j]? = some oj := by rfl) (hdj : oj.dst = some dj := by rfl) (hbj : rg σ dj = some (vbool b) := by rfl) (hc : og σ c = some (vbool b) := by rfl)
    (hsk : skipping ops j false [] [o1, o2, o3, o4, o5, o6, o7, o8, o9, o10, o11, o12, o13, o14, o15, o16, o17, o18, o19, o20, o21, o22, o23, o24, o25, o26, o27, o28, o29, o30] = some ds := by rfl) (hcd : ∀ t, c = .tmp t → ds.any (Nat.beq t) = false := by intro t ht; cases ht; rfl)
    (hnd : [o1, o2, o3, o4, o5, o6, o7, o8, o9, o10, o11, o12, o13, o14, o15, o16, o17, o18, o19, o20, o21, o22, o23, o24, o25, o26, o27, o28, o29, o30].all (fun o => match o.dst with | some e => !(Nat.beq e dj) | none => true) = true := by rfl)
    (hal : [o1, o2, o3, o4, o5, o6, o7, o8, o9, o10, o11, o12, o13, o14, o15, o16, o17, o18, o19, o20, o21, o22, o23, o24, o25, o26, o27, o28, o29, o30].all (fun o => match o.dst with | some e => ds.any (Nat.beq e) | none => true) = true := by rfl)
    (hd : Nat.ble (d + 1) fz = true := by rfl) (hg : Gk ops σ g := by first | exact gk0 | exact gk1 rfl rfl rfl (by assumption)) (hdd : ∀ dj', (match g with | some (i, _) => (ops[i]?).bind (·.dst) | none => none) = some dj' → ds.any (Nat.beq dj') = false := by first | nofun | (intro _ h; cases h; rfl)) :
    EvL P fz B K ops (o1 :: o2 :: o3 :: o4 :: o5 :: o6 :: o7 :: o8 :: o9 :: o10 :: o11 :: o12 :: o13 :: o14 :: o15 :: o16 :: o17 :: o18 :: o19 :: o20 :: o21 :: o22 :: o23 :: o24 :: o25 :: o26 :: o27 :: o28 :: o29 :: o30 :: ⟨some d, .pick c (.const (.bool true)) (.tmp e2), ty, pos, af, g⟩ :: rest) σ h :=
  short (rest := o1 :: o2 :: o3 :: o4 :: o5 :: o6 :: o7 :: o8 :: o9 :: o10 :: o11 :: o12 :: o13 :: o14 :: o15 :: o16 :: o17 :: o18 :: o19 :: o20 :: o21 :: o22 :: o23 :: o24 :: o25 :: o26 :: o27 :: o28 :: o29 :: o30 :: ⟨some d, .pick c (.const (.bool true)) (.tmp e2), ty, pos, af, g⟩ :: rest) j false 30 k.choose_spec.1 k.choose_spec.2 rfl hj hdj hbj hc hsk hcd rfl rfl hnd hal hd hg hdd
end
end Go.Proofs.YtagkniimpekhjaaGreat

set_option linter.unusedVariables false
namespace Go.Proofs.YtagkniimpekhjaaGreat
open Go.RowKit

/-! ### more of values -/
def One (p : VP) : Prop := ∀ w W v, p.p w W v → v.oneCell' = true
theorem one_vis {u : Value} (h : u.oneCell' = true) : One (vis u) := fun _ _ v hv => by have hv' : v = u := hv; rw [hv']; exact h
abbrev vptr (b o : Nat) : VP := vis (.pointer (some ⟨b, o, none⟩))
/-- a struct (or an array): its cells -/
def vagg (ps : List VP) : VP := ⟨fun w W v => ∃ cs : Array Value, v = .agg cs ∧ VPs w W ps cs.toList ∧ ∀ u ∈ cs.toList, u.oneCell' = true, fun he ⟨cs, h1, h2, h3⟩ => ⟨cs, h1, h2.st he, h3⟩⟩
/-- several results -/
def vtup (ps : List VP) : VP := ⟨fun w W v => ∃ cs : Array Value, v = .tuple cs ∧ VPs w W ps cs.toList, fun he ⟨cs, h1, h2⟩ => ⟨cs, h1, h2.st he⟩⟩
def Ones : List VP → Prop
  | [] => True
  | p :: ps => One p ∧ Ones ps
theorem Ones.all {w : World} {W : WS} : ∀ {ps : List VP} {vs : List Value}, Ones ps → VPs w W ps vs → ∀ u ∈ vs, u.oneCell' = true
  | [], [], _, _, u, hu => by cases hu
  | p :: ps, v :: vs, ⟨h1, h2⟩, ⟨k1, k2⟩, u, hu => by
    rcases List.mem_cons.1 hu with rfl | hu
    · exact h1 _ _ _ k1
    · exact Ones.all h2 k2 u hu
  | [], _ :: _, _, h, _, _ => h.elim
  | _ :: _, [], _, h, _, _ => h.elim

/-! ### a variable (a struct, an array, a number): a block of its own -/
def hvar (b : Nat) (e : TypeId) (ps : List VP) : HP where
  p := fun w W S => (∃ cs : Array Value, w.heap[b]? = some (.cells cs e (0, 0)) ∧ VPs w W ps cs.toList ∧ ∀ u ∈ cs.toList, u.oneCell' = true) ∧ ∀ x, S x ↔ x = b
  st := fun he hk ⟨⟨cs, h1, h2, h3⟩, hS⟩ => ⟨⟨cs, by rw [hk b ((hS b).2 rfl)]; exact h1, h2.st he, h3⟩, hS⟩
  lt := fun ⟨⟨cs, h1, _⟩, hS⟩ x hx => by
    have := (hS x).1 hx
    subst this
    exact (Array.getElem?_eq_some_iff.1 h1).1

theorem cell_at {w : World} {b e : Nat} {cs : Array Value} (h : w.heap[b]? = some (.cells cs e (0, 0))) (i : Nat) : w.cell? ⟨b, i, none⟩ = cs[i]? := by
  simp [World.cell?, h]
theorem froz_at {w : World} {b e : Nat} {cs : Array Value} (h : w.heap[b]? = some (.cells cs e (0, 0))) (i : Nat) : w.frozen? ⟨b, i, none⟩ = false := by
  simp [World.frozen?, h]
theorem add_pl (b o i : Nat) : (⟨b, o, none⟩ : Addr).add i = ⟨b, o + i, none⟩ := by
  unfold Addr.add
  split
  · rename_i h; subst h; rfl
  · rfl

/-! ### what is asked of the program's types -/
def isAggD : TypeDesc → Bool
  | .struct _ | .array _ _ => true
  | _ => false
/-- a type of one cell -/
def tOne (P : Program) (t : TypeId) : Bool := match P.underlying t, P.info? t with
  | some d, some i => !(isAggD d) && Nat.beq i.size 1
  | _, _ => false
/-- a struct or array of n cells -/
def tAgg (P : Program) (t : TypeId) (n : Nat) : Bool := match P.underlying t, P.info? t with
  | some d, some i => isAggD d && Nat.beq i.size n
  | _, _ => false
def tFld (P : Program) (t : TypeId) (f off : Nat) : Bool := match P.underlying t with
  | some (.struct fs) => match fs[f]? with
    | some fd => match P.info? fd.type with
      | some i => Nat.beq fd.offset off && !(Nat.beq i.size 0)
      | none => false
    | none => false
  | _ => false
/-- the zero value's cells -/
def tZero (P : Program) (t : TypeId) : Option (List Value) := ((P.info? t).bind (·.zero)).map fun v => v.cells.toList

theorem run_isAgg {P : Program} {t : TypeId} {d : TypeDesc} (h : P.underlying t = some d) (w : World) : (isAgg t).run P w = .ok (isAggD d) w := by
  simp only [isAgg, Sem.run_bind, run_underlying h, Result.andThen_ok]
  cases d <;> rfl
theorem run_tinfo {P : Program} {t : TypeId} {i : TypeInfo} (h : P.info? t = some i) (w : World) : (typeInfo t).run P w = .ok i w := by
  simp [typeInfo, h]
theorem run_size {P : Program} {t : TypeId} {i : TypeInfo} (h : P.info? t = some i) (w : World) : (sizeOf t).run P w = .ok i.size w := by
  simp only [sizeOf, Sem.run_bind, run_tinfo h, Result.andThen_ok, Sem.run_pure]
theorem tOne_parts {P : Program} {t : TypeId} (h : tOne P t = true) : ∃ d i, P.underlying t = some d ∧ P.info? t = some i ∧ isAggD d = false ∧ i.size = 1 := by
  unfold tOne at h
  split at h
  · rename_i d i h1 h2
    simp only [Bool.and_eq_true, Bool.not_eq_true'] at h
    exact ⟨d, i, h1, h2, h.1, Nat.eq_of_beq_eq_true h.2⟩
  · cases h
theorem tAgg_parts {P : Program} {t : TypeId} {n : Nat} (h : tAgg P t n = true) : ∃ d i, P.underlying t = some d ∧ P.info? t = some i ∧ isAggD d = true ∧ i.size = n := by
  unfold tAgg at h
  split at h
  · rename_i d i h1 h2
    simp only [Bool.and_eq_true] at h
    exact ⟨d, i, h1, h2, h.1, Nat.eq_of_beq_eq_true h.2⟩
  · cases h

theorem run_load {P : Program} {w : World} {a : Addr} {v : Value} (h : w.cell? a = some v) : (load a).run P w = .ok v w := by
  simp [load, Sem.run, h]
theorem run_loadCells {P : Program} {w : World} {a : Addr} : ∀ (vs : List Value) (i : Nat) (acc : Array Value), (∀ j u, vs[j]? = some u → w.cell? (a.add (i + j)) = some u) → (loadCellsFrom a i vs.length acc).run P w = .ok (acc ++ vs.toArray) w
  | [], i, acc, _ => by simp [loadCellsFrom]
  | v :: vs, i, acc, h => by
    have h0 : w.cell? (a.add i) = some v := h 0 v rfl
    have ih := run_loadCells (P := P) (w := w) (a := a) vs (i + 1) (acc.push v) (fun j u hj => by have := h (j + 1) u (by simpa using hj); rwa [Nat.add_assoc, Nat.add_comm 1 j])
    simp only [List.length_cons, loadCellsFrom, Sem.run_bind, run_load h0, Result.andThen_ok, ih]
    simp
/-- a value that lies in memory -/
theorem run_loadVar1 {P : Program} {w : World} {t : TypeId} {a : Addr} {v : Value} (ht : tOne P t = true) (h : w.cell? a = some v) : (loadVar t a).run P w = .ok v w := by
  obtain ⟨d, i, h1, h2, h3, h4⟩ := tOne_parts ht
  simp only [loadVar, Sem.run_bind, run_isAgg h1, Result.andThen_ok, h3, Bool.false_eq_true, if_false]
  exact run_load h
theorem run_loadVarA {P : Program} {w : World} {t : TypeId} {n : Nat} {a : Addr} {vs : List Value} (ht : tAgg P t n = true) (hn : vs.length = n) (h : ∀ j u, vs[j]? = some u → w.cell? (a.add j) = some u) : (loadVar t a).run P w = .ok (.agg vs.toArray) w := by
  obtain ⟨d, i, h1, h2, h3, h4⟩ := tAgg_parts ht
  simp only [loadVar, Sem.run_bind, run_isAgg h1, Result.andThen_ok, h3, if_true, run_size h2, loadCells]
  rw [h4, ← hn, run_loadCells (P := P) (w := w) (a := a) vs 0 #[] (fun j u hj => by rw [Nat.zero_add]; exact h j u hj)]
  simp

section
variable {P : Program} {fz : Nat} {B : Bs} {K : KP} {ops : Array Oper} {rest : List Oper} {σ : Regs} {h : List HP} {d : Nat} {ty : TypeId} {pos : String} {af : Array Edge} {g : Option (Nat × Bool)}

theorem Act.eval_def (a : Act) : (fun x => a.eval x) = a.eval := rfl
theorem ex_load {a : Act} {w : World} {t : TypeId} {x : Operand} {o : Oper} {ad : Addr} {v : Value} (ho : o.op = .load t x) (hx : a.eval x = .pointer (some ad)) (hr : (loadVar t ad).run P w = .ok v w) : (execOp a.eval o).run P w = .ok (.value v) w := by
  unfold execOp
  simp only [ho, Instr.loadAt, Instr.sureAddr, hx, Sem.run_bind, Sem.run_pure, Result.andThen_ok, hr]

/-- What's read out of a variable. -/
theorem ld1 {t : TypeId} {x : Operand} {b o e : Nat} {ps : List VP} {p : VP} {j : Nat} (ht : tOne P t = true) (hj : h[j]? = some (hvar b e ps)) (kk : EvL P fz B K ops rest ((d, p) :: σ) h) (hx : og σ x = some (vptr b o) := by rfl) (hp : ps[o]? = some p := by rfl) (hd : Nat.ble (d + 1) fz = true := by rfl) (hg : Gk ops σ g := by first | exact gk0 | exact gk1 rfl rfl rfl (by assumption)) :
    EvL P fz B K ops (⟨some d, .load t x, ty, pos, af, g⟩ :: rest) σ h :=
  opp hd hg (fun a w W S hs => by
    obtain ⟨S1, S2, ⟨⟨cs, h1, h2, h3⟩, _⟩, _⟩ := Sat.pick hj hs.sat
    obtain ⟨v, hv, hpv⟩ := h2.get hp
    have hc : w.cell? ⟨b, o, none⟩ = some v := by rw [cell_at h1]; simpa using hv
    exact ⟨v, ex_load rfl (hs.eval hx) (run_loadVar1 ht hc), hpv⟩) kk
theorem ldA {t : TypeId} {n : Nat} {x : Operand} {b o e : Nat} {ps : List VP} {j : Nat} (ht : tAgg P t n = true) (hj : h[j]? = some (hvar b e ps)) (kk : EvL P fz B K ops rest ((d, vagg ((ps.drop o).take n)) :: σ) h) (hx : og σ x = some (vptr b o) := by rfl) (hn : Nat.ble (o + n) ps.length = true := by rfl) (hd : Nat.ble (d + 1) fz = true := by rfl) (hg : Gk ops σ g := by first | exact gk0 | exact gk1 rfl rfl rfl (by assumption)) :
    EvL P fz B K ops (⟨some d, .load t x, ty, pos, af, g⟩ :: rest) σ h :=
  opp hd hg (fun a w W S hs => by
    obtain ⟨S1, S2, ⟨⟨cs, h1, h2, h3⟩, _⟩, _⟩ := Sat.pick hj hs.sat
    have hl := h2.length
    have hn' := Nat.le_of_ble_eq_true hn
    have hlen : ((cs.toList.drop o).take n).length = n := by rw [List.length_take, List.length_drop, hl]; omega
    refine ⟨.agg ((cs.toList.drop o).take n).toArray, ex_load rfl (hs.eval hx) (run_loadVarA ht hlen (fun j u hj => ?_)), ⟨_, rfl, (h2.drop o).take n, fun u hu => h3 u (List.mem_of_mem_drop (List.mem_of_mem_take hu))⟩⟩
    rw [add_pl, cell_at h1]
    rw [List.getElem?_take] at hj
    split at hj
    · rw [List.getElem?_drop] at hj
      simpa using hj
    · cases hj) kk
/-- A field's address. -/
theorem fa {t f off : Nat} {x : Operand} {b o : Nat} (ht : tFld P t f off = true) (kk : EvL P fz B K ops rest ((d, vptr b (o + off)) :: σ) h) (hx : og σ x = some (vptr b o) := by rfl) (hd : Nat.ble (d + 1) fz = true := by rfl) (hg : Gk ops σ g := by first | exact gk0 | exact gk1 rfl rfl rfl (by assumption)) :
    EvL P fz B K ops (⟨some d, .fieldAddr t x f, ty, pos, af, g⟩ :: rest) σ h :=
  opp hd hg (fun a w W S hs => by
    refine ⟨.pointer (some ⟨b, o + off, none⟩), ?_, rfl⟩
    have h1 : a.eval x = .pointer (some ⟨b, o, none⟩) := hs.eval hx
    unfold tFld at ht
    split at ht
    · rename_i fs hu
      split at ht
      · rename_i fd hfd
        split at ht
        · rename_i i hi
          simp only [Bool.and_eq_true, Bool.not_eq_true'] at ht
          have e1 := Nat.eq_of_beq_eq_true ht.1
          have e2 : i.size ≠ 0 := fun he => by rw [he] at ht; simp at ht
          subst e1
          unfold execOp
          simp only [Instr.fieldAt, Sem.run_bind, run_underlying hu, Result.andThen_ok, hfd, h1, Instr.sureAddr, Sem.run_pure, fieldPlace, run_size hi, e2, if_false, add_pl]
        · cases ht
      · cases ht
    · cases ht) kk
theorem nilck {x : Operand} {b o : Nat} (kk : EvL P fz B K ops rest ((d, vptr b o) :: σ) h) (hx : og σ x = some (vptr b o) := by rfl) (hd : Nat.ble (d + 1) fz = true := by rfl) (hg : Gk ops σ g := by first | exact gk0 | exact gk1 rfl rfl rfl (by assumption)) :
    EvL P fz B K ops (⟨some d, .nilCheck x, ty, pos, af, g⟩ :: rest) σ h :=
  opp hd hg (fun a w W S hs => ⟨.pointer (some ⟨b, o, none⟩), by have h1 : a.eval x = .pointer (some ⟨b, o, none⟩) := hs.eval hx; unfold execOp; simp [h1], rfl⟩) kk
theorem ext {x : Operand} {i : Nat} {ps : List VP} {p : VP} (kk : EvL P fz B K ops rest ((d, p) :: σ) h) (hx : og σ x = some (vtup ps) := by rfl) (hp : ps[i]? = some p := by rfl) (hd : Nat.ble (d + 1) fz = true := by rfl) (hg : Gk ops σ g := by first | exact gk0 | exact gk1 rfl rfl rfl (by assumption)) :
    EvL P fz B K ops (⟨some d, .extract x i, ty, pos, af, g⟩ :: rest) σ h :=
  opp hd hg (fun a w W S hs => by
    obtain ⟨cs, h1, h2⟩ : ∃ cs : Array Value, a.eval x = .tuple cs ∧ VPs w W ps cs.toList := hs.eval hx
    obtain ⟨v, hv, hpv⟩ := h2.get hp
    refine ⟨v, ?_, hpv⟩
    have hv' : cs[i]? = some v := by simpa using hv
    unfold execOp
    simp [h1, Instr.extract, hv']) kk

/-! ### new blocks -/
theorem size_push (w : World) (o : Obj) : ({ w with heap := w.heap.push o } : World).heap.size = w.heap.size + 1 := by simp
theorem Run.new {w : World} {W : WS} {S : Nat → Prop} (hs : ∀ b, S b → W b) (hb : ∀ b, W b → b < w.heap.size) (o : Obj) :
    Run w W S { w with heap := w.heap.push o } (fun b => W b ∨ b = w.heap.size) (fun b => b = w.heap.size ∨ S b) := by
  refine ⟨rfl, rfl, rfl, by simp, fun b hl _ => by simp [Array.getElem?_push, Nat.ne_of_lt hl], fun b hl _ => ?_, fun b hl h => ?_, fun b h => ?_, fun b h => ?_, fun b h => ?_⟩
  · exact ⟨fun h => h.resolve_right (Nat.ne_of_lt hl), .inl⟩
  · exact h.resolve_right (Nat.ne_of_lt hl)
  · rcases h with h | h
    · exact .inr (by omega)
    · exact .inl h
  · rcases h with h | h
    · exact .inr h
    · exact .inl (hs b h)
  · simp only [Array.size_push]
    rcases h with h | h
    · have := hb b h; omega
    · omega
theorem new_at (w : World) (o : Obj) : ({ w with heap := w.heap.push o } : World).heap[w.heap.size]? = some o := by simp
/-- A new block whose cells are known. -/
theorem new_var {w : World} {W : WS} {S : Nat → Prop} {hs : List HP} {e : TypeId} {cs : Array Value} {ps : List VP} (h : Sat w W hs S) (hsub : ∀ b, S b → W b) (hb : ∀ b, W b → b < w.heap.size) (hv : VPs w W ps cs.toList) (h1 : ∀ u ∈ cs.toList, u.oneCell' = true) :
    Sat { w with heap := w.heap.push (.cells cs e) } (fun b => W b ∨ b = w.heap.size) (hvar w.heap.size e ps :: hs) (fun b => b = w.heap.size ∨ S b) := by
  have hr := Run.new hsub hb (.cells cs e)
  have he := hr.evo hsub
  refine ⟨fun b => b = w.heap.size, S, ⟨⟨cs, new_at w _, hv.st he, h1⟩, fun _ => Iff.rfl⟩, h.st he (fun b hS => ?_), fun b hb' hS => ?_, fun _ => Iff.rfl⟩
  · have := h.lt b hS
    simp [Array.getElem?_push, Nat.ne_of_lt this]
  · have := h.lt b hS
    omega
theorem ex_box {a : Act} {w : World} {e : TypeId} {x : Operand} {o : Oper} {v : Value} (ho : o.op = .box e x) (hx : a.eval x = v) : (execOp a.eval o).run P w = .ok (.value (.pointer (some ⟨w.heap.size, 0, none⟩))) { w with heap := w.heap.push (.cells v.cells e) } := by
  unfold execOp
  simp only [ho, Instr.box, hx, newVar, newRow, newObj, Sem.run_bind, Sem.run_pure]
  rfl
theorem opx {op : Op} (hd : Nat.ble (d + 1) fz = true) (hg : Gk ops σ g)
    (hop : ∀ a w W S, St fz B.dfr B.w0 B.W0 B.S0 σ h a w W S → ∃ p h' v w' W' S', (execOp a.eval ⟨some d, op, ty, pos, af, g⟩).run P w = .ok (.value v) w' ∧ p.p w' W' v ∧ Sat w' W' h' S' ∧ Run w W S w' W' S' ∧ EvL P fz B K ops rest ((d, p) :: σ) h') :
    EvL P fz B K ops (⟨some d, op, ty, pos, af, g⟩ :: rest) σ h := by
  intro a w W S hs
  obtain ⟨p, h', v, w', W', S', hrun, hp, hsat, hr, k⟩ := hop a w W S hs
  refine wpListIn_step fun C hC => ?_
  rw [if_pos (Gk.wanted (o := ⟨some d, op, ty, pos, af, g⟩) hg hs)]
  refine opr hrun nofun ?_
  exact hC _ _ (k _ _ W' S' (hs.step hd hp hsat hr))
theorem boxA {e : TypeId} {x : Operand} {ps : List VP} (kk : ∀ b, EvL P fz B K ops rest ((d, vptr b 0) :: σ) (hvar b e ps :: h)) (hx : og σ x = some (vagg ps) := by rfl) (hd : Nat.ble (d + 1) fz = true := by rfl) (hg : Gk ops σ g := by first | exact gk0 | exact gk1 rfl rfl rfl (by assumption)) :
    EvL P fz B K ops (⟨some d, .box e x, ty, pos, af, g⟩ :: rest) σ h :=
  opx hd hg fun a w W S hs => by
    obtain ⟨cs, h1, h2, h3⟩ : ∃ cs : Array Value, a.eval x = .agg cs ∧ VPs w W ps cs.toList ∧ ∀ u ∈ cs.toList, u.oneCell' = true := hs.eval hx
    exact ⟨_, _, _, _, _, _, ex_box rfl h1, rfl, new_var hs.sat hs.run.sub hs.run.bound h2 h3, Run.new hs.run.sub hs.run.bound _, kk w.heap.size⟩
theorem cells_one {v : Value} (h : v.oneCell' = true) : v.cells = #[v] := by
  cases v <;> first | rfl | (simp [Value.oneCell'] at h)
theorem box1 {e : TypeId} {x : Operand} {p : VP} (h1 : One p) (kk : ∀ b, EvL P fz B K ops rest ((d, vptr b 0) :: σ) (hvar b e [p] :: h)) (hx : og σ x = some p := by rfl) (hd : Nat.ble (d + 1) fz = true := by rfl) (hg : Gk ops σ g := by first | exact gk0 | exact gk1 rfl rfl rfl (by assumption)) :
    EvL P fz B K ops (⟨some d, .box e x, ty, pos, af, g⟩ :: rest) σ h :=
  opx hd hg fun a w W S hs => by
    have hp := hs.eval hx
    have ho := h1 _ _ _ hp
    refine ⟨_, _, _, _, _, _, ex_box rfl rfl, rfl, new_var hs.sat hs.run.sub hs.run.bound (cs := (a.eval x).cells) (ps := [p]) ?_ ?_, Run.new hs.run.sub hs.run.bound _, kk w.heap.size⟩
    · rw [cells_one ho]; exact ⟨hp, trivial⟩
    · rw [cells_one ho]
      intro u hu
      simp only [List.mem_singleton] at hu
      rw [hu]; exact ho
/-- the zero value's cells, each of one cell -/
def zOk (P : Program) (t : TypeId) (zs : List Value) : Prop := tZero P t = some zs ∧ ∀ u ∈ zs, u.oneCell' = true
def visL : List Value → List VP
  | [] => []
  | v :: vs => vis v :: visL vs
theorem VPs.visL {w : World} {W : WS} : ∀ (vs : List Value), VPs w W (visL vs) vs
  | [] => trivial
  | _ :: vs => ⟨rfl, VPs.visL vs⟩
theorem alloc {e : TypeId} {zs : List Value} (hz : zOk P e zs) (kk : ∀ b, EvL P fz B K ops rest ((d, vptr b 0) :: σ) (hvar b e (visL zs) :: h)) (hd : Nat.ble (d + 1) fz = true := by rfl) (hg : Gk ops σ g := by first | exact gk0 | exact gk1 rfl rfl rfl (by assumption)) :
    EvL P fz B K ops (⟨some d, .alloc e, ty, pos, af, g⟩ :: rest) σ h :=
  opx hd hg fun a w W S hs => by
    obtain ⟨h1, h2⟩ := hz
    unfold tZero at h1
    obtain ⟨z, hz1, hz2⟩ := Option.map_eq_some_iff.1 h1
    obtain ⟨i, hi, hiz⟩ := Option.bind_eq_some_iff.1 hz1
    refine ⟨vptr w.heap.size 0, _, _, { w with heap := w.heap.push (.cells z.cells e) }, _, _, ?_, rfl, new_var hs.sat hs.run.sub hs.run.bound (cs := z.cells) (ps := visL zs) ?_ ?_, Run.new hs.run.sub hs.run.bound _, kk w.heap.size⟩
    · unfold execOp
      simp only [Instr.alloc, zeroValue, Sem.run_bind, run_tinfo hi, Result.andThen_ok, hiz, Sem.run_pure, newVar, newRow, newObj]
      rfl
    · rw [hz2]; exact VPs.visL zs
    · rw [hz2]; exact h2

/-! ### stores -/
theorem Run.setCell {w : World} {W : WS} {S : Nat → Prop} (hs : ∀ b, S b → W b) (hb : ∀ b, W b → b < w.heap.size) {a : Addr} {v : Value} (ha : S a.block) : Run w W S (w.setCell a v) W S := by
  refine ⟨rfl, rfl, rfl, by simp [World.setCell], fun b hl hn => Below.heap_setCell w a v b (fun e => hn (by rw [e]; exact ha)), fun _ _ _ => Iff.rfl, fun _ _ h => h, fun _ h => .inl h, hs, fun b h => by simpa [World.setCell] using hb b h⟩
theorem heap_setCell_at {w : World} {b e : Nat} {cs : Array Value} (h : w.heap[b]? = some (.cells cs e (0, 0))) (i : Nat) (v : Value) : (w.setCell ⟨b, i, none⟩ v).heap[b]? = some (.cells (cs.setIfInBounds i v) e (0, 0)) := by
  simp [World.setCell, Array.getElem?_modify, h]
/-- Stores of cells into one block that is owned. -/
theorem run_storeCells {P : Program} {b e : Nat} : ∀ (vs : List Value) (i o : Nat) (w : World) (cs : Array Value), w.heap[b]? = some (.cells cs e (0, 0)) → (∀ u ∈ vs, u.oneCell' = true) → o + i + vs.length ≤ cs.size →
    ∃ w' cs', (storeCells ⟨b, o, none⟩ vs i).run P w = .ok () w' ∧ w'.heap[b]? = some (.cells cs' e (0, 0)) ∧ cs'.size = cs.size ∧ (∀ j, cs'[j]? = if o + i ≤ j ∧ j < o + i + vs.length then vs[j - (o + i)]? else cs[j]?) ∧
      w'.os = w.os ∧ w'.tape = w.tape ∧ w'.output = w.output ∧ w'.heap.size = w.heap.size ∧ ∀ k, k ≠ b → w'.heap[k]? = w.heap[k]?
  | [], i, o, w, cs, h, _, _ => ⟨w, cs, by simp [storeCells], h, rfl, fun j => by rw [if_neg (by simp)], rfl, rfl, rfl, rfl, fun _ _ => rfl⟩
  | v :: vs, i, o, w, cs, h, h1, hl => by
    have hlt : o + i < cs.size := by simp only [List.length_cons] at hl; omega
    have hc : w.cell? ⟨b, o + i, none⟩ = some cs[o + i] := by rw [cell_at h]; simp [hlt]
    have hst : (store (⟨b, o, none⟩ : Addr) v).run P w = (store (⟨b, o, none⟩ : Addr) v).run P w := rfl
    obtain ⟨w', cs', hr, hb, hsz, hcs, e1, e2, e3, e4, e5⟩ := run_storeCells (P := P) (b := b) (e := e) vs (i + 1) o (w.setCell ⟨b, o + i, none⟩ v) (cs.setIfInBounds (o + i) v) (heap_setCell_at h _ _) (fun u hu => h1 u (List.mem_cons_of_mem _ hu)) (by simp only [List.length_cons] at hl; rw [Array.size_setIfInBounds]; omega)
    refine ⟨w', cs', ?_, hb, by rw [hsz, Array.size_setIfInBounds], fun j => ?_, e1, e2, e3, by rw [e4]; simp [World.setCell], fun k hk => by rw [e5 k hk]; exact Below.heap_setCell _ _ _ _ hk⟩
    · simp only [storeCells, Sem.run_bind, add_pl, run_store P w _ v .plain (h1 v (List.mem_cons_self ..)), hc, froz_at h, Bool.false_eq_true, if_false, Result.andThen_ok, hr]
    · rw [hcs j]
      simp only [List.length_cons]
      by_cases hj : j = o + i
      · subst hj
        rw [if_neg (by omega), if_pos (by omega)]
        simp [hlt]
      · by_cases h2 : o + (i + 1) ≤ j ∧ j < o + (i + 1) + vs.length
        · rw [if_pos h2, if_pos (by omega)]
          have : j - (o + i) = (j - (o + (i + 1))) + 1 := by omega
          rw [this, List.getElem?_cons_succ]
        · rw [if_neg h2, if_neg (by omega), Array.getElem?_setIfInBounds_ne (by omega)]

/-- qs laid over ps from o on -/
def spl (ps : List VP) (o : Nat) : List VP → List VP
  | [] => ps
  | q :: qs => spl (ps.set o q) (o + 1) qs
theorem VPs.spl {w : World} {W : WS} : ∀ {qs : List VP} {us : List Value} {ps : List VP} {vs : List Value} (o : Nat), VPs w W qs us → VPs w W ps vs → ∃ vs', vs'.length = vs.length ∧ VPs w W (spl ps o qs) vs' ∧ ∀ j, j < vs.length → vs'[j]? = if o ≤ j ∧ j < o + us.length then us[j - o]? else vs[j]?
  | [], [], ps, vs, o, _, h => ⟨vs, rfl, h, fun j _ => by rw [if_neg (by simp)]⟩
  | q :: qs, u :: us, ps, vs, o, ⟨h1, h2⟩, h => by
    obtain ⟨vs', hl, hp, hv⟩ := VPs.spl (qs := qs) (us := us) (o + 1) h2 (h.set (i := o) h1)
    rw [List.length_set] at hl hv
    refine ⟨vs', hl, hp, fun j hj => ?_⟩
    rw [hv j hj]
    simp only [List.length_cons]
    by_cases he : j = o
    · subst he
      rw [if_neg (by omega), if_pos (by omega)]
      simp [hj]
    · by_cases h3 : o + 1 ≤ j ∧ j < o + 1 + us.length
      · rw [if_pos h3, if_pos (by omega)]
        have : j - o = (j - (o + 1)) + 1 := by omega
        rw [this, List.getElem?_cons_succ]
      · rw [if_neg h3, if_neg (by omega), List.getElem?_set_ne (fun e => he e.symm)]
  | [], _ :: _, _, _, _, h, _ => h.elim
  | _ :: _, [], _, _, _, h, _ => h.elim
theorem spl_length : ∀ (qs : List VP) (ps : List VP) (o : Nat), (YtagkniimpekhjaaGreat.spl ps o qs).length = ps.length
  | [], _, _ => rfl
  | q :: qs, ps, o => by simp only [YtagkniimpekhjaaGreat.spl, spl_length qs, List.length_set]
theorem ex_store {a : Act} {w w' : World} {t : TypeId} {x y : Operand} {o : Oper} {ad : Addr} {v : Value} {i : TypeInfo} (ho : o.op = .store t x y) (hx : a.eval x = .pointer (some ad)) (hy : a.eval y = v) (hi : P.info? t = some i) (hsz : v.cells.size = i.size) (hr : (storeCells ad v.cells.toList).run P w = .ok () w') :
    (execOp a.eval o).run P w = .ok .skip w' := by
  unfold execOp
  simp only [ho, Instr.storeAt, Instr.sureAddr, hx, hy, storeVar, Sem.run_bind, Sem.run_pure, Result.andThen_ok, run_size hi, hsz, ne_eq, not_true, if_false, hr]
theorem store_var {w : World} {W : WS} {S : Nat → Prop} {j b o e : Nat} {ps qs : List VP} {us : List Value} (hj : h[j]? = some (hvar b e ps)) (hsat : Sat w W h S) (hsub : ∀ b, S b → W b) (hb : ∀ b, W b → b < w.heap.size) (hq : VPs w W qs us) (h1 : ∀ u ∈ us, u.oneCell' = true) (hl : o + qs.length ≤ ps.length) :
    ∃ w', (storeCells ⟨b, o, none⟩ us).run P w = .ok () w' ∧ Sat w' W (h.set j (hvar b e (spl ps o qs))) S ∧ Run w W S w' W S := by
  obtain ⟨S1, S2, ⟨⟨cs, hc, hp, ho⟩, hS1⟩, hS2, hd, hS⟩ := Sat.pick hj hsat
  have hlen := hp.length
  have hql := hq.length
  obtain ⟨w', cs', hr, hb', hsz, hcs, e1, e2, e3, e4, e5⟩ := run_storeCells (P := P) us 0 o w cs hc h1 (by rw [← Array.length_toList, hlen, hql]; omega)
  have hSb : S b := (hS b).2 (.inl ((hS1 b).2 rfl))
  have hrun : Run w W S w' W S := ⟨e1, e2, e3, by omega, fun k hk hn => e5 k (fun e => hn (e ▸ hSb)), fun _ _ _ => Iff.rfl, fun _ _ h => h, fun _ h => .inl h, hsub, fun k hk => by rw [e4]; exact hb k hk⟩
  have hev := hrun.evo hsub
  obtain ⟨vs', hvl, hvp, hvv⟩ := VPs.spl o hq hp
  have hcs' : cs'.toList = vs' := by
    apply List.ext_getElem?
    intro j
    by_cases hj : j < cs.toList.length
    · rw [hvv j hj]
      have := hcs j
      simp only [Nat.add_zero] at this
      simp only [Array.getElem?_toList]
      exact this
    · rw [List.getElem?_eq_none (by rw [Array.length_toList, hsz, ← Array.length_toList]; omega), List.getElem?_eq_none (by omega)]
  refine ⟨w', hr, ?_, hrun⟩
  have hone : ∀ u ∈ cs'.toList, u.oneCell' = true := by
    intro u hu
    obtain ⟨j, hjl, hju⟩ := List.getElem_of_mem hu
    have hj' : cs'[j]? = some u := by
      rw [← Array.getElem?_toList, List.getElem?_eq_getElem hjl, hju]
    rw [hcs j] at hj'
    split at hj'
    · exact h1 u (List.mem_of_getElem? hj')
    · rw [← Array.getElem?_toList] at hj'
      exact ho u (List.mem_of_getElem? hj')
  have hput := Sat.put (w := w') (W := W) (y := hvar b e (spl ps o qs)) hj ⟨⟨cs', hb', by rw [hcs']; exact hvp.st hev, hone⟩, hS1⟩ (hS2.st hev (fun k hk => e5 k (fun e => hd b ((hS1 b).2 rfl) (e ▸ hk)))) hd
  exact hput.congr fun k => (hS k).symm
/-- A store of one cell. -/
theorem st1 {t : TypeId} {x y : Operand} {b o e : Nat} {ps : List VP} {p : VP} {j : Nat} (ht : tOne P t = true) (hj : h[j]? = some (hvar b e ps)) (ho : One p) (kk : EvL P fz B K ops rest σ (h.set j (hvar b e (ps.set o p)))) (hx : og σ x = some (vptr b o) := by rfl) (hy : og σ y = some p := by rfl) (hl : Nat.ble (o + 1) ps.length = true := by rfl) (hg : Gk ops σ g := by first | exact gk0 | exact gk1 rfl rfl rfl (by assumption)) :
    EvL P fz B K ops (⟨none, .store t x y, ty, pos, af, g⟩ :: rest) σ h :=
  opu hg (fun a w W S hs => by
    have hp := hs.eval hy
    have h1 := ho _ _ _ hp
    obtain ⟨_, i, _, hi, _, h4⟩ := tOne_parts ht
    obtain ⟨w', hr, hsat, hrun⟩ := store_var (P := P) hj hs.sat hs.run.sub hs.run.bound (qs := [p]) (us := [a.eval y]) (o := o) ⟨hp, trivial⟩ (fun u hu => by simp only [List.mem_singleton] at hu; rw [hu]; exact h1) (Nat.le_of_ble_eq_true hl)
    have hc := cells_one h1
    exact ⟨w', W, S, .inl (ex_store rfl (hs.eval hx) rfl hi (by rw [hc, h4]; rfl) (by rw [hc]; exact hr)), hsat, hrun⟩) kk
theorem stA {t : TypeId} {n : Nat} {x y : Operand} {b o e : Nat} {ps qs : List VP} {j : Nat} (ht : tAgg P t n = true) (hj : h[j]? = some (hvar b e ps)) (kk : EvL P fz B K ops rest σ (h.set j (hvar b e (spl ps o qs)))) (hx : og σ x = some (vptr b o) := by rfl) (hy : og σ y = some (vagg qs) := by rfl) (hq : Nat.beq qs.length n = true := by rfl) (hl : Nat.ble (o + qs.length) ps.length = true := by rfl) (hg : Gk ops σ g := by first | exact gk0 | exact gk1 rfl rfl rfl (by assumption)) :
    EvL P fz B K ops (⟨none, .store t x y, ty, pos, af, g⟩ :: rest) σ h :=
  opu hg (fun a w W S hs => by
    obtain ⟨cs, h1, h2, h3⟩ : ∃ cs : Array Value, a.eval y = .agg cs ∧ VPs w W qs cs.toList ∧ ∀ u ∈ cs.toList, u.oneCell' = true := hs.eval hy
    obtain ⟨_, i, _, hi, _, h4⟩ := tAgg_parts ht
    obtain ⟨w', hr, hsat, hrun⟩ := store_var (P := P) hj hs.sat hs.run.sub hs.run.bound h2 h3 (Nat.le_of_ble_eq_true hl)
    exact ⟨w', W, S, .inl (ex_store rfl (hs.eval hx) h1 hi (by rw [h4, ← Nat.eq_of_beq_eq_true hq, ← h2.length]; rfl) hr), hsat, hrun⟩) kk
end
end Go.Proofs.YtagkniimpekhjaaGreat

set_option linter.unusedVariables false
namespace Go.Proofs.YtagkniimpekhjaaGreat
open Go.RowKit

/-! ### a function's contract out of its body; calls -/
def ags : Nat → List VP → Regs
  | _, [] => []
  | i, p :: ps => (i, p) :: ags (i + 1) ps
inductive ResV (P : Program) (σ : Regs) (h : List HP) : ResultVar → VP → Prop
  | tmp {t : Nat} {p : VP} (hp : rg σ t = some p) : ResV P σ h (.tmp t) p
  | cell1 {t ty b o e : Nat} {ps : List VP} {j : Nat} {p : VP} (hx : rg σ t = some (vptr b o)) (ht : tOne P ty = true) (hj : h[j]? = some (hvar b e ps)) (hp : ps[o]? = some p) : ResV P σ h (.cell t ty) p
  | cellA {t ty b o e : Nat} {ps : List VP} {j n : Nat} (hx : rg σ t = some (vptr b o)) (ht : tAgg P ty n = true) (hj : h[j]? = some (hvar b e ps)) (hn : Nat.ble (o + n) ps.length = true) : ResV P σ h (.cell t ty) (vagg ((ps.drop o).take n))
inductive ResVs (P : Program) (σ : Regs) (h : List HP) : List ResultVar → List VP → Prop
  | nil : ResVs P σ h [] []
  | cons {r rs p ps} (h1 : ResV P σ h r p) (h2 : ResVs P σ h rs ps) : ResVs P σ h (r :: rs) (p :: ps)
/-- hc are some of h; hf the others -/
inductive Sel : List HP → List HP → List HP → Prop
  | nil {h : List HP} : Sel h [] h
  | cons {h : List HP} {x : HP} {hc hf : List HP} (j : Nat) (hj : h[j]? = some x) (k : Sel (h.eraseIdx j) hc hf) : Sel h (x :: hc) hf
theorem Sel.sat {w : World} {W : WS} : ∀ {h hc hf : List HP} {S : Nat → Prop}, Sel h hc hf → Sat w W h S → ∃ S1 S2, Sat w W hc S1 ∧ Sat w W hf S2 ∧ (∀ x, S1 x → ¬ S2 x) ∧ ∀ x, S x ↔ (S1 x ∨ S2 x)
  | h, _, _, S, .nil, hs => ⟨fun _ => False, S, fun _ h => h, hs, fun _ h => h.elim, fun x => by simp⟩
  | h, _, _, S, .cons j hj k, hs => by
    obtain ⟨S1, S2, h1, h2, hd, hS⟩ := Sat.pick hj hs
    obtain ⟨T1, T2, g1, g2, gd, gS⟩ := Sel.sat k h2
    refine ⟨fun b => S1 b ∨ T1 b, T2, ⟨S1, T1, h1, g1, fun b hb ht => hd b hb ((gS b).2 (.inl ht)), fun _ => Iff.rfl⟩, g2, ?_, ?_⟩
    · rintro b (hb | hb) ht
      · exact hd b hb ((gS b).2 (.inr ht))
      · exact gd b hb ht
    · intro b
      rw [hS b, gS b, or_assoc]
def rOne : List VP → VP
  | [p] => p
  | ps => vtup ps
def Kret (P : Program) (rs : Array ResultVar) (Post : VP → List HP → Prop) : KP
  | .ret, σ, h => ∃ ps h1 hf, ResVs P σ h rs.toList ps ∧ Sel h h1 hf ∧ Post (rOne ps) h1
  | .normal, σ, h => ∃ ps h1 hf, ResVs P σ h rs.toList ps ∧ Sel h h1 hf ∧ Post (rOne ps) h1
  | _, _, _ => False
section
variable {P : Program} {fz : Nat} {B : Bs} {K : KP} {ops : Array Oper} {rest : List Oper} {σ : Regs} {h : List HP} {d : Nat} {ty : TypeId} {pos : String} {af : Array Edge} {g : Option (Nat × Bool)}

def rvS (tmps : Array Value) : ResultVar → Sem Value
  | .tmp t => pure (tmps.getD t undef)
  | .cell x t => do loadVar t (← asAddr (tmps.getD x undef))
theorem ResV.run {df w0 W0 S0 a w W S} {rv : ResultVar} {p : VP} (hr : ResV P σ h rv p) (hs : St fz df w0 W0 S0 σ h a w W S) :
    ∃ v, (rvS a.tmps rv).run P w = .ok v w ∧ p.p w W v := by
  cases hr with
  | tmp hp =>
    obtain ⟨v, hv, hpv⟩ := hs.regs _ _ hp
    exact ⟨v, by simp [rvS, Array.getD_eq_getD_getElem?, hv], hpv⟩
  | cell1 hx ht hj hp =>
    obtain ⟨v, hv, hpv⟩ := hs.regs _ _ hx
    have hpv' : v = _ := hpv
    subst hpv'
    obtain ⟨S1, S2, ⟨⟨cs, h1, h2, h3⟩, _⟩, _⟩ := Sat.pick hj hs.sat
    obtain ⟨u, hu, hpu⟩ := h2.get hp
    refine ⟨u, ?_, hpu⟩
    simp only [rvS, Array.getD_eq_getD_getElem?, hv, Option.getD_some, asAddr, Sem.run_bind, Sem.run_pure, Result.andThen_ok]
    exact run_loadVar1 ht (by rw [cell_at h1]; simpa using hu)
  | @cellA t ty b o e ps j n hx ht hj hn =>
    obtain ⟨v, hv, hpv⟩ := hs.regs _ _ hx
    have hpv' : v = _ := hpv
    subst hpv'
    obtain ⟨S1, S2, ⟨⟨cs, h1, h2, h3⟩, _⟩, _⟩ := Sat.pick hj hs.sat
    have hl := h2.length
    have hn' := Nat.le_of_ble_eq_true hn
    have hlen : ((cs.toList.drop o).take n).length = n := by rw [List.length_take, List.length_drop, hl]; omega
    refine ⟨.agg ((cs.toList.drop o).take n).toArray, ?_, ⟨_, rfl, (h2.drop o).take n, fun u hu => h3 u (List.mem_of_mem_drop (List.mem_of_mem_take hu))⟩⟩
    simp only [rvS, Array.getD_eq_getD_getElem?, hv, Option.getD_some, asAddr, Sem.run_bind, Sem.run_pure, Result.andThen_ok]
    refine run_loadVarA ht hlen (fun j u hj => ?_)
    rw [add_pl, cell_at h1]
    rw [List.getElem?_take] at hj
    split at hj
    · rw [List.getElem?_drop] at hj
      simpa using hj
    · cases hj
theorem ResVs.run {df w0 W0 S0 a w W S} (hs : St fz df w0 W0 S0 σ h a w W S) : ∀ {rs : List ResultVar} {ps : List VP}, ResVs P σ h rs ps →
    ∃ vs, (rs.mapM (m := Sem) (rvS a.tmps)).run P w = .ok vs w ∧ VPs w W ps vs
  | [], _, .nil => ⟨[], by simp, trivial⟩
  | rv :: rs, _, .cons h1 h2 => by
    obtain ⟨v, hv, hp⟩ := h1.run hs
    obtain ⟨vs, hvs, hps⟩ := ResVs.run hs h2
    refine ⟨v :: vs, ?_, hp, hps⟩
    simp only [List.mapM_cons, Sem.run_bind, hv, Result.andThen_ok, hvs, Sem.run_pure]
theorem ags_rg : ∀ {ps : List VP} {i j : Nat} {p : VP}, rg (ags i ps) j = some p → i ≤ j ∧ ps[j - i]? = some p
  | [], _, _, _, h => by cases h
  | q :: ps, i, j, p, h => by
    simp only [ags, rg] at h
    cases hb : Nat.beq i j with
    | true =>
      have := Nat.eq_of_beq_eq_true hb
      subst this
      rw [hb] at h
      simp only [cond_true, Option.some.injEq] at h
      exact ⟨Nat.le_refl _, by simp [h]⟩
    | false =>
      rw [hb] at h
      obtain ⟨h1, h2⟩ := ags_rg (ps := ps) h
      refine ⟨by omega, ?_⟩
      have : j - i = (j - (i + 1)) + 1 := by omega
      rw [this, List.getElem?_cons_succ]
      exact h2
theorem Fn.body {f : FuncId} {fn : Func} {c : Code} {args : List VP} {Post : VP → List HP → Prop} (hf : P.funcs[f]? = some fn) (hb : fn.body = some c) (hn : fn.ntmps = fz) (ha : Nat.ble args.length fz = true)
    (k : ∀ B, EvC P fz B (Kret P fn.results Post) c (ags 0 args) h) : Fn P f args h Post := by
  intro w W S vs hv hsat hsub hbd
  have hlv := hv.length
  have ha' := Nat.le_of_ble_eq_true ha
  refine calls_of_wp hf hb (wp_mono ((wpIn_wide (n := 0)).1 (k ⟨w, W, S, hsub, none, []⟩ _ w W S ⟨?_, rfl, ?_, hsat, Run.refl hsub hbd⟩)) ?_)
  · simp [hn, hlv]
    try omega
  · intro d p hd
    obtain ⟨_, h2⟩ := ags_rg hd
    simp only [Nat.sub_zero] at h2
    obtain ⟨v, hv1, hp⟩ := hv.get h2
    refine ⟨v, ?_, hp⟩
    have hlt : d < vs.length := (List.getElem?_eq_some_iff.1 hv1).1
    rw [Array.getElem?_append_left (by simpa using hlt)]
    simpa using hv1
  · rintro e a w' ⟨h1, h2, σ', h', W', S', hs, hk⟩
    have fin : ∀ ps h1 hf, ResVs P σ' h' fn.results.toList ps → Sel h' h1 hf → Post (rOne ps) h1 → a.defers = [] ∧ ∃ v, (results fn a.tmps).run P w' = .ok v w' ∧ ∃ v', ∃ r h' W' S', Ending.returned v = .returned v' ∧ r.p w' W' v' ∧ Post r h' ∧ Sat w' W' h' S' ∧ Run w W S w' W' S' := by
      intro ps h1 hf hps hsel hpost
      obtain ⟨us, hus, hpu⟩ := hps.run hs
      obtain ⟨T1, T2, hT1, _, _, hT⟩ := hsel.sat hs.sat
      refine ⟨hs.defers, if h : us.toArray.size = 1 then us.toArray[0] else .tuple us.toArray, ?_, _, rOne ps, h1, W', T1, rfl, ?_, hpost, hT1, hs.run.less fun b hb => (hT b).2 (.inl hb)⟩
      · have hrv : results fn a.tmps = (fn.results.mapM (m := Sem) (rvS a.tmps) >>= fun vs => pure (if h : vs.size = 1 then vs[0] else .tuple vs)) := by
          unfold results
          congr 1
        have : (fn.results.mapM (m := Sem) (rvS a.tmps)).run P w' = .ok us.toArray w' := by
          rw [Array.mapM_eq_mapM_toList]
          simp only [Sem.run_map, hus]
          rfl
        rw [hrv]
        simp only [Sem.run_bind]
        rw [this]
        rfl
      · match ps, us, hpu with
        | [], [], _ => exact ⟨#[], rfl, trivial⟩
        | [p], [u], ⟨hp, _⟩ => exact hp
        | p :: q :: ps, u :: v :: us, hp => exact ⟨_, rfl, hp⟩
        | [], _ :: _, h => exact h.elim
        | _ :: _, [], h => exact h.elim
        | [_], _ :: _ :: _, h => exact h.2.elim
        | _ :: _ :: _, [_], h => exact h.2.elim
    cases e with
    | ret => obtain ⟨ps, h1, hf, h3, h4, h5⟩ := hk; exact fin ps h1 hf h3 h4 h5
    | normal => obtain ⟨ps, h1, hf, h3, h4, h5⟩ := hk; exact fin ps h1 hf h3 h4 h5
    | panic c => exact (h1 c rfl).elim
    | outgrown => exact (h2 rfl).elim
    | exit id => exact hk.elim
    | goto id => exact hk.elim

def ogs (σ : Regs) : List Operand → Option (List VP)
  | [] => some []
  | x :: xs => match og σ x, ogs σ xs with
    | some p, some ps => some (p :: ps)
    | _, _ => none
theorem St.evals {df w0 W0 S0 a w W S} (hs : St fz df w0 W0 S0 σ h a w W S) : ∀ {xs : List Operand} {ps : List VP}, ogs σ xs = some ps → VPs w W ps (xs.map a.eval)
  | [], ps, hx => by simp only [ogs, Option.some.injEq] at hx; subst hx; trivial
  | x :: xs, ps, hx => by
    simp only [ogs] at hx
    split at hx
    · rename_i p ps' h1 h2
      injection hx with hx
      subst hx
      exact ⟨hs.eval h1, St.evals hs h2⟩
    · cases hx
/-- a function's body that is no extern -/
def isGo (P : Program) (f : FuncId) : Bool := match P.funcs[f]? with
  | some fn => fn.body.isSome && fn.name != "runtime.NumGoroutine"
  | none => false
theorem run_callFunc {w : World} {f : FuncId} {args : Array Value} (hf : isGo P f = true) : (callFunc f args).run P w = .ok (.enter f args) w := by
  unfold isGo at hf
  split at hf
  · rename_i fn hfn
    simp only [Bool.and_eq_true, bne_iff_ne, ne_eq] at hf
    obtain ⟨h1, h2⟩ := hf
    have h3 : fn.body.isNone = false := by cases hb : fn.body <;> simp_all
    have h4 : (fn.name == "runtime.NumGoroutine") = false := by simpa using h2
    unfold callFunc
    simp only [program, Sem.run_bind]
    show Result.andThen (.ok P w) _ = _
    simp only [Result.andThen_ok, hfn, h4, h3, Bool.false_eq_true, if_false, Sem.run_pure]
  · cases hf
theorem opcall {f : FuncId} {args hc hf : List HP} {vps : List VP} {Post : VP → List HP → Prop} {op : Op} {dst : Option Nat} (hfn : Fn P f vps hc Post) (hsel : Sel h hc hf) (hdst : ∀ d, dst = some d → Nat.ble (d + 1) fz = true) (hg : Gk ops σ g)
    (hop : ∀ a w W S, St fz B.dfr B.w0 B.W0 B.S0 σ h a w W S → ∃ vs, (execOp a.eval ⟨dst, op, ty, pos, af, g⟩).run P w = .ok (.enter f vs.toArray) w ∧ VPs w W vps vs)
    (k : ∀ r h', Post r h' → EvL P fz B K ops rest (match dst with | some d => (d, r) :: σ | none => σ) (h' ++ hf)) : EvL P fz B K ops (⟨dst, op, ty, pos, af, g⟩ :: rest) σ h := by
  intro a w W S hs
  obtain ⟨vs, hrun, hvs⟩ := hop a w W S hs
  obtain ⟨S1, S2, h1, h2, hd, hS⟩ := hsel.sat hs.sat
  refine wpListIn_step fun C hC => ?_
  rw [if_pos (Gk.wanted (o := ⟨dst, op, ty, pos, af, g⟩) hg hs)]
  refine opr hrun nofun ⟨fun h => (by cases h), (callsIn_wide (n := 0)).2 ?_⟩
  refine (hfn w W S1 vs hvs h1 (fun b hb => hs.run.sub b ((hS b).2 (.inl hb))) hs.run.bound).mono ?_
  rintro e w' ⟨v, r, h', W', S', rfl, hp, hpost, hsat, hr⟩
  have hlt : ∀ b, S2 b → b < w.heap.size := h2.lt
  obtain ⟨hr2, hd2⟩ := Run.framed (T := S2) (S := S) hr hlt hd hS hs.run.sub
  have hev : Evo w W w' W' := hr2.evo hs.run.sub
  have hsat2 : Sat w' W' (h' ++ hf) (fun b => S' b ∨ S2 b) := hsat.join (h2.st hev (fun b hb => hr.keep b (hlt b hb) (fun hc => hd b hc hb))) hd2
  refine hC _ _ (k r h' hpost _ _ W' (fun b => S' b ∨ S2 b) ?_)
  cases dst with
  | some d => exact hs.step (hdst d rfl) hp hsat2 hr2
  | none =>
    have he : Evo w W w' W' := hr2.evo hs.run.sub
    exact ⟨hs.tmps, hs.defers, fun d' q hq => let ⟨u, hu, hup⟩ := hs.regs d' q hq; ⟨u, hu, q.st he hup⟩, hsat2, hs.run.trans hr2⟩
theorem ex_call {a : Act} {w : World} {f : FuncId} {xs : Array Operand} {ts : Array TypeId} {o : Oper} (ho : o.op = .call { callee := .value (.func f), args := xs, argTypes := ts }) (hf : isGo P f = true) :
    (execOp a.eval o).run P w = .ok (.enter f (xs.map a.eval)) w := by
  unfold execOp
  simp only [ho, resolve, Act.eval, Deferred.ofValue, Sem.run_bind, Sem.run_pure, Result.andThen_ok, invoke]
  simp only [Array.append_empty, Array.empty_append]
  rw [run_callFunc hf]
/-- A call of a function of the program's. -/
theorem call {f : FuncId} {hc hf : List HP} {vps : List VP} {Post : VP → List HP → Prop} {xs : List Operand} {ts : Array TypeId} (hfn : Fn P f vps hc Post) (hgo : isGo P f = true) (hsel : Sel h hc hf) (k : ∀ r h', Post r h' → EvL P fz B K ops rest ((d, r) :: σ) (h' ++ hf)) (hx : ogs σ xs = some vps := by rfl) (hd : Nat.ble (d + 1) fz = true := by rfl) (hg : Gk ops σ g := by first | exact gk0 | exact gk1 rfl rfl rfl (by assumption)) :
    EvL P fz B K ops (⟨some d, .call { callee := .value (.func f), args := xs.toArray, argTypes := ts }, ty, pos, af, g⟩ :: rest) σ h :=
  opcall (args := []) hfn hsel (fun d' hd' => by cases hd'; exact hd) hg (fun a w W S hs => ⟨_, by rw [ex_call rfl hgo, List.map_toArray], hs.evals hx⟩) k
theorem callu {f : FuncId} {hc hf : List HP} {vps : List VP} {Post : VP → List HP → Prop} {xs : List Operand} {ts : Array TypeId} (hfn : Fn P f vps hc Post) (hgo : isGo P f = true) (hsel : Sel h hc hf) (k : ∀ r h', Post r h' → EvL P fz B K ops rest σ (h' ++ hf)) (hx : ogs σ xs = some vps := by rfl) (hg : Gk ops σ g := by first | exact gk0 | exact gk1 rfl rfl rfl (by assumption)) :
    EvL P fz B K ops (⟨none, .call { callee := .value (.func f), args := xs.toArray, argTypes := ts }, ty, pos, af, g⟩ :: rest) σ h :=
  opcall (args := []) hfn hsel nofun hg (fun a w W S hs => ⟨_, by rw [ex_call rfl hgo, List.map_toArray], hs.evals hx⟩) k
/-- A function that only computes. -/
def PFn (P : Program) (f : FuncId) (args : List VP) (r : VP) : Prop := isGo P f = true ∧ Fn P f args [] fun r' h' => r' = r ∧ h' = []
/-- .. and its call -/
theorem cp {f : FuncId} {vps : List VP} {r : VP} {xs : List Operand} {ts : Array TypeId} (hfn : PFn P f vps r) (k : EvL P fz B K ops rest ((d, r) :: σ) h) (hx : ogs σ xs = some vps := by rfl) (hd : Nat.ble (d + 1) fz = true := by rfl) (hg : Gk ops σ g := by first | exact gk0 | exact gk1 rfl rfl rfl (by assumption)) :
    EvL P fz B K ops (⟨some d, .call { callee := .value (.func f), args := xs.toArray, argTypes := ts }, ty, pos, af, g⟩ :: rest) σ h :=
  call hfn.2 hfn.1 .nil (fun r' h' ⟨hr, hh⟩ => by subst hr hh; exact k) hx hd hg
end
end Go.Proofs.YtagkniimpekhjaaGreat
