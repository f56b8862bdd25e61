/- A part of the proof: contracts over a program of the model. -/
import Derived.Below
import Derived.WalkKit
import Derived.KernelRfl
import Derived.Tactics
set_option linter.unusedVariables false
namespace Go.Proofs.Ytkcpejbabbbjpaa

/-! ### worlds, writable blocks -/
abbrev WS := Nat → Prop

structure Evo (w : World) (W : WS) (w' : World) (W' : WS) : Prop where
  size : w.heap.size ≤ w'.heap.size
  keep : ∀ b, b < w.heap.size → ¬ W b → w'.heap[b]? = w.heap[b]?
  own : ∀ b, b < w.heap.size → W' b → W b

theorem Evo.refl (w : World) (W : WS) : Evo w W w W := ⟨Nat.le_refl _, fun _ _ _ => rfl, fun _ _ h => h⟩
theorem Evo.trans {w w1 w2 : World} {W W1 W2 : WS} (h : Evo w W w1 W1) (k : Evo w1 W1 w2 W2) : Evo w W w2 W2 :=
  ⟨Nat.le_trans h.size k.size, fun b hb hn => (k.keep b (Nat.lt_of_lt_of_le hb h.size) (fun h1 => hn (h.own b hb h1))).trans (h.keep b hb hn), fun b hb h2 => h.own b hb (k.own b (Nat.lt_of_lt_of_le hb h.size) h2)⟩

/-- What is known of a value. -/
structure VP where
  p : World → WS → Value → Prop
  st : ∀ {w W w' W' v}, Evo w W w' W' → p w W v → p w' W' v

/-- What is known of some blocks that are owned. -/
structure HP where
  p : World → WS → (Nat → Prop) → Prop
  st : ∀ {w W w' W' S}, Evo w W w' W' → (∀ b, S b → w'.heap[b]? = w.heap[b]?) → p w W S → p w' W' S
  lt : ∀ {w W S}, p w W S → ∀ b, S b → b < w.heap.size

def Sat (w : World) (W : WS) : List HP → (Nat → Prop) → Prop
  | [], S => ∀ b, ¬ S b
  | h :: hs, S => ∃ S1 S2, h.p w W S1 ∧ Sat w W hs S2 ∧ (∀ b, S1 b → ¬ S2 b) ∧ ∀ b, S b ↔ (S1 b ∨ S2 b)

theorem Sat.st {w w' : World} {W W' : WS} (he : Evo w W w' W') : ∀ {hs : List HP} {S}, (∀ b, S b → w'.heap[b]? = w.heap[b]?) → Sat w W hs S → Sat w' W' hs S
  | [], _, _, h => h
  | _ :: _, _, hk, ⟨S1, S2, h1, h2, hd, hS⟩ => ⟨S1, S2, HP.st _ he (fun b hb => hk b ((hS b).2 (.inl hb))) h1, Sat.st he (fun b hb => hk b ((hS b).2 (.inr hb))) h2, hd, hS⟩
theorem Sat.lt {w : World} {W : WS} : ∀ {hs : List HP} {S}, Sat w W hs S → ∀ b, S b → b < w.heap.size
  | [], _, h, b, hb => (h b hb).elim
  | _ :: _, _, ⟨_, _, h1, h2, _, hS⟩, b, hb => by
    rcases (hS b).1 hb with h | h
    · exact HP.lt _ h1 b h
    · exact Sat.lt h2 b h
theorem Sat.congr {w : World} {W : WS} {hs : List HP} {S S' : Nat → Prop} (h : Sat w W hs S) (e : ∀ b, S b ↔ S' b) : Sat w W hs S' := by
  have : S = S' := funext fun b => propext (e b)
  rwa [← this]
theorem Sat.split {w : World} {W : WS} : ∀ {a b : List HP} {S}, Sat w W (a ++ b) S → ∃ S1 S2, Sat w W a S1 ∧ Sat w W b S2 ∧ (∀ x, S1 x → ¬ S2 x) ∧ ∀ x, S x ↔ (S1 x ∨ S2 x)
  | [], b, S, h => ⟨fun _ => False, S, fun _ h => h, h, fun _ h => h.elim, fun x => by simp⟩
  | h :: a, b, S, ⟨S1, S2, h1, h2, hd, hS⟩ => by
    obtain ⟨T1, T2, g1, g2, gd, gS⟩ := Sat.split h2
    refine ⟨fun x => S1 x ∨ T1 x, T2, ⟨S1, T1, h1, g1, fun x hx ht => hd x hx ((gS x).2 (.inl ht)), fun _ => Iff.rfl⟩, g2, ?_, ?_⟩
    · rintro x (hx | hx) ht
      · exact hd x hx ((gS x).2 (.inr ht))
      · exact gd x hx ht
    · intro x
      rw [hS x, gS x, or_assoc]
theorem Sat.join {w : World} {W : WS} : ∀ {a b : List HP} {S1 S2 : Nat → Prop}, Sat w W a S1 → Sat w W b S2 → (∀ x, S1 x → ¬ S2 x) → Sat w W (a ++ b) (fun x => S1 x ∨ S2 x)
  | [], b, S1, S2, ha, hb, _ => hb.congr fun x => by simp [ha x]
  | h :: a, b, S1, S2, ⟨T1, T2, h1, h2, hd, hS⟩, hb, hdd => by
    refine ⟨T1, fun x => T2 x ∨ S2 x, h1, Sat.join h2 hb (fun x hx => hdd x ((hS x).2 (.inr hx))), ?_, ?_⟩
    · rintro x hx (ht | ht)
      · exact hd x hx ht
      · exact hdd x ((hS x).2 (.inl hx)) ht
    · intro x
      show S1 x ∨ S2 x ↔ _
      rw [hS x, or_assoc]
/-- entry j taken out -/
theorem Sat.pick {w : World} {W : WS} : ∀ {hs : List HP} {j : Nat} {x : HP} {S}, hs[j]? = some x → Sat w W hs S → ∃ S1 S2, x.p w W S1 ∧ Sat w W (hs.eraseIdx j) S2 ∧ (∀ b, S1 b → ¬ S2 b) ∧ ∀ b, S b ↔ (S1 b ∨ S2 b)
  | [], j, x, S, hj, _ => by simp at hj
  | h :: hs, 0, x, S, hj, ⟨S1, S2, h1, h2, hd, hS⟩ => by
    simp only [List.getElem?_cons_zero, Option.some.injEq] at hj
    subst hj
    exact ⟨S1, S2, h1, h2, hd, hS⟩
  | h :: hs, j + 1, x, S, hj, ⟨S1, S2, h1, h2, hd, hS⟩ => by
    simp only [List.getElem?_cons_succ] at hj
    obtain ⟨T1, T2, g1, g2, gd, gS⟩ := Sat.pick hj h2
    refine ⟨T1, fun b => S1 b ∨ T2 b, g1, ⟨S1, T2, h1, g2, fun b hb ht => hd b hb ((gS b).2 (.inr ht)), fun _ => Iff.rfl⟩, ?_, ?_⟩
    · rintro b hb (h | h)
      · exact hd b h ((gS b).2 (.inl hb))
      · exact gd b hb h
    · intro b
      rw [hS b, gS b]
      constructor
      · rintro (h | h | h) <;> simp [h]
      · rintro (h | h | h) <;> simp [h]
/-- entry j put back as another -/
theorem Sat.put {w : World} {W : WS} : ∀ {hs : List HP} {j : Nat} {x y : HP} {S1 S2 : Nat → Prop}, hs[j]? = some x → y.p w W S1 → Sat w W (hs.eraseIdx j) S2 → (∀ b, S1 b → ¬ S2 b) → Sat w W (hs.set j y) (fun b => S1 b ∨ S2 b)
  | [], j, x, y, _, _, hj, _, _, _ => by simp at hj
  | h :: hs, 0, x, y, S1, S2, hj, h1, h2, hd => ⟨S1, S2, h1, h2, hd, fun _ => Iff.rfl⟩
  | h :: hs, j + 1, x, y, S1, S2, hj, h1, ⟨T1, T2, g1, g2, gd, gS⟩, hd => by
    simp only [List.getElem?_cons_succ] at hj
    refine ⟨T1, fun b => S1 b ∨ T2 b, g1, Sat.put hj h1 g2 (fun b hb ht => hd b hb ((gS b).2 (.inr ht))), ?_, ?_⟩
    · rintro b hb (h | h)
      · exact hd b h ((gS b).2 (.inl hb))
      · exact gd b hb h
    · intro b
      show S1 b ∨ S2 b ↔ _
      rw [gS b]
      constructor
      · rintro (h | h | h) <;> simp [h]
      · rintro (h | h | h) <;> simp [h]

/-- The step from (w0, W0, S0), owned blocks S0, to (w, W, S). -/
structure Run (w0 : World) (W0 : WS) (S0 : Nat → Prop) (w : World) (W : WS) (S : Nat → Prop) : Prop where
  os : w.os = w0.os
  tape : w.tape = w0.tape
  output : w.output = w0.output
  size : w0.heap.size ≤ w.heap.size
  keep : ∀ b, b < w0.heap.size → ¬ S0 b → w.heap[b]? = w0.heap[b]?
  frame : ∀ b, b < w0.heap.size → ¬ S0 b → (W b ↔ W0 b)
  own : ∀ b, b < w0.heap.size → W b → W0 b
  foot : ∀ b, S b → S0 b ∨ w0.heap.size ≤ b
  sub : ∀ b, S b → W b
  bound : ∀ b, W b → b < w.heap.size

theorem Run.evo {w0 w : World} {W0 W : WS} {S0 S : Nat → Prop} (h : Run w0 W0 S0 w W S) (hs : ∀ b, S0 b → W0 b) : Evo w0 W0 w W :=
  ⟨h.size, fun b hb hn => h.keep b hb (fun hS => hn (hs b hS)), h.own⟩
theorem Run.trans {w0 w1 w2 : World} {W0 W1 W2 : WS} {S0 S1 S2 : Nat → Prop} (h : Run w0 W0 S0 w1 W1 S1) (k : Run w1 W1 S1 w2 W2 S2) : Run w0 W0 S0 w2 W2 S2 := by
  have hn : ∀ b, b < w0.heap.size → ¬ S0 b → ¬ S1 b := fun b hb hS h1 => by
    rcases h.foot b h1 with h2 | h2
    · exact hS h2
    · omega
  refine ⟨k.os.trans h.os, k.tape.trans h.tape, k.output.trans h.output, Nat.le_trans h.size k.size, fun b hb hS => ?_, fun b hb hS => ?_, fun b hb h2 => ?_, fun b h2 => ?_, k.sub, k.bound⟩
  · exact (k.keep b (Nat.lt_of_lt_of_le hb h.size) (hn b hb hS)).trans (h.keep b hb hS)
  · exact (k.frame b (Nat.lt_of_lt_of_le hb h.size) (hn b hb hS)).trans (h.frame b hb hS)
  · exact h.own b hb (k.own b (Nat.lt_of_lt_of_le hb h.size) h2)
  · rcases k.foot b h2 with h3 | h3
    · exact h.foot b h3
    · have := h.size
      exact .inr (by omega)
/-- A callee that owns Sc of S, the rest T staying as it is. -/
theorem Run.framed {w w' : World} {W W' : WS} {Sc T S Sc' : Nat → Prop} (h : Run w W Sc w' W' Sc') (hb : ∀ b, T b → b < w.heap.size) (hd : ∀ b, Sc b → ¬ T b) (hS : ∀ b, S b ↔ (Sc b ∨ T b)) (hsub : ∀ b, S b → W b) :
    Run w W S w' W' (fun b => Sc' b ∨ T b) ∧ (∀ b, Sc' b → ¬ T b) := by
  have hT : ∀ b, T b → ¬ Sc b := fun b ht hc => hd b hc ht
  refine ⟨⟨h.os, h.tape, h.output, h.size, fun b hl hn => h.keep b hl (fun hc => hn ((hS b).2 (.inl hc))), fun b hl hn => h.frame b hl (fun hc => hn ((hS b).2 (.inl hc))), h.own, ?_, ?_, h.bound⟩, ?_⟩
  · rintro b (hc | ht)
    · rcases h.foot b hc with h1 | h1
      · exact .inl ((hS b).2 (.inl h1))
      · exact .inr h1
    · exact .inl ((hS b).2 (.inr ht))
  · rintro b (hc | ht)
    · exact h.sub b hc
    · exact (h.frame b (hb b ht) (hT b ht)).2 (hsub b ((hS b).2 (.inr ht)))
  · intro b hc ht
    rcases h.foot b hc with h1 | h1
    · exact hd b h1 ht
    · have := hb b ht
      omega
theorem Run.less {w0 w : World} {W0 W : WS} {S0 S S' : Nat → Prop} (h : Run w0 W0 S0 w W S) (hs : ∀ b, S' b → S b) : Run w0 W0 S0 w W S' :=
  ⟨h.os, h.tape, h.output, h.size, h.keep, h.frame, h.own, fun b hb => h.foot b (hs b hb), fun b hb => h.sub b (hs b hb), h.bound⟩
theorem Run.refl {w : World} {W : WS} {S : Nat → Prop} (hs : ∀ b, S b → W b) (hb : ∀ b, W b → b < w.heap.size) : Run w W S w W S :=
  ⟨rfl, rfl, rfl, Nat.le_refl _, fun _ _ _ => rfl, fun _ _ _ => Iff.rfl, fun _ _ h => h, fun _ h => .inl h, hs, hb⟩

def VPs (w : World) (W : WS) : List VP → List Value → Prop
  | [], [] => True
  | p :: ps, v :: vs => p.p w W v ∧ VPs w W ps vs
  | _, _ => False
theorem VPs.st {w w' : World} {W W' : WS} (he : Evo w W w' W') : ∀ {ps : List VP} {vs : List Value}, VPs w W ps vs → VPs w' W' ps vs
  | [], [], _ => trivial
  | _ :: _, _ :: _, ⟨h1, h2⟩ => ⟨VP.st _ he h1, VPs.st he h2⟩
  | [], _ :: _, h => h.elim
  | _ :: _, [], h => h.elim
theorem VPs.length {w : World} {W : WS} : ∀ {ps : List VP} {vs : List Value}, VPs w W ps vs → vs.length = ps.length
  | [], [], _ => rfl
  | _ :: _, _ :: _, ⟨_, h2⟩ => congrArg (· + 1) (VPs.length h2)
  | [], _ :: _, h => h.elim
  | _ :: _, [], h => h.elim
theorem VPs.get {w : World} {W : WS} : ∀ {ps : List VP} {vs : List Value} {i : Nat} {p : VP}, VPs w W ps vs → ps[i]? = some p → ∃ v, vs[i]? = some v ∧ p.p w W v
  | p :: _, v :: _, 0, q, ⟨h1, _⟩, h => by
    simp only [List.getElem?_cons_zero, Option.some.injEq] at h
    subst h
    exact ⟨v, rfl, h1⟩
  | _ :: ps, _ :: vs, i + 1, q, ⟨_, h2⟩, h => by
    simp only [List.getElem?_cons_succ] at h ⊢
    exact VPs.get h2 h
  | [], [], _, _, _, h => by simp at h
  | [], _ :: _, _, _, h, _ => h.elim
  | _ :: _, [], _, _, h, _ => h.elim
theorem VPs.set {w : World} {W : WS} : ∀ {ps : List VP} {vs : List Value} {i : Nat} {p : VP} {v : Value}, VPs w W ps vs → p.p w W v → VPs w W (ps.set i p) (vs.set i v)
  | _ :: _, _ :: _, 0, _, _, ⟨_, h2⟩, h => ⟨h, h2⟩
  | _ :: _, _ :: _, _ + 1, _, _, ⟨h1, h2⟩, h => ⟨h1, VPs.set h2 h⟩
  | [], [], _, _, _, _, _ => trivial
  | [], _ :: _, _, _, _, h, _ => h.elim
  | _ :: _, [], _, _, _, h, _ => h.elim
theorem VPs.append {w : World} {W : WS} : ∀ {ps qs : List VP} {vs us : List Value}, VPs w W ps vs → VPs w W qs us → VPs w W (ps ++ qs) (vs ++ us)
  | [], _, [], _, _, k => k
  | _ :: _, _, _ :: _, _, ⟨h1, h2⟩, k => ⟨h1, VPs.append h2 k⟩
  | [], _, _ :: _, _, h, _ => h.elim
  | _ :: _, _, [], _, h, _ => h.elim
theorem VPs.drop {w : World} {W : WS} : ∀ {ps : List VP} {vs : List Value} (i : Nat), VPs w W ps vs → VPs w W (ps.drop i) (vs.drop i)
  | _, _, 0, h => h
  | [], [], _ + 1, _ => trivial
  | _ :: _, _ :: _, i + 1, ⟨_, h2⟩ => VPs.drop i h2
  | [], _ :: _, _, h => h.elim
  | _ :: _, [], _, h => h.elim
theorem VPs.take {w : World} {W : WS} : ∀ {ps : List VP} {vs : List Value} (i : Nat), VPs w W ps vs → VPs w W (ps.take i) (vs.take i)
  | _, _, 0, _ => trivial
  | [], [], _ + 1, _ => trivial
  | _ :: _, _ :: _, i + 1, ⟨h1, h2⟩ => ⟨h1, VPs.take i h2⟩
  | [], _ :: _, _, h => h.elim
  | _ :: _, [], _, h => h.elim

/-- THE CONTRACT OF A FUNCTION. -/
def Fn (P : Program) (f : FuncId) (args : List VP) (h : List HP) (Post : VP → List HP → Prop) : Prop :=
  ∀ (w : World) (W : WS) (S : Nat → Prop) (vs : List Value), VPs w W args vs → Sat w W h S → (∀ b, S b → W b) → (∀ b, W b → b < w.heap.size) →
    Calls P f vs.toArray w fun e w' => ∃ v r h' W' S', e = .returned v ∧ r.p w' W' v ∧ Post r h' ∧ Sat w' W' h' S' ∧ Run w W S w' W' S'

/-! ### registers -/
abbrev Regs := List (Nat × VP)
def rg : Regs → Nat → Option VP
  | [], _ => none
  | (d, p) :: σ, k => bif Nat.beq d k then some p else rg σ k

structure St (n : Nat) (w0 : World) (W0 : WS) (S0 : Nat → Prop) (σ : Regs) (h : List HP) (a : Act) (w : World) (W : WS) (S : Nat → Prop) : Prop where
  tmps : a.tmps.size = n
  defers : a.defers = []
  regs : ∀ d p, rg σ d = some p → ∃ v, a.tmps[d]? = some v ∧ p.p w W v
  sat : Sat w W h S
  run : Run w0 W0 S0 w W S

abbrev KP := Exit → Regs → List HP → Prop
/-- Where the call began. -/
structure Bs where
  w0 : World
  W0 : WS
  S0 : Nat → Prop
  sub : ∀ b, S0 b → W0 b

def QK (fz : Nat) (B : Bs) (K : KP) (e : Exit) (a : Act) (w : World) : Prop :=
  (∀ c, e ≠ .panic c) ∧ e ≠ .outgrown ∧ ∃ σ h W S, St fz B.w0 B.W0 B.S0 σ h a w W S ∧ K e σ h

def EvC (P : Program) (fz : Nat) (B : Bs) (K : KP) (c : Code) (σ : Regs) (h : List HP) : Prop :=
  ∀ a w W S, St fz B.w0 B.W0 B.S0 σ h a w W S → c.wp P (QK fz B K) a w
def EvL (P : Program) (fz : Nat) (B : Bs) (K : KP) (ops : Array Oper) (l : List Oper) (σ : Regs) (h : List HP) : Prop :=
  ∀ a w W S, St fz B.w0 B.W0 B.S0 σ h a w W S → wpList P ops (QK fz B K) l a w

section control
variable {P : Program} {fz : Nat} {B : Bs} {K : KP} {σ : Regs} {h : List HP}

def Kth (P : Program) (fz : Nat) (B : Bs) (K : KP) (y : Code) : KP
  | .normal, σ, h => EvC P fz B K y σ h
  | e, σ, h => K e σ h
theorem seq {x y : Code} (k : EvC P fz B (Kth P fz B K y) x σ h) : EvC P fz B K (.seq x y) σ h := by
  intro a w W S hs
  refine wp_seq (wp_mono (k a w W S hs) ?_)
  rintro e a w ⟨h1, h2, σ, h, W, S, hs, hk⟩
  cases e with
  | normal => exact hk a w W S hs
  | exit id => exact ⟨h1, h2, σ, h, W, S, hs, hk⟩
  | goto id => exact ⟨h1, h2, σ, h, W, S, hs, hk⟩
  | ret => exact ⟨h1, h2, σ, h, W, S, hs, hk⟩
  | panic c => exact (h1 c rfl).elim
  | outgrown => exact (h2 rfl).elim
theorem nxt {y : Code} (k : EvC P fz B K y σ h) : Kth P fz B K y .normal σ h := k
theorem skip (k : K .normal σ h) : EvC P fz B K .skip σ h := fun a w W S hs => wp_skip ⟨nofun, nofun, σ, h, W, S, hs, k⟩
theorem ret (k : K .ret σ h) : EvC P fz B K .ret σ h := fun a w W S hs => wp_ret ⟨nofun, nofun, σ, h, W, S, hs, k⟩
theorem exit {id : Nat} (k : K (.exit id) σ h) : EvC P fz B K (.exit id) σ h := fun a w W S hs => wp_exit ⟨nofun, nofun, σ, h, W, S, hs, k⟩
theorem goto_ {id : Nat} (k : K (.goto id) σ h) : EvC P fz B K (.goto id) σ h := fun a w W S hs => wp_goto ⟨nofun, nofun, σ, h, W, S, hs, k⟩
theorem label {id : Nat} (k : K .normal σ h) : EvC P fz B K (.label id) σ h := fun a w W S hs => wp_label ⟨nofun, nofun, σ, h, W, S, hs, k⟩
def Kbl (K : KP) (id : Nat) : KP
  | .exit id', σ, h => bif Nat.beq id' id then K .normal σ h else K (.exit id') σ h
  | e, σ, h => K e σ h
theorem block {id : Nat} {c : Code} (k : EvC P fz B (Kbl K id) c σ h) : EvC P fz B K (.block id c) σ h := by
  intro a w W S hs
  refine wp_block (wp_mono (k a w W S hs) ?_)
  rintro e a w ⟨h1, h2, σ, h, W, S, hs, hk⟩
  cases e with
  | normal => exact ⟨h1, h2, σ, h, W, S, hs, hk⟩
  | exit id' =>
    simp only [Exit.inBlock]
    by_cases he : id' = id
    · rw [if_pos he]
      subst he
      have : Nat.beq id' id' = true := by simp
      simp only [Kbl, this, cond_true] at hk
      exact ⟨nofun, nofun, σ, h, W, S, hs, hk⟩
    · rw [if_neg he]
      have : Nat.beq id' id = false := by rw [← Bool.not_eq_true]; exact fun h => he (Nat.eq_of_beq_eq_true h)
      simp only [Kbl, this, cond_false] at hk
      exact ⟨h1, h2, σ, h, W, S, hs, hk⟩
  | goto id => exact ⟨h1, h2, σ, h, W, S, hs, hk⟩
  | ret => exact ⟨h1, h2, σ, h, W, S, hs, hk⟩
  | panic c => exact (h1 c rfl).elim
  | outgrown => exact (h2 rfl).elim

/-- exactly this value -/
def vis (u : Value) : VP := ⟨fun _ _ v => v = u, fun _ h => h⟩
abbrev vint (k : IntKind) (n : Int) : VP := vis (.int k n)
abbrev vbool (b : Bool) : VP := vis (.bool b)

def og (σ : Regs) : Operand → Option VP
  | .tmp t => rg σ t
  | .const v => some (vis v)
  | .global g => some (vis (.pointer (some ⟨g, 0, none⟩)))
  | .func f => some (vis (.func (.func f) #[] #[]))
theorem St.eval {n w0 W0 S0 a w W S} (hs : St n w0 W0 S0 σ h a w W S) {x : Operand} {p : VP} (hx : og σ x = some p) : p.p w W (a.eval x) := by
  cases x with
  | tmp t =>
    obtain ⟨v, hv, hp⟩ := hs.regs t p hx
    simp only [Act.eval, Array.getD_eq_getD_getElem?, hv, Option.getD_some]
    exact hp
  | const v => injection hx with hx; subst hx; exact rfl
  | global g => injection hx with hx; subst hx; exact rfl
  | func f => injection hx with hx; subst hx; exact rfl
theorem cond {c : Operand} {x y : Code} {b : Bool} (ht : b = true → EvC P fz B K x σ h) (hf : b = false → EvC P fz B K y σ h) (hc : og σ c = some (vbool b) := by rfl) : EvC P fz B K (.cond c x y) σ h := by
  intro a w W S hs
  have h1 : a.eval c = .bool b := hs.eval hc
  exact wp_cond_split h1 (fun e => ht e a w W S hs) (fun e => hf e a w W S hs)
theorem region {id : Nat} {l : List Oper} (k : EvL P fz B K l.toArray l σ h) : EvC P fz B K (.region id l.toArray false) σ h :=
  fun a w W S hs => wp_region_lit (k a w W S hs)
theorem done {ops : Array Oper} (k : K .normal σ h) : EvL P fz B K ops [] σ h := fun a w W S hs => wpList_nil ⟨nofun, nofun, σ, h, W, S, hs, k⟩

/-- A LOOP: states by an index, a measure. -/
def Klp {ι : Type} (P : Program) (fz : Nat) (B : Bs) (K : KP) (σ : ι → Regs) (h : ι → List HP) (μ : ι → Nat) (i : ι) : KP
  | .normal, σ', h' => ∃ j, μ j < μ i ∧ (∀ d p, rg (σ j) d = some p → rg σ' d = some p) ∧ h' = h j
  | e, σ', h' => K e σ' h'
theorem loop {ι : Type} {c : Code} (σ : ι → Regs) (h : ι → List HP) (μ : ι → Nat) (i0 : ι) (body : ∀ i, EvC P fz B (Klp P fz B K σ h μ i) c (σ i) (h i)) : EvC P fz B K (.loop c) (σ i0) (h i0) := by
  intro a w W S hs b k cs
  have key : ∀ (n : Nat) (i : ι) a w W S, μ i = n → St fz B.w0 B.W0 B.S0 (σ i) (h i) a w W S →
      ∃ e a' w', QK fz B K e a' w' ∧ Arrives P (lone (b.at a (.code c :: .inLoop c :: k)) cs w) b k cs e a' w' := by
    intro n
    induction n using Nat.strongRecOn with
    | _ n ih =>
      intro i a w W S hn hs
      obtain ⟨e, a₁, w₁, ⟨h1, h2, σ', h', W', S', hs', hk⟩, harr⟩ := body i a w W S hs b (.inLoop c :: k) cs
      cases e with
      | normal =>
        obtain ⟨j, hlt, hσ, rfl⟩ := hk
        have hs2 : St fz B.w0 B.W0 B.S0 (σ j) (h j) a₁ w₁ W' S' := ⟨hs'.tmps, hs'.defers, fun d p hd => hs'.regs d p (hσ d p hd), hs'.sat, hs'.run⟩
        obtain ⟨e₂, a₂, w₂, hq₂, harr₂⟩ := ih (μ j) (hn ▸ hlt) j a₁ w₁ W' S' rfl hs2
        exact ⟨e₂, a₂, w₂, hq₂, .of_steps (Steps.trans harr (.one step_inLoop)) harr₂⟩
      | exit id => exact ⟨_, a₁, w₁, ⟨h1, h2, σ', h', W', S', hs', hk⟩, .pass (x := .inLoop c) rfl (fun _ _ => .inl (by simp)) harr⟩
      | goto l => exact ⟨_, a₁, w₁, ⟨h1, h2, σ', h', W', S', hs', hk⟩, .pass (x := .inLoop c) rfl (fun _ _ => .inl (by simp)) harr⟩
      | ret => exact ⟨_, a₁, w₁, ⟨h1, h2, σ', h', W', S', hs', hk⟩, .pass (x := .inLoop c) rfl (fun _ _ => .inl (by simp)) harr⟩
      | panic ch => exact (h1 ch rfl).elim
      | outgrown => exact (h2 rfl).elim
  obtain ⟨e, a', w', hq, harr⟩ := key _ i0 a w W S rfl hs
  exact ⟨e, a', w', hq, .of_steps (.one step_loop) harr⟩
/-- what is no more needed, forgotten -/
theorem weakC {c : Code} (σ' : Regs) (k : EvC P fz B K c σ' h) (hσ : ∀ d p, rg σ' d = some p → rg σ d = some p) : EvC P fz B K c σ h :=
  fun a w W S hs => k a w W S ⟨hs.tmps, hs.defers, fun d p hd => hs.regs d p (hσ d p hd), hs.sat, hs.run⟩
end control
end Go.Proofs.Ytkcpejbabbbjpaa
