/- A part of the proof: contracts over a program of the model. -/
import Derived.Test.YtkcpejbabbbjpaaE0
set_option linter.unusedVariables false
namespace Go.Proofs.Ytkcpejbabbbjpaa
open Go.RowKit

/-- guard: the operation is carried out -/
def Gk (ops : Array Oper) (σ : Regs) : Option (Nat × Bool) → Prop
  | none => True
  | some (j, want) => ∃ oj dj, ops[j]? = some oj ∧ oj.dst = some dj ∧ rg σ dj = some (vbool want)
theorem gk0 {ops : Array Oper} {σ : Regs} : Gk ops σ none := trivial
theorem gk1 {ops : Array Oper} {σ : Regs} {j : Nat} {want b : Bool} {oj : Oper} {dj : Nat} (h1 : ops[j]? = some oj) (h2 : oj.dst = some dj) (h3 : rg σ dj = some (vbool b)) (hb : b = want) : Gk ops σ (some (j, want)) := ⟨oj, dj, h1, h2, hb ▸ h3⟩
theorem Gk.wanted {ops : Array Oper} {σ : Regs} {n w0 W0 S0 h a w W S} {o : Oper} (hg : Gk ops σ o.guard) (hs : St n w0 W0 S0 σ h a w W S) : Region.wanted o (yielded ops a.tmps) = true := by
  unfold Region.wanted
  cases hgd : o.guard with
  | none => rfl
  | some jw =>
    obtain ⟨j, want⟩ := jw
    rw [hgd] at hg
    obtain ⟨oj, dj, h1, h2, h3⟩ := hg
    obtain ⟨v, hv, hp⟩ := hs.regs dj _ h3
    have hp' : v = .bool want := hp
    subst hp'
    simp [yielded, h1, h2, hv]

section
variable {P : Program} {fz : Nat} {B : Bs} {K : KP} {ops : Array Oper} {rest : List Oper} {σ : Regs} {h : List HP} {d : Nat} {ty : TypeId} {pos : String} {af : Array Edge} {g : Option (Nat × Bool)}

theorem St.step {n w0 W0 S0 a w W S} {w' : World} {W' : WS} {S' : Nat → Prop} {h' : List HP} {v : Value} {p : VP} (hs : St n w0 W0 S0 σ h a w W S) (hd : Nat.ble (d + 1) n = true) (hp : p.p w' W' v) (hsat : Sat w' W' h' S') (hr : Run w W S w' W' S') :
    St n w0 W0 S0 ((d, p) :: σ) h' (a.put (some d) v) w' W' S' := by
  have hdn : d < n := by have := Nat.le_of_ble_eq_true hd; omega
  have he : Evo w W w' W' := hr.evo hs.run.sub
  refine ⟨by simp [Act.put, hs.tmps], hs.defers, fun d' q hq => ?_, hsat, hs.run.trans hr⟩
  simp only [Act.put]
  by_cases e : d = d'
  · subst e
    have : Nat.beq d d = true := by simp
    simp only [rg, this, cond_true, Option.some.injEq] at hq
    subst hq
    exact ⟨v, by rw [Array.getElem?_setIfInBounds_self_of_lt (by rw [hs.tmps]; exact hdn)], hp⟩
  · have : Nat.beq d d' = false := by rw [← Bool.not_eq_true]; exact fun h => e (Nat.eq_of_beq_eq_true h)
    simp only [rg, this, cond_false] at hq
    obtain ⟨u, hu, hup⟩ := hs.regs d' q hq
    exact ⟨u, by rw [Array.getElem?_setIfInBounds_ne e]; exact hu, q.st he hup⟩
theorem St.skip {n w0 W0 S0 a w W S} {w' : World} {W' : WS} {S' : Nat → Prop} {h' : List HP} (hs : St n w0 W0 S0 σ h a w W S) (hsat : Sat w' W' h' S') (hr : Run w W S w' W' S') :
    St n w0 W0 S0 σ h' (a.put none undef) w' W' S' := by
  have he : Evo w W w' W' := hr.evo hs.run.sub
  exact ⟨hs.tmps, hs.defers, fun d' q hq => let ⟨u, hu, hup⟩ := hs.regs d' q hq; ⟨u, hu, q.st he hup⟩, hsat, hs.run.trans hr⟩

theorem opv {op : Op} {p : VP} {h' : List HP} (hd : Nat.ble (d + 1) fz = true) (hg : Gk ops σ g)
    (hop : ∀ a w W S, St fz B.w0 B.W0 B.S0 σ h a w W S → ∃ v w' W' S', (execOp a.eval ⟨some d, op, ty, pos, af, g⟩).run P w = .ok (.value v) w' ∧ p.p w' W' v ∧ Sat w' W' h' S' ∧ Run w W S w' W' S')
    (k : EvL P fz B K ops rest ((d, p) :: σ) h') : EvL P fz B K ops (⟨some d, op, ty, pos, af, g⟩ :: rest) σ h := by
  intro a w W S hs
  obtain ⟨v, w', W', S', hrun, hp, hsat, hr⟩ := hop a w W S hs
  refine wpList_step fun C hC => ?_
  rw [if_pos (Gk.wanted (o := ⟨some d, op, ty, pos, af, g⟩) hg hs)]
  unfold Oper.wp
  rw [hrun]
  exact hC _ _ (k _ _ W' S' (hs.step hd hp hsat hr))
/-- an operation that gives no value -/
theorem opu {op : Op} {h' : List HP} (hg : Gk ops σ g)
    (hop : ∀ a w W S, St fz B.w0 B.W0 B.S0 σ h a w W S → ∃ w' W' S', ((execOp a.eval ⟨none, op, ty, pos, af, g⟩).run P w = .ok .skip w' ∨ ∃ v, (execOp a.eval ⟨none, op, ty, pos, af, g⟩).run P w = .ok (.value v) w') ∧ Sat w' W' h' S' ∧ Run w W S w' W' S')
    (k : EvL P fz B K ops rest σ h') : EvL P fz B K ops (⟨none, op, ty, pos, af, g⟩ :: rest) σ h := by
  intro a w W S hs
  obtain ⟨w', W', S', hrun, hsat, hr⟩ := hop a w W S hs
  refine wpList_step fun C hC => ?_
  rw [if_pos (Gk.wanted (o := ⟨none, op, ty, pos, af, g⟩) hg hs)]
  unfold Oper.wp
  rcases hrun with hrun | ⟨v, hrun⟩
  · rw [hrun]
    exact hC _ _ (k _ _ W' S' (hs.skip hsat hr))
  · rw [hrun]
    exact hC _ _ (k _ _ W' S' (hs.skip hsat hr))
/-- one that leaves the world -/
theorem opp {op : Op} {p : VP} (hd : Nat.ble (d + 1) fz = true) (hg : Gk ops σ g)
    (hop : ∀ a w W S, St fz B.w0 B.W0 B.S0 σ h a w W S → ∃ v, (execOp a.eval ⟨some d, op, ty, pos, af, g⟩).run P w = .ok (.value v) w ∧ p.p w W v)
    (k : EvL P fz B K ops rest ((d, p) :: σ) h) : EvL P fz B K ops (⟨some d, op, ty, pos, af, g⟩ :: rest) σ h :=
  opv hd hg (fun a w W S hs => let ⟨v, h1, h2⟩ := hop a w W S hs; ⟨v, w, W, S, h1, h2, hs.sat, Run.refl hs.run.sub hs.run.bound⟩) k

theorem mv {x : Operand} {p : VP} (k : EvL P fz B K ops rest ((d, p) :: σ) h) (hx : og σ x = some p := by rfl) (hd : Nat.ble (d + 1) fz = true := by rfl) (hg : Gk ops σ g := by first | exact gk0 | exact gk1 rfl rfl rfl (by assumption)) :
    EvL P fz B K ops (⟨some d, .move x, ty, pos, af, g⟩ :: rest) σ h :=
  opp hd hg (fun a w W S hs => ⟨a.eval x, rfl, hs.eval hx⟩) k
theorem asg {x : Operand} {p : VP} (k : EvL P fz B K ops rest ((d, p) :: σ) h) (hx : og σ x = some p := by rfl) (hd : Nat.ble (d + 1) fz = true := by rfl) (hg : Gk ops σ g := by first | exact gk0 | exact gk1 rfl rfl rfl (by assumption)) :
    EvL P fz B K ops (⟨some d, .assign x, ty, pos, af, g⟩ :: rest) σ h :=
  opp hd hg (fun a w W S hs => ⟨a.eval x, rfl, hs.eval hx⟩) k

/-! ### numbers -/
theorem wrapI {n : Int} (h1 : -9223372036854775808 ≤ n) (h2 : n ≤ 9223372036854775807) : IntKind.i64.wrap n = n := by
  unfold IntKind.wrap
  simp only [IntKind.signed, IntKind.bits]
  simp
  split <;> omega
theorem wrapU {n : Int} (h1 : 0 ≤ n) (h2 : n ≤ 18446744073709551615) : IntKind.u64.wrap n = n := by
  unfold IntKind.wrap
  simp only [IntKind.signed, IntKind.bits]
  simp
  omega
theorem wrapB {n : Int} (h1 : 0 ≤ n) (h2 : n ≤ 255) : IntKind.u8.wrap n = n := by
  unfold IntKind.wrap
  simp only [IntKind.signed, IntKind.bits]
  simp
  omega

theorem run_binI {a : Act} {w : World} {op : BinOp} {t t' : TypeId} {x y : Operand} {k : IntKind} {m n : Int} {v : Value} {o : Oper} (ho : o.op = .binOp op t x y t') (hx : a.eval x = .int k m) (hy : a.eval y = .int k n)
    (hr : (binOp op t (.int k m) (.int k n)).run P w = .ok v w) : (execOp a.eval o).run P w = .ok (.value v) w := by
  unfold execOp
  simp only [ho, hx, hy]
  have : eqGuard op t x y (.int k m) (.int k n) = pure () := by
    unfold eqGuard
    split <;> rfl
  rw [this]
  simp only [pure_bind, Sem.run_bind, hr, Result.andThen_ok]
  rfl
theorem run_binS {a : Act} {w : World} {op : BinOp} {t t' : TypeId} {x y : Operand} {k k' : IntKind} {m n : Int} {v : Value} {o : Oper} (ho : o.op = .binOp op t x y t') (hop : op = .shl ∨ op = .shr) (hx : a.eval x = .int k m) (hy : a.eval y = .int k' n)
    (hr : (Op.shift op k m k' n).run P w = .ok v w) : (execOp a.eval o).run P w = .ok (.value v) w := by
  unfold execOp
  simp only [ho, hx, hy]
  have : eqGuard op t x y (.int k m) (.int k' n) = pure () := by
    unfold eqGuard
    split <;> rfl
  rw [this]
  have h2 : binOp op t (.int k m) (.int k' n) = Op.shift op k m k' n := by rcases hop with rfl | rfl <;> rfl
  rw [h2]
  simp only [pure_bind, Sem.run_bind, hr, Result.andThen_ok]
  rfl
variable {t t' : TypeId} {x y : Operand} {k : IntKind} {m n : Int}
/-- any operation on two whole numbers -/
theorem bin {op : BinOp} (u : Value) (hr : ∀ w, (binOp op t (.int k m) (.int k n)).run P w = .ok u w) (kk : EvL P fz B K ops rest ((d, vis u) :: σ) h) (hx : og σ x = some (vint k m) := by rfl) (hy : og σ y = some (vint k n) := by rfl) (hd : Nat.ble (d + 1) fz = true := by rfl) (hg : Gk ops σ g := by first | exact gk0 | exact gk1 rfl rfl rfl (by assumption)) :
    EvL P fz B K ops (⟨some d, .binOp op t x y t', ty, pos, af, g⟩ :: rest) σ h :=
  opp hd hg (fun a w W S hs => ⟨u, run_binI rfl (hs.eval hx) (hs.eval hy) (hr w), rfl⟩) kk
theorem r_cmp (P : Program) (w : World) (t : TypeId) (k : IntKind) (m n : Int) : (binOp .lss t (.int k m) (.int k n)).run P w = .ok (.bool (decide (m < n))) w ∧ (binOp .leq t (.int k m) (.int k n)).run P w = .ok (.bool (decide (m ≤ n))) w ∧ (binOp .gtr t (.int k m) (.int k n)).run P w = .ok (.bool (decide (n < m))) w ∧ (binOp .geq t (.int k m) (.int k n)).run P w = .ok (.bool (decide (n ≤ m))) w ∧ (binOp .eql t (.int k m) (.int k n)).run P w = .ok (.bool (m == n)) w ∧ (binOp .neq t (.int k m) (.int k n)).run P w = .ok (.bool (m != n)) w := by
  refine ⟨?_, ?_, ?_, ?_, ?_, ?_⟩ <;> simp [binOp, Op.intCmp]
theorem r_ar (P : Program) (w : World) (t : TypeId) (k : IntKind) (m n : Int) : (binOp .add t (.int k m) (.int k n)).run P w = .ok (.int k (k.wrap (m + n))) w ∧ (binOp .sub t (.int k m) (.int k n)).run P w = .ok (.int k (k.wrap (m - n))) w ∧ (binOp .mul t (.int k m) (.int k n)).run P w = .ok (.int k (k.wrap (m * n))) w := by
  refine ⟨?_, ?_, ?_⟩ <;> simp [binOp, Op.intArith]
theorem lss (kk : EvL P fz B K ops rest ((d, vbool (decide (m < n))) :: σ) h) (hx : og σ x = some (vint k m) := by rfl) (hy : og σ y = some (vint k n) := by rfl) (hd : Nat.ble (d + 1) fz = true := by rfl) (hg : Gk ops σ g := by first | exact gk0 | exact gk1 rfl rfl rfl (by assumption)) :
    EvL P fz B K ops (⟨some d, .binOp .lss t x y t', ty, pos, af, g⟩ :: rest) σ h := bin _ (fun w => (r_cmp P w t k m n).1) kk hx hy hd hg
theorem leq (kk : EvL P fz B K ops rest ((d, vbool (decide (m ≤ n))) :: σ) h) (hx : og σ x = some (vint k m) := by rfl) (hy : og σ y = some (vint k n) := by rfl) (hd : Nat.ble (d + 1) fz = true := by rfl) (hg : Gk ops σ g := by first | exact gk0 | exact gk1 rfl rfl rfl (by assumption)) :
    EvL P fz B K ops (⟨some d, .binOp .leq t x y t', ty, pos, af, g⟩ :: rest) σ h := bin _ (fun w => (r_cmp P w t k m n).2.1) kk hx hy hd hg
theorem gtr (kk : EvL P fz B K ops rest ((d, vbool (decide (n < m))) :: σ) h) (hx : og σ x = some (vint k m) := by rfl) (hy : og σ y = some (vint k n) := by rfl) (hd : Nat.ble (d + 1) fz = true := by rfl) (hg : Gk ops σ g := by first | exact gk0 | exact gk1 rfl rfl rfl (by assumption)) :
    EvL P fz B K ops (⟨some d, .binOp .gtr t x y t', ty, pos, af, g⟩ :: rest) σ h := bin _ (fun w => (r_cmp P w t k m n).2.2.1) kk hx hy hd hg
theorem geq (kk : EvL P fz B K ops rest ((d, vbool (decide (n ≤ m))) :: σ) h) (hx : og σ x = some (vint k m) := by rfl) (hy : og σ y = some (vint k n) := by rfl) (hd : Nat.ble (d + 1) fz = true := by rfl) (hg : Gk ops σ g := by first | exact gk0 | exact gk1 rfl rfl rfl (by assumption)) :
    EvL P fz B K ops (⟨some d, .binOp .geq t x y t', ty, pos, af, g⟩ :: rest) σ h := bin _ (fun w => (r_cmp P w t k m n).2.2.2.1) kk hx hy hd hg
theorem eql (kk : EvL P fz B K ops rest ((d, vbool (m == n)) :: σ) h) (hx : og σ x = some (vint k m) := by rfl) (hy : og σ y = some (vint k n) := by rfl) (hd : Nat.ble (d + 1) fz = true := by rfl) (hg : Gk ops σ g := by first | exact gk0 | exact gk1 rfl rfl rfl (by assumption)) :
    EvL P fz B K ops (⟨some d, .binOp .eql t x y t', ty, pos, af, g⟩ :: rest) σ h := bin _ (fun w => (r_cmp P w t k m n).2.2.2.2.1) kk hx hy hd hg
theorem neq (kk : EvL P fz B K ops rest ((d, vbool (m != n)) :: σ) h) (hx : og σ x = some (vint k m) := by rfl) (hy : og σ y = some (vint k n) := by rfl) (hd : Nat.ble (d + 1) fz = true := by rfl) (hg : Gk ops σ g := by first | exact gk0 | exact gk1 rfl rfl rfl (by assumption)) :
    EvL P fz B K ops (⟨some d, .binOp .neq t x y t', ty, pos, af, g⟩ :: rest) σ h := bin _ (fun w => (r_cmp P w t k m n).2.2.2.2.2) kk hx hy hd hg
theorem add (kk : EvL P fz B K ops rest ((d, vint .i64 (m + n)) :: σ) h) (hx : og σ x = some (vint .i64 m) := by rfl) (hy : og σ y = some (vint .i64 n) := by rfl) (h1 : -9223372036854775808 ≤ m + n := by omega) (h2 : m + n ≤ 9223372036854775807 := by omega) (hd : Nat.ble (d + 1) fz = true := by rfl) (hg : Gk ops σ g := by first | exact gk0 | exact gk1 rfl rfl rfl (by assumption)) :
    EvL P fz B K ops (⟨some d, .binOp .add t x y t', ty, pos, af, g⟩ :: rest) σ h := bin _ (fun w => by rw [(r_ar P w t .i64 m n).1, wrapI h1 h2]) kk hx hy hd hg
theorem addw (kk : EvL P fz B K ops rest ((d, vint k (k.wrap (m + n))) :: σ) h) (hx : og σ x = some (vint k m) := by rfl) (hy : og σ y = some (vint k n) := by rfl) (hd : Nat.ble (d + 1) fz = true := by rfl) (hg : Gk ops σ g := by first | exact gk0 | exact gk1 rfl rfl rfl (by assumption)) :
    EvL P fz B K ops (⟨some d, .binOp .add t x y t', ty, pos, af, g⟩ :: rest) σ h := bin _ (fun w => (r_ar P w t k m n).1) kk hx hy hd hg
theorem sub (kk : EvL P fz B K ops rest ((d, vint .i64 (m - n)) :: σ) h) (hx : og σ x = some (vint .i64 m) := by rfl) (hy : og σ y = some (vint .i64 n) := by rfl) (h1 : -9223372036854775808 ≤ m - n := by omega) (h2 : m - n ≤ 9223372036854775807 := by omega) (hd : Nat.ble (d + 1) fz = true := by rfl) (hg : Gk ops σ g := by first | exact gk0 | exact gk1 rfl rfl rfl (by assumption)) :
    EvL P fz B K ops (⟨some d, .binOp .sub t x y t', ty, pos, af, g⟩ :: rest) σ h := bin _ (fun w => by rw [(r_ar P w t .i64 m n).2.1, wrapI h1 h2]) kk hx hy hd hg
theorem subw (kk : EvL P fz B K ops rest ((d, vint k (k.wrap (m - n))) :: σ) h) (hx : og σ x = some (vint k m) := by rfl) (hy : og σ y = some (vint k n) := by rfl) (hd : Nat.ble (d + 1) fz = true := by rfl) (hg : Gk ops σ g := by first | exact gk0 | exact gk1 rfl rfl rfl (by assumption)) :
    EvL P fz B K ops (⟨some d, .binOp .sub t x y t', ty, pos, af, g⟩ :: rest) σ h := bin _ (fun w => (r_ar P w t k m n).2.1) kk hx hy hd hg
theorem mul (kk : EvL P fz B K ops rest ((d, vint .i64 (m * n)) :: σ) h) (hx : og σ x = some (vint .i64 m) := by rfl) (hy : og σ y = some (vint .i64 n) := by rfl) (h1 : -9223372036854775808 ≤ m * n := by omega) (h2 : m * n ≤ 9223372036854775807 := by omega) (hd : Nat.ble (d + 1) fz = true := by rfl) (hg : Gk ops σ g := by first | exact gk0 | exact gk1 rfl rfl rfl (by assumption)) :
    EvL P fz B K ops (⟨some d, .binOp .mul t x y t', ty, pos, af, g⟩ :: rest) σ h := bin _ (fun w => by rw [(r_ar P w t .i64 m n).2.2, wrapI h1 h2]) kk hx hy hd hg
theorem mulw (kk : EvL P fz B K ops rest ((d, vint k (k.wrap (m * n))) :: σ) h) (hx : og σ x = some (vint k m) := by rfl) (hy : og σ y = some (vint k n) := by rfl) (hd : Nat.ble (d + 1) fz = true := by rfl) (hg : Gk ops σ g := by first | exact gk0 | exact gk1 rfl rfl rfl (by assumption)) :
    EvL P fz B K ops (⟨some d, .binOp .mul t x y t', ty, pos, af, g⟩ :: rest) σ h := bin _ (fun w => (r_ar P w t k m n).2.2) kk hx hy hd hg

theorem not_ {b : Bool} (kk : EvL P fz B K ops rest ((d, vbool (!b)) :: σ) h) (hx : og σ x = some (vbool b) := by rfl) (hd : Nat.ble (d + 1) fz = true := by rfl) (hg : Gk ops σ g := by first | exact gk0 | exact gk1 rfl rfl rfl (by assumption)) :
    EvL P fz B K ops (⟨some d, .unOp .not t x, ty, pos, af, g⟩ :: rest) σ h :=
  opp hd hg (fun a w W S hs => ⟨.bool (!b), by have h1 : a.eval x = .bool b := hs.eval hx; simp [execOp, h1, Op.unary], rfl⟩) kk
theorem neg (kk : EvL P fz B K ops rest ((d, vint .i64 (-m)) :: σ) h) (hx : og σ x = some (vint .i64 m) := by rfl) (h1 : -9223372036854775808 ≤ -m := by omega) (h2 : -m ≤ 9223372036854775807 := by omega) (hd : Nat.ble (d + 1) fz = true := by rfl) (hg : Gk ops σ g := by first | exact gk0 | exact gk1 rfl rfl rfl (by assumption)) :
    EvL P fz B K ops (⟨some d, .unOp .neg t x, ty, pos, af, g⟩ :: rest) σ h :=
  opp hd hg (fun a w W S hs => ⟨.int .i64 (-m), by have h3 : a.eval x = .int .i64 m := hs.eval hx; have := wrapI h1 h2; simp [execOp, h3, Op.unary, Op.intArith, this], rfl⟩) kk

/-! ### pick, and the two short ways -/
theorem pickT {c : Operand} {b : Bool} {p : VP} (hb : b = true) (kk : EvL P fz B K ops rest ((d, p) :: σ) h) (hc : og σ c = some (vbool b) := by rfl) (hx : og σ x = some p := by rfl) (hd : Nat.ble (d + 1) fz = true := by rfl) (hg : Gk ops σ g := by first | exact gk0 | exact gk1 rfl rfl rfl (by assumption)) :
    EvL P fz B K ops (⟨some d, .pick c x y, ty, pos, af, g⟩ :: rest) σ h :=
  opp hd hg (fun a w W S hs => ⟨a.eval x, by have h1 : a.eval c = .bool b := hs.eval hc; simp [execOp, h1, hb, asBool], hs.eval hx⟩) kk
theorem pickF {c : Operand} {b : Bool} {p : VP} (hb : b = false) (kk : EvL P fz B K ops rest ((d, p) :: σ) h) (hc : og σ c = some (vbool b) := by rfl) (hy : og σ y = some p := by rfl) (hd : Nat.ble (d + 1) fz = true := by rfl) (hg : Gk ops σ g := by first | exact gk0 | exact gk1 rfl rfl rfl (by assumption)) :
    EvL P fz B K ops (⟨some d, .pick c x y, ty, pos, af, g⟩ :: rest) σ h :=
  opp hd hg (fun a w W S hs => ⟨a.eval y, by have h1 : a.eval c = .bool b := hs.eval hc; simp [execOp, h1, hb, asBool], hs.eval hy⟩) kk

/-- anything -/
def vany : VP := ⟨fun _ _ _ => True, fun _ h => h⟩
/-- which are skipped when operation j's answer is not 'want' -/
def skipping (ops : Array Oper) (j : Nat) (want : Bool) : List Nat → List Oper → Option (List Nat)
  | ds, [] => some ds
  | ds, o :: l => match o.guard with
    | none => none
    | some (i, v) =>
      bif (Nat.beq i j && (v == want)) || (match (ops[i]?).bind (·.dst) with | some e => ds.any (Nat.beq e) | none => false) then
        match o.dst with
        | some e => skipping ops j want (e :: ds) l
        | none => skipping ops j want ds l
      else none
theorem skip_run {j : Nat} {want b : Bool} {oj : Oper} {dj : Nat} (hj : ops[j]? = some oj) (hdj : oj.dst = some dj) (hb : b ≠ want) : ∀ (l rest : List Oper) (ds0 ds : List Nat) (a : Act) (w : World),
    skipping ops j want ds0 l = some ds → (∀ e, ds0.any (Nat.beq e) = true → e ≠ dj ∧ (a.tmps[e]? = some undef ∨ a.tmps[e]? = none)) → a.tmps[dj]? = some (.bool b) → (∀ o, o ∈ l → o.dst ≠ some dj) →
    (∀ a', a'.tmps.size = a.tmps.size → a'.defers = a.defers → (∀ e, ds.any (Nat.beq e) = false → a'.tmps[e]? = a.tmps[e]?) → wpList P ops (QK fz B K) rest a' w) → wpList P ops (QK fz B K) (l ++ rest) a w := by
  intro l
  induction l with
  | nil =>
    intro rest ds0 ds a w hs h0 hd hl hk
    exact hk a rfl rfl (fun _ _ => rfl)
  | cons o l ih =>
    intro rest ds0 ds a w hs h0 hd hl hk
    rw [List.cons_append]
    unfold skipping at hs
    cases hgd : o.guard with
    | none => rw [hgd] at hs; simp at hs
    | some iv =>
      obtain ⟨i, v⟩ := iv
      rw [hgd] at hs
      simp only at hs
      have hnw : Region.wanted o (yielded ops a.tmps) = false := by
        cases hc : ((Nat.beq i j && (v == want)) || (match (ops[i]?).bind (·.dst) with | some e => ds0.any (Nat.beq e) | none => false)) with
        | false => rw [hc] at hs; simp at hs
        | true =>
          simp only [Bool.or_eq_true, Bool.and_eq_true] at hc
          unfold Region.wanted
          simp only [hgd]
          rcases hc with ⟨hij, hv⟩ | hc
          · have := Nat.eq_of_beq_eq_true hij
            subst this
            have hv' : v = want := by simpa using hv
            subst hv'
            simp [yielded, hj, hdj, hd, hb]
          · cases he : (ops[i]?).bind (·.dst) with
            | none => rw [he] at hc; simp at hc
            | some e =>
              rw [he] at hc
              obtain ⟨_, h2⟩ := h0 e hc
              unfold yielded
              rw [he]
              simp only [Option.bind_some]
              rcases h2 with h2 | h2 <;> rw [h2] <;> simp [undef]
      cases hc : ((Nat.beq i j && (v == want)) || (match (ops[i]?).bind (·.dst) with | some e => ds0.any (Nat.beq e) | none => false)) with
      | false => rw [hc] at hs; simp at hs
      | true =>
        rw [hc] at hs
        simp only [cond_true] at hs
        refine wpList_step fun C hC => ?_
        rw [if_neg (by rw [hnw]; simp)]
        refine hC _ _ ?_
        cases hdst : o.dst with
        | none =>
          rw [hdst] at hs
          exact ih rest ds0 ds a w hs h0 hd (fun o' ho' => hl o' (List.mem_cons_of_mem _ ho')) hk
        | some e =>
          rw [hdst] at hs
          simp only at hs
          have hne : e ≠ dj := fun he => hl o (List.mem_cons_self ..) (by rw [hdst, he])
          refine ih rest (e :: ds0) ds _ w hs (fun e' he' => ?_) ?_ (fun o' ho' => hl o' (List.mem_cons_of_mem _ ho')) (fun a' h1 h2 h3 => hk a' (by rw [h1]; simp [Act.put]) h2 (fun e' he' => ?_))
          · simp only [List.any_cons, Bool.or_eq_true] at he'
            rcases he' with he' | he'
            · have := Nat.eq_of_beq_eq_true he'
              subst this
              refine ⟨hne, ?_⟩
              simp only [Act.put]
              by_cases hlt : e' < a.tmps.size
              · exact .inl (by rw [Array.getElem?_setIfInBounds_self_of_lt hlt])
              · exact .inr (by rw [Array.getElem?_eq_none (by simp; omega)])
            · obtain ⟨h1, h2⟩ := h0 e' he'
              refine ⟨h1, ?_⟩
              simp only [Act.put]
              by_cases hee : e = e'
              · subst hee
                by_cases hlt : e < a.tmps.size
                · exact .inl (by rw [Array.getElem?_setIfInBounds_self_of_lt hlt])
                · exact .inr (by rw [Array.getElem?_eq_none (by rw [Array.size_setIfInBounds]; exact Nat.le_of_not_lt hlt)])
              · rw [Array.getElem?_setIfInBounds_ne hee]
                exact h2
          · simp only [Act.put]
            rw [Array.getElem?_setIfInBounds_ne hne]
            exact hd
          · rw [h3 e' he']
            simp only [Act.put]
            by_cases hee : e = e'
            · subst hee
              have hin : ∀ (l : List Oper) (ds0 : List Nat), skipping ops j want ds0 l = some ds → ∀ x, ds0.any (Nat.beq x) = true → ds.any (Nat.beq x) = true := by
                intro l
                induction l with
                | nil => intro ds0 h x hx; simp only [skipping, Option.some.injEq] at h; subst h; exact hx
                | cons o l ih2 =>
                  intro ds0 h x hx
                  unfold skipping at h
                  split at h
                  · simp at h
                  · rename_i i' v' _
                    cases hc2 : ((Nat.beq i' j && (v' == want)) || (match (ops[i']?).bind (·.dst) with | some e => ds0.any (Nat.beq e) | none => false)) with
                    | false => rw [hc2] at h; simp at h
                    | true =>
                      rw [hc2] at h
                      simp only [cond_true] at h
                      split at h
                      · exact ih2 _ h x (by simp only [List.any_cons, hx, Bool.or_true])
                      · exact ih2 _ h x hx
              rw [hin l _ hs e (by simp)] at he'
              simp at he'
            · rw [Array.getElem?_setIfInBounds_ne hee]

/-- the register where what the guarded part gives lies -/
def Kan (e2 : Nat) (b2 : Bool) (h : List HP) : KP := fun e σ' h' => e = .normal ∧ rg σ' e2 = some (vbool b2) ∧ h' = h
/-- which slots hold what, of what is known, but for some -/
def drp (ds : List Nat) : Regs → Regs
  | [] => []
  | (e, p) :: σ => bif ds.any (Nat.beq e) then drp ds σ else (e, p) :: drp ds σ
theorem rg_drp {ds : List Nat} {e : Nat} : ∀ {σ : Regs}, rg (drp ds σ) e = bif ds.any (Nat.beq e) then none else rg σ e
  | [] => by cases ds.any (Nat.beq e) <;> rfl
  | (e', p) :: σ => by
    unfold drp
    cases hb : ds.any (Nat.beq e') with
    | true =>
      rw [cond_true, rg_drp]
      cases hc : Nat.beq e' e with
      | true =>
        have := Nat.eq_of_beq_eq_true hc
        subst this
        rw [hb]
        rfl
      | false => simp only [rg, hc, cond_false]
    | false =>
      rw [cond_false]
      cases hc : Nat.beq e' e with
      | true =>
        have := Nat.eq_of_beq_eq_true hc
        subst this
        simp only [rg, hc, hb, cond_true, cond_false]
      | false =>
        simp only [rg, hc, cond_false]
        exact rg_drp
theorem upon_change {o : Oper} {a : Act} {next next' : Act → World → Prop} {Q Q' : Exit → Act → World → Prop} (h : ∀ a w, next a w → next' a w) (hp : ∀ c a w, ¬ Q (.panic c) a w) (ho : ¬ LetsOut Q) : ∀ r : Result Next, o.upon P a next Q r → o.upon P a next' Q' r := by
  intro r hr
  unfold Oper.upon at hr ⊢
  split at hr
  · exact h _ _ hr
  · exact h _ _ hr
  · exact h _ _ hr
  · intro cs
    obtain ⟨e, w', fr, h1, h2, h3, h4⟩ := hr cs
    refine ⟨e, w', fr, ?_, h2, h3, h4⟩
    cases e with
    | returned v => exact h _ _ h1
    | panicked c => exact (hp _ _ _ h1).elim
    | outgrown => exact (ho h1).elim
  · exact fun c cs => let ⟨v, w', h1, h2⟩ := hr c cs; ⟨v, w', h _ _ h1, h2⟩
  · exact (hp _ _ _ hr).elim
  · exact hr.elim
theorem wpList_then {Q Q' : Exit → Act → World → Prop} (hp : ∀ c a w, ¬ Q (.panic c) a w) (ho : ¬ LetsOut Q) {rest : List Oper} (hk : ∀ a w, Q .normal a w → wpList P ops Q' rest a w) : ∀ (l : List Oper) (a : Act) (w : World), wpList P ops Q l a w → wpList P ops Q' (l ++ rest) a w := by
  intro l
  induction l with
  | nil => exact fun a w h => hk a w h
  | cons o l ih =>
    intro a w h
    rw [List.cons_append]
    unfold wpList at h ⊢
    split at h
    · rename_i hw
      rw [if_pos hw]
      rcases h with h | ⟨_, h⟩
      · exact .inl (upon_change ih hp ho _ h)
      · exact (ho h).elim
    · rename_i hw
      rw [if_neg hw]
      exact ih _ _ h
theorem QK.nopanic {K : KP} : ∀ c a w, ¬ QK fz B K (.panic c) a w := fun c a w h => h.1 c rfl
theorem QK.noout {K : KP} : ¬ LetsOut (QK fz B K) := fun ⟨a, w, h⟩ => h.2.1 rfl
/-- A list of operations cut in two: what is known between. -/
theorem cut {l1 l2 : List Oper} {σm : Regs} {hm : List HP} (k1 : EvL P fz B (fun e σ' h' => e = .normal ∧ (∀ d p, rg σm d = some p → rg σ' d = some p) ∧ h' = hm) ops l1 σ h) (k2 : EvL P fz B K ops l2 σm hm) : EvL P fz B K ops (l1 ++ l2) σ h := by
  intro a w W S hs
  refine wpList_then QK.nopanic QK.noout ?_ l1 a w (k1 a w W S hs)
  rintro a w ⟨_, _, σ', h', W', S', hs', _, hσ, rfl⟩
  exact k2 a w W' S' ⟨hs'.tmps, hs'.defers, fun d p hd => hs'.regs d p (hσ d p hd), hs'.sat, hs'.run⟩
theorem wpList_same {Q : Exit → Act → World → Prop} (ho : ¬ LetsOut Q) {ds : List Nat} : ∀ (l : List Oper) (a : Act) (w : World), l.all (fun o => match o.dst with | some e => ds.any (Nat.beq e) | none => true) = true → wpList P ops Q l a w →
    wpList P ops (fun e a' w' => Q e a' w' ∧ (e = .normal → ∀ e, ds.any (Nat.beq e) = false → a'.tmps[e]? = a.tmps[e]?)) l a w := by
  intro l
  induction l with
  | nil => exact fun a w _ h => ⟨h, fun _ _ _ => rfl⟩
  | cons o l ih =>
    intro a w hl h
    rw [List.all_cons, Bool.and_eq_true] at hl
    have hput : ∀ v e, ds.any (Nat.beq e) = false → (a.put o.dst v).tmps[e]? = a.tmps[e]? := by
      intro v e he
      cases hd : o.dst with
      | none => rfl
      | some e' =>
        simp only [Act.put]
        have hne : e' ≠ e := by
          rintro rfl
          have := hl.1
          rw [hd] at this
          simp only at this
          rw [this] at he
          cases he
        rw [Array.getElem?_setIfInBounds_ne hne]
    have hn : ∀ v w', wpList P ops Q l (a.put o.dst v) w' → wpList P ops (fun e a' w' => Q e a' w' ∧ (e = .normal → ∀ e, ds.any (Nat.beq e) = false → a'.tmps[e]? = a.tmps[e]?)) l (a.put o.dst v) w' := by
      intro v w' hw
      have := ih _ _ hl.2 hw
      refine cast ?_ this
      congr 1
      funext e a' w''
      simp only [eq_iff_iff]
      exact ⟨fun h => ⟨h.1, fun hn e he => (h.2 hn e he).trans (hput v e he)⟩, fun h => ⟨h.1, fun hn e he => (h.2 hn e he).trans (hput v e he).symm⟩⟩
    have hn2 : ∀ (d : Deferred) v w', wpList P ops Q l (({ a with defers := d :: a.defers } : Act).put o.dst v) w' → wpList P ops (fun e a' w' => Q e a' w' ∧ (e = .normal → ∀ e, ds.any (Nat.beq e) = false → a'.tmps[e]? = a.tmps[e]?)) l (({ a with defers := d :: a.defers } : Act).put o.dst v) w' := by
      intro d v w' hw
      have := ih _ _ hl.2 hw
      have hput2 : ∀ v e, ds.any (Nat.beq e) = false → (({ a with defers := d :: a.defers } : Act).put o.dst v).tmps[e]? = a.tmps[e]? := by
        intro v e he
        have := hput v e he
        cases hd : o.dst <;> rw [hd] at this <;> exact this
      refine cast ?_ this
      congr 1
      funext e a' w''
      simp only [eq_iff_iff]
      exact ⟨fun h => ⟨h.1, fun hn e he => (h.2 hn e he).trans (hput2 v e he)⟩, fun h => ⟨h.1, fun hn e he => (h.2 hn e he).trans (hput2 v e he).symm⟩⟩
    unfold wpList at h ⊢
    split at h
    · rename_i hw
      rw [if_pos hw]
      rcases h with h | ⟨_, h⟩
      · refine .inl ?_
        unfold Oper.wp at h ⊢
        unfold Oper.upon at h ⊢
        split at h
        · exact hn _ _ h
        · exact hn _ _ h
        · exact hn2 _ _ _ h
        · intro cs
          obtain ⟨e, w', fr, h1, h2, h3, h4⟩ := h cs
          refine ⟨e, w', fr, ?_, h2, h3, h4⟩
          cases e with
          | returned v => exact hn _ _ h1
          | panicked c => exact ⟨h1, nofun⟩
          | outgrown => exact (ho h1).elim
        · exact fun c cs => let ⟨v, w', h1, h2⟩ := h c cs; ⟨v, w', hn _ _ h1, h2⟩
        · exact ⟨h, nofun⟩
        · exact h.elim
      · exact (ho h).elim
    · rename_i hw
      rw [if_neg hw]
      exact hn _ _ h
/-- 'c && ..', 'c || ..': l1 is carried out where b is 'want'; then the pick. -/
theorem short {e2 dj : Nat} {b b2 : Bool} {oj : Oper} {c x y : Operand} {ds : List Nat} (j : Nat) (want : Bool) (n : Nat)
    (k1 : b = want → ∀ B, EvL P fz B (Kan e2 b2 h) ops (rest.take n) σ h)
    (k : EvL P fz B K ops (rest.drop (n + 1)) ((d, vbool (bif want then b && b2 else b || b2)) :: drp ds σ) h)
    (hpk : rest[n]? = some ⟨some d, .pick c x y, ty, pos, af, g⟩ := by rfl)
    (hj : ops[j]? = some oj := by rfl) (hdj : oj.dst = some dj := by rfl) (hbj : rg σ dj = some (vbool b) := by rfl) (hc : og σ c = some (vbool b) := by rfl)
    (hsk : skipping ops j want [] (rest.take n) = some ds := by rfl) (hcd : ∀ t, c = .tmp t → ds.any (Nat.beq t) = false := by intro t ht; cases ht; rfl)
    (hx : x = bif want then .tmp e2 else .const (.bool true) := by rfl) (hy : y = bif want then .const (.bool false) else .tmp e2 := by rfl)
    (hnd : (rest.take n).all (fun o => match o.dst with | some e => !(Nat.beq e dj) | none => true) = true := by rfl)
    (hal : (rest.take n).all (fun o => match o.dst with | some e => ds.any (Nat.beq e) | none => true) = true := by rfl)
    (hd : Nat.ble (d + 1) fz = true := by rfl) (hg : Gk ops σ g := by first | exact gk0 | exact gk1 rfl rfl rfl (by assumption)) (hdd : ∀ dj', (match g with | some (i, _) => (ops[i]?).bind (·.dst) | none => none) = some dj' → ds.any (Nat.beq dj') = false := by first | nofun | (intro _ h; cases h; rfl)) :
    EvL P fz B K ops rest σ h := by
  have hsplit : rest = rest.take n ++ (⟨some d, .pick c x y, ty, pos, af, g⟩ :: rest.drop (n + 1)) := by
    conv => lhs; rw [← List.take_append_drop n rest]
    congr 1
    exact (List.drop_eq_getElem_cons (List.getElem?_eq_some_iff.1 hpk).1).trans (by rw [(List.getElem?_eq_some_iff.1 hpk).2])
  rw [hsplit]
  have hgd : ∀ σ', (∀ e, ds.any (Nat.beq e) = false → ∀ p, rg σ e = some p → rg σ' e = some p) → Gk ops σ' g := by
    intro σ' hσ'
    cases g with
    | none => trivial
    | some iw =>
      obtain ⟨i, w⟩ := iw
      obtain ⟨oi, di, h1, h2, h3⟩ := hg
      exact ⟨oi, di, h1, h2, hσ' di (hdd di (by simp [h1, h2])) _ h3⟩
  intro a w W S hs
  have hdrp : ∀ {a' w' W' S'} {σ' : Regs}, St fz B.w0 B.W0 B.S0 σ' h a' w' W' S' → (∀ e p, rg (drp ds σ) e = some p → rg σ' e = some p) → St fz B.w0 B.W0 B.S0 (drp ds σ) h a' w' W' S' := fun hs' hσ => ⟨hs'.tmps, hs'.defers, fun e p he => hs'.regs e p (hσ e p he), hs'.sat, hs'.run⟩
  by_cases hb : b = want
  · have hrun := k1 hb ⟨w, W, S, hs.run.sub⟩ a w W S ⟨hs.tmps, hs.defers, hs.regs, hs.sat, Run.refl hs.run.sub hs.run.bound⟩
    refine wpList_then (fun c a w h => QK.nopanic c a w h.1) (fun ⟨a, w, h⟩ => h.1.2.1 rfl) ?_ _ a w (wpList_same QK.noout (ds := ds) _ a w hal hrun)
    rintro a' w' ⟨⟨_, _, σ', h', W', S', hs', _, he2, rfl⟩, hsame⟩
    have hsame := hsame rfl
    have hev : Evo w W w' W' := hs'.run.evo hs.run.sub
    have hs2 : St fz B.w0 B.W0 B.S0 (drp ds σ) h' a' w' W' S' := by
      refine ⟨hs'.tmps, hs'.defers, fun e p he => ?_, hs'.sat, hs.run.trans hs'.run⟩
      rw [rg_drp] at he
      cases h1 : ds.any (Nat.beq e) with
      | true => rw [h1] at he; cases he
      | false =>
        rw [h1] at he
        obtain ⟨u, hu, hup⟩ := hs.regs e p he
        exact ⟨u, by rw [hsame e h1]; exact hu, p.st hev hup⟩
    have hcv : a.eval c = .bool b := hs.eval hc
    have hcv' : a'.eval c = .bool b := by
      cases c with
      | tmp t => simp only [Act.eval, Array.getD_eq_getD_getElem?] at hcv ⊢; rw [hsame t (hcd t rfl)]; exact hcv
      | _ => exact hcv
    obtain ⟨v2, hv2, hp2⟩ := hs'.regs e2 _ he2
    have hp2' : v2 = .bool b2 := hp2
    subst hp2'
    have hval : ∃ v, (execOp a'.eval ⟨some d, .pick c x y, ty, pos, af, g⟩).run P w' = .ok (.value v) w' ∧ v = .bool (bif want then b && b2 else b || b2) := by
      cases want with
      | true =>
        subst hb
        simp only [cond_true] at hx
        subst hx
        exact ⟨.bool b2, by unfold execOp; simp only [hcv', asBool]; simp [Act.eval, Array.getD_eq_getD_getElem?, hv2], by simp⟩
      | false =>
        subst hb
        simp only [cond_false] at hy
        subst hy
        exact ⟨.bool b2, by unfold execOp; simp only [hcv', asBool]; simp [Act.eval, Array.getD_eq_getD_getElem?, hv2], by simp⟩
    obtain ⟨v, hrun, hv⟩ := hval
    refine wpList_step fun C hC => ?_
    rw [if_pos (Gk.wanted (o := ⟨some d, .pick c x y, ty, pos, af, g⟩) (hgd (drp ds σ) (fun e he p hp => by rw [rg_drp, he]; exact hp)) hs2)]
    unfold Oper.wp
    rw [hrun]
    exact hC _ _ (k _ _ W' S' (hs2.step hd hv hs2.sat (Run.refl hs2.run.sub hs2.run.bound)))
  · have hcv : a.eval c = .bool b := hs.eval hc
    obtain ⟨vj, hvj, hpj⟩ := hs.regs dj _ hbj
    have hpj' : vj = .bool b := hpj
    subst hpj'
    have hnd' : ∀ o, o ∈ rest.take n → o.dst ≠ some dj := by
      intro o ho he
      have := List.all_eq_true.1 hnd o ho
      rw [he] at this
      simp at this
    refine skip_run (K := K) hj hdj hb (rest.take n) _ [] ds a w hsk (fun e he => by simp at he) hvj hnd' ?_
    intro a' hsz hdf hsame
    have hs' : St fz B.w0 B.W0 B.S0 (drp ds σ) h a' w W S := by
      refine ⟨by rw [hsz, hs.tmps], by rw [hdf, hs.defers], fun e p he => ?_, hs.sat, hs.run⟩
      rw [rg_drp] at he
      cases h1 : ds.any (Nat.beq e) with
      | true => rw [h1] at he; cases he
      | false =>
        rw [h1] at he
        obtain ⟨u, hu, hup⟩ := hs.regs e p he
        exact ⟨u, by rw [hsame e h1]; exact hu, hup⟩
    have hcv' : a'.eval c = .bool b := by
      cases c with
      | tmp t => simp only [Act.eval, Array.getD_eq_getD_getElem?] at hcv ⊢; rw [hsame t (hcd t rfl)]; exact hcv
      | _ => exact hcv
    have hval : ∃ v, (execOp a'.eval ⟨some d, .pick c x y, ty, pos, af, g⟩).run P w = .ok (.value v) w ∧ v = .bool (bif want then b && b2 else b || b2) := by
      cases want with
      | true =>
        have hb' : b = false := by simpa using hb
        subst hb'
        simp only [cond_true] at hy
        subst hy
        exact ⟨.bool false, by unfold execOp; simp only [hcv', asBool]; rfl, rfl⟩
      | false =>
        have hb' : b = true := by simpa using hb
        subst hb'
        simp only [cond_false] at hx
        subst hx
        exact ⟨.bool true, by unfold execOp; simp only [hcv', asBool]; rfl, rfl⟩
    obtain ⟨v, hrun, hv⟩ := hval
    refine wpList_step fun C hC => ?_
    rw [if_pos (Gk.wanted (o := ⟨some d, .pick c x y, ty, pos, af, g⟩) (hgd (drp ds σ) (fun e he p hp => by rw [rg_drp, he]; exact hp)) hs')]
    unfold Oper.wp
    rw [hrun]
    exact hC _ _ (k _ _ W S (hs'.step hd hv hs'.sat (Run.refl hs.run.sub hs.run.bound)))
theorem kan {e2 : Nat} {b2 : Bool} {h h' : List HP} {σ' : Regs} (hr : rg σ' e2 = some (vbool b2)) (hh : h' = h) : Kan e2 b2 h .normal σ' h' := ⟨rfl, hr, hh⟩
theorem an1 {o1 : Oper} {e2 dj : Nat} {b : Bool} {oj : Oper} {c : Operand} {ds : List Nat} (j : Nat)
    (k : ∃ b2, (b = true → ∀ B, EvL P fz B (Kan e2 b2 h) ops [o1] σ h) ∧ EvL P fz B K ops rest ((d, vbool (b && b2)) :: drp ds σ) h)
    (hj : ops[j]? = some oj := by rfl) (hdj : oj.dst = some dj := by rfl) (hbj : rg σ dj = some (vbool b) := by rfl) (hc : og σ c = some (vbool b) := by rfl)
    (hsk : skipping ops j true [] [o1] = some ds := by rfl) (hcd : ∀ t, c = .tmp t → ds.any (Nat.beq t) = false := by intro t ht; cases ht; rfl)
    (hnd : [o1].all (fun o => match o.dst with | some e => !(Nat.beq e dj) | none => true) = true := by rfl)
    (hal : [o1].all (fun o => match o.dst with | some e => ds.any (Nat.beq e) | none => true) = true := by rfl)
    (hd : Nat.ble (d + 1) fz = true := by rfl) (hg : Gk ops σ g := by first | exact gk0 | exact gk1 rfl rfl rfl (by assumption)) (hdd : ∀ dj', (match g with | some (i, _) => (ops[i]?).bind (·.dst) | none => none) = some dj' → ds.any (Nat.beq dj') = false := by first | nofun | (intro _ h; cases h; rfl)) :
    EvL P fz B K ops (o1 :: ⟨some d, .pick c (.tmp e2) (.const (.bool false)), ty, pos, af, g⟩ :: rest) σ h :=
  short (rest := o1 :: ⟨some d, .pick c (.tmp e2) (.const (.bool false)), ty, pos, af, g⟩ :: rest) j true 1 k.choose_spec.1 k.choose_spec.2 rfl hj hdj hbj hc hsk hcd rfl rfl hnd hal hd hg hdd
theorem orr1 {o1 : Oper} {e2 dj : Nat} {b : Bool} {oj : Oper} {c : Operand} {ds : List Nat} (j : Nat)
    (k : ∃ b2, (b = false → ∀ B, EvL P fz B (Kan e2 b2 h) ops [o1] σ h) ∧ EvL P fz B K ops rest ((d, vbool (b || b2)) :: drp ds σ) h)
    (hj : ops[j]? = some oj := by rfl) (hdj : oj.dst = some dj := by rfl) (hbj : rg σ dj = some (vbool b) := by rfl) (hc : og σ c = some (vbool b) := by rfl)
    (hsk : skipping ops j false [] [o1] = some ds := by rfl) (hcd : ∀ t, c = .tmp t → ds.any (Nat.beq t) = false := by intro t ht; cases ht; rfl)
    (hnd : [o1].all (fun o => match o.dst with | some e => !(Nat.beq e dj) | none => true) = true := by rfl)
    (hal : [o1].all (fun o => match o.dst with | some e => ds.any (Nat.beq e) | none => true) = true := by rfl)
    (hd : Nat.ble (d + 1) fz = true := by rfl) (hg : Gk ops σ g := by first | exact gk0 | exact gk1 rfl rfl rfl (by assumption)) (hdd : ∀ dj', (match g with | some (i, _) => (ops[i]?).bind (·.dst) | none => none) = some dj' → ds.any (Nat.beq dj') = false := by first | nofun | (intro _ h; cases h; rfl)) :
    EvL P fz B K ops (o1 :: ⟨some d, .pick c (.const (.bool true)) (.tmp e2), ty, pos, af, g⟩ :: rest) σ h :=
  short (rest := o1 :: ⟨some d, .pick c (.const (.bool true)) (.tmp e2), ty, pos, af, g⟩ :: rest) j false 1 k.choose_spec.1 k.choose_spec.2 rfl hj hdj hbj hc hsk hcd rfl rfl hnd hal hd hg hdd
theorem an2 {o1 o2 : Oper} {e2 dj : Nat} {b : Bool} {oj : Oper} {c : Operand} {ds : List Nat} (j : Nat)
    (k : ∃ b2, (b = true → ∀ B, EvL P fz B (Kan e2 b2 h) ops [o1, o2] σ h) ∧ EvL P fz B K ops rest ((d, vbool (b && b2)) :: drp ds σ) h)
    (hj : ops[j]? = some oj := by rfl) (hdj : oj.dst = some dj := by rfl) (hbj : rg σ dj = some (vbool b) := by rfl) (hc : og σ c = some (vbool b) := by rfl)
    (hsk : skipping ops j true [] [o1, o2] = some ds := by rfl) (hcd : ∀ t, c = .tmp t → ds.any (Nat.beq t) = false := by intro t ht; cases ht; rfl)
    (hnd : [o1, o2].all (fun o => match o.dst with | some e => !(Nat.beq e dj) | none => true) = true := by rfl)
    (hal : [o1, o2].all (fun o => match o.dst with | some e => ds.any (Nat.beq e) | none => true) = true := by rfl)
    (hd : Nat.ble (d + 1) fz = true := by rfl) (hg : Gk ops σ g := by first | exact gk0 | exact gk1 rfl rfl rfl (by assumption)) (hdd : ∀ dj', (match g with | some (i, _) => (ops[i]?).bind (·.dst) | none => none) = some dj' → ds.any (Nat.beq dj') = false := by first | nofun | (intro _ h; cases h; rfl)) :
    EvL P fz B K ops (o1 :: o2 :: ⟨some d, .pick c (.tmp e2) (.const (.bool false)), ty, pos, af, g⟩ :: rest) σ h :=
  short (rest := o1 :: o2 :: ⟨some d, .pick c (.tmp e2) (.const (.bool false)), ty, pos, af, g⟩ :: rest) j true 2 k.choose_spec.1 k.choose_spec.2 rfl hj hdj hbj hc hsk hcd rfl rfl hnd hal hd hg hdd
theorem orr2 {o1 o2 : Oper} {e2 dj : Nat} {b : Bool} {oj : Oper} {c : Operand} {ds : List Nat} (j : Nat)
    (k : ∃ b2, (b = false → ∀ B, EvL P fz B (Kan e2 b2 h) ops [o1, o2] σ h) ∧ EvL P fz B K ops rest ((d, vbool (b || b2)) :: drp ds σ) h)
    (hj : ops[j]? = some oj := by rfl) (hdj : oj.dst = some dj := by rfl) (hbj : rg σ dj = some (vbool b) := by rfl) (hc : og σ c = some (vbool b) := by rfl)
    (hsk : skipping ops j false [] [o1, o2] = some ds := by rfl) (hcd : ∀ t, c = .tmp t → ds.any (Nat.beq t) = false := by intro t ht; cases ht; rfl)
    (hnd : [o1, o2].all (fun o => match o.dst with | some e => !(Nat.beq e dj) | none => true) = true := by rfl)
    (hal : [o1, o2].all (fun o => match o.dst with | some e => ds.any (Nat.beq e) | none => true) = true := by rfl)
    (hd : Nat.ble (d + 1) fz = true := by rfl) (hg : Gk ops σ g := by first | exact gk0 | exact gk1 rfl rfl rfl (by assumption)) (hdd : ∀ dj', (match g with | some (i, _) => (ops[i]?).bind (·.dst) | none => none) = some dj' → ds.any (Nat.beq dj') = false := by first | nofun | (intro _ h; cases h; rfl)) :
    EvL P fz B K ops (o1 :: o2 :: ⟨some d, .pick c (.const (.bool true)) (.tmp e2), ty, pos, af, g⟩ :: rest) σ h :=
  short (rest := o1 :: o2 :: ⟨some d, .pick c (.const (.bool true)) (.tmp e2), ty, pos, af, g⟩ :: rest) j false 2 k.choose_spec.1 k.choose_spec.2 rfl hj hdj hbj hc hsk hcd rfl rfl hnd hal hd hg hdd
theorem an3 {o1 o2 o3 : Oper} {e2 dj : Nat} {b : Bool} {oj : Oper} {c : Operand} {ds : List Nat} (j : Nat)
    (k : ∃ b2, (b = true → ∀ B, EvL P fz B (Kan e2 b2 h) ops [o1, o2, o3] σ h) ∧ EvL P fz B K ops rest ((d, vbool (b && b2)) :: drp ds σ) h)
    (hj : ops[j]? = some oj := by rfl) (hdj : oj.dst = some dj := by rfl) (hbj : rg σ dj = some (vbool b) := by rfl) (hc : og σ c = some (vbool b) := by rfl)
    (hsk : skipping ops j true [] [o1, o2, o3] = some ds := by rfl) (hcd : ∀ t, c = .tmp t → ds.any (Nat.beq t) = false := by intro t ht; cases ht; rfl)
    (hnd : [o1, o2, o3].all (fun o => match o.dst with | some e => !(Nat.beq e dj) | none => true) = true := by rfl)
    (hal : [o1, o2, o3].all (fun o => match o.dst with | some e => ds.any (Nat.beq e) | none => true) = true := by rfl)
    (hd : Nat.ble (d + 1) fz = true := by rfl) (hg : Gk ops σ g := by first | exact gk0 | exact gk1 rfl rfl rfl (by assumption)) (hdd : ∀ dj', (match g with | some (i, _) => (ops[i]?).bind (·.dst) | none => none) = some dj' → ds.any (Nat.beq dj') = false := by first | nofun | (intro _ h; cases h; rfl)) :
    EvL P fz B K ops (o1 :: o2 :: o3 :: ⟨some d, .pick c (.tmp e2) (.const (.bool false)), ty, pos, af, g⟩ :: rest) σ h :=
  short (rest := o1 :: o2 :: o3 :: ⟨some d, .pick c (.tmp e2) (.const (.bool false)), ty, pos, af, g⟩ :: rest) j true 3 k.choose_spec.1 k.choose_spec.2 rfl hj hdj hbj hc hsk hcd rfl rfl hnd hal hd hg hdd
theorem orr3 {o1 o2 o3 : Oper} {e2 dj : Nat} {b : Bool} {oj : Oper} {c : Operand} {ds : List Nat} (j : Nat)
    (k : ∃ b2, (b = false → ∀ B, EvL P fz B (Kan e2 b2 h) ops [o1, o2, o3] σ h) ∧ EvL P fz B K ops rest ((d, vbool (b || b2)) :: drp ds σ) h)
    (hj : ops[j]? = some oj := by rfl) (hdj : oj.dst = some dj := by rfl) (hbj : rg σ dj = some (vbool b) := by rfl) (hc : og σ c = some (vbool b) := by rfl)
    (hsk : skipping ops j false [] [o1, o2, o3] = some ds := by rfl) (hcd : ∀ t, c = .tmp t → ds.any (Nat.beq t) = false := by intro t ht; cases ht; rfl)
    (hnd : [o1, o2, o3].all (fun o => match o.dst with | some e => !(Nat.beq e dj) | none => true) = true := by rfl)
    (hal : [o1, o2, o3].all (fun o => match o.dst with | some e => ds.any (Nat.beq e) | none => true) = true := by rfl)
    (hd : Nat.ble (d + 1) fz = true := by rfl) (hg : Gk ops σ g := by first | exact gk0 | exact gk1 rfl rfl rfl (by assumption)) (hdd : ∀ dj', (match g with | some (i, _) => (ops[i]?).bind (·.dst) | none => none) = some dj' → ds.any (Nat.beq dj') = false := by first | nofun | (intro _ h; cases h; rfl)) :
    EvL P fz B K ops (o1 :: o2 :: o3 :: ⟨some d, .pick c (.const (.bool true)) (.tmp e2), ty, pos, af, g⟩ :: rest) σ h :=
  short (rest := o1 :: o2 :: o3 :: ⟨some d, .pick c (.const (.bool true)) (.tmp e2), ty, pos, af, g⟩ :: rest) j false 3 k.choose_spec.1 k.choose_spec.2 rfl hj hdj hbj hc hsk hcd rfl rfl hnd hal hd hg hdd
theorem an4 {o1 o2 o3 o4 : Oper} {e2 dj : Nat} {b : Bool} {oj : Oper} {c : Operand} {ds : List Nat} (j : Nat)
    (k : ∃ b2, (b = true → ∀ B, EvL P fz B (Kan e2 b2 h) ops [o1, o2, o3, o4] σ h) ∧ EvL P fz B K ops rest ((d, vbool (b && b2)) :: drp ds σ) h)
    (hj : ops[j]? = some oj := by rfl) (hdj : oj.dst = some dj := by rfl) (hbj : rg σ dj = some (vbool b) := by rfl) (hc : og σ c = some (vbool b) := by rfl)
    (hsk : skipping ops j true [] [o1, o2, o3, o4] = some ds := by rfl) (hcd : ∀ t, c = .tmp t → ds.any (Nat.beq t) = false := by intro t ht; cases ht; rfl)
    (hnd : [o1, o2, o3, o4].all (fun o => match o.dst with | some e => !(Nat.beq e dj) | none => true) = true := by rfl)
    (hal : [o1, o2, o3, o4].all (fun o => match o.dst with | some e => ds.any (Nat.beq e) | none => true) = true := by rfl)
    (hd : Nat.ble (d + 1) fz = true := by rfl) (hg : Gk ops σ g := by first | exact gk0 | exact gk1 rfl rfl rfl (by assumption)) (hdd : ∀ dj', (match g with | some (i, _) => (ops[i]?).bind (·.dst) | none => none) = some dj' → ds.any (Nat.beq dj') = false := by first | nofun | (intro _ h; cases h; rfl)) :
    EvL P fz B K ops (o1 :: o2 :: o3 :: o4 :: ⟨some d, .pick c (.tmp e2) (.const (.bool false)), ty, pos, af, g⟩ :: rest) σ h :=
  short (rest := o1 :: o2 :: o3 :: o4 :: ⟨some d, .pick c (.tmp e2) (.const (.bool false)), ty, pos, af, g⟩ :: rest) j true 4 k.choose_spec.1 k.choose_spec.2 rfl hj hdj hbj hc hsk hcd rfl rfl hnd hal hd hg hdd
theorem orr4 {o1 o2 o3 o4 : Oper} {e2 dj : Nat} {b : Bool} {oj : Oper} {c : Operand} {ds : List Nat} (j : Nat)
    (k : ∃ b2, (b = false → ∀ B, EvL P fz B (Kan e2 b2 h) ops [o1, o2, o3, o4] σ h) ∧ EvL P fz B K ops rest ((d, vbool (b || b2)) :: drp ds σ) h)
    (hj : ops[j]? = some oj := by rfl) (hdj : oj.dst = some dj := by rfl) (hbj : rg σ dj = some (vbool b) := by rfl) (hc : og σ c = some (vbool b) := by rfl)
    (hsk : skipping ops j false [] [o1, o2, o3, o4] = some ds := by rfl) (hcd : ∀ t, c = .tmp t → ds.any (Nat.beq t) = false := by intro t ht; cases ht; rfl)
    (hnd : [o1, o2, o3, o4].all (fun o => match o.dst with | some e => !(Nat.beq e dj) | none => true) = true := by rfl)
    (hal : [o1, o2, o3, o4].all (fun o => match o.dst with | some e => ds.any (Nat.beq e) | none => true) = true := by rfl)
    (hd : Nat.ble (d + 1) fz = true := by rfl) (hg : Gk ops σ g := by first | exact gk0 | exact gk1 rfl rfl rfl (by assumption)) (hdd : ∀ dj', (match g with | some (i, _) => (ops[i]?).bind (·.dst) | none => none) = some dj' → ds.any (Nat.beq dj') = false := by first | nofun | (intro _ h; cases h; rfl)) :
    EvL P fz B K ops (o1 :: o2 :: o3 :: o4 :: ⟨some d, .pick c (.const (.bool true)) (.tmp e2), ty, pos, af, g⟩ :: rest) σ h :=
  short (rest := o1 :: o2 :: o3 :: o4 :: ⟨some d, .pick c (.const (.bool true)) (.tmp e2), ty, pos, af, g⟩ :: rest) j false 4 k.choose_spec.1 k.choose_spec.2 rfl hj hdj hbj hc hsk hcd rfl rfl hnd hal hd hg hdd
theorem an5 {o1 o2 o3 o4 o5 : Oper} {e2 dj : Nat} {b : Bool} {oj : Oper} {c : Operand} {ds : List Nat} (j : Nat)
    (k : ∃ b2, (b = true → ∀ B, EvL P fz B (Kan e2 b2 h) ops [o1, o2, o3, o4, o5] σ h) ∧ EvL P fz B K ops rest ((d, vbool (b && b2)) :: drp ds σ) h)
    (hj : ops[j]? = some oj := by rfl) (hdj : oj.dst = some dj := by rfl) (hbj : rg σ dj = some (vbool b) := by rfl) (hc : og σ c = some (vbool b) := by rfl)
    (hsk : skipping ops j true [] [o1, o2, o3, o4, o5] = some ds := by rfl) (hcd : ∀ t, c = .tmp t → ds.any (Nat.beq t) = false := by intro t ht; cases ht; rfl)
    (hnd : [o1, o2, o3, o4, o5].all (fun o => match o.dst with | some e => !(Nat.beq e dj) | none => true) = true := by rfl)
    (hal : [o1, o2, o3, o4, o5].all (fun o => match o.dst with | some e => ds.any (Nat.beq e) | none => true) = true := by rfl)
    (hd : Nat.ble (d + 1) fz = true := by rfl) (hg : Gk ops σ g := by first | exact gk0 | exact gk1 rfl rfl rfl (by assumption)) (hdd : ∀ dj', (match g with | some (i, _) => (ops[i]?).bind (·.dst) | none => none) = some dj' → ds.any (Nat.beq dj') = false := by first | nofun | (intro _ h; cases h; rfl)) :
    EvL P fz B K ops (o1 :: o2 :: o3 :: o4 :: o5 :: ⟨some d, .pick c (.tmp e2) (.const (.bool false)), ty, pos, af, g⟩ :: rest) σ h :=
  short (rest := o1 :: o2 :: o3 :: o4 :: o5 :: ⟨some d, .pick c (.tmp e2) (.const (.bool false)), ty, pos, af, g⟩ :: rest) j true 5 k.choose_spec.1 k.choose_spec.2 rfl hj hdj hbj hc hsk hcd rfl rfl hnd hal hd hg hdd
theorem orr5 {o1 o2 o3 o4 o5 : Oper} {e2 dj : Nat} {b : Bool} {oj : Oper} {c : Operand} {ds : List Nat} (j : Nat)
    (k : ∃ b2, (b = false → ∀ B, EvL P fz B (Kan e2 b2 h) ops [o1, o2, o3, o4, o5] σ h) ∧ EvL P fz B K ops rest ((d, vbool (b || b2)) :: drp ds σ) h)
    (hj : ops[j]? = some oj := by rfl) (hdj : oj.dst = some dj := by rfl) (hbj : rg σ dj = some (vbool b) := by rfl) (hc : og σ c = some (vbool b) := by rfl)
    (hsk : skipping ops j false [] [o1, o2, o3, o4, o5] = some ds := by rfl) (hcd : ∀ t, c = .tmp t → ds.any (Nat.beq t) = false := by intro t ht; cases ht; rfl)
    (hnd : [o1, o2, o3, o4, o5].all (fun o => match o.dst with | some e => !(Nat.beq e dj) | none => true) = true := by rfl)
    (hal : [o1, o2, o3, o4, o5].all (fun o => match o.dst with | some e => ds.any (Nat.beq e) | none => true) = true := by rfl)
    (hd : Nat.ble (d + 1) fz = true := by rfl) (hg : Gk ops σ g := by first | exact gk0 | exact gk1 rfl rfl rfl (by assumption)) (hdd : ∀ dj', (match g with | some (i, _) => (ops[i]?).bind (·.dst) | none => none) = some dj' → ds.any (Nat.beq dj') = false := by first | nofun | (intro _ h; cases h; rfl)) :
    EvL P fz B K ops (o1 :: o2 :: o3 :: o4 :: o5 :: ⟨some d, .pick c (.const (.bool true)) (.tmp e2), ty, pos, af, g⟩ :: rest) σ h :=
  short (rest := o1 :: o2 :: o3 :: o4 :: o5 :: ⟨some d, .pick c (.const (.bool true)) (.tmp e2), ty, pos, af, g⟩ :: rest) j false 5 k.choose_spec.1 k.choose_spec.2 rfl hj hdj hbj hc hsk hcd rfl rfl hnd hal hd hg hdd
theorem an6 {o1 o2 o3 o4 o5 o6 : Oper} {e2 dj : Nat} {b : Bool} {oj : Oper} {c : Operand} {ds : List Nat} (j : Nat)
    (k : ∃ b2, (b = true → ∀ B, EvL P fz B (Kan e2 b2 h) ops [o1, o2, o3, o4, o5, o6] σ h) ∧ EvL P fz B K ops rest ((d, vbool (b && b2)) :: drp ds σ) h)
    (hj : ops[j]? = some oj := by rfl) (hdj : oj.dst = some dj := by rfl) (hbj : rg σ dj = some (vbool b) := by rfl) (hc : og σ c = some (vbool b) := by rfl)
    (hsk : skipping ops j true [] [o1, o2, o3, o4, o5, o6] = some ds := by rfl) (hcd : ∀ t, c = .tmp t → ds.any (Nat.beq t) = false := by intro t ht; cases ht; rfl)
    (hnd : [o1, o2, o3, o4, o5, o6].all (fun o => match o.dst with | some e => !(Nat.beq e dj) | none => true) = true := by rfl)
    (hal : [o1, o2, o3, o4, o5, o6].all (fun o => match o.dst with | some e => ds.any (Nat.beq e) | none => true) = true := by rfl)
    (hd : Nat.ble (d + 1) fz = true := by rfl) (hg : Gk ops σ g := by first | exact gk0 | exact gk1 rfl rfl rfl (by assumption)) (hdd : ∀ dj', (match g with | some (i, _) => (ops[i]?).bind (·.dst) | none => none) = some dj' → ds.any (Nat.beq dj') = false := by first | nofun | (intro _ h; cases h; rfl)) :
    EvL P fz B K ops (o1 :: o2 :: o3 :: o4 :: o5 :: o6 :: ⟨some d, .pick c (.tmp e2) (.const (.bool false)), ty, pos, af, g⟩ :: rest) σ h :=
  short (rest := o1 :: o2 :: o3 :: o4 :: o5 :: o6 :: ⟨some d, .pick c (.tmp e2) (.const (.bool false)), ty, pos, af, g⟩ :: rest) j true 6 k.choose_spec.1 k.choose_spec.2 rfl hj hdj hbj hc hsk hcd rfl rfl hnd hal hd hg hdd
theorem orr6 {o1 o2 o3 o4 o5 o6 : Oper} {e2 dj : Nat} {b : Bool} {oj : Oper} {c : Operand} {ds : List Nat} (j : Nat)
    (k : ∃ b2, (b = false → ∀ B, EvL P fz B (Kan e2 b2 h) ops [o1, o2, o3, o4, o5, o6] σ h) ∧ EvL P fz B K ops rest ((d, vbool (b || b2)) :: drp ds σ) h)
    (hj : ops[j]? = some oj := by rfl) (hdj : oj.dst = some dj := by rfl) (hbj : rg σ dj = some (vbool b) := by rfl) (hc : og σ c = some (vbool b) := by rfl)
    (hsk : skipping ops j false [] [o1, o2, o3, o4, o5, o6] = some ds := by rfl) (hcd : ∀ t, c = .tmp t → ds.any (Nat.beq t) = false := by intro t ht; cases ht; rfl)
    (hnd : [o1, o2, o3, o4, o5, o6].all (fun o => match o.dst with | some e => !(Nat.beq e dj) | none => true) = true := by rfl)
    (hal : [o1, o2, o3, o4, o5, o6].all (fun o => match o.dst with | some e => ds.any (Nat.beq e) | none => true) = true := by rfl)
    (hd : Nat.ble (d + 1) fz = true := by rfl) (hg : Gk ops σ g := by first | exact gk0 | exact gk1 rfl rfl rfl (by assumption)) (hdd : ∀ dj', (match g with | some (i, _) => (ops[i]?).bind (·.dst) | none => none) = some dj' → ds.any (Nat.beq dj') = false := by first | nofun | (intro _ h; cases h; rfl)) :
    EvL P fz B K ops (o1 :: o2 :: o3 :: o4 :: o5 :: o6 :: ⟨some d, .pick c (.const (.bool true)) (.tmp e2), ty, pos, af, g⟩ :: rest) σ h :=
  short (rest := o1 :: o2 :: o3 :: o4 :: o5 :: o6 :: ⟨some d, .pick c (.const (.bool true)) (.tmp e2), ty, pos, af, g⟩ :: rest) j false 6 k.choose_spec.1 k.choose_spec.2 rfl hj hdj hbj hc hsk hcd rfl rfl hnd hal hd hg hdd
theorem an7 {o1 o2 o3 o4 o5 o6 o7 : Oper} {e2 dj : Nat} {b : Bool} {oj : Oper} {c : Operand} {ds : List Nat} (j : Nat)
    (k : ∃ b2, (b = true → ∀ B, EvL P fz B (Kan e2 b2 h) ops [o1, o2, o3, o4, o5, o6, o7] σ h) ∧ EvL P fz B K ops rest ((d, vbool (b && b2)) :: drp ds σ) h)
    (hj : ops[j]? = some oj := by rfl) (hdj : oj.dst = some dj := by rfl) (hbj : rg σ dj = some (vbool b) := by rfl) (hc : og σ c = some (vbool b) := by rfl)
    (hsk : skipping ops j true [] [o1, o2, o3, o4, o5, o6, o7] = some ds := by rfl) (hcd : ∀ t, c = .tmp t → ds.any (Nat.beq t) = false := by intro t ht; cases ht; rfl)
    (hnd : [o1, o2, o3, o4, o5, o6, o7].all (fun o => match o.dst with | some e => !(Nat.beq e dj) | none => true) = true := by rfl)
    (hal : [o1, o2, o3, o4, o5, o6, o7].all (fun o => match o.dst with | some e => ds.any (Nat.beq e) | none => true) = true := by rfl)
    (hd : Nat.ble (d + 1) fz = true := by rfl) (hg : Gk ops σ g := by first | exact gk0 | exact gk1 rfl rfl rfl (by assumption)) (hdd : ∀ dj', (match g with | some (i, _) => (ops[i]?).bind (·.dst) | none => none) = some dj' → ds.any (Nat.beq dj') = false := by first | nofun | (intro _ h; cases h; rfl)) :
    EvL P fz B K ops (o1 :: o2 :: o3 :: o4 :: o5 :: o6 :: o7 :: ⟨some d, .pick c (.tmp e2) (.const (.bool false)), ty, pos, af, g⟩ :: rest) σ h :=
  short (rest := o1 :: o2 :: o3 :: o4 :: o5 :: o6 :: o7 :: ⟨some d, .pick c (.tmp e2) (.const (.bool false)), ty, pos, af, g⟩ :: rest) j true 7 k.choose_spec.1 k.choose_spec.2 rfl hj hdj hbj hc hsk hcd rfl rfl hnd hal hd hg hdd
theorem orr7 {o1 o2 o3 o4 o5 o6 o7 : Oper} {e2 dj : Nat} {b : Bool} {oj : Oper} {c : Operand} {ds : List Nat} (j : Nat)
    (k : ∃ b2, (b = false → ∀ B, EvL P fz B (Kan e2 b2 h) ops [o1, o2, o3, o4, o5, o6, o7] σ h) ∧ EvL P fz B K ops rest ((d, vbool (b || b2)) :: drp ds σ) h)
    (hj : ops[j]? = some oj := by rfl) (hdj : oj.dst = some dj := by rfl) (hbj : rg σ dj = some (vbool b) := by rfl) (hc : og σ c = some (vbool b) := by rfl)
    (hsk : skipping ops j false [] [o1, o2, o3, o4, o5, o6, o7] = some ds := by rfl) (hcd : ∀ t, c = .tmp t → ds.any (Nat.beq t) = false := by intro t ht; cases ht; rfl)
    (hnd : [o1, o2, o3, o4, o5, o6, o7].all (fun o => match o.dst with | some e => !(Nat.beq e dj) | none => true) = true := by rfl)
    (hal : [o1, o2, o3, o4, o5, o6, o7].all (fun o => match o.dst with | some e => ds.any (Nat.beq e) | none => true) = true := by rfl)
    (hd : Nat.ble (d + 1) fz = true := by rfl) (hg : Gk ops σ g := by first | exact gk0 | exact gk1 rfl rfl rfl (by assumption)) (hdd : ∀ dj', (match g with | some (i, _) => (ops[i]?).bind (·.dst) | none => none) = some dj' → ds.any (Nat.beq dj') = false := by first | nofun | (intro _ h; cases h; rfl)) :
    EvL P fz B K ops (o1 :: o2 :: o3 :: o4 :: o5 :: o6 :: o7 :: ⟨some d, .pick c (.const (.bool true)) (.tmp e2), ty, pos, af, g⟩ :: rest) σ h :=
  short (rest := o1 :: o2 :: o3 :: o4 :: o5 :: o6 :: o7 :: ⟨some d, .pick c (.const (.bool true)) (.tmp e2), ty, pos, af, g⟩ :: rest) j false 7 k.choose_spec.1 k.choose_spec.2 rfl hj hdj hbj hc hsk hcd rfl rfl hnd hal hd hg hdd
theorem an8 {o1 o2 o3 o4 o5 o6 o7 o8 : Oper} {e2 dj : Nat} {b : Bool} {oj : Oper} {c : Operand} {ds : List Nat} (j : Nat)
    (k : ∃ b2, (b = true → ∀ B, EvL P fz B (Kan e2 b2 h) ops [o1, o2, o3, o4, o5, o6, o7, o8] σ h) ∧ EvL P fz B K ops rest ((d, vbool (b && b2)) :: drp ds σ) h)
    (hj : ops[j]? = some oj := by rfl) (hdj : oj.dst = some dj := by rfl) (hbj : rg σ dj = some (vbool b) := by rfl) (hc : og σ c = some (vbool b) := by rfl)
    (hsk : skipping ops j true [] [o1, o2, o3, o4, o5, o6, o7, o8] = some ds := by rfl) (hcd : ∀ t, c = .tmp t → ds.any (Nat.beq t) = false := by intro t ht; cases ht; rfl)
    (hnd : [o1, o2, o3, o4, o5, o6, o7, o8].all (fun o => match o.dst with | some e => !(Nat.beq e dj) | none => true) = true := by rfl)
    (hal : [o1, o2, o3, o4, o5, o6, o7, o8].all (fun o => match o.dst with | some e => ds.any (Nat.beq e) | none => true) = true := by rfl)
    (hd : Nat.ble (d + 1) fz = true := by rfl) (hg : Gk ops σ g := by first | exact gk0 | exact gk1 rfl rfl rfl (by assumption)) (hdd : ∀ dj', (match g with | some (i, _) => (ops[i]?).bind (·.dst) | none => none) = some dj' → ds.any (Nat.beq dj') = false := by first | nofun | (intro _ h; cases h; rfl)) :
    EvL P fz B K ops (o1 :: o2 :: o3 :: o4 :: o5 :: o6 :: o7 :: o8 :: ⟨some d, .pick c (.tmp e2) (.const (.bool false)), ty, pos, af, g⟩ :: rest) σ h :=
  short (rest := o1 :: o2 :: o3 :: o4 :: o5 :: o6 :: o7 :: o8 :: ⟨some d, .pick c (.tmp e2) (.const (.bool false)), ty, pos, af, g⟩ :: rest) j true 8 k.choose_spec.1 k.choose_spec.2 rfl hj hdj hbj hc hsk hcd rfl rfl hnd hal hd hg hdd
theorem orr8 {o1 o2 o3 o4 o5 o6 o7 o8 : Oper} {e2 dj : Nat} {b : Bool} {oj : Oper} {c : Operand} {ds : List Nat} (j : Nat)
    (k : ∃ b2, (b = false → ∀ B, EvL P fz B (Kan e2 b2 h) ops [o1, o2, o3, o4, o5, o6, o7, o8] σ h) ∧ EvL P fz B K ops rest ((d, vbool (b || b2)) :: drp ds σ) h)
    (hj : ops[j]? = some oj := by rfl) (hdj : oj.dst = some dj := by rfl) (hbj : rg σ dj = some (vbool b) := by rfl) (hc : og σ c = some (vbool b) := by rfl)
    (hsk : skipping ops j false [] [o1, o2, o3, o4, o5, o6, o7, o8] = some ds := by rfl) (hcd : ∀ t, c = .tmp t → ds.any (Nat.beq t) = false := by intro t ht; cases ht; rfl)
    (hnd : [o1, o2, o3, o4, o5, o6, o7, o8].all (fun o => match o.dst with | some e => !(Nat.beq e dj) | none => true) = true := by rfl)
    (hal : [o1, o2, o3, o4, o5, o6, o7, o8].all (fun o => match o.dst with | some e => ds.any (Nat.beq e) | none => true) = true := by rfl)
    (hd : Nat.ble (d + 1) fz = true := by rfl) (hg : Gk ops σ g := by first | exact gk0 | exact gk1 rfl rfl rfl (by assumption)) (hdd : ∀ dj', (match g with | some (i, _) => (ops[i]?).bind (·.dst) | none => none) = some dj' → ds.any (Nat.beq dj') = false := by first | nofun | (intro _ h; cases h; rfl)) :
    EvL P fz B K ops (o1 :: o2 :: o3 :: o4 :: o5 :: o6 :: o7 :: o8 :: ⟨some d, .pick c (.const (.bool true)) (.tmp e2), ty, pos, af, g⟩ :: rest) σ h :=
  short (rest := o1 :: o2 :: o3 :: o4 :: o5 :: o6 :: o7 :: o8 :: ⟨some d, .pick c (.const (.bool true)) (.tmp e2), ty, pos, af, g⟩ :: rest) j false 8 k.choose_spec.1 k.choose_spec.2 rfl hj hdj hbj hc hsk hcd rfl rfl hnd hal hd hg hdd
theorem an9 {o1 o2 o3 o4 o5 o6 o7 o8 o9 : Oper} {e2 dj : Nat} {b : Bool} {oj : Oper} {c : Operand} {ds : List Nat} (j : Nat)
    (k : ∃ b2, (b = true → ∀ B, EvL P fz B (Kan e2 b2 h) ops [o1, o2, o3, o4, o5, o6, o7, o8, o9] σ h) ∧ EvL P fz B K ops rest ((d, vbool (b && b2)) :: drp ds σ) h)
    (hj : ops[j]? = some oj := by rfl) (hdj : oj.dst = some dj := by rfl) (hbj : rg σ dj = some (vbool b) := by rfl) (hc : og σ c = some (vbool b) := by rfl)
    (hsk : skipping ops j true [] [o1, o2, o3, o4, o5, o6, o7, o8, o9] = some ds := by rfl) (hcd : ∀ t, c = .tmp t → ds.any (Nat.beq t) = false := by intro t ht; cases ht; rfl)
    (hnd : [o1, o2, o3, o4, o5, o6, o7, o8, o9].all (fun o => match o.dst with | some e => !(Nat.beq e dj) | none => true) = true := by rfl)
    (hal : [o1, o2, o3, o4, o5, o6, o7, o8, o9].all (fun o => match o.dst with | some e => ds.any (Nat.beq e) | none => true) = true := by rfl)
    (hd : Nat.ble (d + 1) fz = true := by rfl) (hg : Gk ops σ g := by first | exact gk0 | exact gk1 rfl rfl rfl (by assumption)) (hdd : ∀ dj', (match g with | some (i, _) => (ops[i]?).bind (·.dst) | none => none) = some dj' → ds.any (Nat.beq dj') = false := by first | nofun | (intro _ h; cases h; rfl)) :
    EvL P fz B K ops (o1 :: o2 :: o3 :: o4 :: o5 :: o6 :: o7 :: o8 :: o9 :: ⟨some d, .pick c (.tmp e2) (.const (.bool false)), ty, pos, af, g⟩ :: rest) σ h :=
  short (rest := o1 :: o2 :: o3 :: o4 :: o5 :: o6 :: o7 :: o8 :: o9 :: ⟨some d, .pick c (.tmp e2) (.const (.bool false)), ty, pos, af, g⟩ :: rest) j true 9 k.choose_spec.1 k.choose_spec.2 rfl hj hdj hbj hc hsk hcd rfl rfl hnd hal hd hg hdd
theorem orr9 {o1 o2 o3 o4 o5 o6 o7 o8 o9 : Oper} {e2 dj : Nat} {b : Bool} {oj : Oper} {c : Operand} {ds : List Nat} (j : Nat)
    (k : ∃ b2, (b = false → ∀ B, EvL P fz B (Kan e2 b2 h) ops [o1, o2, o3, o4, o5, o6, o7, o8, o9] σ h) ∧ EvL P fz B K ops rest ((d, vbool (b || b2)) :: drp ds σ) h)
    (hj : ops[j]? = some oj := by rfl) (hdj : oj.dst = some dj := by rfl) (hbj : rg σ dj = some (vbool b) := by rfl) (hc : og σ c = some (vbool b) := by rfl)
    (hsk : skipping ops j false [] [o1, o2, o3, o4, o5, o6, o7, o8, o9] = some ds := by rfl) (hcd : ∀ t, c = .tmp t → ds.any (Nat.beq t) = false := by intro t ht; cases ht; rfl)
    (hnd : [o1, o2, o3, o4, o5, o6, o7, o8, o9].all (fun o => match o.dst with | some e => !(Nat.beq e dj) | none => true) = true := by rfl)
    (hal : [o1, o2, o3, o4, o5, o6, o7, o8, o9].all (fun o => match o.dst with | some e => ds.any (Nat.beq e) | none => true) = true := by rfl)
    (hd : Nat.ble (d + 1) fz = true := by rfl) (hg : Gk ops σ g := by first | exact gk0 | exact gk1 rfl rfl rfl (by assumption)) (hdd : ∀ dj', (match g with | some (i, _) => (ops[i]?).bind (·.dst) | none => none) = some dj' → ds.any (Nat.beq dj') = false := by first | nofun | (intro _ h; cases h; rfl)) :
    EvL P fz B K ops (o1 :: o2 :: o3 :: o4 :: o5 :: o6 :: o7 :: o8 :: o9 :: ⟨some d, .pick c (.const (.bool true)) (.tmp e2), ty, pos, af, g⟩ :: rest) σ h :=
  short (rest := o1 :: o2 :: o3 :: o4 :: o5 :: o6 :: o7 :: o8 :: o9 :: ⟨some d, .pick c (.const (.bool true)) (.tmp e2), ty, pos, af, g⟩ :: rest) j false 9 k.choose_spec.1 k.choose_spec.2 rfl hj hdj hbj hc hsk hcd rfl rfl hnd hal hd hg hdd
theorem an10 {o1 o2 o3 o4 o5 o6 o7 o8 o9 o10 : Oper} {e2 dj : Nat} {b : Bool} {oj : Oper} {c : Operand} {ds : List Nat} (j : Nat)
    (k : ∃ b2, (b = true → ∀ B, EvL P fz B (Kan e2 b2 h) ops [o1, o2, o3, o4, o5, o6, o7, o8, o9, o10] σ h) ∧ EvL P fz B K ops rest ((d, vbool (b && b2)) :: drp ds σ) h)
    (hj : ops[j]? = some oj := by rfl) (hdj : oj.dst = some dj := by rfl) (hbj : rg σ dj = some (vbool b) := by rfl) (hc : og σ c = some (vbool b) := by rfl)
    (hsk : skipping ops j true [] [o1, o2, o3, o4, o5, o6, o7, o8, o9, o10] = some ds := by rfl) (hcd : ∀ t, c = .tmp t → ds.any (Nat.beq t) = false := by intro t ht; cases ht; rfl)
    (hnd : [o1, o2, o3, o4, o5, o6, o7, o8, o9, o10].all (fun o => match o.dst with | some e => !(Nat.beq e dj) | none => true) = true := by rfl)
    (hal : [o1, o2, o3, o4, o5, o6, o7, o8, o9, o10].all (fun o => match o.dst with | some e => ds.any (Nat.beq e) | none => true) = true := by rfl)
    (hd : Nat.ble (d + 1) fz = true := by rfl) (hg : Gk ops σ g := by first | exact gk0 | exact gk1 rfl rfl rfl (by assumption)) (hdd : ∀ dj', (match g with | some (i, _) => (ops[i]?).bind (·.dst) | none => none) = some dj' → ds.any (Nat.beq dj') = false := by first | nofun | (intro _ h; cases h; rfl)) :
    EvL P fz B K ops (o1 :: o2 :: o3 :: o4 :: o5 :: o6 :: o7 :: o8 :: o9 :: o10 :: ⟨some d, .pick c (.tmp e2) (.const (.bool false)), ty, pos, af, g⟩ :: rest) σ h :=
  short (rest := o1 :: o2 :: o3 :: o4 :: o5 :: o6 :: o7 :: o8 :: o9 :: o10 :: ⟨some d, .pick c (.tmp e2) (.const (.bool false)), ty, pos, af, g⟩ :: rest) j true 10 k.choose_spec.1 k.choose_spec.2 rfl hj hdj hbj hc hsk hcd rfl rfl hnd hal hd hg hdd
theorem orr10 {o1 o2 o3 o4 o5 o6 o7 o8 o9 o10 : Oper} {e2 dj : Nat} {b : Bool} {oj : Oper} {c : Operand} {ds : List Nat} (j : Nat)
    (k : ∃ b2, (b = false → ∀ B, EvL P fz B (Kan e2 b2 h) ops [o1, o2, o3, o4, o5, o6, o7, o8, o9, o10] σ h) ∧ EvL P fz B K ops rest ((d, vbool (b || b2)) :: drp ds σ) h)
    (hj : ops[j]? = some oj := by rfl) (hdj : oj.dst = some dj := by rfl) (hbj : rg σ dj = some (vbool b) := by rfl) (hc : og σ c = some (vbool b) := by rfl)
    (hsk : skipping ops j false [] [o1, o2, o3, o4, o5, o6, o7, o8, o9, o10] = some ds := by rfl) (hcd : ∀ t, c = .tmp t → ds.any (Nat.beq t) = false := by intro t ht; cases ht; rfl)
    (hnd : [o1, o2, o3, o4, o5, o6, o7, o8, o9, o10].all (fun o => match o.dst with | some e => !(Nat.beq e dj) | none => true) = true := by rfl)
    (hal : [o1, o2, o3, o4, o5, o6, o7, o8, o9, o10].all (fun o => match o.dst with | some e => ds.any (Nat.beq e) | none => true) = true := by rfl)
    (hd : Nat.ble (d + 1) fz = true := by rfl) (hg : Gk ops σ g := by first | exact gk0 | exact gk1 rfl rfl rfl (by assumption)) (hdd : ∀ dj', (match g with | some (i, _) => (ops[i]?).bind (·.dst) | none => none) = some dj' → ds.any (Nat.beq dj') = false := by first | nofun | (intro _ h; cases h; rfl)) :
    EvL P fz B K ops (o1 :: o2 :: o3 :: o4 :: o5 :: o6 :: o7 :: o8 :: o9 :: o10 :: ⟨some d, .pick c (.const (.bool true)) (.tmp e2), ty, pos, af, g⟩ :: rest) σ h :=
  short (rest := o1 :: o2 :: o3 :: o4 :: o5 :: o6 :: o7 :: o8 :: o9 :: o10 :: ⟨some d, .pick c (.const (.bool true)) (.tmp e2), ty, pos, af, g⟩ :: rest) j false 10 k.choose_spec.1 k.choose_spec.2 rfl hj hdj hbj hc hsk hcd rfl rfl hnd hal hd hg hdd
theorem an11 {o1 o2 o3 o4 o5 o6 o7 o8 o9 o10 o11 : Oper} {e2 dj : Nat} {b : Bool} {oj : Oper} {c : Operand} {ds : List Nat} (j : Nat)
    (k : ∃ b2, (b = true → ∀ B, EvL P fz B (Kan e2 b2 h) ops [o1, o2, o3, o4, o5, o6, o7, o8, o9, o10, o11] σ h) ∧ EvL P fz B K ops rest ((d, vbool (b && b2)) :: drp ds σ) h)
    (hj : ops[j]? = some oj := by rfl) (hdj : oj.dst = some dj := by rfl) (hbj : rg σ dj = some (vbool b) := by rfl) (hc : og σ c = some (vbool b) := by rfl)
    (hsk : skipping ops j true [] [o1, o2, o3, o4, o5, o6, o7, o8, o9, o10, o11] = some ds := by rfl) (hcd : ∀ t, c = .tmp t → ds.any (Nat.beq t) = false := by intro t ht; cases ht; rfl)
    (hnd : [o1, o2, o3, o4, o5, o6, o7, o8, o9, o10, o11].all (fun o => match o.dst with | some e => !(Nat.beq e dj) | none => true) = true := by rfl)
    (hal : [o1, o2, o3, o4, o5, o6, o7, o8, o9, o10, o11].all (fun o => match o.dst with | some e => ds.any (Nat.beq e) | none => true) = true := by rfl)
    (hd : Nat.ble (d + 1) fz = true := by rfl) (hg : Gk ops σ g := by first | exact gk0 | exact gk1 rfl rfl rfl (by assumption)) (hdd : ∀ dj', (match g with | some (i, _) => (ops[i]?).bind (·.dst) | none => none) = some dj' → ds.any (Nat.beq dj') = false := by first | nofun | (intro _ h; cases h; rfl)) :
    EvL P fz B K ops (o1 :: o2 :: o3 :: o4 :: o5 :: o6 :: o7 :: o8 :: o9 :: o10 :: o11 :: ⟨some d, .pick c (.tmp e2) (.const (.bool false)), ty, pos, af, g⟩ :: rest) σ h :=
  short (rest := o1 :: o2 :: o3 :: o4 :: o5 :: o6 :: o7 :: o8 :: o9 :: o10 :: o11 :: ⟨some d, .pick c (.tmp e2) (.const (.bool false)), ty, pos, af, g⟩ :: rest) j true 11 k.choose_spec.1 k.choose_spec.2 rfl hj hdj hbj hc hsk hcd rfl rfl hnd hal hd hg hdd
theorem orr11 {o1 o2 o3 o4 o5 o6 o7 o8 o9 o10 o11 : Oper} {e2 dj : Nat} {b : Bool} {oj : Oper} {c : Operand} {ds : List Nat} (j : Nat)
    (k : ∃ b2, (b = false → ∀ B, EvL P fz B (Kan e2 b2 h) ops [o1, o2, o3, o4, o5, o6, o7, o8, o9, o10, o11] σ h) ∧ EvL P fz B K ops rest ((d, vbool (b || b2)) :: drp ds σ) h)
    (hj : ops[j]? = some oj := by rfl) (hdj : oj.dst = some dj := by rfl) (hbj : rg σ dj = some (vbool b) := by rfl) (hc : og σ c = some (vbool b) := by rfl)
    (hsk : skipping ops j false [] [o1, o2, o3, o4, o5, o6, o7, o8, o9, o10, o11] = some ds := by rfl) (hcd : ∀ t, c = .tmp t → ds.any (Nat.beq t) = false := by intro t ht; cases ht; rfl)
    (hnd : [o1, o2, o3, o4, o5, o6, o7, o8, o9, o10, o11].all (fun o => match o.dst with | some e => !(Nat.beq e dj) | none => true) = true := by rfl)
    (hal : [o1, o2, o3, o4, o5, o6, o7, o8, o9, o10, o11].all (fun o => match o.dst with | some e => ds.any (Nat.beq e) | none => true) = true := by rfl)
    (hd : Nat.ble (d + 1) fz = true := by rfl) (hg : Gk ops σ g := by first | exact gk0 | exact gk1 rfl rfl rfl (by assumption)) (hdd : ∀ dj', (match g with | some (i, _) => (ops[i]?).bind (·.dst) | none => none) = some dj' → ds.any (Nat.beq dj') = false := by first | nofun | (intro _ h; cases h; rfl)) :
    EvL P fz B K ops (o1 :: o2 :: o3 :: o4 :: o5 :: o6 :: o7 :: o8 :: o9 :: o10 :: o11 :: ⟨some d, .pick c (.const (.bool true)) (.tmp e2), ty, pos, af, g⟩ :: rest) σ h :=
  short (rest := o1 :: o2 :: o3 :: o4 :: o5 :: o6 :: o7 :: o8 :: o9 :: o10 :: o11 :: ⟨some d, .pick c (.const (.bool true)) (.tmp e2), ty, pos, af, g⟩ :: rest) j false 11 k.choose_spec.1 k.choose_spec.2 rfl hj hdj hbj hc hsk hcd rfl rfl hnd hal hd hg hdd
theorem an12 {o1 o2 o3 o4 o5 o6 o7 o8 o9 o10 o11 o12 : Oper} {e2 dj : Nat} {b : Bool} {oj : Oper} {c : Operand} {ds : List Nat} (j : Nat)
    (k : ∃ b2, (b = true → ∀ B, EvL P fz B (Kan e2 b2 h) ops [o1, o2, o3, o4, o5, o6, o7, o8, o9, o10, o11, o12] σ h) ∧ EvL P fz B K ops rest ((d, vbool (b && b2)) :: drp ds σ) h)
    (hj : ops[j]? = some oj := by rfl) (hdj : oj.dst = some dj := by rfl) (hbj : rg σ dj = some (vbool b) := by rfl) (hc : og σ c = some (vbool b) := by rfl)
    (hsk : skipping ops j true [] [o1, o2, o3, o4, o5, o6, o7, o8, o9, o10, o11, o12] = some ds := by rfl) (hcd : ∀ t, c = .tmp t → ds.any (Nat.beq t) = false := by intro t ht; cases ht; rfl)
    (hnd : [o1, o2, o3, o4, o5, o6, o7, o8, o9, o10, o11, o12].all (fun o => match o.dst with | some e => !(Nat.beq e dj) | none => true) = true := by rfl)
    (hal : [o1, o2, o3, o4, o5, o6, o7, o8, o9, o10, o11, o12].all (fun o => match o.dst with | some e => ds.any (Nat.beq e) | none => true) = true := by rfl)
    (hd : Nat.ble (d + 1) fz = true := by rfl) (hg : Gk ops σ g := by first | exact gk0 | exact gk1 rfl rfl rfl (by assumption)) (hdd : ∀ dj', (match g with | some (i, _) => (ops[i]?).bind (·.dst) | none => none) = some dj' → ds.any (Nat.beq dj') = false := by first | nofun | (intro _ h; cases h; rfl)) :
    EvL P fz B K ops (o1 :: o2 :: o3 :: o4 :: o5 :: o6 :: o7 :: o8 :: o9 :: o10 :: o11 :: o12 :: ⟨some d, .pick c (.tmp e2) (.const (.bool false)), ty, pos, af, g⟩ :: rest) σ h :=
  short (rest := o1 :: o2 :: o3 :: o4 :: o5 :: o6 :: o7 :: o8 :: o9 :: o10 :: o11 :: o12 :: ⟨some d, .pick c (.tmp e2) (.const (.bool false)), ty, pos, af, g⟩ :: rest) j true 12 k.choose_spec.1 k.choose_spec.2 rfl hj hdj hbj hc hsk hcd rfl rfl hnd hal hd hg hdd
theorem orr12 {o1 o2 o3 o4 o5 o6 o7 o8 o9 o10 o11 o12 : Oper} {e2 dj : Nat} {b : Bool} {oj : Oper} {c : Operand} {ds : List Nat} (j : Nat)
    (k : ∃ b2, (b = false → ∀ B, EvL P fz B (Kan e2 b2 h) ops [o1, o2, o3, o4, o5, o6, o7, o8, o9, o10, o11, o12] σ h) ∧ EvL P fz B K ops rest ((d, vbool (b || b2)) :: drp ds σ) h)
    (hj : ops[j]? = some oj := by rfl) (hdj : oj.dst = some dj := by rfl) (hbj : rg σ dj = some (vbool b) := by rfl) (hc : og σ c = some (vbool b) := by rfl)
    (hsk : skipping ops j false [] [o1, o2, o3, o4, o5, o6, o7, o8, o9, o10, o11, o12] = some ds := by rfl) (hcd : ∀ t, c = .tmp t → ds.any (Nat.beq t) = false := by intro t ht; cases ht; rfl)
    (hnd : [o1, o2, o3, o4, o5, o6, o7, o8, o9, o10, o11, o12].all (fun o => match o.dst with | some e => !(Nat.beq e dj) | none => true) = true := by rfl)
    (hal : [o1, o2, o3, o4, o5, o6, o7, o8, o9, o10, o11, o12].all (fun o => match o.dst with | some e => ds.any (Nat.beq e) | none => true) = true := by rfl)
    (hd : Nat.ble (d + 1) fz = true := by rfl) (hg : Gk ops σ g := by first | exact gk0 | exact gk1 rfl rfl rfl (by assumption)) (hdd : ∀ dj', (match g with | some (i, _) => (ops[i]?).bind (·.dst) | none => none) = some dj' → ds.any (Nat.beq dj') = false := by first | nofun | (intro _ h; cases h; rfl)) :
    EvL P fz B K ops (o1 :: o2 :: o3 :: o4 :: o5 :: o6 :: o7 :: o8 :: o9 :: o10 :: o11 :: o12 :: ⟨some d, .pick c (.const (.bool true)) (.tmp e2), ty, pos, af, g⟩ :: rest) σ h :=
  short (rest := o1 :: o2 :: o3 :: o4 :: o5 :: o6 :: o7 :: o8 :: o9 :: o10 :: o11 :: o12 :: ⟨some d, .pick c (.const (.bool true)) (.tmp e2), ty, pos, af, g⟩ :: rest) j false 12 k.choose_spec.1 k.choose_spec.2 rfl hj hdj hbj hc hsk hcd rfl rfl hnd hal hd hg hdd
theorem an13 {o1 o2 o3 o4 o5 o6 o7 o8 o9 o10 o11 o12 o13 : Oper} {e2 dj : Nat} {b : Bool} {oj : Oper} {c : Operand} {ds : List Nat} (j : Nat)
    (k : ∃ b2, (b = true → ∀ B, EvL P fz B (Kan e2 b2 h) ops [o1, o2, o3, o4, o5, o6, o7, o8, o9, o10, o11, o12, o13] σ h) ∧ EvL P fz B K ops rest ((d, vbool (b && b2)) :: drp ds σ) h)
    (hj : ops[j]? = some oj := by rfl) (hdj : oj.dst = some dj := by rfl) (hbj : rg σ dj = some (vbool b) := by rfl) (hc : og σ c = some (vbool b) := by rfl)
    (hsk : skipping ops j true [] [o1, o2, o3, o4, o5, o6, o7, o8, o9, o10, o11, o12, o13] = some ds := by rfl) (hcd : ∀ t, c = .tmp t → ds.any (Nat.beq t) = false := by intro t ht; cases ht; rfl)
    (hnd : [o1, o2, o3, o4, o5, o6, o7, o8, o9, o10, o11, o12, o13].all (fun o => match o.dst with | some e => !(Nat.beq e dj) | none => true) = true := by rfl)
    (hal : [o1, o2, o3, o4, o5, o6, o7, o8, o9, o10, o11, o12, o13].all (fun o => match o.dst with | some e => ds.any (Nat.beq e) | none => true) = true := by rfl)
    (hd : Nat.ble (d + 1) fz = true := by rfl) (hg : Gk ops σ g := by first | exact gk0 | exact gk1 rfl rfl rfl (by assumption)) (hdd : ∀ dj', (match g with | some (i, _) => (ops[i]?).bind (·.dst) | none => none) = some dj' → ds.any (Nat.beq dj') = false := by first | nofun | (intro _ h; cases h; rfl)) :
    EvL P fz B K ops (o1 :: o2 :: o3 :: o4 :: o5 :: o6 :: o7 :: o8 :: o9 :: o10 :: o11 :: o12 :: o13 :: ⟨some d, .pick c (.tmp e2) (.const (.bool false)), ty, pos, af, g⟩ :: rest) σ h :=
  short (rest := o1 :: o2 :: o3 :: o4 :: o5 :: o6 :: o7 :: o8 :: o9 :: o10 :: o11 :: o12 :: o13 :: ⟨some d, .pick c (.tmp e2) (.const (.bool false)), ty, pos, af, g⟩ :: rest) j true 13 k.choose_spec.1 k.choose_spec.2 rfl hj hdj hbj hc hsk hcd rfl rfl hnd hal hd hg hdd
theorem orr13 {o1 o2 o3 o4 o5 o6 o7 o8 o9 o10 o11 o12 o13 : Oper} {e2 dj : Nat} {b : Bool} {oj : Oper} {c : Operand} {ds : List Nat} (j : Nat)
    (k : ∃ b2, (b = false → ∀ B, EvL P fz B (Kan e2 b2 h) ops [o1, o2, o3, o4, o5, o6, o7, o8, o9, o10, o11, o12, o13] σ h) ∧ EvL P fz B K ops rest ((d, vbool (b || b2)) :: drp ds σ) h)
    (hj : ops[j]? = some oj := by rfl) (hdj : oj.dst = some dj := by rfl) (hbj : rg σ dj = some (vbool b) := by rfl) (hc : og σ c = some (vbool b) := by rfl)
    (hsk : skipping ops j false [] [o1, o2, o3, o4, o5, o6, o7, o8, o9, o10, o11, o12, o13] = some ds := by rfl) (hcd : ∀ t, c = .tmp t → ds.any (Nat.beq t) = false := by intro t ht; cases ht; rfl)
    (hnd : [o1, o2, o3, o4, o5, o6, o7, o8, o9, o10, o11, o12, o13].all (fun o => match o.dst with | some e => !(Nat.beq e dj) | none => true) = true := by rfl)
    (hal : [o1, o2, o3, o4, o5, o6, o7, o8, o9, o10, o11, o12, o13].all (fun o => match o.dst with | some e => ds.any (Nat.beq e) | none => true) = true := by rfl)
    (hd : Nat.ble (d + 1) fz = true := by rfl) (hg : Gk ops σ g := by first | exact gk0 | exact gk1 rfl rfl rfl (by assumption)) (hdd : ∀ dj', (match g with | some (i, _) => (ops[i]?).bind (·.dst) | none => none) = some dj' → ds.any (Nat.beq dj') = false := by first | nofun | (intro _ h; cases h; rfl)) :
    EvL P fz B K ops (o1 :: o2 :: o3 :: o4 :: o5 :: o6 :: o7 :: o8 :: o9 :: o10 :: o11 :: o12 :: o13 :: ⟨some d, .pick c (.const (.bool true)) (.tmp e2), ty, pos, af, g⟩ :: rest) σ h :=
  short (rest := o1 :: o2 :: o3 :: o4 :: o5 :: o6 :: o7 :: o8 :: o9 :: o10 :: o11 :: o12 :: o13 :: ⟨some d, .pick c (.const (.bool true)) (.tmp e2), ty, pos, af, g⟩ :: rest) j false 13 k.choose_spec.1 k.choose_spec.2 rfl hj hdj hbj hc hsk hcd rfl rfl hnd hal hd hg hdd
theorem an14 {o1 o2 o3 o4 o5 o6 o7 o8 o9 o10 o11 o12 o13 o14 : Oper} {e2 dj : Nat} {b : Bool} {oj : Oper} {c : Operand} {ds : List Nat} (j : Nat)
    (k : ∃ b2, (b = true → ∀ B, EvL P fz B (Kan e2 b2 h) ops [o1, o2, o3, o4, o5, o6, o7, o8, o9, o10, o11, o12, o13, o14] σ h) ∧ EvL P fz B K ops rest ((d, vbool (b && b2)) :: drp ds σ) h)
    (hj : ops[j]? = some oj := by rfl) (hdj : oj.dst = some dj := by rfl) (hbj : rg σ dj = some (vbool b) := by rfl) (hc : og σ c = some (vbool b) := by rfl)
    (hsk : skipping ops j true [] [o1, o2, o3, o4, o5, o6, o7, o8, o9, o10, o11, o12, o13, o14] = some ds := by rfl) (hcd : ∀ t, c = .tmp t → ds.any (Nat.beq t) = false := by intro t ht; cases ht; rfl)
    (hnd : [o1, o2, o3, o4, o5, o6, o7, o8, o9, o10, o11, o12, o13, o14].all (fun o => match o.dst with | some e => !(Nat.beq e dj) | none => true) = true := by rfl)
    (hal : [o1, o2, o3, o4, o5, o6, o7, o8, o9, o10, o11, o12, o13, o14].all (fun o => match o.dst with | some e => ds.any (Nat.beq e) | none => true) = true := by rfl)
    (hd : Nat.ble (d + 1) fz = true := by rfl) (hg : Gk ops σ g := by first | exact gk0 | exact gk1 rfl rfl rfl (by assumption)) (hdd : ∀ dj', (match g with | some (i, _) => (ops[i]?).bind (·.dst) | none => none) = some dj' → ds.any (Nat.beq dj') = false := by first | nofun | (intro _ h; cases h; rfl)) :
    EvL P fz B K ops (o1 :: o2 :: o3 :: o4 :: o5 :: o6 :: o7 :: o8 :: o9 :: o10 :: o11 :: o12 :: o13 :: o14 :: ⟨some d, .pick c (.tmp e2) (.const (.bool false)), ty, pos, af, g⟩ :: rest) σ h :=
  short (rest := o1 :: o2 :: o3 :: o4 :: o5 :: o6 :: o7 :: o8 :: o9 :: o10 :: o11 :: o12 :: o13 :: o14 :: ⟨some d, .pick c (.tmp e2) (.const (.bool false)), ty, pos, af, g⟩ :: rest) j true 14 k.choose_spec.1 k.choose_spec.2 rfl hj hdj hbj hc hsk hcd rfl rfl hnd hal hd hg hdd
theorem orr14 {o1 o2 o3 o4 o5 o6 o7 o8 o9 o10 o11 o12 o13 o14 : Oper} {e2 dj : Nat} {b : Bool} {oj : Oper} {c : Operand} {ds : List Nat} (j : Nat)
    (k : ∃ b2, (b = false → ∀ B, EvL P fz B (Kan e2 b2 h) ops [o1, o2, o3, o4, o5, o6, o7, o8, o9, o10, o11, o12, o13, o14] σ h) ∧ EvL P fz B K ops rest ((d, vbool (b || b2)) :: drp ds σ) h)
    (hj : ops[j]? = some oj := by rfl) (hdj : oj.dst = some dj := by rfl) (hbj : rg σ dj = some (vbool b) := by rfl) (hc : og σ c = some (vbool b) := by rfl)
    (hsk : skipping ops j false [] [o1, o2, o3, o4, o5, o6, o7, o8, o9, o10, o11, o12, o13, o14] = some ds := by rfl) (hcd : ∀ t, c = .tmp t → ds.any (Nat.beq t) = false := by intro t ht; cases ht; rfl)
    (hnd : [o1, o2, o3, o4, o5, o6, o7, o8, o9, o10, o11, o12, o13, o14].all (fun o => match o.dst with | some e => !(Nat.beq e dj) | none => true) = true := by rfl)
    (hal : [o1, o2, o3, o4, o5, o6, o7, o8, o9, o10, o11, o12, o13, o14].all (fun o => match o.dst with | some e => ds.any (Nat.beq e) | none => true) = true := by rfl)
    (hd : Nat.ble (d + 1) fz = true := by rfl) (hg : Gk ops σ g := by first | exact gk0 | exact gk1 rfl rfl rfl (by assumption)) (hdd : ∀ dj', (match g with | some (i, _) => (ops[i]?).bind (·.dst) | none => none) = some dj' → ds.any (Nat.beq dj') = false := by first | nofun | (intro _ h; cases h; rfl)) :
    EvL P fz B K ops (o1 :: o2 :: o3 :: o4 :: o5 :: o6 :: o7 :: o8 :: o9 :: o10 :: o11 :: o12 :: o13 :: o14 :: ⟨some d, .pick c (.const (.bool true)) (.tmp e2), ty, pos, af, g⟩ :: rest) σ h :=
  short (rest := o1 :: o2 :: o3 :: o4 :: o5 :: o6 :: o7 :: o8 :: o9 :: o10 :: o11 :: o12 :: o13 :: o14 :: ⟨some d, .pick c (.const (.bool true)) (.tmp e2), ty, pos, af, g⟩ :: rest) j false 14 k.choose_spec.1 k.choose_spec.2 rfl hj hdj hbj hc hsk hcd rfl rfl hnd hal hd hg hdd
theorem an15 {o1 o2 o3 o4 o5 o6 o7 o8 o9 o10 o11 o12 o13 o14 o15 : Oper} {e2 dj : Nat} {b : Bool} {oj : Oper} {c : Operand} {ds : List Nat} (j : Nat)
    (k : ∃ b2, (b = true → ∀ B, EvL P fz B (Kan e2 b2 h) ops [o1, o2, o3, o4, o5, o6, o7, o8, o9, o10, o11, o12, o13, o14, o15] σ h) ∧ EvL P fz B K ops rest ((d, vbool (b && b2)) :: drp ds σ) h)
    (hj : ops[j]? = some oj := by rfl) (hdj : oj.dst = some dj := by rfl) (hbj : rg σ dj = some (vbool b) := by rfl) (hc : og σ c = some (vbool b) := by rfl)
    (hsk : skipping ops j true [] [o1, o2, o3, o4, o5, o6, o7, o8, o9, o10, o11, o12, o13, o14, o15] = some ds := by rfl) (hcd : ∀ t, c = .tmp t → ds.any (Nat.beq t) = false := by intro t ht; cases ht; rfl)
    (hnd : [o1, o2, o3, o4, o5, o6, o7, o8, o9, o10, o11, o12, o13, o14, o15].all (fun o => match o.dst with | some e => !(Nat.beq e dj) | none => true) = true := by rfl)
    (hal : [o1, o2, o3, o4, o5, o6, o7, o8, o9, o10, o11, o12, o13, o14, o15].all (fun o => match o.dst with | some e => ds.any (Nat.beq e) | none => true) = true := by rfl)
    (hd : Nat.ble (d + 1) fz = true := by rfl) (hg : Gk ops σ g := by first | exact gk0 | exact gk1 rfl rfl rfl (by assumption)) (hdd : ∀ dj', (match g with | some (i, _) => (ops[i]?).bind (·.dst) | none => none) = some dj' → ds.any (Nat.beq dj') = false := by first | nofun | (intro _ h; cases h; rfl)) :
    EvL P fz B K ops (o1 :: o2 :: o3 :: o4 :: o5 :: o6 :: o7 :: o8 :: o9 :: o10 :: o11 :: o12 :: o13 :: o14 :: o15 :: ⟨some d, .pick c (.tmp e2) (.const (.bool false)), ty, pos, af, g⟩ :: rest) σ h :=
  short (rest := o1 :: o2 :: o3 :: o4 :: o5 :: o6 :: o7 :: o8 :: o9 :: o10 :: o11 :: o12 :: o13 :: o14 :: o15 :: ⟨some d, .pick c (.tmp e2) (.const (.bool false)), ty, pos, af, g⟩ :: rest) j true 15 k.choose_spec.1 k.choose_spec.2 rfl hj hdj hbj hc hsk hcd rfl rfl hnd hal hd hg hdd
theorem orr15 {o1 o2 o3 o4 o5 o6 o7 o8 o9 o10 o11 o12 o13 o14 o15 : Oper} {e2 dj : Nat} {b : Bool} {oj : Oper} {c : Operand} {ds : List Nat} (j : Nat)
    (k : ∃ b2, (b = false → ∀ B, EvL P fz B (Kan e2 b2 h) ops [o1, o2, o3, o4, o5, o6, o7, o8, o9, o10, o11, o12, o13, o14, o15] σ h) ∧ EvL P fz B K ops rest ((d, vbool (b || b2)) :: drp ds σ) h)
    (hj : ops[j]? = some oj := by rfl) (hdj : oj.dst = some dj := by rfl) (hbj : rg σ dj = some (vbool b) := by rfl) (hc : og σ c = some (vbool b) := by rfl)
    (hsk : skipping ops j false [] [o1, o2, o3, o4, o5, o6, o7, o8, o9, o10, o11, o12, o13, o14, o15] = some ds := by rfl) (hcd : ∀ t, c = .tmp t → ds.any (Nat.beq t) = false := by intro t ht; cases ht; rfl)
    (hnd : [o1, o2, o3, o4, o5, o6, o7, o8, o9, o10, o11, o12, o13, o14, o15].all (fun o => match o.dst with | some e => !(Nat.beq e dj) | none => true) = true := by rfl)
    (hal : [o1, o2, o3, o4, o5, o6, o7, o8, o9, o10, o11, o12, o13, o14, o15].all (fun o => match o.dst with | some e => ds.any (Nat.beq e) | none => true) = true := by rfl)
    (hd : Nat.ble (d + 1) fz = true := by rfl) (hg : Gk ops σ g := by first | exact gk0 | exact gk1 rfl rfl rfl (by assumption)) (hdd : ∀ dj', (match g with | some (i, _) => (ops[i]?).bind (·.dst) | none => none) = some dj' → ds.any (Nat.beq dj') = false := by first | nofun | (intro _ h; cases h; rfl)) :
    EvL P fz B K ops (o1 :: o2 :: o3 :: o4 :: o5 :: o6 :: o7 :: o8 :: o9 :: o10 :: o11 :: o12 :: o13 :: o14 :: o15 :: ⟨some d, .pick c (.const (.bool true)) (.tmp e2), ty, pos, af, g⟩ :: rest) σ h :=
  short (rest := o1 :: o2 :: o3 :: o4 :: o5 :: o6 :: o7 :: o8 :: o9 :: o10 :: o11 :: o12 :: o13 :: o14 :: o15 :: ⟨some d, .pick c (.const (.bool true)) (.tmp e2), ty, pos, af, g⟩ :: rest) j false 15 k.choose_spec.1 k.choose_spec.2 rfl hj hdj hbj hc hsk hcd rfl rfl hnd hal hd hg hdd
theorem an16 {o1 o2 o3 o4 o5 o6 o7 o8 o9 o10 o11 o12 o13 o14 o15 o16 : Oper} {e2 dj : Nat} {b : Bool} {oj : Oper} {c : Operand} {ds : List Nat} (j : Nat)
    (k : ∃ b2, (b = true → ∀ B, EvL P fz B (Kan e2 b2 h) ops [o1, o2, o3, o4, o5, o6, o7, o8, o9, o10, o11, o12, o13, o14, o15, o16] σ h) ∧ EvL P fz B K ops rest ((d, vbool (b && b2)) :: drp ds σ) h)
    (hj : ops[j]? = some oj := by rfl) (hdj : oj.dst = some dj := by rfl) (hbj : rg σ dj = some (vbool b) := by rfl) (hc : og σ c = some (vbool b) := by rfl)
    (hsk : skipping ops j true [] [o1, o2, o3, o4, o5, o6, o7, o8, o9, o10, o11, o12, o13, o14, o15, o16] = some ds := by rfl) (hcd : ∀ t, c = .tmp t → ds.any (Nat.beq t) = false := by intro t ht; cases ht; rfl)
    (hnd : [o1, o2, o3, o4, o5, o6, o7, o8, o9, o10, o11, o12, o13, o14, o15, o16].all (fun o => match o.dst with | some e => !(Nat.beq e dj) | none => true) = true := by rfl)
    (hal : [o1, o2, o3, o4, o5, o6, o7, o8, o9, o10, o11, o12, o13, o14, o15, o16].all (fun o => match o.dst with | some e => ds.any (Nat.beq e) | none => true) = true := by rfl)
    (hd : Nat.ble (d + 1) fz = true := by rfl) (hg : Gk ops σ g := by first | exact gk0 | exact gk1 rfl rfl rfl (by assumption)) (hdd : ∀ dj', (match g with | some (i, _) => (ops[i]?).bind (·.dst) | none => none) = some dj' → ds.any (Nat.beq dj') = false := by first | nofun | (intro _ h; cases h; rfl)) :
    EvL P fz B K ops (o1 :: o2 :: o3 :: o4 :: o5 :: o6 :: o7 :: o8 :: o9 :: o10 :: o11 :: o12 :: o13 :: o14 :: o15 :: o16 :: ⟨some d, .pick c (.tmp e2) (.const (.bool false)), ty, pos, af, g⟩ :: rest) σ h :=
  short (rest := o1 :: o2 :: o3 :: o4 :: o5 :: o6 :: o7 :: o8 :: o9 :: o10 :: o11 :: o12 :: o13 :: o14 :: o15 :: o16 :: ⟨some d, .pick c (.tmp e2) (.const (.bool false)), ty, pos, af, g⟩ :: rest) j true 16 k.choose_spec.1 k.choose_spec.2 rfl hj hdj hbj hc hsk hcd rfl rfl hnd hal hd hg hdd
theorem orr16 {o1 o2 o3 o4 o5 o6 o7 o8 o9 o10 o11 o12 o13 o14 o15 o16 : Oper} {e2 dj : Nat} {b : Bool} {oj : Oper} {c : Operand} {ds : List Nat} (j : Nat)
    (k : ∃ b2, (b = false → ∀ B, EvL P fz B (Kan e2 b2 h) ops [o1, o2, o3, o4, o5, o6, o7, o8, o9, o10, o11, o12, o13, o14, o15, o16] σ h) ∧ EvL P fz B K ops rest ((d, vbool (b || b2)) :: drp ds σ) h)
    (hj : ops[j]? = some oj := by rfl) (hdj : oj.dst = some dj := by rfl) (hbj : rg σ dj = some (vbool b) := by rfl) (hc : og σ c = some (vbool b) := by rfl)
    (hsk : skipping ops j false [] [o1, o2, o3, o4, o5, o6, o7, o8, o9, o10, o11, o12, o13, o14, o15, o16] = some ds := by rfl) (hcd : ∀ t, c = .tmp t → ds.any (Nat.beq t) = false := by intro t ht; cases ht; rfl)
    (hnd : [o1, o2, o3, o4, o5, o6, o7, o8, o9, o10, o11, o12, o13, o14, o15, o16].all (fun o => match o.dst with | some e => !(Nat.beq e dj) | none => true) = true := by rfl)
    (hal : [o1, o2, o3, o4, o5, o6, o7, o8, o9, o10, o11, o12, o13, o14, o15, o16].all (fun o => match o.dst with | some e => ds.any (Nat.beq e) | none => true) = true := by rfl)
    (hd : Nat.ble (d + 1) fz = true := by rfl) (hg : Gk ops σ g := by first | exact gk0 | exact gk1 rfl rfl rfl (by assumption)) (hdd : ∀ dj', (match g with | some (i, _) => (ops[i]?).bind (·.dst) | none => none) = some dj' → ds.any (Nat.beq dj') = false := by first | nofun | (intro _ h; cases h; rfl)) :
    EvL P fz B K ops (o1 :: o2 :: o3 :: o4 :: o5 :: o6 :: o7 :: o8 :: o9 :: o10 :: o11 :: o12 :: o13 :: o14 :: o15 :: o16 :: ⟨some d, .pick c (.const (.bool true)) (.tmp e2), ty, pos, af, g⟩ :: rest) σ h :=
  short (rest := o1 :: o2 :: o3 :: o4 :: o5 :: o6 :: o7 :: o8 :: o9 :: o10 :: o11 :: o12 :: o13 :: o14 :: o15 :: o16 :: ⟨some d, .pick c (.const (.bool true)) (.tmp e2), ty, pos, af, g⟩ :: rest) j false 16 k.choose_spec.1 k.choose_spec.2 rfl hj hdj hbj hc hsk hcd rfl rfl hnd hal hd hg hdd
theorem an17 {o1 o2 o3 o4 o5 o6 o7 o8 o9 o10 o11 o12 o13 o14 o15 o16 o17 : Oper} {e2 dj : Nat} {b : Bool} {oj : Oper} {c : Operand} {ds : List Nat} (j : Nat)
    (k : ∃ b2, (b = true → ∀ B, EvL P fz B (Kan e2 b2 h) ops [o1, o2, o3, o4, o5, o6, o7, o8, o9, o10, o11, o12, o13, o14, o15, o16, o17] σ h) ∧ EvL P fz B K ops rest ((d, vbool (b && b2)) :: drp ds σ) h)
    (hj : ops[j]? = some oj := by rfl) (hdj : oj.dst = some dj := by rfl) (hbj : rg σ dj = some (vbool b) := by rfl) (hc : og σ c = some (vbool b) := by rfl)
    (hsk : skipping ops j true [] [o1, o2, o3, o4, o5, o6, o7, o8, o9, o10, o11, o12, o13, o14, o15, o16, o17] = some ds := by rfl) (hcd : ∀ t, c = .tmp t → ds.any (Nat.beq t) = false := by intro t ht; cases ht; rfl)
    (hnd : [o1, o2, o3, o4, o5, o6, o7, o8, o9, o10, o11, o12, o13, o14, o15, o16, o17].all (fun o => match o.dst with | some e => !(Nat.beq e dj) | none => true) = true := by rfl)
    (hal : [o1, o2, o3, o4, o5, o6, o7, o8, o9, o10, o11, o12, o13, o14, o15, o16, o17].all (fun o => match o.dst with | some e => ds.any (Nat.beq e) | none => true) = true := by rfl)
    (hd : Nat.ble (d + 1) fz = true := by rfl) (hg : Gk ops σ g := by first | exact gk0 | exact gk1 rfl rfl rfl (by assumption)) (hdd : ∀ dj', (match g with | some (i, _) => (ops[i]?).bind (·.dst) | none => none) = some dj' → ds.any (Nat.beq dj') = false := by first | nofun | (intro _ h; cases h; rfl)) :
    EvL P fz B K ops (o1 :: o2 :: o3 :: o4 :: o5 :: o6 :: o7 :: o8 :: o9 :: o10 :: o11 :: o12 :: o13 :: o14 :: o15 :: o16 :: o17 :: ⟨some d, .pick c (.tmp e2) (.const (.bool false)), ty, pos, af, g⟩ :: rest) σ h :=
  short (rest := o1 :: o2 :: o3 :: o4 :: o5 :: o6 :: o7 :: o8 :: o9 :: o10 :: o11 :: o12 :: o13 :: o14 :: o15 :: o16 :: o17 :: ⟨some d, .pick c (.tmp e2) (.const (.bool false)), ty, pos, af, g⟩ :: rest) j true 17 k.choose_spec.1 k.choose_spec.2 rfl hj hdj hbj hc hsk hcd rfl rfl hnd hal hd hg hdd
theorem orr17 {o1 o2 o3 o4 o5 o6 o7 o8 o9 o10 o11 o12 o13 o14 o15 o16 o17 : Oper} {e2 dj : Nat} {b : Bool} {oj : Oper} {c : Operand} {ds : List Nat} (j : Nat)
    (k : ∃ b2, (b = false → ∀ B, EvL P fz B (Kan e2 b2 h) ops [o1, o2, o3, o4, o5, o6, o7, o8, o9, o10, o11, o12, o13, o14, o15, o16, o17] σ h) ∧ EvL P fz B K ops rest ((d, vbool (b || b2)) :: drp ds σ) h)
    (hj : ops[j]? = some oj := by rfl) (hdj : oj.dst = some dj := by rfl) (hbj : rg σ dj = some (vbool b) := by rfl) (hc : og σ c = some (vbool b) := by rfl)
    (hsk : skipping ops j false [] [o1, o2, o3, o4, o5, o6, o7, o8, o9, o10, o11, o12, o13, o14, o15, o16, o17] = some ds := by rfl) (hcd : ∀ t, c = .tmp t → ds.any (Nat.beq t) = false := by intro t ht; cases ht; rfl)
    (hnd : [o1, o2, o3, o4, o5, o6, o7, o8, o9, o10, o11, o12, o13, o14, o15, o16, o17].all (fun o => match o.dst with | some e => !(Nat.beq e dj) | none => true) = true := by rfl)
    (hal : [o1, o2, o3, o4, o5, o6, o7, o8, o9, o10, o11, o12, o13, o14, o15, o16, o17].all (fun o => match o.dst with | some e => ds.any (Nat.beq e) | none => true) = true := by rfl)
    (hd : Nat.ble (d + 1) fz = true := by rfl) (hg : Gk ops σ g := by first | exact gk0 | exact gk1 rfl rfl rfl (by assumption)) (hdd : ∀ dj', (match g with | some (i, _) => (ops[i]?).bind (·.dst) | none => none) = some dj' → ds.any (Nat.beq dj') = false := by first | nofun | (intro _ h; cases h; rfl)) :
    EvL P fz B K ops (o1 :: o2 :: o3 :: o4 :: o5 :: o6 :: o7 :: o8 :: o9 :: o10 :: o11 :: o12 :: o13 :: o14 :: o15 :: o16 :: o17 :: ⟨some d, .pick c (.const (.bool true)) (.tmp e2), ty, pos, af, g⟩ :: rest) σ h :=
  short (rest := o1 :: o2 :: o3 :: o4 :: o5 :: o6 :: o7 :: o8 :: o9 :: o10 :: o11 :: o12 :: o13 :: o14 :: o15 :: o16 :: o17 :: ⟨some d, .pick c (.const (.bool true)) (.tmp e2), ty, pos, af, g⟩ :: rest) j false 17 k.choose_spec.1 k.choose_spec.2 rfl hj hdj hbj hc hsk hcd rfl rfl hnd hal hd hg hdd
theorem an18 {o1 o2 o3 o4 o5 o6 o7 o8 o9 o10 o11 o12 o13 o14 o15 o16 o17 o18 : Oper} {e2 dj : Nat} {b : Bool} {oj : Oper} {c : Operand} {ds : List Nat} (j : Nat)
    (k : ∃ b2, (b = true → ∀ B, EvL P fz B (Kan e2 b2 h) ops [o1, o2, o3, o4, o5, o6, o7, o8, o9, o10, o11, o12, o13, o14, o15, o16, o17, o18] σ h) ∧ EvL P fz B K ops rest ((d, vbool (b && b2)) :: drp ds σ) h)
    (hj : ops[j]? = some oj := by rfl) (hdj : oj.dst = some dj := by rfl) (hbj : rg σ dj = some (vbool b) := by rfl) (hc : og σ c = some (vbool b) := by rfl)
    (hsk : skipping ops j true [] [o1, o2, o3, o4, o5, o6, o7, o8, o9, o10, o11, o12, o13, o14, o15, o16, o17, o18] = some ds := by rfl) (hcd : ∀ t, c = .tmp t → ds.any (Nat.beq t) = false := by intro t ht; cases ht; rfl)
    (hnd : [o1, o2, o3, o4, o5, o6, o7, o8, o9, o10, o11, o12, o13, o14, o15, o16, o17, o18].all (fun o => match o.dst with | some e => !(Nat.beq e dj) | none => true) = true := by rfl)
    (hal : [o1, o2, o3, o4, o5, o6, o7, o8, o9, o10, o11, o12, o13, o14, o15, o16, o17, o18].all (fun o => match o.dst with | some e => ds.any (Nat.beq e) | none => true) = true := by rfl)
    (hd : Nat.ble (d + 1) fz = true := by rfl) (hg : Gk ops σ g := by first | exact gk0 | exact gk1 rfl rfl rfl (by assumption)) (hdd : ∀ dj', (match g with | some (i, _) => (ops[i]?).bind (·.dst) | none => none) = some dj' → ds.any (Nat.beq dj') = false := by first | nofun | (intro _ h; cases h; rfl)) :
    EvL P fz B K ops (o1 :: o2 :: o3 :: o4 :: o5 :: o6 :: o7 :: o8 :: o9 :: o10 :: o11 :: o12 :: o13 :: o14 :: o15 :: o16 :: o17 :: o18 :: ⟨some d, .pick c (.tmp e2) (.const (.bool false)), ty, pos, af, g⟩ :: rest) σ h :=
  short (rest := o1 :: o2 :: o3 :: o4 :: o5 :: o6 :: o7 :: o8 :: o9 :: o10 :: o11 :: o12 :: o13 :: o14 :: o15 :: o16 :: o17 :: o18 :: ⟨some d, .pick c (.tmp e2) (.const (.bool false)), ty, pos, af, g⟩ :: rest) j true 18 k.choose_spec.1 k.choose_spec.2 rfl hj hdj hbj hc hsk hcd rfl rfl hnd hal hd hg hdd
theorem orr18 {o1 o2 o3 o4 o5 o6 o7 o8 o9 o10 o11 o12 o13 o14 o15 o16 o17 o18 : Oper} {e2 dj : Nat} {b : Bool} {oj : Oper} {c : Operand} {ds : List Nat} (j : Nat)
    (k : ∃ b2, (b = false → ∀ B, EvL P fz B (Kan e2 b2 h) ops [o1, o2, o3, o4, o5, o6, o7, o8, o9, o10, o11, o12, o13, o14, o15, o16, o17, o18] σ h) ∧ EvL P fz B K ops rest ((d, vbool (b || b2)) :: drp ds σ) h)
    (hj : ops[j]? = some oj := by rfl) (hdj : oj.dst = some dj := by rfl) (hbj : rg σ dj = some (vbool b) := by rfl) (hc : og σ c = some (vbool b) := by rfl)
    (hsk : skipping ops j false [] [o1, o2, o3, o4, o5, o6, o7, o8, o9, o10, o11, o12, o13, o14, o15, o16, o17, o18] = some ds := by rfl) (hcd : ∀ t, c = .tmp t → ds.any (Nat.beq t) = false := by intro t ht; cases ht; rfl)
    (hnd : [o1, o2, o3, o4, o5, o6, o7, o8, o9, o10, o11, o12, o13, o14, o15, o16, o17, o18].all (fun o => match o.dst with | some e => !(Nat.beq e dj) | none => true) = true := by rfl)
    (hal : [o1, o2, o3, o4, o5, o6, o7, o8, o9, o10, o11, o12, o13, o14, o15, o16, o17, o18].all (fun o => match o.dst with | some e => ds.any (Nat.beq e) | none => true) = true := by rfl)
    (hd : Nat.ble (d + 1) fz = true := by rfl) (hg : Gk ops σ g := by first | exact gk0 | exact gk1 rfl rfl rfl (by assumption)) (hdd : ∀ dj', (match g with | some (i, _) => (ops[i]?).bind (·.dst) | none => none) = some dj' → ds.any (Nat.beq dj') = false := by first | nofun | (intro _ h; cases h; rfl)) :
    EvL P fz B K ops (o1 :: o2 :: o3 :: o4 :: o5 :: o6 :: o7 :: o8 :: o9 :: o10 :: o11 :: o12 :: o13 :: o14 :: o15 :: o16 :: o17 :: o18 :: ⟨some d, .pick c (.const (.bool true)) (.tmp e2), ty, pos, af, g⟩ :: rest) σ h :=
  short (rest := o1 :: o2 :: o3 :: o4 :: o5 :: o6 :: o7 :: o8 :: o9 :: o10 :: o11 :: o12 :: o13 :: o14 :: o15 :: o16 :: o17 :: o18 :: ⟨some d, .pick c (.const (.bool true)) (.tmp e2), ty, pos, af, g⟩ :: rest) j false 18 k.choose_spec.1 k.choose_spec.2 rfl hj hdj hbj hc hsk hcd rfl rfl hnd hal hd hg hdd
theorem an19 {o1 o2 o3 o4 o5 o6 o7 o8 o9 o10 o11 o12 o13 o14 o15 o16 o17 o18 o19 : Oper} {e2 dj : Nat} {b : Bool} {oj : Oper} {c : Operand} {ds : List Nat} (j : Nat)
    (k : ∃ b2, (b = true → ∀ B, EvL P fz B (Kan e2 b2 h) ops [o1, o2, o3, o4, o5, o6, o7, o8, o9, o10, o11, o12, o13, o14, o15, o16, o17, o18, o19] σ h) ∧ EvL P fz B K ops rest ((d, vbool (b && b2)) :: drp ds σ) h)
    (hj : ops[j]? = some oj := by rfl) (hdj : oj.dst = some dj := by rfl) (hbj : rg σ dj = some (vbool b) := by rfl) (hc : og σ c = some (vbool b) := by rfl)
    (hsk : skipping ops j true [] [o1, o2, o3, o4, o5, o6, o7, o8, o9, o10, o11, o12, o13, o14, o15, o16, o17, o18, o19] = some ds := by rfl) (hcd : ∀ t, c = .tmp t → ds.any (Nat.beq t) = false := by intro t ht; cases ht; rfl)
    (hnd : [o1, o2, o3, o4, o5, o6, o7, o8, o9, o10, o11, o12, o13, o14, o15, o16, o17, o18, o19].all (fun o => match o.dst with | some e => !(Nat.beq e dj) | none => true) = true := by rfl)
    (hal : [o1, o2, o3, o4, o5, o6, o7, o8, o9, o10, o11, o12, o13, o14, o15, o16, o17, o18, o19].all (fun o => match o.dst with | some e => ds.any (Nat.beq e) | none => true) = true := by rfl)
    (hd : Nat.ble (d + 1) fz = true := by rfl) (hg : Gk ops σ g := by first | exact gk0 | exact gk1 rfl rfl rfl (by assumption)) (hdd : ∀ dj', (match g with | some (i, _) => (ops[i]?).bind (·.dst) | none => none) = some dj' → ds.any (Nat.beq dj') = false := by first | nofun | (intro _ h; cases h; rfl)) :
    EvL P fz B K ops (o1 :: o2 :: o3 :: o4 :: o5 :: o6 :: o7 :: o8 :: o9 :: o10 :: o11 :: o12 :: o13 :: o14 :: o15 :: o16 :: o17 :: o18 :: o19 :: ⟨some d, .pick c (.tmp e2) (.const (.bool false)), ty, pos, af, g⟩ :: rest) σ h :=
  short (rest := o1 :: o2 :: o3 :: o4 :: o5 :: o6 :: o7 :: o8 :: o9 :: o10 :: o11 :: o12 :: o13 :: o14 :: o15 :: o16 :: o17 :: o18 :: o19 :: ⟨some d, .pick c (.tmp e2) (.const (.bool false)), ty, pos, af, g⟩ :: rest) j true 19 k.choose_spec.1 k.choose_spec.2 rfl hj hdj hbj hc hsk hcd rfl rfl hnd hal hd hg hdd
theorem orr19 {o1 o2 o3 o4 o5 o6 o7 o8 o9 o10 o11 o12 o13 o14 o15 o16 o17 o18 o19 : Oper} {e2 dj : Nat} {b : Bool} {oj : Oper} {c : Operand} {ds : List Nat} (j : Nat)
    (k : ∃ b2, (b = false → ∀ B, EvL P fz B (Kan e2 b2 h) ops [o1, o2, o3, o4, o5, o6, o7, o8, o9, o10, o11, o12, o13, o14, o15, o16, o17, o18, o19] σ h) ∧ EvL P fz B K ops rest ((d, vbool (b || b2)) :: drp ds σ) h)
    (hj : ops[j]? = some oj := by rfl) (hdj : oj.dst = some dj := by rfl) (hbj : rg σ dj = some (vbool b) := by rfl) (hc : og σ c = some (vbool b) := by rfl)
    (hsk : skipping ops j false [] [o1, o2, o3, o4, o5, o6, o7, o8, o9, o10, o11, o12, o13, o14, o15, o16, o17, o18, o19] = some ds := by rfl) (hcd : ∀ t, c = .tmp t → ds.any (Nat.beq t) = false := by intro t ht; cases ht; rfl)
    (hnd : [o1, o2, o3, o4, o5, o6, o7, o8, o9, o10, o11, o12, o13, o14, o15, o16, o17, o18, o19].all (fun o => match o.dst with | some e => !(Nat.beq e dj) | none => true) = true := by rfl)
    (hal : [o1, o2, o3, o4, o5, o6, o7, o8, o9, o10, o11, o12, o13, o14, o15, o16, o17, o18, o19].all (fun o => match o.dst with | some e => ds.any (Nat.beq e) | none => true) = true := by rfl)
    (hd : Nat.ble (d + 1) fz = true := by rfl) (hg : Gk ops σ g := by first | exact gk0 | exact gk1 rfl rfl rfl (by assumption)) (hdd : ∀ dj', (match g with | some (i, _) => (ops[i]?).bind (·.dst) | none => none) = some dj' → ds.any (Nat.beq dj') = false := by first | nofun | (intro _ h; cases h; rfl)) :
    EvL P fz B K ops (o1 :: o2 :: o3 :: o4 :: o5 :: o6 :: o7 :: o8 :: o9 :: o10 :: o11 :: o12 :: o13 :: o14 :: o15 :: o16 :: o17 :: o18 :: o19 :: ⟨some d, .pick c (.const (.bool true)) (.tmp e2), ty, pos, af, g⟩ :: rest) σ h :=
  short (rest := o1 :: o2 :: o3 :: o4 :: o5 :: o6 :: o7 :: o8 :: o9 :: o10 :: o11 :: o12 :: o13 :: o14 :: o15 :: o16 :: o17 :: o18 :: o19 :: ⟨some d, .pick c (.const (.bool true)) (.tmp e2), ty, pos, af, g⟩ :: rest) j false 19 k.choose_spec.1 k.choose_spec.2 rfl hj hdj hbj hc hsk hcd rfl rfl hnd hal hd hg hdd
theorem an20 {o1 o2 o3 o4 o5 o6 o7 o8 o9 o10 o11 o12 o13 o14 o15 o16 o17 o18 o19 o20 : Oper} {e2 dj : Nat} {b : Bool} {oj : Oper} {c : Operand} {ds : List Nat} (j : Nat)
    (k : ∃ b2, (b = true → ∀ B, EvL P fz B (Kan e2 b2 h) ops [o1, o2, o3, o4, o5, o6, o7, o8, o9, o10, o11, o12, o13, o14, o15, o16, o17, o18, o19, o20] σ h) ∧ EvL P fz B K ops rest ((d, vbool (b && b2)) :: drp ds σ) h)
    (hj : ops[j]? = some oj := by rfl) (hdj : oj.dst = some dj := by rfl) (hbj : rg σ dj = some (vbool b) := by rfl) (hc : og σ c = some (vbool b) := by rfl)
    (hsk : skipping ops j true [] [o1, o2, o3, o4, o5, o6, o7, o8, o9, o10, o11, o12, o13, o14, o15, o16, o17, o18, o19, o20] = some ds := by rfl) (hcd : ∀ t, c = .tmp t → ds.any (Nat.beq t) = false := by intro t ht; cases ht; rfl)
    (hnd : [o1, o2, o3, o4, o5, o6, o7, o8, o9, o10, o11, o12, o13, o14, o15, o16, o17, o18, o19, o20].all (fun o => match o.dst with | some e => !(Nat.beq e dj) | none => true) = true := by rfl)
    (hal : [o1, o2, o3, o4, o5, o6, o7, o8, o9, o10, o11, o12, o13, o14, o15, o16, o17, o18, o19, o20].all (fun o => match o.dst with | some e => ds.any (Nat.beq e) | none => true) = true := by rfl)
    (hd : Nat.ble (d + 1) fz = true := by rfl) (hg : Gk ops σ g := by first | exact gk0 | exact gk1 rfl rfl rfl (by assumption)) (hdd : ∀ dj', (match g with | some (i, _) => (ops[i]?).bind (·.dst) | none => none) = some dj' → ds.any (Nat.beq dj') = false := by first | nofun | (intro _ h; cases h; rfl)) :
    EvL P fz B K ops (o1 :: o2 :: o3 :: o4 :: o5 :: o6 :: o7 :: o8 :: o9 :: o10 :: o11 :: o12 :: o13 :: o14 :: o15 :: o16 :: o17 :: o18 :: o19 :: o20 :: ⟨some d, .pick c (.tmp e2) (.const (.bool false)), ty, pos, af, g⟩ :: rest) σ h :=
  short (rest := o1 :: o2 :: o3 :: o4 :: o5 :: o6 :: o7 :: o8 :: o9 :: o10 :: o11 :: o12 :: o13 :: o14 :: o15 :: o16 :: o17 :: o18 :: o19 :: o20 :: ⟨some d, .pick c (.tmp e2) (.const (.bool false)), ty, pos, af, g⟩ :: rest) j true 20 k.choose_spec.1 k.choose_spec.2 rfl hj hdj hbj hc hsk hcd rfl rfl hnd hal hd hg hdd
theorem orr20 {o1 o2 o3 o4 o5 o6 o7 o8 o9 o10 o11 o12 o13 o14 o15 o16 o17 o18 o19 o20 : Oper} {e2 dj : Nat} {b : Bool} {oj : Oper} {c : Operand} {ds : List Nat} (j : Nat)
    (k : ∃ b2, (b = false → ∀ B, EvL P fz B (Kan e2 b2 h) ops [o1, o2, o3, o4, o5, o6, o7, o8, o9, o10, o11, o12, o13, o14, o15, o16, o17, o18, o19, o20] σ h) ∧ EvL P fz B K ops rest ((d, vbool (b || b2)) :: drp ds σ) h)
    (hj : ops[j]? = some oj := by rfl) (hdj : oj.dst = some dj := by rfl) (hbj : rg σ dj = some (vbool b) := by rfl) (hc : og σ c = some (vbool b) := by rfl)
    (hsk : skipping ops j false [] [o1, o2, o3, o4, o5, o6, o7, o8, o9, o10, o11, o12, o13, o14, o15, o16, o17, o18, o19, o20] = some ds := by rfl) (hcd : ∀ t, c = .tmp t → ds.any (Nat.beq t) = false := by intro t ht; cases ht; rfl)
    (hnd : [o1, o2, o3, o4, o5, o6, o7, o8, o9, o10, o11, o12, o13, o14, o15, o16, o17, o18, o19, o20].all (fun o => match o.dst with | some e => !(Nat.beq e dj) | none => true) = true := by rfl)
    (hal : [o1, o2, o3, o4, o5, o6, o7, o8, o9, o10, o11, o12, o13, o14, o15, o16, o17, o18, o19, o20].all (fun o => match o.dst with | some e => ds.any (Nat.beq e) | none => true) = true := by rfl)
    (hd : Nat.ble (d + 1) fz = true := by rfl) (hg : Gk ops σ g := by first | exact gk0 | exact gk1 rfl rfl rfl (by assumption)) (hdd : ∀ dj', (match g with | some (i, _) => (ops[i]?).bind (·.dst) | none => none) = some dj' → ds.any (Nat.beq dj') = false := by first | nofun | (intro _ h; cases h; rfl)) :
    EvL P fz B K ops (o1 :: o2 :: o3 :: o4 :: o5 :: o6 :: o7 :: o8 :: o9 :: o10 :: o11 :: o12 :: o13 :: o14 :: o15 :: o16 :: o17 :: o18 :: o19 :: o20 :: ⟨some d, .pick c (.const (.bool true)) (.tmp e2), ty, pos, af, g⟩ :: rest) σ h :=
  short (rest := o1 :: o2 :: o3 :: o4 :: o5 :: o6 :: o7 :: o8 :: o9 :: o10 :: o11 :: o12 :: o13 :: o14 :: o15 :: o16 :: o17 :: o18 :: o19 :: o20 :: ⟨some d, .pick c (.const (.bool true)) (.tmp e2), ty, pos, af, g⟩ :: rest) j false 20 k.choose_spec.1 k.choose_spec.2 rfl hj hdj hbj hc hsk hcd rfl rfl hnd hal hd hg hdd
theorem an21 {o1 o2 o3 o4 o5 o6 o7 o8 o9 o10 o11 o12 o13 o14 o15 o16 o17 o18 o19 o20 o21 : Oper} {e2 dj : Nat} {b : Bool} {oj : Oper} {c : Operand} {ds : List Nat} (j : Nat)
    (k : ∃ b2, (b = true → ∀ B, EvL P fz B (Kan e2 b2 h) ops [o1, o2, o3, o4, o5, o6, o7, o8, o9, o10, o11, o12, o13, o14, o15, o16, o17, o18, o19, o20, o21] σ h) ∧ EvL P fz B K ops rest ((d, vbool (b && b2)) :: drp ds σ) h)
    (hj : ops[j]? = some oj := by rfl) (hdj : oj.dst = some dj := by rfl) (hbj : rg σ dj = some (vbool b) := by rfl) (hc : og σ c = some (vbool b) := by rfl)
    (hsk : skipping ops j true [] [o1, o2, o3, o4, o5, o6, o7, o8, o9, o10, o11, o12, o13, o14, o15, o16, o17, o18, o19, o20, o21] = some ds := by rfl) (hcd : ∀ t, c = .tmp t → ds.any (Nat.beq t) = false := by intro t ht; cases ht; rfl)
    (hnd : [o1, o2, o3, o4, o5, o6, o7, o8, o9, o10, o11, o12, o13, o14, o15, o16, o17, o18, o19, o20, o21].all (fun o => match o.dst with | some e => !(Nat.beq e dj) | none => true) = true := by rfl)
    (hal : [o1, o2, o3, o4, o5, o6, o7, o8, o9, o10, o11, o12, o13, o14, o15, o16, o17, o18, o19, o20, o21].all (fun o => match o.dst with | some e => ds.any (Nat.beq e) | none => true) = true := by rfl)
    (hd : Nat.ble (d + 1) fz = true := by rfl) (hg : Gk ops σ g := by first | exact gk0 | exact gk1 rfl rfl rfl (by assumption)) (hdd : ∀ dj', (match g with | some (i, _) => (ops[i]?).bind (·.dst) | none => none) = some dj' → ds.any (Nat.beq dj') = false := by first | nofun | (intro _ h; cases h; rfl)) :
    EvL P fz B K ops (o1 :: o2 :: o3 :: o4 :: o5 :: o6 :: o7 :: o8 :: o9 :: o10 :: o11 :: o12 :: o13 :: o14 :: o15 :: o16 :: o17 :: o18 :: o19 :: o20 :: o21 :: ⟨some d, .pick c (.tmp e2) (.const (.bool false)), ty, pos, af, g⟩ :: rest) σ h :=
  short (rest := o1 :: o2 :: o3 :: o4 :: o5 :: o6 :: o7 :: o8 :: o9 :: o10 :: o11 :: o12 :: o13 :: o14 :: o15 :: o16 :: o17 :: o18 :: o19 :: o20 :: o21 :: ⟨some d, .pick c (.tmp e2) (.const (.bool false)), ty, pos, af, g⟩ :: rest) j true 21 k.choose_spec.1 k.choose_spec.2 rfl hj hdj hbj hc hsk hcd rfl rfl hnd hal hd hg hdd
theorem orr21 {o1 o2 o3 o4 o5 o6 o7 o8 o9 o10 o11 o12 o13 o14 o15 o16 o17 o18 o19 o20 o21 : Oper} {e2 dj : Nat} {b : Bool} {oj : Oper} {c : Operand} {ds : List Nat} (j : Nat)
    (k : ∃ b2, (b = false → ∀ B, EvL P fz B (Kan e2 b2 h) ops [o1, o2, o3, o4, o5, o6, o7, o8, o9, o10, o11, o12, o13, o14, o15, o16, o17, o18, o19, o20, o21] σ h) ∧ EvL P fz B K ops rest ((d, vbool (b || b2)) :: drp ds σ) h)
    (hj : ops[j]? = some oj := by rfl) (hdj : oj.dst = some dj := by rfl) (hbj : rg σ dj = some (vbool b) := by rfl) (hc : og σ c = some (vbool b) := by rfl)
    (hsk : skipping ops j false [] [o1, o2, o3, o4, o5, o6, o7, o8, o9, o10, o11, o12, o13, o14, o15, o16, o17, o18, o19, o20, o21] = some ds := by rfl) (hcd : ∀ t, c = .tmp t → ds.any (Nat.beq t) = false := by intro t ht; cases ht; rfl)
    (hnd : [o1, o2, o3, o4, o5, o6, o7, o8, o9, o10, o11, o12, o13, o14, o15, o16, o17, o18, o19, o20, o21].all (fun o => match o.dst with | some e => !(Nat.beq e dj) | none => true) = true := by rfl)
    (hal : [o1, o2, o3, o4, o5, o6, o7, o8, o9, o10, o11, o12, o13, o14, o15, o16, o17, o18, o19, o20, o21].all (fun o => match o.dst with | some e => ds.any (Nat.beq e) | none => true) = true := by rfl)
    (hd : Nat.ble (d + 1) fz = true := by rfl) (hg : Gk ops σ g := by first | exact gk0 | exact gk1 rfl rfl rfl (by assumption)) (hdd : ∀ dj', (match g with | some (i, _) => (ops[i]?).bind (·.dst) | none => none) = some dj' → ds.any (Nat.beq dj') = false := by first | nofun | (intro _ h; cases h; rfl)) :
    EvL P fz B K ops (o1 :: o2 :: o3 :: o4 :: o5 :: o6 :: o7 :: o8 :: o9 :: o10 :: o11 :: o12 :: o13 :: o14 :: o15 :: o16 :: o17 :: o18 :: o19 :: o20 :: o21 :: ⟨some d, .pick c (.const (.bool true)) (.tmp e2), ty, pos, af, g⟩ :: rest) σ h :=
  short (rest := o1 :: o2 :: o3 :: o4 :: o5 :: o6 :: o7 :: o8 :: o9 :: o10 :: o11 :: o12 :: o13 :: o14 :: o15 :: o16 :: o17 :: o18 :: o19 :: o20 :: o21 :: ⟨some d, .pick c (.const (.bool true)) (.tmp e2), ty, pos, af, g⟩ :: rest) j false 21 k.choose_spec.1 k.choose_spec.2 rfl hj hdj hbj hc hsk hcd rfl rfl hnd hal hd hg hdd
theorem an22 {o1 o2 o3 o4 o5 o6 o7 o8 o9 o10 o11 o12 o13 o14 o15 o16 o17 o18 o19 o20 o21 o22 : Oper} {e2 dj : Nat} {b : Bool} {oj : Oper} {c : Operand} {ds : List Nat} (j : Nat)
    (k : ∃ b2, (b = true → ∀ B, EvL P fz B (Kan e2 b2 h) ops [o1, o2, o3, o4, o5, o6, o7, o8, o9, o10, o11, o12, o13, o14, o15, o16, o17, o18, o19, o20, o21, o22] σ h) ∧ EvL P fz B K ops rest ((d, vbool (b && b2)) :: drp ds σ) h)
    (hj : ops[j]? = some oj := by rfl) (hdj : oj.dst = some dj := by rfl) (hbj : rg σ dj = some (vbool b) := by rfl) (hc : og σ c = some (vbool b) := by rfl)
    (hsk : skipping ops j true [] [o1, o2, o3, o4, o5, o6, o7, o8, o9, o10, o11, o12, o13, o14, o15, o16, o17, o18, o19, o20, o21, o22] = some ds := by rfl) (hcd : ∀ t, c = .tmp t → ds.any (Nat.beq t) = false := by intro t ht; cases ht; rfl)
    (hnd : [o1, o2, o3, o4, o5, o6, o7, o8, o9, o10, o11, o12, o13, o14, o15, o16, o17, o18, o19, o20, o21, o22].all (fun o => match o.dst with | some e => !(Nat.beq e dj) | none => true) = true := by rfl)
    (hal : [o1, o2, o3, o4, o5, o6, o7, o8, o9, o10, o11, o12, o13, o14, o15, o16, o17, o18, o19, o20, o21, o22].all (fun o => match o.dst with | some e => ds.any (Nat.beq e) | none => true) = true := by rfl)
    (hd : Nat.ble (d + 1) fz = true := by rfl) (hg : Gk ops σ g := by first | exact gk0 | exact gk1 rfl rfl rfl (by assumption)) (hdd : ∀ dj', (match g with | some (i, _) => (ops[i]?).bind (·.dst) | none => none) = some dj' → ds.any (Nat.beq dj') = false := by first | nofun | (intro _ h; cases h; rfl)) :
    EvL P fz B K ops (o1 :: o2 :: o3 :: o4 :: o5 :: o6 :: o7 :: o8 :: o9 :: o10 :: o11 :: o12 :: o13 :: o14 :: o15 :: o16 :: o17 :: o18 :: o19 :: o20 :: o21 :: o22 :: ⟨some d, .pick c (.tmp e2) (.const (.bool false)), ty, pos, af, g⟩ :: rest) σ h :=
  short (rest := o1 :: o2 :: o3 :: o4 :: o5 :: o6 :: o7 :: o8 :: o9 :: o10 :: o11 :: o12 :: o13 :: o14 :: o15 :: o16 :: o17 :: o18 :: o19 :: o20 :: o21 :: o22 :: ⟨some d, .pick c (.tmp e2) (.const (.bool false)), ty, pos, af, g⟩ :: rest) j true 22 k.choose_spec.1 k.choose_spec.2 rfl hj hdj hbj hc hsk hcd rfl rfl hnd hal hd hg hdd
theorem orr22 {o1 o2 o3 o4 o5 o6 o7 o8 o9 o10 o11 o12 o13 o14 o15 o16 o17 o18 o19 o20 o21 o22 : Oper} {e2 dj : Nat} {b : Bool} {oj : Oper} {c : Operand} {ds : List Nat} (j : Nat)
    (k : ∃ b2, (b = false → ∀ B, EvL P fz B (Kan e2 b2 h) ops [o1, o2, o3, o4, o5, o6, o7, o8, o9, o10, o11, o12, o13, o14, o15, o16, o17, o18, o19, o20, o21, o22] σ h) ∧ EvL P fz B K ops rest ((d, vbool (b || b2)) :: drp ds σ) h)
    (hj : ops[j]? = some oj := by rfl) (hdj : oj.dst = some dj := by rfl) (hbj : rg σ dj = some (vbool b) := by rfl) (hc : og σ c = some (vbool b) := by rfl)
    (hsk : skipping ops j false [] [o1, o2, o3, o4, o5, o6, o7, o8, o9, o10, o11, o12, o13, o14, o15, o16, o17, o18, o19, o20, o21, o22] = some ds := by rfl) (hcd : ∀ t, c = .tmp t → ds.any (Nat.beq t) = false := by intro t ht; cases ht; rfl)
    (hnd : [o1, o2, o3, o4, o5, o6, o7, o8, o9, o10, o11, o12, o13, o14, o15, o16, o17, o18, o19, o20, o21, o22].all (fun o => match o.dst with | some e => !(Nat.beq e dj) | none => true) = true := by rfl)
    (hal : [o1, o2, o3, o4, o5, o6, o7, o8, o9, o10, o11, o12, o13, o14, o15, o16, o17, o18, o19, o20, o21, o22].all (fun o => match o.dst with | some e => ds.any (Nat.beq e) | none => true) = true := by rfl)
    (hd : Nat.ble (d + 1) fz = true := by rfl) (hg : Gk ops σ g := by first | exact gk0 | exact gk1 rfl rfl rfl (by assumption)) (hdd : ∀ dj', (match g with | some (i, _) => (ops[i]?).bind (·.dst) | none => none) = some dj' → ds.any (Nat.beq dj') = false := by first | nofun | (intro _ h; cases h; rfl)) :
    EvL P fz B K ops (o1 :: o2 :: o3 :: o4 :: o5 :: o6 :: o7 :: o8 :: o9 :: o10 :: o11 :: o12 :: o13 :: o14 :: o15 :: o16 :: o17 :: o18 :: o19 :: o20 :: o21 :: o22 :: ⟨some d, .pick c (.const (.bool true)) (.tmp e2), ty, pos, af, g⟩ :: rest) σ h :=
  short (rest := o1 :: o2 :: o3 :: o4 :: o5 :: o6 :: o7 :: o8 :: o9 :: o10 :: o11 :: o12 :: o13 :: o14 :: o15 :: o16 :: o17 :: o18 :: o19 :: o20 :: o21 :: o22 :: ⟨some d, .pick c (.const (.bool true)) (.tmp e2), ty, pos, af, g⟩ :: rest) j false 22 k.choose_spec.1 k.choose_spec.2 rfl hj hdj hbj hc hsk hcd rfl rfl hnd hal hd hg hdd
theorem an23 {o1 o2 o3 o4 o5 o6 o7 o8 o9 o10 o11 o12 o13 o14 o15 o16 o17 o18 o19 o20 o21 o22 o23 : Oper} {e2 dj : Nat} {b : Bool} {oj : Oper} {c : Operand} {ds : List Nat} (j : Nat)
    (k : ∃ b2, (b = true → ∀ B, EvL P fz B (Kan e2 b2 h) ops [o1, o2, o3, o4, o5, o6, o7, o8, o9, o10, o11, o12, o13, o14, o15, o16, o17, o18, o19, o20, o21, o22, o23] σ h) ∧ EvL P fz B K ops rest ((d, vbool (b && b2)) :: drp ds σ) h)
    (hj : ops[j]? = some oj := by rfl) (hdj : oj.dst = some dj := by rfl) (hbj : rg σ dj = some (vbool b) := by rfl) (hc : og σ c = some (vbool b) := by rfl)
    (hsk : skipping ops j true [] [o1, o2, o3, o4, o5, o6, o7, o8, o9, o10, o11, o12, o13, o14, o15, o16, o17, o18, o19, o20, o21, o22, o23] = some ds := by rfl) (hcd : ∀ t, c = .tmp t → ds.any (Nat.beq t) = false := by intro t ht; cases ht; rfl)
    (hnd : [o1, o2, o3, o4, o5, o6, o7, o8, o9, o10, o11, o12, o13, o14, o15, o16, o17, o18, o19, o20, o21, o22, o23].all (fun o => match o.dst with | some e => !(Nat.beq e dj) | none => true) = true := by rfl)
    (hal : [o1, o2, o3, o4, o5, o6, o7, o8, o9, o10, o11, o12, o13, o14, o15, o16, o17, o18, o19, o20, o21, o22, o23].all (fun o => match o.dst with | some e => ds.any (Nat.beq e) | none => true) = true := by rfl)
    (hd : Nat.ble (d + 1) fz = true := by rfl) (hg : Gk ops σ g := by first | exact gk0 | exact gk1 rfl rfl rfl (by assumption)) (hdd : ∀ dj', (match g with | some (i, _) => (ops[i]?).bind (·.dst) | none => none) = some dj' → ds.any (Nat.beq dj') = false := by first | nofun | (intro _ h; cases h; rfl)) :
    EvL P fz B K ops (o1 :: o2 :: o3 :: o4 :: o5 :: o6 :: o7 :: o8 :: o9 :: o10 :: o11 :: o12 :: o13 :: o14 :: o15 :: o16 :: o17 :: o18 :: o19 :: o20 :: o21 :: o22 :: o23 :: ⟨some d, .pick c (.tmp e2) (.const (.bool false)), ty, pos, af, g⟩ :: rest) σ h :=
  short (rest := o1 :: o2 :: o3 :: o4 :: o5 :: o6 :: o7 :: o8 :: o9 :: o10 :: o11 :: o12 :: o13 :: o14 :: o15 :: o16 :: o17 :: o18 :: o19 :: o20 :: o21 :: o22 :: o23 :: ⟨some d, .pick c (.tmp e2) (.const (.bool false)), ty, pos, af, g⟩ :: rest) j true 23 k.choose_spec.1 k.choose_spec.2 rfl hj hdj hbj hc hsk hcd rfl rfl hnd hal hd hg hdd
theorem orr23 {o1 o2 o3 o4 o5 o6 o7 o8 o9 o10 o11 o12 o13 o14 o15 o16 o17 o18 o19 o20 o21 o22 o23 : Oper} {e2 dj : Nat} {b : Bool} {oj : Oper} {c : Operand} {ds : List Nat} (j : Nat)
    (k : ∃ b2, (b = false → ∀ B, EvL P fz B (Kan e2 b2 h) ops [o1, o2, o3, o4, o5, o6, o7, o8, o9, o10, o11, o12, o13, o14, o15, o16, o17, o18, o19, o20, o21, o22, o23] σ h) ∧ EvL P fz B K ops rest ((d, vbool (b || b2)) :: drp ds σ) h)
    (hj : ops[j]? = some oj := by rfl) (hdj : oj.dst = some dj := by rfl) (hbj : rg σ dj = some (vbool b) := by rfl) (hc : og σ c = some (vbool b) := by rfl)
    (hsk : skipping ops j false [] [o1, o2, o3, o4, o5, o6, o7, o8, o9, o10, o11, o12, o13, o14, o15, o16, o17, o18, o19, o20, o21, o22, o23] = some ds := by rfl) (hcd : ∀ t, c = .tmp t → ds.any (Nat.beq t) = false := by intro t ht; cases ht; rfl)
    (hnd : [o1, o2, o3, o4, o5, o6, o7, o8, o9, o10, o11, o12, o13, o14, o15, o16, o17, o18, o19, o20, o21, o22, o23].all (fun o => match o.dst with | some e => !(Nat.beq e dj) | none => true) = true := by rfl)
    (hal : [o1, o2, o3, o4, o5, o6, o7, o8, o9, o10, o11, o12, o13, o14, o15, o16, o17, o18, o19, o20, o21, o22, o23].all (fun o => match o.dst with | some e => ds.any (Nat.beq e) | none => true) = true := by rfl)
    (hd : Nat.ble (d + 1) fz = true := by rfl) (hg : Gk ops σ g := by first | exact gk0 | exact gk1 rfl rfl rfl (by assumption)) (hdd : ∀ dj', (match g with | some (i, _) => (ops[i]?).bind (·.dst) | none => none) = some dj' → ds.any (Nat.beq dj') = false := by first | nofun | (intro _ h; cases h; rfl)) :
    EvL P fz B K ops (o1 :: o2 :: o3 :: o4 :: o5 :: o6 :: o7 :: o8 :: o9 :: o10 :: o11 :: o12 :: o13 :: o14 :: o15 :: o16 :: o17 :: o18 :: o19 :: o20 :: o21 :: o22 :: o23 :: ⟨some d, .pick c (.const (.bool true)) (.tmp e2), ty, pos, af, g⟩ :: rest) σ h :=
  short (rest := o1 :: o2 :: o3 :: o4 :: o5 :: o6 :: o7 :: o8 :: o9 :: o10 :: o11 :: o12 :: o13 :: o14 :: o15 :: o16 :: o17 :: o18 :: o19 :: o20 :: o21 :: o22 :: o23 :: ⟨some d, .pick c (.const (.bool true)) (.tmp e2), ty, pos, af, g⟩ :: rest) j false 23 k.choose_spec.1 k.choose_spec.2 rfl hj hdj hbj hc hsk hcd rfl rfl hnd hal hd hg hdd
theorem an24 {o1 o2 o3 o4 o5 o6 o7 o8 o9 o10 o11 o12 o13 o14 o15 o16 o17 o18 o19 o20 o21 o22 o23 o24 : Oper} {e2 dj : Nat} {b : Bool} {oj : Oper} {c : Operand} {ds : List Nat} (j : Nat)
    (k : ∃ b2, (b = true → ∀ B, EvL P fz B (Kan e2 b2 h) ops [o1, o2, o3, o4, o5, o6, o7, o8, o9, o10, o11, o12, o13, o14, o15, o16, o17, o18, o19, o20, o21, o22, o23, o24] σ h) ∧ EvL P fz B K ops rest ((d, vbool (b && b2)) :: drp ds σ) h)
    (hj : ops[j]? = some oj := by rfl) (hdj : oj.dst = some dj := by rfl) (hbj : rg σ dj = some (vbool b) := by rfl) (hc : og σ c = some (vbool b) := by rfl)
    (hsk : skipping ops j true [] [o1, o2, o3, o4, o5, o6, o7, o8, o9, o10, o11, o12, o13, o14, o15, o16, o17, o18, o19, o20, o21, o22, o23, o24] = some ds := by rfl) (hcd : ∀ t, c = .tmp t → ds.any (Nat.beq t) = false := by intro t ht; cases ht; rfl)
    (hnd : [o1, o2, o3, o4, o5, o6, o7, o8, o9, o10, o11, o12, o13, o14, o15, o16, o17, o18, o19, o20, o21, o22, o23, o24].all (fun o => match o.dst with | some e => !(Nat.beq e dj) | none => true) = true := by rfl)
    (hal : [o1, o2, o3, o4, o5, o6, o7, o8, o9, o10, o11, o12, o13, o14, o15, o16, o17, o18, o19, o20, o21, o22, o23, o24].all (fun o => match o.dst with | some e => ds.any (Nat.beq e) | none => true) = true := by rfl)
    (hd : Nat.ble (d + 1) fz = true := by rfl) (hg : Gk ops σ g := by first | exact gk0 | exact gk1 rfl rfl rfl (by assumption)) (hdd : ∀ dj', (match g with | some (i, _) => (ops[i]?).bind (·.dst) | none => none) = some dj' → ds.any (Nat.beq dj') = false := by first | nofun | (intro _ h; cases h; rfl)) :
    EvL P fz B K ops (o1 :: o2 :: o3 :: o4 :: o5 :: o6 :: o7 :: o8 :: o9 :: o10 :: o11 :: o12 :: o13 :: o14 :: o15 :: o16 :: o17 :: o18 :: o19 :: o20 :: o21 :: o22 :: o23 :: o24 :: ⟨some d, .pick c (.tmp e2) (.const (.bool false)), ty, pos, af, g⟩ :: rest) σ h :=
  short (rest := o1 :: o2 :: o3 :: o4 :: o5 :: o6 :: o7 :: o8 :: o9 :: o10 :: o11 :: o12 :: o13 :: o14 :: o15 :: o16 :: o17 :: o18 :: o19 :: o20 :: o21 :: o22 :: o23 :: o24 :: ⟨some d, .pick c (.tmp e2) (.const (.bool false)), ty, pos, af, g⟩ :: rest) j true 24 k.choose_spec.1 k.choose_spec.2 rfl hj hdj hbj hc hsk hcd rfl rfl hnd hal hd hg hdd
theorem orr24 {o1 o2 o3 o4 o5 o6 o7 o8 o9 o10 o11 o12 o13 o14 o15 o16 o17 o18 o19 o20 o21 o22 o23 o24 : Oper} {e2 dj : Nat} {b : Bool} {oj : Oper} {c : Operand} {ds : List Nat} (j : Nat)
    (k : ∃ b2, (b = false → ∀ B, EvL P fz B (Kan e2 b2 h) ops [o1, o2, o3, o4, o5, o6, o7, o8, o9, o10, o11, o12, o13, o14, o15, o16, o17, o18, o19, o20, o21, o22, o23, o24] σ h) ∧ EvL P fz B K ops rest ((d, vbool (b || b2)) :: drp ds σ) h)
    (hj : ops[j]? = some oj := by rfl) (hdj : oj.dst = some dj := by rfl) (hbj : rg σ dj = some (vbool b) := by rfl) (hc : og σ c = some (vbool b) := by rfl)
    (hsk : skipping ops j false [] [o1, o2, o3, o4, o5, o6, o7, o8, o9, o10, o11, o12, o13, o14, o15, o16, o17, o18, o19, o20, o21, o22, o23, o24] = some ds := by rfl) (hcd : ∀ t, c = .tmp t → ds.any (Nat.beq t) = false := by intro t ht; cases ht; rfl)
    (hnd : [o1, o2, o3, o4, o5, o6, o7, o8, o9, o10, o11, o12, o13, o14, o15, o16, o17, o18, o19, o20, o21, o22, o23, o24].all (fun o => match o.dst with | some e => !(Nat.beq e dj) | none => true) = true := by rfl)
    (hal : [o1, o2, o3, o4, o5, o6, o7, o8, o9, o10, o11, o12, o13, o14, o15, o16, o17, o18, o19, o20, o21, o22, o23, o24].all (fun o => match o.dst with | some e => ds.any (Nat.beq e) | none => true) = true := by rfl)
    (hd : Nat.ble (d + 1) fz = true := by rfl) (hg : Gk ops σ g := by first | exact gk0 | exact gk1 rfl rfl rfl (by assumption)) (hdd : ∀ dj', (match g with | some (i, _) => (ops[i]?).bind (·.dst) | none => none) = some dj' → ds.any (Nat.beq dj') = false := by first | nofun | (intro _ h; cases h; rfl)) :
    EvL P fz B K ops (o1 :: o2 :: o3 :: o4 :: o5 :: o6 :: o7 :: o8 :: o9 :: o10 :: o11 :: o12 :: o13 :: o14 :: o15 :: o16 :: o17 :: o18 :: o19 :: o20 :: o21 :: o22 :: o23 :: o24 :: ⟨some d, .pick c (.const (.bool true)) (.tmp e2), ty, pos, af, g⟩ :: rest) σ h :=
  short (rest := o1 :: o2 :: o3 :: o4 :: o5 :: o6 :: o7 :: o8 :: o9 :: o10 :: o11 :: o12 :: o13 :: o14 :: o15 :: o16 :: o17 :: o18 :: o19 :: o20 :: o21 :: o22 :: o23 :: o24 :: ⟨some d, .pick c (.const (.bool true)) (.tmp e2), ty, pos, af, g⟩ :: rest) j false 24 k.choose_spec.1 k.choose_spec.2 rfl hj hdj hbj hc hsk hcd rfl rfl hnd hal hd hg hdd
theorem an25 {o1 o2 o3 o4 o5 o6 o7 o8 o9 o10 o11 o12 o13 o14 o15 o16 o17 o18 o19 o20 o21 o22 o23 o24 o25 : Oper} {e2 dj : Nat} {b : Bool} {oj : Oper} {c : Operand} {ds : List Nat} (j : Nat)
    (k : ∃ b2, (b = true → ∀ B, EvL P fz B (Kan e2 b2 h) ops [o1, o2, o3, o4, o5, o6, o7, o8, o9, o10, o11, o12, o13, o14, o15, o16, o17, o18, o19, o20, o21, o22, o23, o24, o25] σ h) ∧ EvL P fz B K ops rest ((d, vbool (b && b2)) :: drp ds σ) h)
    (hj : ops[j]? = some oj := by rfl) (hdj : oj.dst = some dj := by rfl) (hbj : rg σ dj = some (vbool b) := by rfl) (hc : og σ c = some (vbool b) := by rfl)
    (hsk : skipping ops j true [] [o1, o2, o3, o4, o5, o6, o7, o8, o9, o10, o11, o12, o13, o14, o15, o16, o17, o18, o19, o20, o21, o22, o23, o24, o25] = some ds := by rfl) (hcd : ∀ t, c = .tmp t → ds.any (Nat.beq t) = false := by intro t ht; cases ht; rfl)
    (hnd : [o1, o2, o3, o4, o5, o6, o7, o8, o9, o10, o11, o12, o13, o14, o15, o16, o17, o18, o19, o20, o21, o22, o23, o24, o25].all (fun o => match o.dst with | some e => !(Nat.beq e dj) | none => true) = true := by rfl)
    (hal : [o1, o2, o3, o4, o5, o6, o7, o8, o9, o10, o11, o12, o13, o14, o15, o16, o17, o18, o19, o20, o21, o22, o23, o24, o25].all (fun o => match o.dst with | some e => ds.any (Nat.beq e) | none => true) = true := by rfl)
    (hd : Nat.ble (d + 1) fz = true := by rfl) (hg : Gk ops σ g := by first | exact gk0 | exact gk1 rfl rfl rfl (by assumption)) (hdd : ∀ dj', (match g with | some (i, _) => (ops[i]?).bind (·.dst) | none => none) = some dj' → ds.any (Nat.beq dj') = false := by first | nofun | (intro _ h; cases h; rfl)) :
    EvL P fz B K ops (o1 :: o2 :: o3 :: o4 :: o5 :: o6 :: o7 :: o8 :: o9 :: o10 :: o11 :: o12 :: o13 :: o14 :: o15 :: o16 :: o17 :: o18 :: o19 :: o20 :: o21 :: o22 :: o23 :: o24 :: o25 :: ⟨some d, .pick c (.tmp e2) (.const (.bool false)), ty, pos, af, g⟩ :: rest) σ h :=
  short (rest := o1 :: o2 :: o3 :: o4 :: o5 :: o6 :: o7 :: o8 :: o9 :: o10 :: o11 :: o12 :: o13 :: o14 :: o15 :: o16 :: o17 :: o18 :: o19 :: o20 :: o21 :: o22 :: o23 :: o24 :: o25 :: ⟨some d, .pick c (.tmp e2) (.const (.bool false)), ty, pos, af, g⟩ :: rest) j true 25 k.choose_spec.1 k.choose_spec.2 rfl hj hdj hbj hc hsk hcd rfl rfl hnd hal hd hg hdd
theorem orr25 {o1 o2 o3 o4 o5 o6 o7 o8 o9 o10 o11 o12 o13 o14 o15 o16 o17 o18 o19 o20 o21 o22 o23 o24 o25 : Oper} {e2 dj : Nat} {b : Bool} {oj : Oper} {c : Operand} {ds : List Nat} (j : Nat)
    (k : ∃ b2, (b = false → ∀ B, EvL P fz B (Kan e2 b2 h) ops [o1, o2, o3, o4, o5, o6, o7, o8, o9, o10, o11, o12, o13, o14, o15, o16, o17, o18, o19, o20, o21, o22, o23, o24, o25] σ h) ∧ EvL P fz B K ops rest ((d, vbool (b || b2)) :: drp ds σ) h)
    (hj : ops[j]? = some oj := by rfl) (hdj : oj.dst = some dj := by rfl) (hbj : rg σ dj = some (vbool b) := by rfl) (hc : og σ c = some (vbool b) := by rfl)
    (hsk : skipping ops j false [] [o1, o2, o3, o4, o5, o6, o7, o8, o9, o10, o11, o12, o13, o14, o15, o16, o17, o18, o19, o20, o21, o22, o23, o24, o25] = some ds := by rfl) (hcd : ∀ t, c = .tmp t → ds.any (Nat.beq t) = false := by intro t ht; cases ht; rfl)
    (hnd : [o1, o2, o3, o4, o5, o6, o7, o8, o9, o10, o11, o12, o13, o14, o15, o16, o17, o18, o19, o20, o21, o22, o23, o24, o25].all (fun o => match o.dst with | some e => !(Nat.beq e dj) | none => true) = true := by rfl)
    (hal : [o1, o2, o3, o4, o5, o6, o7, o8, o9, o10, o11, o12, o13, o14, o15, o16, o17, o18, o19, o20, o21, o22, o23, o24, o25].all (fun o => match o.dst with | some e => ds.any (Nat.beq e) | none => true) = true := by rfl)
    (hd : Nat.ble (d + 1) fz = true := by rfl) (hg : Gk ops σ g := by first | exact gk0 | exact gk1 rfl rfl rfl (by assumption)) (hdd : ∀ dj', (match g with | some (i, _) => (ops[i]?).bind (·.dst) | none => none) = some dj' → ds.any (Nat.beq dj') = false := by first | nofun | (intro _ h; cases h; rfl)) :
    EvL P fz B K ops (o1 :: o2 :: o3 :: o4 :: o5 :: o6 :: o7 :: o8 :: o9 :: o10 :: o11 :: o12 :: o13 :: o14 :: o15 :: o16 :: o17 :: o18 :: o19 :: o20 :: o21 :: o22 :: o23 :: o24 :: o25 :: ⟨some d, .pick c (.const (.bool true)) (.tmp e2), ty, pos, af, g⟩ :: rest) σ h :=
  short (rest := o1 :: o2 :: o3 :: o4 :: o5 :: o6 :: o7 :: o8 :: o9 :: o10 :: o11 :: o12 :: o13 :: o14 :: o15 :: o16 :: o17 :: o18 :: o19 :: o20 :: o21 :: o22 :: o23 :: o24 :: o25 :: ⟨some d, .pick c (.const (.bool true)) (.tmp e2), ty, pos, af, g⟩ :: rest) j false 25 k.choose_spec.1 k.choose_spec.2 rfl hj hdj hbj hc hsk hcd rfl rfl hnd hal hd hg hdd
theorem an26 {o1 o2 o3 o4 o5 o6 o7 o8 o9 o10 o11 o12 o13 o14 o15 o16 o17 o18 o19 o20 o21 o22 o23 o24 o25 o26 : Oper} {e2 dj : Nat} {b : Bool} {oj : Oper} {c : Operand} {ds : List Nat} (j : Nat)
    (k : ∃ b2, (b = true → ∀ B, EvL P fz B (Kan e2 b2 h) ops [o1, o2, o3, o4, o5, o6, o7, o8, o9, o10, o11, o12, o13, o14, o15, o16, o17, o18, o19, o20, o21, o22, o23, o24, o25, o26] σ h) ∧ EvL P fz B K ops rest ((d, vbool (b && b2)) :: drp ds σ) h)
    (hj : ops[j]? = some oj := by rfl) (hdj : oj.dst = some dj := by rfl) (hbj : rg σ dj = some (vbool b) := by rfl) (hc : og σ c = some (vbool b) := by rfl)
    (hsk : skipping ops j true [] [o1, o2, o3, o4, o5, o6, o7, o8, o9, o10, o11, o12, o13, o14, o15, o16, o17, o18, o19, o20, o21, o22, o23, o24, o25, o26] = some ds := by rfl) (hcd : ∀ t, c = .tmp t → ds.any (Nat.beq t) = false := by intro t ht; cases ht; rfl)
    (hnd : [o1, o2, o3, o4, o5, o6, o7, o8, o9, o10, o11, o12, o13, o14, o15, o16, o17, o18, o19, o20, o21, o22, o23, o24, o25, o26].all (fun o => match o.dst with | some e => !(Nat.beq e dj) | none => true) = true := by rfl)
    (hal : [o1, o2, o3, o4, o5, o6, o7, o8, o9, o10, o11, o12, o13, o14, o15, o16, o17, o18, o19, o20, o21, o22, o23, o24, o25, o26].all (fun o => match o.dst with | some e => ds.any (Nat.beq e) | none => true) = true := by rfl)
    (hd : Nat.ble (d + 1) fz = true := by rfl) (hg : Gk ops σ g := by first | exact gk0 | exact gk1 rfl rfl rfl (by assumption)) (hdd : ∀ dj', (match g with | some (i, _) => (ops[i]?).bind (·.dst) | none => none) = some dj' → ds.any (Nat.beq dj') = false := by first | nofun | (intro _ h; cases h; rfl)) :
    EvL P fz B K ops (o1 :: o2 :: o3 :: o4 :: o5 :: o6 :: o7 :: o8 :: o9 :: o10 :: o11 :: o12 :: o13 :: o14 :: o15 :: o16 :: o17 :: o18 :: o19 :: o20 :: o21 :: o22 :: o23 :: o24 :: o25 :: o26 :: ⟨some d, .pick c (.tmp e2) (.const (.bool false)), ty, pos, af, g⟩ :: rest) σ h :=
  short (rest := o1 :: o2 :: o3 :: o4 :: o5 :: o6 :: o7 :: o8 :: o9 :: o10 :: o11 :: o12 :: o13 :: o14 :: o15 :: o16 :: o17 :: o18 :: o19 :: o20 :: o21 :: o22 :: o23 :: o24 :: o25 :: o26 :: ⟨some d, .pick c (.tmp e2) (.const (.bool false)), ty, pos, af, g⟩ :: rest) j true 26 k.choose_spec.1 k.choose_spec.2 rfl hj hdj hbj hc hsk hcd rfl rfl hnd hal hd hg hdd
theorem orr26 {o1 o2 o3 o4 o5 o6 o7 o8 o9 o10 o11 o12 o13 o14 o15 o16 o17 o18 o19 o20 o21 o22 o23 o24 o25 o26 : Oper} {e2 dj : Nat} {b : Bool} {oj : Oper} {c : Operand} {ds : List Nat} (j : Nat)
    (k : ∃ b2, (b = false → ∀ B, EvL P fz B (Kan e2 b2 h) ops [o1, o2, o3, o4, o5, o6, o7, o8, o9, o10, o11, o12, o13, o14, o15, o16, o17, o18, o19, o20, o21, o22, o23, o24, o25, o26] σ h) ∧ EvL P fz B K ops rest ((d, vbool (b || b2)) :: drp ds σ) h)
    (hj : ops[j]? = some oj := by rfl) (hdj : oj.dst = some dj := by rfl) (hbj : rg σ dj = some (vbool b) := by rfl) (hc : og σ c = some (vbool b) := by rfl)
    (hsk : skipping ops j false [] [o1, o2, o3, o4, o5, o6, o7, o8, o9, o10, o11, o12, o13, o14, o15, o16, o17, o18, o19, o20, o21, o22, o23, o24, o25, o26] = some ds := by rfl) (hcd : ∀ t, c = .tmp t → ds.any (Nat.beq t) = false := by intro t ht; cases ht; rfl)
    (hnd : [o1, o2, o3, o4, o5, o6, o7, o8, o9, o10, o11, o12, o13, o14, o15, o16, o17, o18, o19, o20, o21, o22, o23, o24, o25, o26].all (fun o => match o.dst with | some e => !(Nat.beq e dj) | none => true) = true := by rfl)
    (hal : [o1, o2, o3, o4, o5, o6, o7, o8, o9, o10, o11, o12, o13, o14, o15, o16, o17, o18, o19, o20, o21, o22, o23, o24, o25, o26].all (fun o => match o.dst with | some e => ds.any (Nat.beq e) | none => true) = true := by rfl)
    (hd : Nat.ble (d + 1) fz = true := by rfl) (hg : Gk ops σ g := by first | exact gk0 | exact gk1 rfl rfl rfl (by assumption)) (hdd : ∀ dj', (match g with | some (i, _) => (ops[i]?).bind (·.dst) | none => none) = some dj' → ds.any (Nat.beq dj') = false := by first | nofun | (intro _ h; cases h; rfl)) :
    EvL P fz B K ops (o1 :: o2 :: o3 :: o4 :: o5 :: o6 :: o7 :: o8 :: o9 :: o10 :: o11 :: o12 :: o13 :: o14 :: o15 :: o16 :: o17 :: o18 :: o19 :: o20 :: o21 :: o22 :: o23 :: o24 :: o25 :: o26 :: ⟨some d, .pick c (.const (.bool true)) (.tmp e2), ty, pos, af, g⟩ :: rest) σ h :=
  short (rest := o1 :: o2 :: o3 :: o4 :: o5 :: o6 :: o7 :: o8 :: o9 :: o10 :: o11 :: o12 :: o13 :: o14 :: o15 :: o16 :: o17 :: o18 :: o19 :: o20 :: o21 :: o22 :: o23 :: o24 :: o25 :: o26 :: ⟨some d, .pick c (.const (.bool true)) (.tmp e2), ty, pos, af, g⟩ :: rest) j false 26 k.choose_spec.1 k.choose_spec.2 rfl hj hdj hbj hc hsk hcd rfl rfl hnd hal hd hg hdd
theorem an27 {o1 o2 o3 o4 o5 o6 o7 o8 o9 o10 o11 o12 o13 o14 o15 o16 o17 o18 o19 o20 o21 o22 o23 o24 o25 o26 o27 : Oper} {e2 dj : Nat} {b : Bool} {oj : Oper} {c : Operand} {ds : List Nat} (j : Nat)
    (k : ∃ b2, (b = true → ∀ B, EvL P fz B (Kan e2 b2 h) ops [o1, o2, o3, o4, o5, o6, o7, o8, o9, o10, o11, o12, o13, o14, o15, o16, o17, o18, o19, o20, o21, o22, o23, o24, o25, o26, o27] σ h) ∧ EvL P fz B K ops rest ((d, vbool (b && b2)) :: drp ds σ) h)
    (hj : ops[j]? = some oj := by rfl) (hdj : oj.dst = some dj := by rfl) (hbj : rg σ dj = some (vbool b) := by rfl) (hc : og σ c = some (vbool b) := by rfl)
    (hsk : skipping ops j true [] [o1, o2, o3, o4, o5, o6, o7, o8, o9, o10, o11, o12, o13, o14, o15, o16, o17, o18, o19, o20, o21, o22, o23, o24, o25, o26, o27] = some ds := by rfl) (hcd : ∀ t, c = .tmp t → ds.any (Nat.beq t) = false := by intro t ht; cases ht; rfl)
    (hnd : [o1, o2, o3, o4, o5, o6, o7, o8, o9, o10, o11, o12, o13, o14, o15, o16, o17, o18, o19, o20, o21, o22, o23, o24, o25, o26, o27].all (fun o => match o.dst with | some e => !(Nat.beq e dj) | none => true) = true := by rfl)
    (hal : [o1, o2, o3, o4, o5, o6, o7, o8, o9, o10, o11, o12, o13, o14, o15, o16, o17, o18, o19, o20, o21, o22, o23, o24, o25, o26, o27].all (fun o => match o.dst with | some e => ds.any (Nat.beq e) | none => true) = true := by rfl)
    (hd : Nat.ble (d + 1) fz = true := by rfl) (hg : Gk ops σ g := by first | exact gk0 | exact gk1 rfl rfl rfl (by assumption)) (hdd : ∀ dj', (match g with | some (i, _) => (ops[i]?).bind (·.dst) | none => none) = some dj' → ds.any (Nat.beq dj') = false := by first | nofun | (intro _ h; cases h; rfl)) :
    EvL P fz B K ops (o1 :: o2 :: o3 :: o4 :: o5 :: o6 :: o7 :: o8 :: o9 :: o10 :: o11 :: o12 :: o13 :: o14 :: o15 :: o16 :: o17 :: o18 :: o19 :: o20 :: o21 :: o22 :: o23 :: o24 :: o25 :: o26 :: o27 :: ⟨some d, .pick c (.tmp e2) (.const (.bool false)), ty, pos, af, g⟩ :: rest) σ h :=
  short (rest := o1 :: o2 :: o3 :: o4 :: o5 :: o6 :: o7 :: o8 :: o9 :: o10 :: o11 :: o12 :: o13 :: o14 :: o15 :: o16 :: o17 :: o18 :: o19 :: o20 :: o21 :: o22 :: o23 :: o24 :: o25 :: o26 :: o27 :: ⟨some d, .pick c (.tmp e2) (.const (.bool false)), ty, pos, af, g⟩ :: rest) j true 27 k.choose_spec.1 k.choose_spec.2 rfl hj hdj hbj hc hsk hcd rfl rfl hnd hal hd hg hdd
theorem orr27 {o1 o2 o3 o4 o5 o6 o7 o8 o9 o10 o11 o12 o13 o14 o15 o16 o17 o18 o19 o20 o21 o22 o23 o24 o25 o26 o27 : Oper} {e2 dj : Nat} {b : Bool} {oj : Oper} {c : Operand} {ds : List Nat} (j : Nat)
    (k : ∃ b2, (b = false → ∀ B, EvL P fz B (Kan e2 b2 h) ops [o1, o2, o3, o4, o5, o6, o7, o8, o9, o10, o11, o12, o13, o14, o15, o16, o17, o18, o19, o20, o21, o22, o23, o24, o25, o26, o27] σ h) ∧ EvL P fz B K ops rest ((d, vbool (b || b2)) :: drp ds σ) h)
    (hj : ops[j]? = some oj := by rfl) (hdj : oj.dst = some dj := by rfl) (hbj : rg σ dj = some (vbool b) := by rfl) (hc : og σ c = some (vbool b) := by rfl)
    (hsk : skipping ops j false [] [o1, o2, o3, o4, o5, o6, o7, o8, o9, o10, o11, o12, o13, o14, o15, o16, o17, o18, o19, o20, o21, o22, o23, o24, o25, o26, o27] = some ds := by rfl) (hcd : ∀ t, c = .tmp t → ds.any (Nat.beq t) = false := by intro t ht; cases ht; rfl)
    (hnd : [o1, o2, o3, o4, o5, o6, o7, o8, o9, o10, o11, o12, o13, o14, o15, o16, o17, o18, o19, o20, o21, o22, o23, o24, o25, o26, o27].all (fun o => match o.dst with | some e => !(Nat.beq e dj) | none => true) = true := by rfl)
    (hal : [o1, o2, o3, o4, o5, o6, o7, o8, o9, o10, o11, o12, o13, o14, o15, o16, o17, o18, o19, o20, o21, o22, o23, o24, o25, o26, o27].all (fun o => match o.dst with | some e => ds.any (Nat.beq e) | none => true) = true := by rfl)
    (hd : Nat.ble (d + 1) fz = true := by rfl) (hg : Gk ops σ g := by first | exact gk0 | exact gk1 rfl rfl rfl (by assumption)) (hdd : ∀ dj', (match g with | some (i, _) => (ops[i]?).bind (·.dst) | none => none) = some dj' → ds.any (Nat.beq dj') = false := by first | nofun | (intro _ h; cases h; rfl)) :
    EvL P fz B K ops (o1 :: o2 :: o3 :: o4 :: o5 :: o6 :: o7 :: o8 :: o9 :: o10 :: o11 :: o12 :: o13 :: o14 :: o15 :: o16 :: o17 :: o18 :: o19 :: o20 :: o21 :: o22 :: o23 :: o24 :: o25 :: o26 :: o27 :: ⟨some d, .pick c (.const (.bool true)) (.tmp e2), ty, pos, af, g⟩ :: rest) σ h :=
  short (rest := o1 :: o2 :: o3 :: o4 :: o5 :: o6 :: o7 :: o8 :: o9 :: o10 :: o11 :: o12 :: o13 :: o14 :: o15 :: o16 :: o17 :: o18 :: o19 :: o20 :: o21 :: o22 :: o23 :: o24 :: o25 :: o26 :: o27 :: ⟨some d, .pick c (.const (.bool true)) (.tmp e2), ty, pos, af, g⟩ :: rest) j false 27 k.choose_spec.1 k.choose_spec.2 rfl hj hdj hbj hc hsk hcd rfl rfl hnd hal hd hg hdd
theorem an28 {o1 o2 o3 o4 o5 o6 o7 o8 o9 o10 o11 o12 o13 o14 o15 o16 o17 o18 o19 o20 o21 o22 o23 o24 o25 o26 o27 o28 : Oper} {e2 dj : Nat} {b : Bool} {oj : Oper} {c : Operand} {ds : List Nat} (j : Nat)
    (k : ∃ b2, (b = true → ∀ B, EvL P fz B (Kan e2 b2 h) ops [o1, o2, o3, o4, o5, o6, o7, o8, o9, o10, o11, o12, o13, o14, o15, o16, o17, o18, o19, o20, o21, o22, o23, o24, o25, o26, o27, o28] σ h) ∧ EvL P fz B K ops rest ((d, vbool (b && b2)) :: drp ds σ) h)
    (hj : ops[j]? = some oj := by rfl) (hdj : oj.dst = some dj := by rfl) (hbj : rg σ dj = some (vbool b) := by rfl) (hc : og σ c = some (vbool b) := by rfl)
    (hsk : skipping ops j true [] [o1, o2, o3, o4, o5, o6, o7, o8, o9, o10, o11, o12, o13, o14, o15, o16, o17, o18, o19, o20, o21, o22, o23, o24, o25, o26, o27, o28] = some ds := by rfl) (hcd : ∀ t, c = .tmp t → ds.any (Nat.beq t) = false := by intro t ht; cases ht; rfl)
    (hnd : [o1, o2, o3, o4, o5, o6, o7, o8, o9, o10, o11, o12, o13, o14, o15, o16, o17, o18, o19, o20, o21, o22, o23, o24, o25, o26, o27, o28].all (fun o => match o.dst with | some e => !(Nat.beq e dj) | none => true) = true := by rfl)
    (hal : [o1, o2, o3, o4, o5, o6, o7, o8, o9, o10, o11, o12, o13, o14, o15, o16, o17, o18, o19, o20, o21, o22, o23, o24, o25, o26, o27, o28].all (fun o => match o.dst with | some e => ds.any (Nat.beq e) | none => true) = true := by rfl)
    (hd : Nat.ble (d + 1) fz = true := by rfl) (hg : Gk ops σ g := by first | exact gk0 | exact gk1 rfl rfl rfl (by assumption)) (hdd : ∀ dj', (match g with | some (i, _) => (ops[i]?).bind (·.dst) | none => none) = some dj' → ds.any (Nat.beq dj') = false := by first | nofun | (intro _ h; cases h; rfl)) :
    EvL P fz B K ops (o1 :: o2 :: o3 :: o4 :: o5 :: o6 :: o7 :: o8 :: o9 :: o10 :: o11 :: o12 :: o13 :: o14 :: o15 :: o16 :: o17 :: o18 :: o19 :: o20 :: o21 :: o22 :: o23 :: o24 :: o25 :: o26 :: o27 :: o28 :: ⟨some d, .pick c (.tmp e2) (.const (.bool false)), ty, pos, af, g⟩ :: rest) σ h :=
  short (rest := o1 :: o2 :: o3 :: o4 :: o5 :: o6 :: o7 :: o8 :: o9 :: o10 :: o11 :: o12 :: o13 :: o14 :: o15 :: o16 :: o17 :: o18 :: o19 :: o20 :: o21 :: o22 :: o23 :: o24 :: o25 :: o26 :: o27 :: o28 :: ⟨some d, .pick c (.tmp e2) (.const (.bool false)), ty, pos, af, g⟩ :: rest) j true 28 k.choose_spec.1 k.choose_spec.2 rfl hj hdj hbj hc hsk hcd rfl rfl hnd hal hd hg hdd
theorem orr28 {o1 o2 o3 o4 o5 o6 o7 o8 o9 o10 o11 o12 o13 o14 o15 o16 o17 o18 o19 o20 o21 o22 o23 o24 o25 o26 o27 o28 : Oper} {e2 dj : Nat} {b : Bool} {oj : Oper} {c : Operand} {ds : List Nat} (j : Nat)
    (k : ∃ b2, (b = false → ∀ B, EvL P fz B (Kan e2 b2 h) ops [o1, o2, o3, o4, o5, o6, o7, o8, o9, o10, o11, o12, o13, o14, o15, o16, o17, o18, o19, o20, o21, o22, o23, o24, o25, o26, o27, o28] σ h) ∧ EvL P fz B K ops rest ((d, vbool (b || b2)) :: drp ds σ) h)
    (hj : ops[j]? = some oj := by rfl) (hdj : oj.dst = some dj := by rfl) (hbj : rg σ dj = some (vbool b) := by rfl) (hc : og σ c = some (vbool b) := by rfl)
    (hsk : skipping ops j false [] [o1, o2, o3, o4, o5, o6, o7, o8, o9, o10, o11, o12, o13, o14, o15, o16, o17, o18, o19, o20, o21, o22, o23, o24, o25, o26, o27, o28] = some ds := by rfl) (hcd : ∀ t, c = .tmp t → ds.any (Nat.beq t) = false := by intro t ht; cases ht; rfl)
    (hnd : [o1, o2, o3, o4, o5, o6, o7, o8, o9, o10, o11, o12, o13, o14, o15, o16, o17, o18, o19, o20, o21, o22, o23, o24, o25, o26, o27, o28].all (fun o => match o.dst with | some e => !(Nat.beq e dj) | none => true) = true := by rfl)
    (hal : [o1, o2, o3, o4, o5, o6, o7, o8, o9, o10, o11, o12, o13, o14, o15, o16, o17, o18, o19, o20, o21, o22, o23, o24, o25, o26, o27, o28].all (fun o => match o.dst with | some e => ds.any (Nat.beq e) | none => true) = true := by rfl)
    (hd : Nat.ble (d + 1) fz = true := by rfl) (hg : Gk ops σ g := by first | exact gk0 | exact gk1 rfl rfl rfl (by assumption)) (hdd : ∀ dj', (match g with | some (i, _) => (ops[i]?).bind (·.dst) | none => none) = some dj' → ds.any (Nat.beq dj') = false := by first | nofun | (intro _ h; cases h; rfl)) :
    EvL P fz B K ops (o1 :: o2 :: o3 :: o4 :: o5 :: o6 :: o7 :: o8 :: o9 :: o10 :: o11 :: o12 :: o13 :: o14 :: o15 :: o16 :: o17 :: o18 :: o19 :: o20 :: o21 :: o22 :: o23 :: o24 :: o25 :: o26 :: o27 :: o28 :: ⟨some d, .pick c (.const (.bool true)) (.tmp e2), ty, pos, af, g⟩ :: rest) σ h :=
  short (rest := o1 :: o2 :: o3 :: o4 :: o5 :: o6 :: o7 :: o8 :: o9 :: o10 :: o11 :: o12 :: o13 :: o14 :: o15 :: o16 :: o17 :: o18 :: o19 :: o20 :: o21 :: o22 :: o23 :: o24 :: o25 :: o26 :: o27 :: o28 :: ⟨some d, .pick c (.const (.bool true)) (.tmp e2), ty, pos, af, g⟩ :: rest) j false 28 k.choose_spec.1 k.choose_spec.2 rfl hj hdj hbj hc hsk hcd rfl rfl hnd hal hd hg hdd
theorem an29 {o1 o2 o3 o4 o5 o6 o7 o8 o9 o10 o11 o12 o13 o14 o15 o16 o17 o18 o19 o20 o21 o22 o23 o24 o25 o26 o27 o28 o29 : Oper} {e2 dj : Nat} {b : Bool} {oj : Oper} {c : Operand} {ds : List Nat} (j : Nat)
    (k : ∃ b2, (b = true → ∀ B, EvL P fz B (Kan e2 b2 h) ops [o1, o2, o3, o4, o5, o6, o7, o8, o9, o10, o11, o12, o13, o14, o15, o16, o17, o18, o19, o20, o21, o22, o23, o24, o25, o26, o27, o28, o29] σ h) ∧ EvL P fz B K ops rest ((d, vbool (b && b2)) :: drp ds σ) h)
    (hj : ops[j]? = some oj := by rfl) (hdj : oj.dst = some dj := by rfl) (hbj : rg σ dj = some (vbool b) := by rfl) (hc : og σ c = some (vbool b) := by rfl)
    (hsk : skipping ops j true [] [o1, o2, o3, o4, o5, o6, o7, o8, o9, o10, o11, o12, o13, o14, o15, o16, o17, o18, o19, o20, o21, o22, o23, o24, o25, o26, o27, o28, o29] = some ds := by rfl) (hcd : ∀ t, c = .tmp t → ds.any (Nat.beq t) = false := by intro t ht; cases ht; rfl)
    (hnd : [o1, o2, o3, o4, o5, o6, o7, o8, o9, o10, o11, o12, o13, o14, o15, o16, o17, o18, o19, o20, o21, o22, o23, o24, o25, o26, o27, o28, o29].all (fun o => match o.dst with | some e => !(Nat.beq e dj) | none => true) = true := by rfl)
    (hal : [o1, o2, o3, o4, o5, o6, o7, o8, o9, o10, o11, o12, o13, o14, o15, o16, o17, o18, o19, o20, o21, o22, o23, o24, o25, o26, o27, o28, o29].all (fun o => match o.dst with | some e => ds.any (Nat.beq e) | none => true) = true := by rfl)
    (hd : Nat.ble (d + 1) fz = true := by rfl) (hg : Gk ops σ g := by first | exact gk0 | exact gk1 rfl rfl rfl (by assumption)) (hdd : ∀ dj', (match g with | some (i, _) => (ops[i]?).bind (·.dst) | none => none) = some dj' → ds.any (Nat.beq dj') = false := by first | nofun | (intro _ h; cases h; rfl)) :
    EvL P fz B K ops (o1 :: o2 :: o3 :: o4 :: o5 :: o6 :: o7 :: o8 :: o9 :: o10 :: o11 :: o12 :: o13 :: o14 :: o15 :: o16 :: o17 :: o18 :: o19 :: o20 :: o21 :: o22 :: o23 :: o24 :: o25 :: o26 :: o27 :: o28 :: o29 :: ⟨some d, .pick c (.tmp e2) (.const (.bool false)), ty, pos, af, g⟩ :: rest) σ h :=
  short (rest := o1 :: o2 :: o3 :: o4 :: o5 :: o6 :: o7 :: o8 :: o9 :: o10 :: o11 :: o12 :: o13 :: o14 :: o15 :: o16 :: o17 :: o18 :: o19 :: o20 :: o21 :: o22 :: o23 :: o24 :: o25 :: o26 :: o27 :: o28 :: o29 :: ⟨some d, .pick c (.tmp e2) (.const (.bool false)), ty, pos, af, g⟩ :: rest) j true 29 k.choose_spec.1 k.choose_spec.2 rfl hj hdj hbj hc hsk hcd rfl rfl hnd hal hd hg hdd
theorem orr29 {o1 o2 o3 o4 o5 o6 o7 o8 o9 o10 o11 o12 o13 o14 o15 o16 o17 o18 o19 o20 o21 o22 o23 o24 o25 o26 o27 o28 o29 : Oper} {e2 dj : Nat} {b : Bool} {oj : Oper} {c : Operand} {ds : List Nat} (j : Nat)
    (k : ∃ b2, (b = false → ∀ B, EvL P fz B (Kan e2 b2 h) ops [o1, o2, o3, o4, o5, o6, o7, o8, o9, o10, o11, o12, o13, o14, o15, o16, o17, o18, o19, o20, o21, o22, o23, o24, o25, o26, o27, o28, o29] σ h) ∧ EvL P fz B K ops rest ((d, vbool (b || b2)) :: drp ds σ) h)
    (hj : ops[j]? = some oj := by rfl) (hdj : oj.dst = some dj := by rfl) (hbj : rg σ dj = some (vbool b) := by rfl) (hc : og σ c = some (vbool b) := by rfl)
    (hsk : skipping ops j false [] [o1, o2, o3, o4, o5, o6, o7, o8, o9, o10, o11, o12, o13, o14, o15, o16, o17, o18, o19, o20, o21, o22, o23, o24, o25, o26, o27, o28, o29] = some ds := by rfl) (hcd : ∀ t, c = .tmp t → ds.any (Nat.beq t) = false := by intro t ht; cases ht; rfl)
    (hnd : [o1, o2, o3, o4, o5, o6, o7, o8, o9, o10, o11, o12, o13, o14, o15, o16, o17, o18, o19, o20, o21, o22, o23, o24, o25, o26, o27, o28, o29].all (fun o => match o.dst with | some e => !(Nat.beq e dj) | none => true) = true := by rfl)
    (hal : [o1, o2, o3, o4, o5, o6, o7, o8, o9, o10, o11, o12, o13, o14, o15, o16, o17, o18, o19, o20, o21, o22, o23, o24, o25, o26, o27, o28, o29].all (fun o => match o.dst with | some e => ds.any (Nat.beq e) | none => true) = true := by rfl)
    (hd : Nat.ble (d + 1) fz = true := by rfl) (hg : Gk ops σ g := by first | exact gk0 | exact gk1 rfl rfl rfl (by assumption)) (hdd : ∀ dj', (match g with | some (i, _) => (ops[i]?).bind (·.dst) | none => none) = some dj' → ds.any (Nat.beq dj') = false := by first | nofun | (intro _ h; cases h; rfl)) :
    EvL P fz B K ops (o1 :: o2 :: o3 :: o4 :: o5 :: o6 :: o7 :: o8 :: o9 :: o10 :: o11 :: o12 :: o13 :: o14 :: o15 :: o16 :: o17 :: o18 :: o19 :: o20 :: o21 :: o22 :: o23 :: o24 :: o25 :: o26 :: o27 :: o28 :: o29 :: ⟨some d, .pick c (.const (.bool true)) (.tmp e2), ty, pos, af, g⟩ :: rest) σ h :=
  short (rest := o1 :: o2 :: o3 :: o4 :: o5 :: o6 :: o7 :: o8 :: o9 :: o10 :: o11 :: o12 :: o13 :: o14 :: o15 :: o16 :: o17 :: o18 :: o19 :: o20 :: o21 :: o22 :: o23 :: o24 :: o25 :: o26 :: o27 :: o28 :: o29 :: ⟨some d, .pick c (.const (.bool true)) (.tmp e2), ty, pos, af, g⟩ :: rest) j false 29 k.choose_spec.1 k.choose_spec.2 rfl hj hdj hbj hc hsk hcd rfl rfl hnd hal hd hg hdd
theorem an30 {o1 o2 o3 o4 o5 o6 o7 o8 o9 o10 o11 o12 o13 o14 o15 o16 o17 o18 o19 o20 o21 o22 o23 o24 o25 o26 o27 o28 o29 o30 : Oper} {e2 dj : Nat} {b : Bool} {oj : Oper} {c : Operand} {ds : List Nat} (j : Nat)
    (k : ∃ b2, (b = true → ∀ B, EvL P fz B (Kan e2 b2 h) ops [o1, o2, o3, o4, o5, o6, o7, o8, o9, o10, o11, o12, o13, o14, o15, o16, o17, o18, o19, o20, o21, o22, o23, o24, o25, o26, o27, o28, o29, o30] σ h) ∧ EvL P fz B K ops rest ((d, vbool (b && b2)) :: drp ds σ) h)
    (hj : ops[j]? = some oj := by rfl) (hdj : oj.dst = some dj := by rfl) (hbj : rg σ dj = some (vbool b) := by rfl) (hc : og σ c = some (vbool b) := by rfl)
    (hsk : skipping ops j true [] [o1, o2, o3, o4, o5, o6, o7, o8, o9, o10, o11, o12, o13, o14, o15, o16, o17, o18, o19, o20, o21, o22, o23, o24, o25, o26, o27, o28, o29, o30] = some ds := by rfl) (hcd : ∀ t, c = .tmp t → ds.any (Nat.beq t) = false := by intro t ht; cases ht; rfl)
    (hnd : [o1, o2, o3, o4, o5, o6, o7, o8, o9, o10, o11, o12, o13, o14, o15, o16, o17, o18, o19, o20, o21, o22, o23, o24, o25, o26, o27, o28, o29, o30].all (fun o => match o.dst with | some e => !(Nat.beq e dj) | none => true) = true := by rfl)
    (hal : [o1, o2, o3, o4, o5, o6, o7, o8, o9, o10, o11, o12, o13, o14, o15, o16, o17, o18, o19, o20, o21, o22, o23, o24, o25, o26, o27, o28, o29, o30].all (fun o => match o.dst with | some e => ds.any (Nat.beq e) | none => true) = true := by rfl)
    (hd : Nat.ble (d + 1) fz = true := by rfl) (hg : Gk ops σ g := by first | exact gk0 | exact gk1 rfl rfl rfl (by assumption)) (hdd : ∀ dj', (match g with | some (i, _) => (ops[i]?).bind (·.dst) | none => none) = some dj' → ds.any (Nat.beq dj') = false := by first | nofun | (intro _ h; cases h; rfl)) :
    EvL P fz B K ops (o1 :: o2 :: o3 :: o4 :: o5 :: o6 :: o7 :: o8 :: o9 :: o10 :: o11 :: o12 :: o13 :: o14 :: o15 :: o16 :: o17 :: o18 :: o19 :: o20 :: o21 :: o22 :: o23 :: o24 :: o25 :: o26 :: o27 :: o28 :: o29 :: o30 :: ⟨some d, .pick c (.tmp e2) (.const (.bool false)), ty, pos, af, g⟩ :: rest) σ h :=
  short (rest := o1 :: o2 :: o3 :: o4 :: o5 :: o6 :: o7 :: o8 :: o9 :: o10 :: o11 :: o12 :: o13 :: o14 :: o15 :: o16 :: o17 :: o18 :: o19 :: o20 :: o21 :: o22 :: o23 :: o24 :: o25 :: o26 :: o27 :: o28 :: o29 :: o30 :: ⟨some d, .pick c (.tmp e2) (.const (.bool false)), ty, pos, af, g⟩ :: rest) j true 30 k.choose_spec.1 k.choose_spec.2 rfl hj hdj hbj hc hsk hcd rfl rfl hnd hal hd hg hdd
theorem orr30 {o1 o2 o3 o4 o5 o6 o7 o8 o9 o10 o11 o12 o13 o14 o15 o16 o17 o18 o19 o20 o21 o22 o23 o24 o25 o26 o27 o28 o29 o30 : Oper} {e2 dj : Nat} {b : Bool} {oj : Oper} {c : Operand} {ds : List Nat} (j : Nat)
    (k : ∃ b2, (b = false → ∀ B, EvL P fz B (Kan e2 b2 h) ops [o1, o2, o3, o4, o5, o6, o7, o8, o9, o10, o11, o12, o13, o14, o15, o16, o17, o18, o19, o20, o21, o22, o23, o24, o25, o26, o27, o28, o29, o30] σ h) ∧ EvL P fz B K ops rest ((d, vbool (b || b2)) :: drp ds σ) h)
    (hj : ops[j]? = some oj := by rfl) (hdj : oj.dst = some dj := by rfl) (hbj : rg σ dj = some (vbool b) := by rfl) (hc : og σ c = some (vbool b) := by rfl)
    (hsk : skipping ops j false [] [o1, o2, o3, o4, o5, o6, o7, o8, o9, o10, o11, o12, o13, o14, o15, o16, o17, o18, o19, o20, o21, o22, o23, o24, o25, o26, o27, o28, o29, o30] = some ds := by rfl) (hcd : ∀ t, c = .tmp t → ds.any (Nat.beq t) = false := by intro t ht; cases ht; rfl)
    (hnd : [o1, o2, o3, o4, o5, o6, o7, o8, o9, o10, o11, o12, o13, o14, o15, o16, o17, o18, o19, o20, o21, o22, o23, o24, o25, o26, o27, o28, o29, o30].all (fun o => match o.dst with | some e => !(Nat.beq e dj) | none => true) = true := by rfl)
    (hal : [o1, o2, o3, o4, o5, o6, o7, o8, o9, o10, o11, o12, o13, o14, o15, o16, o17, o18, o19, o20, o21, o22, o23, o24, o25, o26, o27, o28, o29, o30].all (fun o => match o.dst with | some e => ds.any (Nat.beq e) | none => true) = true := by rfl)
    (hd : Nat.ble (d + 1) fz = true := by rfl) (hg : Gk ops σ g := by first | exact gk0 | exact gk1 rfl rfl rfl (by assumption)) (hdd : ∀ dj', (match g with | some (i, _) => (ops[i]?).bind (·.dst) | none => none) = some dj' → ds.any (Nat.beq dj') = false := by first | nofun | (intro _ h; cases h; rfl)) :
    EvL P fz B K ops (o1 :: o2 :: o3 :: o4 :: o5 :: o6 :: o7 :: o8 :: o9 :: o10 :: o11 :: o12 :: o13 :: o14 :: o15 :: o16 :: o17 :: o18 :: o19 :: o20 :: o21 :: o22 :: o23 :: o24 :: o25 :: o26 :: o27 :: o28 :: o29 :: o30 :: ⟨some d, .pick c (.const (.bool true)) (.tmp e2), ty, pos, af, g⟩ :: rest) σ h :=
  short (rest := o1 :: o2 :: o3 :: o4 :: o5 :: o6 :: o7 :: o8 :: o9 :: o10 :: o11 :: o12 :: o13 :: o14 :: o15 :: o16 :: o17 :: o18 :: o19 :: o20 :: o21 :: o22 :: o23 :: o24 :: o25 :: o26 :: o27 :: o28 :: o29 :: o30 :: ⟨some d, .pick c (.const (.bool true)) (.tmp e2), ty, pos, af, g⟩ :: rest) j false 30 k.choose_spec.1 k.choose_spec.2 rfl hj hdj hbj hc hsk hcd rfl rfl hnd hal hd hg hdd
end
end Go.Proofs.Ytkcpejbabbbjpaa
