/- A part of the proof: contracts over a program of the model. -/
import Derived.Test.YtagkniimpekhjaaGreatE11
set_option linter.unusedVariables false
set_option linter.unusedSectionVars false
set_option linter.unusedSimpArgs false
namespace Go.Proofs.YtagkniimpekhjaaGreat
open Go.RowKit
/-- what σ' says, σ says -/
def Sub : Regs → Regs → Prop
  | [], _ => True
  | (d, p) :: σ', σ => rg σ d = some p ∧ Sub σ' σ
theorem Sub.out : ∀ {σ' σ : Regs}, Sub σ' σ → ∀ d p, rg σ' d = some p → rg σ d = some p
  | [], _, _, _, _, h => by cases h
  | (d', p') :: σ', σ, ⟨h1, h2⟩, d, p, h => by
    simp only [rg] at h
    cases hb : Nat.beq d' d with
    | true =>
      have := Nat.eq_of_beq_eq_true hb
      subst this
      rw [hb] at h
      simp only [cond_true, Option.some.injEq] at h
      rw [← h]
      exact h1
    | false =>
      rw [hb] at h
      exact h2.out d p h
section
variable {P : Program} {fz : Nat} {B : Bs} {K : KP} {ops : Array Oper} {rest : List Oper} {σ : Regs} {h : List HP} {d : Nat} {ty : TypeId} {pos : String} {af : Array Edge} {g : Option (Nat × Bool)} {t e : TypeId}
theorem kt {x : Exit} {y : Code} (k : K x σ h) (hx : x ≠ .normal := by nofun) : Kth P fz B K y x σ h := by
  cases x <;> first | exact k | exact absurd rfl hx
theorem kbr {id : Nat} (k : K .ret σ h) : Kbl K id .ret σ h := k
theorem kbn {id : Nat} (k : K .normal σ h) : Kbl K id .normal σ h := k
theorem kbg {id l : Nat} (k : K (.goto l) σ h) : Kbl K id (.goto l) σ h := k
theorem kbx {id : Nat} (k : K .normal σ h) : Kbl K id (.exit id) σ h := by
  have : Nat.beq id id = true := by simp
  simp only [Kbl, this, cond_true]
  exact k
theorem kbo {id id' : Nat} (k : K (.exit id') σ h) (hne : Nat.beq id' id = false := by rfl) : Kbl K id (.exit id') σ h := by
  simp only [Kbl, hne, cond_false]
  exact k
def Klq {ι : Type} (K : KP) (I : ι → Prop) (σ : ι → Regs) (h : ι → List HP) (μ : ι → Nat) (i : ι) : KP
  | .normal, σ', h' => ∃ j, I j ∧ μ j < μ i ∧ Sub (σ j) σ' ∧ ∃ hf, Sel h' (h j) hf
  | e, σ', h' => K e σ' h'
theorem lp {ι : Type} {c : Code} (I : ι → Prop) (σ' : ι → Regs) (h' : ι → List HP) (μ : ι → Nat) (i0 : ι) (hI : I i0) (hσ : Sub (σ' i0) σ) (hh : h = h' i0) (body : ∀ i, I i → EvC P fz B (Klq K I σ' h' μ i) c (σ' i) (h' i)) : EvC P fz B K (.loop c) σ h := by
  subst hh
  refine weakC _ (loop (ι := {i : ι // I i}) (fun x => σ' x.1) (fun x => h' x.1) (fun x => μ x.1) ⟨i0, hI⟩ (fun x a w W S hs => ?_)) hσ.out
  refine wpIn_mono (body x.1 x.2 a w W S hs) ?_
  rintro e a w ⟨h1, h2, σ2, h3, W, S, hs, hk⟩
  cases e with
  | normal =>
    obtain ⟨j, hj, h4, h5, hf, h6⟩ := hk
    obtain ⟨T1, T2, g1, _, _, gT⟩ := h6.sat hs.sat
    exact ⟨h1, h2, σ2, h' j, W, T1, ⟨hs.tmps, hs.defers, hs.regs, g1, hs.run.less fun b hb => (gT b).2 (.inl hb)⟩, ⟨j, hj⟩, h4, h5.out, rfl⟩
  | exit id => exact ⟨h1, h2, σ2, h3, W, S, hs, hk⟩
  | goto id => exact ⟨h1, h2, σ2, h3, W, S, hs, hk⟩
  | ret => exact ⟨h1, h2, σ2, h3, W, S, hs, hk⟩
  | panic c => exact ⟨h1, h2, σ2, h3, W, S, hs, hk⟩
  | outgrown => exact ⟨h1, h2, σ2, h3, W, S, hs, hk⟩
theorem kq {ι : Type} {I : ι → Prop} {σ' : ι → Regs} {h' : ι → List HP} {μ : ι → Nat} {i : ι} {x : Exit} (k : K x σ h) (hx : x ≠ .normal := by nofun) : Klq K I σ' h' μ i x σ h := by
  cases x <;> first | exact k | exact absurd rfl hx
theorem lpe {ι : Type} {I : ι → Prop} {σ' : ι → Regs} {h' : ι → List HP} {μ : ι → Nat} {i : ι} (j : ι) (hI : I j) (hμ : μ j < μ i) (hσ : Sub (σ' j) σ) {h1 hf : List HP} (hs : Sel h h1 hf) (hh : h1 = h' j) : Klq K I σ' h' μ i .normal σ h := ⟨j, hI, hμ, hσ, hf, hh ▸ hs⟩
/-- two pieces of code, what is known between said -/
theorem seqm {x y : Code} (σm : Regs) (hm : List HP) (k1 : EvC P fz B (fun e σ' h' => match e with | .normal => Sub σm σ' ∧ h' = hm | e => K e σ' h') x σ h) (k2 : EvC P fz B K y σm hm) : EvC P fz B K (.seq x y) σ h := by
  intro a w W S hs
  refine wpIn_seq (wpIn_mono (k1 a w W S hs) ?_)
  rintro e a w ⟨h1, h2, σ, h, W, S, hs, hk⟩
  cases e with
  | normal =>
    obtain ⟨hk1, rfl⟩ := hk
    exact k2 a w W S ⟨hs.tmps, hs.defers, fun d p hd => hs.regs d p (hk1.out d p hd), hs.sat, hs.run⟩
  | exit id => exact ⟨h1, h2, σ, h, W, S, hs, hk⟩
  | goto id => exact ⟨h1, h2, σ, h, W, S, hs, hk⟩
  | ret => exact ⟨h1, h2, σ, h, W, S, hs, hk⟩
  | panic c => exact (h1 c rfl).elim
  | outgrown => exact (h2 rfl).elim
/-- .. a family of them -/
theorem seqf {ι : Type} {x y : Code} (σm : ι → Regs) (hm : ι → List HP) (k1 : EvC P fz B (fun e σ' h' => match e with | .normal => ∃ i, Sub (σm i) σ' ∧ h' = hm i | e => K e σ' h') x σ h) (k2 : ∀ i, EvC P fz B K y (σm i) (hm i)) : EvC P fz B K (.seq x y) σ h := by
  intro a w W S hs
  refine wpIn_seq (wpIn_mono (k1 a w W S hs) ?_)
  rintro e a w ⟨h1, h2, σ, h, W, S, hs, hk⟩
  cases e with
  | normal =>
    obtain ⟨i, hk1, rfl⟩ := hk
    exact k2 i a w W S ⟨hs.tmps, hs.defers, fun d p hd => hs.regs d p (hk1.out d p hd), hs.sat, hs.run⟩
  | exit id => exact ⟨h1, h2, σ, h, W, S, hs, hk⟩
  | goto id => exact ⟨h1, h2, σ, h, W, S, hs, hk⟩
  | ret => exact ⟨h1, h2, σ, h, W, S, hs, hk⟩
  | panic c => exact (h1 c rfl).elim
  | outgrown => exact (h2 rfl).elim

/-! ### numbers of other kinds -/
theorem cvt {x : Operand} {k k' : IntKind} {n : Int} (ht : P.underlying t = some (.int k)) (ht' : P.underlying e = some (.int k')) (kk : EvL P fz B K ops rest ((d, vint k' (k'.wrap n)) :: σ) h) (hx : og σ x = some (vint k n) := by rfl) (hd : Nat.ble (d + 1) fz = true := by rfl) (hg : Gk ops σ g := by first | exact gk0 | exact gk1 rfl rfl rfl (by assumption)) :
    EvL P fz B K ops (⟨some d, .convert t e x, ty, pos, af, g⟩ :: rest) σ h :=
  opp hd hg (fun a w W S hs => by
    have h1 : a.eval x = .int k n := hs.eval hx
    refine ⟨.int k' (k'.wrap n), ?_, rfl⟩
    unfold execOp
    simp only [convert, h1, Sem.run_bind, run_underlying ht, run_underlying ht', Result.andThen_ok, Conv.intToInt, Sem.run_pure]) kk
/-- .. that stays the number it is -/
theorem cvs {x : Operand} {k k' : IntKind} {n : Int} (ht : P.underlying t = some (.int k)) (ht' : P.underlying e = some (.int k')) (hw : k'.wrap n = n) (kk : EvL P fz B K ops rest ((d, vint k' n) :: σ) h) (hx : og σ x = some (vint k n) := by rfl) (hd : Nat.ble (d + 1) fz = true := by rfl) (hg : Gk ops σ g := by first | exact gk0 | exact gk1 rfl rfl rfl (by assumption)) :
    EvL P fz B K ops (⟨some d, .convert t e x, ty, pos, af, g⟩ :: rest) σ h :=
  cvt ht ht' (by rw [hw]; exact kk) hx hd hg
/-- an operation on two numbers, its answer by a rule of one's own -/
theorem binr {op : BinOp} {x y : Operand} {k : IntKind} {m n : Int} {t' : TypeId} (u : Value) (hr : ∀ (P : Program) w, (binOp op t (.int k m) (.int k n)).run P w = .ok u w) (kk : EvL P fz B K ops rest ((d, vis u) :: σ) h) (hx : og σ x = some (vint k m) := by rfl) (hy : og σ y = some (vint k n) := by rfl) (hd : Nat.ble (d + 1) fz = true := by rfl) (hg : Gk ops σ g := by first | exact gk0 | exact gk1 rfl rfl rfl (by assumption)) :
    EvL P fz B K ops (⟨some d, .binOp op t x y t', ty, pos, af, g⟩ :: rest) σ h := bin u (fun w => hr P w) kk hx hy hd hg
theorem sh {op : BinOp} {x y : Operand} {k k' : IntKind} {m n : Int} {t' : TypeId} (u : Value) (hr : ∀ (P : Program) w, (Op.shift op k m k' n).run P w = .ok u w) (kk : EvL P fz B K ops rest ((d, vis u) :: σ) h) (hop : op = .shl ∨ op = .shr := by first | exact .inl rfl | exact .inr rfl) (hx : og σ x = some (vint k m) := by rfl) (hy : og σ y = some (vint k' n) := by rfl) (hd : Nat.ble (d + 1) fz = true := by rfl) (hg : Gk ops σ g := by first | exact gk0 | exact gk1 rfl rfl rfl (by assumption)) :
    EvL P fz B K ops (⟨some d, .binOp op t x y t', ty, pos, af, g⟩ :: rest) σ h :=
  opp hd hg (fun a w W S hs => ⟨u, run_binS rfl hop (hs.eval hx) (hs.eval hy) (hr P w), rfl⟩) kk
theorem r_quo (P : Program) (w : World) (t : TypeId) {m n : Int} (hn : 0 < n) (hm : 0 ≤ m) (hm2 : m ≤ 9223372036854775807) : (binOp .quo t (.int .i64 m) (.int .i64 n)).run P w = .ok (.int .i64 (m / n)) w := by
  have h1 : n ≠ 0 := by omega
  have h2 : m.tdiv n = m / n := Int.tdiv_eq_ediv_of_nonneg hm
  have h3 : 0 ≤ m / n := Int.ediv_nonneg hm (by omega)
  have h4 : m / n ≤ m := Int.ediv_le_self n hm
  simp [binOp, Op.intDiv, h1, h2]
  exact wrapI (by omega) (by omega)
theorem r_rem (P : Program) (w : World) (t : TypeId) {m n : Int} (hn : 0 < n) (hm : 0 ≤ m) (hm2 : m ≤ 9223372036854775807) : (binOp .rem t (.int .i64 m) (.int .i64 n)).run P w = .ok (.int .i64 (m % n)) w := by
  have h1 : n ≠ 0 := by omega
  have h2 : m.tmod n = m % n := Int.tmod_eq_emod_of_nonneg hm
  have h3 : 0 ≤ m % n := Int.emod_nonneg _ h1
  simp [binOp, Op.intDiv, h1, h2]
/-- a slice held against nil -/
theorem eqnil {α : Type} {sz : Nat} {enc : α → List VP} {l : List α} {x : Operand} {t' : TypeId} (ht : P.underlying t = some (.slice e)) (kk : ∀ b : Bool, (b = true → l = []) → EvL P fz B K ops rest ((d, vbool b) :: σ) h) (hx : og σ x = some (vsl sz enc l) := by rfl) (hd : Nat.ble (d + 1) fz = true := by rfl) (hg : Gk ops σ g := by first | exact gk0 | exact gk1 rfl rfl rfl (by assumption)) :
    EvL P fz B K ops (⟨some d, .binOp .eql t x (.const (.slice none 0 0)) t', ty, pos, af, g⟩ :: rest) σ h :=
  opx hd hg fun a w W S hs => by
    obtain ⟨A, n, c, h1, h2, h3, h4, h5⟩ := hs.eval hx
    refine ⟨vbool A.isNone, h, .bool A.isNone, w, W, S, ?_, rfl, hs.sat, Run.refl hs.run.sub hs.run.bound, kk _ (fun hb => ?_)⟩
    · unfold execOp
      have h6 : a.eval (.const (.slice none 0 0)) = .slice none 0 0 := rfl
      simp only [h1, h6]
      have : eqGuard .eql t x (.const (.slice none 0 0)) (.slice A n c) (.slice none 0 0) = pure () := rfl
      rw [this]
      simp only [pure_bind, Sem.run_bind]
      have h7 : (binOp .eql t (.slice A n c) (.slice none 0 0)).run P w = .ok (.bool A.isNone) w := by
        simp only [binOp, Op.equal, Op.maxDepth]
        unfold Op.equalIn
        simp only [Sem.run_bind, run_underlying ht, Result.andThen_ok]
        cases A with
        | none => rfl
        | some ad => rfl
      rw [h7]
      rfl
    · cases A with
      | none =>
        cases l with
        | nil => rfl
        | cons x l =>
          obtain ⟨ad, hh, _⟩ := h5 (by simp at h2; omega)
          cases hh
      | some ad => simp at hb
theorem zOk_mk {zs : List Value} (h : tZero P t = some zs) (h1 : zs.all (fun u => u.oneCell') = true) : zOk P t zs := ⟨h, fun u hu => List.all_eq_true.1 h1 u hu⟩
theorem rb {x y : Bool} (h : x = y) : rOne [vbool x] = vbool y := by rw [h]; rfl
theorem ri {k : IntKind} {x y : Int} (h : x = y) : rOne [vint k x] = vint k y := by rw [h]; rfl
theorem rsl {α : Type} {sz : Nat} {enc : α → List VP} {x y : List α} (h : x = y) : rOne [vsl sz enc x] = vsl sz enc y := by rw [h]; rfl
end
end Go.Proofs.YtagkniimpekhjaaGreat
