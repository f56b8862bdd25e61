/- A part of the proof: contracts over a program of the model. -/
import Derived.Test.YtagkniimpekhjaaGreatE15
set_option linter.unusedVariables false
set_option linter.unusedSectionVars false
namespace Go.Proofs.YtagkniimpekhjaaGreat
open Go.RowKit

section
variable {P : Program} {fz : Nat} {B : Bs} {K : KP} {ops : Array Oper} {rest : List Oper} {σ : Regs} {h : List HP} {d : Nat} {ty : TypeId} {pos : String} {af : Array Edge} {g : Option (Nat × Bool)} {α : Type} {sz bytes : Nat} {zs : List Value} {enc : α → List VP} {l l2 : List α} {t e : TypeId}
/-- an element of a part of a row; the part's length -/
theorem ixcv {x y : Operand} {v : Value} {j i lo hi : Nat} {k : IntKind} (ht : tSl P t e sz = true) (hj : h[j]? = some (hrow v e sz enc l)) (hx : og σ x = some (vis (cutV sz lo hi v)) := by rfl) (hy : og σ y = some (vint k (i : Int)) := by rfl) (hi' : lo + i < hi := by omega) (hh : hi ≤ l.length := by omega) (kk : EvL P fz B K ops rest ((d, velt v sz (lo + i) 0) :: σ) h) (hd : Nat.ble (d + 1) fz = true := by rfl) (hg : Gk ops σ g := by first | exact gk0 | exact gk1 rfl rfl rfl (by assumption)) :
    EvL P fz B K ops (⟨some d, .indexAddr t x y, ty, pos, af, g⟩ :: rest) σ h :=
  opp hd hg (fun a w W S hs => by
    have hxv : a.eval x = cutV sz lo hi v := hs.eval hx
    obtain ⟨S1, S2, h1, _⟩ := Sat.pick hj hs.sat
    rcases h1 with ⟨rfl, rfl, hS⟩ | ⟨g, o, c, cs, rfl, hlc, hh2, hcs, hone, hbnd, hel, hS⟩
    · simp at hh; omega
    · have hxv' : a.eval x = .slice (some ⟨g, o + lo * sz, none⟩) (hi - lo) (c - lo) := hxv
      refine ⟨_, ex_index ht rfl hxv' (hs.eval hy) (by omega), ?_⟩
      show _ = _
      simp only [sAddr, add_pl]
      congr 3
      rw [Nat.add_mul]
      omega) kk
theorem lncv {x : Operand} {v : Value} {j lo hi sz' : Nat} (ht : tSl P t e sz' = true) (hj : h[j]? = some (hrow v e sz enc l)) (hne : 0 < l.length) (kk : EvL P fz B K ops rest ((d, vint .i64 ((hi - lo : Nat) : Int)) :: σ) h) (hx : og σ x = some (vis (cutV sz lo hi v)) := by rfl) (hd : Nat.ble (d + 1) fz = true := by rfl) (hg : Gk ops σ g := by first | exact gk0 | exact gk1 rfl rfl rfl (by assumption)) :
    EvL P fz B K ops (⟨some d, .call { callee := .builtin .len, args := #[x], argTypes := #[t] }, ty, pos, af, g⟩ :: rest) σ h :=
  opp hd hg (fun a w W S hs => by
    have hxv : a.eval x = cutV sz lo hi v := hs.eval hx
    obtain ⟨S1, S2, h1, _⟩ := Sat.pick hj hs.sat
    rcases h1 with ⟨rfl, rfl, hS⟩ | ⟨g, o, c, cs, rfl, hlc, hh2, hcs, hone, hbnd, hel, hS⟩
    · simp at hne
    · have hxv' : a.eval x = .slice (some ⟨g, o + lo * sz, none⟩) (hi - lo) (c - lo) := hxv
      exact ⟨_, ex_len rfl (tSl_parts ht).1 hxv', rfl⟩) kk
end
end Go.Proofs.YtagkniimpekhjaaGreat

set_option linter.unusedVariables false
set_option linter.unusedSectionVars false
namespace Go.Proofs.YtagkniimpekhjaaGreat
open Go.RowKit

/-- some entries as one -/
def hAll (hc : List HP) : HP where
  p := fun w W S => Sat w W hc S
  st := fun he hk h => h.st he hk
  lt := fun h b hb => h.lt b hb
theorem sat_one {w : World} {W : WS} {x : HP} {S : Nat → Prop} : Sat w W [x] S ↔ x.p w W S := by
  constructor
  · rintro ⟨S1, S2, h1, h2, hd, hS⟩
    have : S = S1 := funext fun b => propext ⟨fun h => ((hS b).1 h).resolve_right (h2 b), fun h => (hS b).2 (.inl h)⟩
    rw [this]; exact h1
  · intro h
    exact ⟨S, fun _ => False, h, fun _ h => h, fun _ _ h => h, fun b => by simp⟩
theorem fn_all {P : Program} {f : FuncId} {args : List VP} {hc : List HP} {q : VP} (h : Fn P f args hc (fun r h' => r = q ∧ h' = hc)) : Fn P f args [hAll hc] (fun r h' => r = q ∧ h' = [hAll hc]) := by
  intro w W S vs hv hsat hsub hbd
  refine (h w W S vs hv (sat_one.1 hsat) hsub hbd).mono ?_
  rintro e w' ⟨v, r, h', W', S', he, hr, ⟨rfl, rfl⟩, hs, hrun⟩
  exact ⟨v, r, [hAll h'], W', S', he, hr, ⟨rfl, rfl⟩, sat_one.2 hs, hrun⟩
section
variable {P : Program} {fz : Nat} {B : Bs} {K : KP} {ops : Array Oper} {rest : List Oper} {σ : Regs} {h : List HP}
theorem packL {hc hf : List HP} (hsel : Sel h hc hf) (kk : EvL P fz B K ops rest σ (hAll hc :: hf)) : EvL P fz B K ops rest σ h := fun a w W S hs => by
  obtain ⟨S1, S2, h1, h2, h3, h4⟩ := hsel.sat hs.sat
  exact kk a w W S ⟨hs.tmps, hs.defers, hs.regs, ⟨S1, S2, h1, h2, h3, h4⟩, hs.run⟩
theorem unpackL {hc : List HP} (kk : EvL P fz B K ops rest σ (hc ++ h)) : EvL P fz B K ops rest σ (hAll hc :: h) := fun a w W S hs => by
  obtain ⟨S1, S2, h1, h2, h3, h4⟩ := hs.sat
  exact kk a w W S ⟨hs.tmps, hs.defers, hs.regs, (Sat.join h1 h2 h3).congr fun b => (h4 b).symm, hs.run⟩
/-- a register known anew -/
theorem regw {p q : VP} (d : Nat) (hle : VLe p q) (kk : EvL P fz B K ops rest ((d, q) :: σ) h) (hd : rg σ d = some p := by rfl) : EvL P fz B K ops rest σ h := fun a w W S hs =>
  kk a w W S ⟨hs.tmps, hs.defers, fun k r hk => by
    simp only [rg] at hk
    cases hb : Nat.beq d k with
    | true =>
      rw [hb] at hk
      injection hk with hk
      have := Nat.eq_of_beq_eq_true hb
      subst this hk
      obtain ⟨v, h1, h2⟩ := hs.regs _ _ hd
      exact ⟨v, h1, hle _ _ _ h2⟩
    | false =>
      rw [hb] at hk
      exact hs.regs k r hk, hs.sat, hs.run⟩
end
theorem tri_agg (k : Tri) : VLe (vis (eTri k)) (vagg [vint .i64 k.a, vint .i64 k.b, vint .i64 k.c]) := fun w W v h => by
  have h : v = eTri k := h
  subst h
  exact ⟨_, rfl, ⟨rfl, rfl, rfl, trivial⟩, fun u hu => by simp at hu; rcases hu with rfl | rfl | rfl <;> rfl⟩
theorem agg_tri (a b c : Int) : VLe (vagg [vint .i64 a, vint .i64 b, vint .i64 c]) (vis (eTri ⟨a, b, c⟩)) := fun w W v h => by
  obtain ⟨cs, rfl, h2, h3⟩ := h
  match cs, h2 with
  | ⟨[x, y, z]⟩, ⟨h4, h5, h6, _⟩ =>
    rw [show x = _ from h4, show y = _ from h5, show z = _ from h6]
    rfl
end Go.Proofs.YtagkniimpekhjaaGreat
