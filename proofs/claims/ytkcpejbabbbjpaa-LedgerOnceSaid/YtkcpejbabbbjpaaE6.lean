/- A part of the proof: contracts over a program of the model. -/
import Derived.Test.YtkcpejbabbbjpaaE5
set_option linter.unusedVariables false
namespace Go.Proofs.Ytkcpejbabbbjpaa
open Go.RowKit
section
variable {P : Program} {fz : Nat} {B : Bs} {K : KP} {ops : Array Oper} {rest : List Oper} {σ : Regs} {h : List HP} {d : Nat} {ty : TypeId} {pos : String} {af : Array Edge} {g : Option (Nat × Bool)} {α : Type} {sz bytes : Nat} {zs : List Value} {enc : α → List VP} {l l2 : List α} {t e : TypeId}

theorem Sat.cons0 {w : World} {W : WS} {S : Nat → Prop} {x : HP} (hx : x.p w W (fun _ => False)) (h1 : Sat w W h S) : Sat w W (x :: h) S :=
  ⟨fun _ => False, S, hx, h1, fun _ h => h.elim, fun _ => by simp⟩
/-- nil, as a row of one's own -/
theorem nilrow (e : TypeId) (sz : Nat) (enc : α → List VP) (kk : EvL P fz B K ops rest σ (hrow (.slice none 0 0) e sz enc [] :: h)) : EvL P fz B K ops rest σ h :=
  fun a w W S hs => kk a w W S ⟨hs.tmps, hs.defers, hs.regs, Sat.cons0 (.inl ⟨rfl, rfl, fun _ h => h⟩) hs.sat, hs.run⟩
theorem nilrowC {c : Code} (e : TypeId) (sz : Nat) (enc : α → List VP) (kk : EvC P fz B K c σ (hrow (.slice none 0 0) e sz enc [] :: h)) : EvC P fz B K c σ h :=
  fun a w W S hs => kk a w W S ⟨hs.tmps, hs.defers, hs.regs, Sat.cons0 (.inl ⟨rfl, rfl, fun _ h => h⟩) hs.sat, hs.run⟩
/-- what becomes of entry j of the heap -/
theorem upd {w w' : World} {W W' : WS} {S : Nat → Prop} {j : Nat} {x y : HP} (hj : h[j]? = some x) (hsat : Sat w W h S) (hsub : ∀ b, S b → W b) (hop : ∀ S1, x.p w W S1 → (∀ b, S1 b → W b) → ∃ S1', y.p w' W' S1' ∧ Run w W S1 w' W' S1') :
    ∃ S', Sat w' W' (h.set j y) S' ∧ Run w W S w' W' S' := by
  obtain ⟨S1, S2, h1, h2, hd, hS⟩ := Sat.pick hj hsat
  obtain ⟨S1', hy, hr⟩ := hop S1 h1 (fun b hb => hsub b ((hS b).2 (.inl hb)))
  have hlt := h2.lt
  obtain ⟨hr2, hd2⟩ := Run.framed (T := S2) (S := S) hr hlt hd hS hsub
  have hev := hr2.evo hsub
  exact ⟨_, Sat.put hj hy (h2.st hev (fun b hb => hr.keep b (hlt b hb) (fun hc => hd b hc hb))) hd2, hr2⟩
theorem ex_append {a : Act} {w w' : World} {x y : Operand} {o : Oper} {v u r : Value} (ho : o.op = .call { callee := .builtin .append, args := #[x, y], argTypes := #[t, t] }) (hx : a.eval x = v) (hy : a.eval y = u) (hr : (Builtin.append_ #[t, t] o.type #[v, u]).run P w = .ok r w') : (execOp a.eval o).run P w = .ok (.value r) w' := by
  unfold execOp
  simp only [ho, resolve, invoke, builtin, List.map_toArray, List.map_cons, List.map_nil, hx, hy, Sem.run_bind, Sem.run_pure, Result.andThen_ok, hr]
/-- append(v, ys...) -/
theorem app {x y : Operand} {v : Value} {j : Nat} (ht : tRow P t e sz bytes zs) (hj : h[j]? = some (hrow v e sz enc l)) (kk : ∀ v', v'.oneCell' = true → EvL P fz B K ops rest ((d, vis v') :: σ) (h.set j (hrow v' e sz enc (l ++ l2)))) (hbn : (l.length + l2.length) * bytes ≤ 140737488355328) (hbn2 : (l.length + l2.length) * (sz + 1) ≤ 9223372036854775807)
    (hx : og σ x = some (vis v) := by rfl) (hy : og σ y = some (vsl sz enc l2) := by rfl) (hd : Nat.ble (d + 1) fz = true := by rfl) (hg : Gk ops σ g := by first | exact gk0 | exact gk1 rfl rfl rfl (by assumption)) :
    EvL P fz B K ops (⟨some d, .call { callee := .builtin .append, args := #[x, y], argTypes := #[t, t] }, ty, pos, af, g⟩ :: rest) σ h :=
  opx hd hg fun a w W S hs => by
    have hyp := hs.eval hy
    obtain ⟨A, n, c, e1, _⟩ := id hyp
    rw [e1] at hyp
    have hbd := hs.run.bound
    obtain ⟨S1, S2, h1, h2, hdj, hS⟩ := Sat.pick hj hs.sat
    obtain ⟨v', w', W', S1', hr, ho, hrow', hrun⟩ := run_app (ty := ty) ht h1 (fun b hb => hs.run.sub b ((hS b).2 (.inl hb))) hbd hyp hbn hbn2
    have hlt := h2.lt
    obtain ⟨hr2, hd2⟩ := Run.framed (T := S2) (S := S) hrun hlt hdj hS hs.run.sub
    have hev := hr2.evo hs.run.sub
    exact ⟨vis v', h.set j (hrow v' e sz enc (l ++ l2)), v', w', W', _, ex_append rfl (hs.eval hx) e1 hr, rfl, Sat.put hj hrow' (h2.st hev (fun b hb => hrun.keep b (hlt b hb) (fun hc => hdj b hc hb))) hd2, hr2, kk v' ho⟩
/-- The row is not written any more. -/
theorem St.frz {w0 : World} {W0 : WS} {S0 : Nat → Prop} {a : Act} {w : World} {W : WS} {S : Nat → Prop} {v : Value} {j : Nat} (hj : h[j]? = some (hrow v e sz enc l)) (hs : St fz w0 W0 S0 σ h a w W S) : ∃ W' S', St fz w0 W0 S0 σ (h.set j (hper v (vsl sz enc l))) a w W' S' := by
  have key : ∀ S1, (hrow v e sz enc l).p w W S1 → (∀ b, S1 b → W b) → (hper v (vsl sz enc l)).p w (fun b => W b ∧ ¬ S1 b) (fun _ => False) ∧ Run w W S1 w (fun b => W b ∧ ¬ S1 b) (fun _ => False) := by
    intro S1 hr hsub
    have hrun : Run w W S1 w (fun b => W b ∧ ¬ S1 b) (fun _ => False) := ⟨rfl, rfl, rfl, Nat.le_refl _, fun _ _ _ => rfl, fun b _ hn => ⟨fun h => h.1, fun h => ⟨h, hn⟩⟩, fun _ _ h => h.1, fun _ h => h.elim, fun _ h => h.elim, fun b h => hs.run.bound b h.1⟩
    refine ⟨⟨?_, fun _ h => h⟩, hrun⟩
    have hev := hrun.evo hsub
    rcases hr with ⟨rfl, rfl, hS⟩ | ⟨g, o, c, cs, rfl, hlc, hh, hcs, hone, hbnd, hel, hS⟩
    · exact vsl_nil
    · refine ⟨some ⟨g, o, none⟩, l.length, c, rfl, rfl, hlc, Nat.le_trans (Nat.le_mul_of_pos_right _ (by omega)) hbnd, fun hn => ⟨⟨g, o, none⟩, rfl, fun h => h.2 ((hS g).2 rfl), (Array.getElem?_eq_some_iff.1 hh).1, fun i hi => ?_⟩⟩
      obtain ⟨q1, q2⟩ := hel i hi
      refine ⟨q1, _, q2.st hev, fun u hu => hone u (seg_sub hi hu), fun k u hu => ?_⟩
      rw [add_add, add_pl, cell_at hh]
      rw [List.getElem?_take] at hu
      split at hu
      · rw [List.getElem?_drop] at hu
        rw [← Array.getElem?_toList, ← hu]
        congr 1
        omega
      · cases hu
  obtain ⟨S1, S2, h1, h2, hd, hS⟩ := Sat.pick hj hs.sat
  obtain ⟨k1, k2⟩ := key S1 h1 (fun b hb => hs.run.sub b ((hS b).2 (.inl hb)))
  have hlt := h2.lt
  obtain ⟨hr2, hd2⟩ := Run.framed (T := S2) (S := S) k2 hlt hd hS hs.run.sub
  have hev := hr2.evo hs.run.sub
  refine ⟨_, _, ⟨hs.tmps, hs.defers, fun d p hd => let ⟨u, hu, hp⟩ := hs.regs d p hd; ⟨u, hu, p.st hev hp⟩, Sat.put hj k1 (h2.st hev (fun _ _ => rfl)) hd2, hs.run.trans hr2⟩⟩
theorem frz {v : Value} (j : Nat) (hj : h[j]? = some (hrow v e sz enc l)) (kk : EvL P fz B K ops rest σ (h.set j (hper v (vsl sz enc l)))) : EvL P fz B K ops rest σ h :=
  fun a w W S hs => let ⟨W', S', hs'⟩ := hs.frz hj; kk a w W' S' hs'
theorem frzC {c : Code} {v : Value} (j : Nat) (hj : h[j]? = some (hrow v e sz enc l)) (kk : EvC P fz B K c σ (h.set j (hper v (vsl sz enc l)))) : EvC P fz B K c σ h :=
  fun a w W S hs => let ⟨W', S', hs'⟩ := hs.frz hj; kk a w W' S' hs'
/-- a kept fact, of the value in a register -/
theorem St.per {w0 : World} {W0 : WS} {S0 : Nat → Prop} {a : Act} {w : World} {W : WS} {S : Nat → Prop} {v : Value} {p : VP} {j d : Nat} (hj : h[j]? = some (hper v p)) (hd : rg σ d = some (vis v)) (hs : St fz w0 W0 S0 σ h a w W S) : St fz w0 W0 S0 ((d, p) :: σ) h a w W S := by
  obtain ⟨S1, S2, ⟨hp, _⟩, _⟩ := Sat.pick hj hs.sat
  refine ⟨hs.tmps, hs.defers, fun d' q hq => ?_, hs.sat, hs.run⟩
  simp only [rg] at hq
  cases hb : Nat.beq d d' with
  | true =>
    have := Nat.eq_of_beq_eq_true hb
    subst this
    rw [hb] at hq
    simp only [cond_true, Option.some.injEq] at hq
    subst hq
    obtain ⟨u, hu, hup⟩ := hs.regs d _ hd
    have hup' : u = v := hup
    subst hup'
    exact ⟨u, hu, hp⟩
  | false =>
    rw [hb] at hq
    exact hs.regs d' q hq
theorem rper {v : Value} {p : VP} (d j : Nat) (hj : h[j]? = some (hper v p)) (kk : EvL P fz B K ops rest ((d, p) :: σ) h) (hd : rg σ d = some (vis v) := by rfl) : EvL P fz B K ops rest σ h :=
  fun a w W S hs => kk a w W S (hs.per hj hd)
theorem rperC {c : Code} {v : Value} {p : VP} (d j : Nat) (hj : h[j]? = some (hper v p)) (kk : EvC P fz B K c ((d, p) :: σ) h) (hd : rg σ d = some (vis v) := by rfl) : EvC P fz B K c σ h :=
  fun a w W S hs => kk a w W S (hs.per hj hd)
/-- a fact on a value that a register holds exactly is known of the register from then on: the fact kept -/
theorem keepC {c : Code} {v : Value} {p : VP} (d : Nat) (hd : rg σ d = some p) (kk : ∀ v, EvC P fz B K c ((d, vis v) :: σ) (hper v p :: h)) : EvC P fz B K c σ h := by
  intro a w W S hs
  obtain ⟨u, hu, hup⟩ := hs.regs d p hd
  refine kk u a w W S ⟨hs.tmps, hs.defers, fun d' q hq => ?_, Sat.cons0 ⟨hup, fun _ h => h⟩ hs.sat, hs.run⟩
  simp only [rg] at hq
  cases hb : Nat.beq d d' with
  | true =>
    have := Nat.eq_of_beq_eq_true hb
    subst this
    rw [hb] at hq
    simp only [cond_true, Option.some.injEq] at hq
    subst hq
    exact ⟨u, hu, rfl⟩
  | false =>
    rw [hb] at hq
    exact hs.regs d' q hq
/-- forgotten -/
theorem dropC {c : Code} (h' : List HP) {hf : List HP} (hsel : Sel h h' hf) (kk : EvC P fz B K c σ h') : EvC P fz B K c σ h := by
  intro a w W S hs
  obtain ⟨T1, T2, h1, _, _, hT⟩ := hsel.sat hs.sat
  exact kk a w W T1 ⟨hs.tmps, hs.defers, hs.regs, h1, hs.run.less fun b hb => (hT b).2 (.inl hb)⟩
theorem drop {h' : List HP} {hf : List HP} (hsel : Sel h h' hf) (kk : EvL P fz B K ops rest σ h') : EvL P fz B K ops rest σ h := by
  intro a w W S hs
  obtain ⟨T1, T2, h1, _, _, hT⟩ := hsel.sat hs.sat
  exact kk a w W T1 ⟨hs.tmps, hs.defers, hs.regs, h1, hs.run.less fun b hb => (hT b).2 (.inl hb)⟩
/-- the length of a row of one's own -/
theorem lnw {x : Operand} {v : Value} {j sz' : Nat} (ht : tSl P t e sz' = true) (hj : h[j]? = some (hrow v e sz enc l)) (kk : l.length * (sz + 1) ≤ 9223372036854775807 → EvL P fz B K ops rest ((d, vint .i64 (l.length : Int)) :: σ) h) (hx : og σ x = some (vis v) := by rfl) (hd : Nat.ble (d + 1) fz = true := by rfl) (hg : Gk ops σ g := by first | exact gk0 | exact gk1 rfl rfl rfl (by assumption)) :
    EvL P fz B K ops (⟨some d, .call { callee := .builtin .len, args := #[x], argTypes := #[t] }, ty, pos, af, g⟩ :: rest) σ h :=
  opx hd hg fun a w W S hs => by
    have hxv : a.eval x = v := hs.eval hx
    obtain ⟨S1, S2, h1, _⟩ := Sat.pick hj hs.sat
    rcases h1 with ⟨rfl, rfl, hS⟩ | ⟨g, o, c, cs, rfl, hlc, hh, hcs, hone, hbnd, hel, hS⟩
    · exact ⟨_, h, _, w, W, S, ex_len rfl (tSl_parts ht).1 hxv, rfl, hs.sat, Run.refl hs.run.sub hs.run.bound, kk (by simp)⟩
    · exact ⟨_, h, _, w, W, S, ex_len rfl (tSl_parts ht).1 hxv, rfl, hs.sat, Run.refl hs.run.sub hs.run.bound, kk hbnd⟩

/-! ### a literal -/
/-- the cells of a value -/
def Cel (p : VP) (ps : List VP) : Prop := ∀ w W v, p.p w W v → VPs w W ps v.cells.toList ∧ ∀ u ∈ v.cells.toList, u.oneCell' = true
theorem cel1 {p : VP} (h : One p) : Cel p [p] := fun w W v hv => by
  have h1 := h _ _ _ hv
  rw [cells_one h1]
  exact ⟨⟨hv, trivial⟩, fun u hu => by simp only [List.mem_singleton] at hu; rw [hu]; exact h1⟩
theorem celA {ps : List VP} : Cel (vagg ps) ps := by
  rintro w W v ⟨cs, rfl, h1, h2⟩
  exact ⟨h1, h2⟩
inductive Cels : List VP → List (List VP) → Prop
  | nil : Cels [] []
  | cons {p : VP} {ps : List VP} {q : List VP} {qs : List (List VP)} (h1 : Cel p q) (h2 : Cels ps qs) : Cels (p :: ps) (q :: qs)
def lay (off : Nat) (cs : Array Value) (us : Array Value) : Array Value := us.zipIdx.foldl (fun cs (c, j) => cs.setIfInBounds (off + j) c) cs
theorem lay_list : ∀ (us : List Value) (off k : Nat) (cs : Array Value), off + k + us.length ≤ cs.size → ((us.zipIdx k).foldl (fun cs (c, j) => cs.setIfInBounds (off + j) c) cs).toList = cs.toList.take (off + k) ++ us ++ cs.toList.drop (off + k + us.length)
  | [], off, k, cs, h => by simp
  | u :: us, off, k, cs, h => by
    simp only [List.length_cons] at h
    rw [List.zipIdx_cons, List.foldl_cons, lay_list us off (k + 1) _ (by rw [Array.size_setIfInBounds]; omega)]
    have hlt : off + k < cs.toList.length := by rw [Array.length_toList (xs := cs)]; omega
    rw [Array.toList_setIfInBounds]
    rw [List.take_set, List.drop_set_of_lt (by omega)]
    have h1 : (cs.toList.take (off + (k + 1))).set (off + k) u = cs.toList.take (off + k) ++ [u] := by
      rw [show off + (k + 1) = off + k + 1 from by omega, List.take_succ_eq_append_getElem hlt, List.set_append_right _ _ (by rw [List.length_take]; omega)]
      rw [List.length_take, Nat.min_eq_left (by omega), Nat.sub_self]
      rfl
    rw [h1]
    simp only [List.append_assoc, List.singleton_append, List.length_cons]
    congr 3
    omega
end
end Go.Proofs.Ytkcpejbabbbjpaa
