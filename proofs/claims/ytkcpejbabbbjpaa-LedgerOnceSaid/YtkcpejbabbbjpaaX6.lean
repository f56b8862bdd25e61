/- A part of the proof: contracts over a program of the model. -/
import Derived.Test.YtkcpejbabbbjpaaX5
set_option linter.unusedVariables false
set_option linter.unusedSectionVars false
set_option linter.unusedSimpArgs false
namespace Go.Proofs.Ytkcpejbabbbjpaa
open Go.RowKit

section
variable {P : Program} {fz : Nat} {B : Bs} {φ : Env} {s : XS} {a : Act} {w : World} {W : WS} {S : Nat → Prop}
theorem oEs_one {x : Operand} {xs : List Operand} {av : AV} {l : List AV} {σ : RG} (h : oEs σ xs = some (av :: l)) : ∃ y ys, xs = y :: ys ∧ oE σ y = some av ∧ oEs σ ys = some l := by
  cases xs with
  | nil => injection h with h; cases h
  | cons y ys =>
    simp only [oEs] at h
    cases h1 : oE σ y with
    | none => rw [h1] at h; cases h
    | some b =>
      cases h2 : oEs σ ys with
      | none => rw [h1, h2] at h; cases h
      | some l' =>
        rw [h1, h2] at h
        injection h with h
        injection h with h3 h4
        subst h3 h4
        exact ⟨y, ys, rfl, h1, h2⟩
theorem oEs_nil {xs : List Operand} {σ : RG} (h : oEs σ xs = some []) : xs = [] := by
  cases xs with
  | nil => rfl
  | cons y ys =>
    simp only [oEs] at h
    cases h1 : oE σ y with
    | none => rw [h1] at h; cases h
    | some b =>
      cases h2 : oEs σ ys with
      | none => rw [h1, h2] at h; cases h
      | some l' => rw [h1, h2] at h; injection h with h; cases h
theorem arr1 {α : Type} {x : Array α} {y : α} (h : x.toList = [y]) : x = #[y] := Array.ext' (by rw [h])
theorem arr2 {α : Type} {x : Array α} {y z : α} (h : x.toList = [y, z]) : x = #[y, z] := Array.ext' (by rw [h])
theorem lenA_ok {t : TypeId} {av : AV} {x : Operand} {n : Nat} {o : Oper} (hs : Tel fz B φ s a w W S) (ho : o.op = .call { callee := .builtin .len, args := #[x], argTypes := #[t] }) (h : lenA P t s.heap s.n av = some n) (e1 : val φ av = some (a.eval x)) : (execOp a.eval o).run P w = .ok (.value (.int .i64 n)) w := by
  unfold lenA at h
  split at h
  · obtain ⟨e, k1, h⟩ := bnd_some h
    injection h with h
    subst h
    injection e1 with e1
    exact ex_len ho (elemT_eq k1) e1.symm
  · rename_i k
    obtain ⟨m, k1, h⟩ := bnd_some h
    obtain ⟨k2, h⟩ := lp1_some h
    injection h with h
    subst h
    obtain ⟨S1, S2, g1, _⟩ := Sat.pick (entM_at (φ := φ) k1) hs.sat
    obtain ⟨L, hL, ⟨es, c, h1, h2, h3, h4, h5⟩, hS1⟩ := dnMap g1
    simp only [val, hL, Option.map_some, Option.some.injEq] at e1
    have hl := h2.len
    rw [Array.length_toList] at hl
    unfold execOp
    simp only [ho, resolve, invoke, builtin, Builtin.len_, List.map_toArray, List.map_cons, List.map_nil, ← e1, Sem.run_bind, Sem.run_pure, Result.andThen_ok, List.getElem?_toArray, List.getElem?_cons_zero, run_underlying (tMap_parts k2), goInt, run_getMap h1, hl]
  · obtain ⟨e, k1, h⟩ := bnd_some h
    obtain ⟨r, k2, h⟩ := bnd_some h
    injection h with h
    subst h
    obtain ⟨L, hL, hv, _, _⟩ := rowOf_at hs k2 e1
    exact ex_len ho (elemT_eq k1) hv
theorem ok_len {c : Call} {o : Oper} {r : AV × List Ent × Nat} (ho : o.op = .call c) (hc : c.callee = .builtin .len) (h : valE P s (.call c) = some r) : OkV P fz B s r.1 r.2.1 r.2.2 (fun a => execOp a.eval o) := by
  simp only [valE, hc] at h
  obtain ⟨l, h1, h⟩ := bnd_some h
  split at h
  · rename_i av t ht
    obtain ⟨x, xs, hx, h2, h3⟩ := oEs_one (x := .func 0) h1
    have := oEs_nil h3
    subst this
    refine keep_ok h fun cv h6 φ a w W S hs => ?_
    obtain ⟨n, h7, h8⟩ := bnd_some h6
    injection h8 with h8
    subst h8
    refine ⟨_, lenA_ok (x := x) (t := t) hs ?_ h7 (oE_val hs h2), rfl⟩
    rw [ho]
    obtain ⟨c1, c2, c3⟩ := c
    simp only at hc hx ht
    rw [hc, arr1 hx, arr1 ht]
  · cases h
theorem ok_cap {c : Call} {o : Oper} {r : AV × List Ent × Nat} (ho : o.op = .call c) (hc : c.callee = .builtin .cap) (h : valE P s (.call c) = some r) : OkV P fz B s r.1 r.2.1 r.2.2 (fun a => execOp a.eval o) := by
  simp only [valE, hc] at h
  obtain ⟨l, h1, h⟩ := bnd_some h
  split at h
  · rename_i av t ht
    obtain ⟨x, xs, hx, h2, h3⟩ := oEs_one (x := .func 0) h1
    have := oEs_nil h3
    subst this
    obtain ⟨e, k1, h⟩ := bnd_some h
    obtain ⟨k2, h⟩ := lp1_some h
    refine keep_ok h fun cv h6 φ a w W S hs => ?_
    injection h6 with h6
    subst h6
    have e1 := oE_val hs h2
    rw [asNil_eq k2] at e1
    injection e1 with e1
    refine ⟨.int .i64 0, ?_, rfl⟩
    obtain ⟨c1, c2, c3⟩ := c
    simp only at hc hx ht
    unfold execOp
    simp only [ho, hc, arr1 hx, arr1 ht, resolve, invoke, builtin, Builtin.cap_, List.map_toArray, List.map_cons, List.map_nil, ← e1, Sem.run_bind, Sem.run_pure, Result.andThen_ok, List.getElem?_toArray, List.getElem?_cons_zero, run_underlying (elemT_eq k1), goInt]
    rfl
  · cases h
theorem ok_max {c : Call} {o : Oper} {r : AV × List Ent × Nat} (ho : o.op = .call c) (hc : c.callee = .builtin .max) (h : valE P s (.call c) = some r) : OkV P fz B s r.1 r.2.1 r.2.2 (fun a => execOp a.eval o) := by
  simp only [valE, hc] at h
  obtain ⟨l, h1, h⟩ := bnd_some h
  split at h
  · rename_i av bv
    obtain ⟨x, xs, hx, h2, h3⟩ := oEs_one (x := .func 0) h1
    obtain ⟨y, ys, hy, h4, h5⟩ := oEs_one (x := .func 0) h3
    have := oEs_nil h5
    subst this
    subst hy
    obtain ⟨i, k1, h⟩ := bnd_some h
    obtain ⟨j, k2, h⟩ := bnd_some h
    refine keep_ok h fun cv h6 φ a w W S hs => ?_
    injection h6 with h6
    subst h6
    have e1 := oE_val hs h2
    have e2 := oE_val hs h4
    rw [asI_eq k1] at e1
    rw [asI_eq k2] at e2
    injection e1 with e1
    injection e2 with e2
    refine ⟨.int i.1 (max i.2 j.2), ?_, rfl⟩
    obtain ⟨c1, c2, c3⟩ := c
    simp only at hc hx
    have hm : (if j.2 > i.2 then j.2 else i.2) = max i.2 j.2 := by
      rw [Int.max_def]
      split <;> split <;> omega
    unfold execOp
    simp only [ho, hc, arr2 hx, resolve, invoke, builtin, Builtin.max_, List.map_toArray, List.map_cons, List.map_nil, ← e1, ← e2, List.foldlM_cons, List.foldlM_nil, Builtin.max2, Sem.run_bind, Sem.run_pure, Result.andThen_ok, hm]
  · cases h
theorem spl_enc : ∀ (q cs : List AV) (o : Nat), spl (enc φ cs) o (enc φ q) = enc φ (spA cs o q)
  | [], cs, o => rfl
  | x :: q, cs, o => by
    show spl ((enc φ cs).set o (dn φ x)) (o + 1) (enc φ q) = enc φ (spA (lset x cs o) (o + 1) q)
    rw [lset_eq, ← spl_enc q]
    simp only [enc, List.map_set]
theorem dnH_eP {h : List Ent} {n k : Nat} {e : Ent} : dnH φ (eP h n k e) = (dnH φ h).set (posn n k) (dnE φ e) := by
  unfold eP dnH
  rw [lset_eq, List.map_set]
/-- What an operation without a value does. -/
def OkE (P : Program) (fz : Nat) (B : Bs) (s : XS) (h' : List Ent) (run : Act → Sem Next) : Prop :=
  ∀ φ a w W S, Tel fz B φ s a w W S → ∃ w' W' S', (run a).run P w = .ok .skip w' ∧ Sat w' W' (dnH φ h') S' ∧ Run w W S w' W' S'
theorem ok_store {t : TypeId} {x y : Operand} {o : Oper} {h' : List Ent} (ho : o.op = .store t x y) (h : effE P s (.store t x y) = some h') : OkE P fz B s h' (fun a => execOp a.eval o) := by
  simp only [effE] at h
  obtain ⟨pv, h1, h⟩ := bnd_some h
  obtain ⟨av, h2, h⟩ := bnd_some h
  intro φ a w W S hs
  have e1 := oE_val hs h1
  have e2 := oE_val hs h2
  clear h1
  cases pv with
  | ptr k o' =>
    simp only [stoE] at h
    obtain ⟨c, k1, h⟩ := bnd_some h
    obtain ⟨k2, h⟩ := lp1_some h
    injection h with h
    subst h
    simp only [Bool.and_eq_true] at k2
    obtain ⟨⟨g1, g2⟩, g3⟩ := k2
    have hat := entC_at (φ := φ) k1
    obtain ⟨S1, S2, q1, _⟩ := Sat.pick hat hs.sat
    obtain ⟨L, hL, hLo, _⟩ := dnC q1
    have hE : dnE φ (.cells k c.1 c.2) = hvar L.b c.1 (enc φ c.2) := by simp only [dnE, hL, hLo, show Nat.beq 0 0 = true from rfl, cond_true]
    rw [hE] at hat
    obtain ⟨f1, f2⟩ := flat_val g2 e2
    simp only [val, hL, Option.map_some, Option.some.injEq, hLo, Nat.zero_add] at e1
    obtain ⟨w', hr, hsat, hrun⟩ := store_var (P := P) (qs := enc φ (flat av)) (o := o') hat hs.sat hs.run.sub hs.run.bound (vals_vps.2 f1) f2 (by simp only [enc, List.length_map]; exact Nat.le_of_ble_eq_true g1)
    cases hi : P.info? t with
    | none => rw [hi] at g3; cases g3
    | some i =>
      rw [hi] at g3
      refine ⟨w', W, S, ex_store ho e1.symm rfl hi ?_ hr, ?_, hrun⟩
      · rw [Nat.eq_of_beq_eq_true g3, ← vals_len f1, Array.length_toList]
      · rw [dnH_eP]
        rw [spl_enc] at hsat
        have : dnE φ (.cells k c.1 (spA c.2 o' (flat av))) = hvar L.b c.1 (enc φ (spA c.2 o' (flat av))) := by simp only [dnE, hL, hLo, show Nat.beq 0 0 = true from rfl, cond_true]
        rw [this]
        exact hsat
  | el k sz i o' =>
    simp only [stoE] at h
    obtain ⟨c, k1, h⟩ := bnd_some h
    obtain ⟨cs, k3, h⟩ := bnd_some h
    obtain ⟨k2, h⟩ := lp1_some h
    injection h with h
    subst h
    simp only [Bool.and_eq_true] at k2
    obtain ⟨⟨⟨g0, g1⟩, g2⟩, g3⟩ := k2
    have := Nat.eq_of_beq_eq_true g0
    subst this
    have hat := entR_at (φ := φ) k1
    obtain ⟨S1, S2, q1, q2, hd, hS⟩ := Sat.pick hat hs.sat
    obtain ⟨L, hL, q3⟩ := dnRow q1
    obtain ⟨f1, f2⟩ := flat_val g2 e2
    simp only [val, hL, Option.map_some, Option.some.injEq] at e1
    rw [lget_eq] at k3
    obtain ⟨hi, k3'⟩ := List.getElem?_eq_some_iff.1 k3
    obtain ⟨w', hr, hrow', hrun⟩ := row_store (P := P) (i := i) (o := o') (qs := enc φ (flat av)) (x := spA cs o' (flat av)) q3 (fun b hb => hs.run.sub b ((hS b).2 (.inl hb))) hs.run.bound hi (vals_vps.2 f1) f2 (by simp only [enc, List.length_map]; exact Nat.le_of_ble_eq_true g1) (by rw [k3', spl_enc])
    have hlt := q2.lt
    obtain ⟨hr2, hd2⟩ := Run.framed (T := S2) (S := S) hrun hlt hd hS hs.run.sub
    have hev := hr2.evo hs.run.sub
    cases hi' : P.info? t with
    | none => rw [hi'] at g3; cases g3
    | some ii =>
      rw [hi'] at g3
      refine ⟨w', W, _, ex_store ho (ad := ⟨L.b, L.o + (i * c.2.1 + o'), none⟩) e1.symm rfl hi' ?_ (by simp only [sAddr, add_pl] at hr; exact hr), ?_, hr2⟩
      · rw [Nat.eq_of_beq_eq_true g3, ← vals_len f1, Array.length_toList]
      · rw [dnH_eP, lset_eq]
        refine Sat.put hat (dnRow_mk hL ?_) (q2.st hev (fun b hb => hrun.keep b (hlt b hb) (fun hc => hd b hc hb))) hd2
        rw [List.length_set]
        exact hrow'
  | _ => cases h
theorem ok_mapUpdate {t : TypeId} {x y z : Operand} {o : Oper} {h' : List Ent} (ho : o.op = .mapUpdate t x y z) (h : effE P s (.mapUpdate t x y z) = some h') : OkE P fz B s h' (fun a => execOp a.eval o) := by
  simp only [effE] at h
  obtain ⟨av, h1, h⟩ := bnd_some h
  obtain ⟨k, h2, h⟩ := bnd_some h
  obtain ⟨bv, h3, h⟩ := bnd_some h
  obtain ⟨i, h4, h⟩ := bnd_some h
  obtain ⟨cv, h5, h⟩ := bnd_some h
  obtain ⟨m, k1, h⟩ := bnd_some h
  obtain ⟨k2, h⟩ := lp1_some h
  injection h with h
  subst h
  simp only [Bool.and_eq_true] at k2
  obtain ⟨⟨⟨g0, g1⟩, g2⟩, g3⟩ := k2
  have g0 := of_decide_eq_true g0
  have g3 := Nat.le_of_ble_eq_true g3
  rw [asM_eq h2] at h1
  rw [asI_eq h4] at h3
  intro φ a w W S hs
  have e1 := oE_val hs h1
  have e2 := oE_val hs h3
  injection e2 with e2
  have e2' : a.eval y = eI i.2 := by rw [← e2, g0]; rfl
  have hat := entM_at (φ := φ) k1
  obtain ⟨S1, S2, q1, q2, hd, hS⟩ := Sat.pick hat hs.sat
  obtain ⟨L, hL, q3⟩ := dnMap q1
  simp only [val, hL, Option.map_some, Option.some.injEq] at e1
  obtain ⟨w', hr, hm', hrun⟩ := run_mst (P := P) (uz := a.eval z) i.2 cv g1 (keyInt (isInt_eq g2)) (by omega) hs.run.bound (dn_p.2 (oE_val hs h5)) S1 q3 (fun b hb => hs.run.sub b ((hS b).2 (.inl hb)))
  have hlt := q2.lt
  obtain ⟨hr2, hd2⟩ := Run.framed (T := S2) (S := S) hrun hlt hd hS hs.run.sub
  have hev := hr2.evo hs.run.sub
  refine ⟨w', W, _, ?_, ?_, hr2⟩
  · unfold execOp
    simp only [ho, ← e1, e2', Sem.run_bind, hr, Result.andThen_ok, Sem.run_pure]
  · rw [dnH_eP, msetA_eq]
    exact Sat.put hat (dnMap_mk hL hm') (q2.st hev (fun b hb => hrun.keep b (hlt b hb) (fun hc => hd b hc hb))) hd2
end
end Go.Proofs.Ytkcpejbabbbjpaa
