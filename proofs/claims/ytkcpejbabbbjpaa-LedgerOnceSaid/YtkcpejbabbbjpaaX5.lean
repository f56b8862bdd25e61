/- A part of the proof: contracts over a program of the model. -/
import Derived.Test.YtkcpejbabbbjpaaX4
set_option linter.unusedVariables false
set_option linter.unusedSectionVars false
set_option linter.unusedSimpArgs false
namespace Go.Proofs.Ytkcpejbabbbjpaa
open Go.RowKit

section
variable {P : Program} {fz : Nat} {B : Bs} {φ : Env} {s : XS} {a : Act} {w : World} {W : WS} {S : Nat → Prop}
theorem rowOf_ok {h : List Ent} {n : Nat} {av : AV} {r : RW} (e : rowOf h n av = some r) : av = .sl r.k r.sz r.lo r.hi ∧ entR h n r.k = some (r.e, r.sz, r.l) ∧ r.lo ≤ r.hi ∧ r.hi ≤ r.l.length ∧ (r.lo = 0 ∨ r.lo < r.l.length) := by
  unfold rowOf at e
  split at e
  · rename_i k z lo hi
    obtain ⟨x, h1, h2⟩ := bnd_some e
    obtain ⟨h3, h4⟩ := lp1_some h2
    injection h4 with h4
    subst h4
    simp only [Bool.and_eq_true, Bool.or_eq_true] at h3
    obtain ⟨⟨⟨g1, g2⟩, g3⟩, g4⟩ := h3
    have := Nat.eq_of_beq_eq_true g1
    subst this
    refine ⟨rfl, h1, Nat.le_of_ble_eq_true g2, Nat.le_of_ble_eq_true g3, ?_⟩
    rcases g4 with g4 | g4
    · exact .inl (Nat.eq_of_beq_eq_true g4)
    · exact .inr (by simpa [Nat.blt_eq] using g4)
  · cases e
/-- what is known of a row's slice -/
theorem rowOf_at {av : AV} {r : RW} (hs : Tel fz B φ s a w W S) (e : rowOf s.heap s.n av = some r) {v : Value} (hv : val φ av = some v) : ∃ L, φ r.k = some L ∧ v = .slice (some ⟨L.b, L.o + r.lo * r.sz, none⟩) (r.hi - r.lo) (L.c - r.lo) ∧ r.l.length ≤ L.c ∧
    (dnH φ s.heap)[posn s.n r.k]? = some (hrow (.slice (some ⟨L.b, L.o, none⟩) r.l.length L.c) r.e r.sz (enc φ) r.l) := by
  obtain ⟨rfl, h1, _, _, _⟩ := rowOf_ok e
  have hat := entR_at (φ := φ) h1
  obtain ⟨S1, S2, g1, _⟩ := Sat.pick hat hs.sat
  obtain ⟨L, hL, g2⟩ := dnRow g1
  simp only [val, hL, Option.map_some, Option.some.injEq] at hv
  refine ⟨L, hL, hv.symm, ?_, by rw [hat]; simp only [dnE, hL]⟩
  rcases g2 with ⟨g3, _⟩ | ⟨g, o, c, cs, g3, g4, _⟩
  · cases g3
  · injection g3 with q1 q2 q3
    rw [q3]
    exact g4
theorem ok_index {t : TypeId} {x y : Operand} {o : Oper} {r : AV × List Ent × Nat} (ho : o.op = .indexAddr t x y) (h : valE P s (.indexAddr t x y) = some r) : OkV P fz B s r.1 r.2.1 r.2.2 (fun a => execOp a.eval o) := by
  simp only [valE] at h
  obtain ⟨av, h1, h⟩ := bnd_some h
  obtain ⟨bv, h2, h⟩ := bnd_some h
  obtain ⟨i, h3, h⟩ := bnd_some h
  obtain ⟨q, h4, h⟩ := bnd_some h
  obtain ⟨h5, h⟩ := lp1_some h
  simp only [Bool.and_eq_true] at h5
  obtain ⟨⟨g1, g2⟩, g3⟩ := h5
  rw [asI_eq h3] at h2
  refine keep_ok h fun cv h6 φ a w W S hs => ?_
  injection h6 with h6
  subst h6
  have e1 := oE_val hs h1
  have e2 := oE_val hs h2
  injection e2 with e2
  obtain ⟨L, hL, hv, _, _⟩ := rowOf_at hs h4 e1
  have hi0 := of_decide_eq_true g2
  have hi1 : i.2.toNat < q.hi - q.lo := by simpa [Nat.blt_eq] using g3
  refine ⟨_, ex_index (i := i.2.toNat) g1 ho hv (by rw [← e2, Int.toNat_of_nonneg hi0]) hi1, ?_⟩
  simp only [val, hL, Option.map_some, add_pl, Nat.add_zero, Nat.add_mul, Nat.add_assoc]
theorem bnd_ok {σ : RG} {d : Nat} {x : Option Operand} {y : IntKind × Nat} (hs : Tel fz B φ s a w W S) (h : bnd s.regs d x = some y) : BdOk a y.1 d y.2 x := by
  cases x with
  | none => injection h with h; rw [← h]; rfl
  | some x =>
    simp only [bnd] at h
    obtain ⟨av, h1, h⟩ := bnd_some h
    obtain ⟨z, h2, h⟩ := bnd_some h
    obtain ⟨h3, h⟩ := lp1_some h
    injection h with h
    subst h
    rw [asI_eq h2] at h1
    have e1 := oE_val hs h1
    injection e1 with e1
    show a.eval x = _
    rw [← e1, Int.toNat_of_nonneg (of_decide_eq_true h3)]
theorem ok_slice {t : TypeId} {x : Operand} {lo hi : Option Operand} {o : Oper} {r : AV × List Ent × Nat} (ho : o.op = .slice t x lo hi none) (h : valE P s (.slice t x lo hi none) = some r) : OkV P fz B s r.1 r.2.1 r.2.2 (fun a => execOp a.eval o) := by
  simp only [valE] at h
  obtain ⟨av, h1, h⟩ := bnd_some h
  refine keep_ok h fun cv h3 φ a w W S hs => ?_
  have e1 := oE_val hs h1
  unfold cutE at h3
  cases hn : asNil av with
  | true =>
    rw [hn] at h3
    obtain ⟨e, k1, h3⟩ := bnd_some h3
    obtain ⟨i, k0, h3⟩ := bnd_some h3
    obtain ⟨l, k2, h3⟩ := bnd_some h3
    obtain ⟨hh, k3, h3⟩ := bnd_some h3
    obtain ⟨k4, h3⟩ := lp1_some h3
    injection h3 with h3
    subst h3
    rw [asNil_eq hn] at e1 ⊢
    injection e1 with e1
    simp only [Bool.and_eq_true] at k4
    have q1 := bnd_ok (σ := s.regs) hs k2
    have q2 := bnd_ok (σ := s.regs) hs k3
    rw [Nat.eq_of_beq_eq_true k4.1] at q1
    rw [Nat.eq_of_beq_eq_true k4.2] at q2
    have ht : tSl P t e i.size = true := by
      unfold tSl
      rw [elemT_eq k1, k0]
      simp
    exact ⟨_, ex_cut (n := 0) ht ho e1.symm q1 q2 (Nat.le_refl _) (Nat.le_refl _), rfl⟩
  | false =>
    rw [hn] at h3
    obtain ⟨e, k1, h3⟩ := bnd_some h3
    obtain ⟨q, k2, h3⟩ := bnd_some h3
    obtain ⟨k0, h3⟩ := lp1_some h3
    obtain ⟨l, k3, h3⟩ := bnd_some h3
    obtain ⟨hh, k4, h3⟩ := bnd_some h3
    obtain ⟨k5, h3⟩ := lp1_some h3
    injection h3 with h3
    subst h3
    simp only [Bool.and_eq_true, Bool.or_eq_true] at k5 k0
    obtain ⟨⟨g1, g2⟩, g3⟩ := k5
    have g1 := Nat.le_of_ble_eq_true g1
    have g2 := Nat.le_of_ble_eq_true g2
    obtain ⟨L, hL, hv, hlc, _⟩ := rowOf_at hs k2 e1
    have q1 := bnd_ok (σ := s.regs) hs k3
    have q2 := bnd_ok (σ := s.regs) hs k4
    refine ⟨_, ex_cut k0.2 ho hv q1 q2 g1 (by omega), ?_⟩
    simp only [val, hL, Option.map_some]
    by_cases hc : L.c - q.lo = l.2
    · rw [if_pos hc]
      have hl0 : l.2 = 0 := by
        rcases g3 with g3 | g3
        · exact Nat.eq_of_beq_eq_true g3
        · have : q.lo + l.2 < q.l.length := by simpa [Nat.blt_eq] using g3
          omega
      rw [hl0]
      simp only [Nat.add_zero, Nat.sub_zero]
      congr 2
      omega
    · rw [if_neg hc, add_pl, Nat.add_mul, Nat.add_assoc]
      congr 2 <;> omega
theorem ok_field {t : TypeId} {x : Operand} {f : Nat} {o : Oper} {r : AV × List Ent × Nat} (ho : o.op = .field t x f) (h : valE P s (.field t x f) = some r) : OkV P fz B s r.1 r.2.1 r.2.2 (fun a => execOp a.eval o) := by
  simp only [valE] at h
  obtain ⟨av, h1, h⟩ := bnd_some h
  obtain ⟨l, h2, h⟩ := bnd_some h
  rw [asA_eq h2] at h1
  refine keep_ok h fun cv h3 φ a w W S hs => ?_
  have e1 := oE_val hs h1
  simp only [val, Option.map_eq_some_iff] at e1
  obtain ⟨vs, e2, e1⟩ := e1
  unfold fldE at h3
  obtain ⟨off, k1, h3⟩ := bnd_some h3
  have hvp := (vals_vps (w := w) (W := W)).2 e2
  split at h3
  · rename_i ht
    rw [lget_eq] at h3
    obtain ⟨u, hu, hpu⟩ := hvp.get (i := off) (p := dn φ cv) (by rw [List.getElem?_map, h3]; rfl)
    refine ⟨u, ?_, dn_p.1 hpu⟩
    unfold tPart at ht
    split at ht
    · rename_i fs hu'
      split at ht
      · rename_i fd hfd
        split at ht
        · rename_i hoff
          split at ht
          · rename_i dd ii hud hid
            split at ht
            · cases ht
            · rename_i hna
              have hc : vs.toArray[fd.offset]? = some u := by rw [hoff]; simpa using hu
              unfold execOp
              simp only [ho, Instr.field, ← e1, asAgg, Sem.run_bind, run_underlying hu', Result.andThen_ok, hfd, Sem.run_pure, part, run_isAgg hud, hna, if_false, hc]
              rfl
          · cases ht
        · cases ht
      · cases ht
    · cases ht
  · rename_i n ht
    obtain ⟨k2, h3⟩ := lp1_some h3
    injection h3 with h3
    subst h3
    refine ⟨.agg (vs.toArray.extract off (off + n)), ?_, ?_⟩
    · unfold tPart at ht
      split at ht
      · rename_i fs hu
        split at ht
        · rename_i fd hfd
          split at ht
          · rename_i hoff
            split at ht
            · rename_i dd ii hud hid
              split at ht
              · rename_i hna
                simp only [Option.some.injEq] at ht
                subst hoff
                unfold execOp
                simp only [ho, Instr.field, ← e1, asAgg, Sem.run_bind, run_underlying hu, Result.andThen_ok, hfd, Sem.run_pure, part, run_isAgg hud, hna, if_true, run_size hid, ht]
              · cases ht
            · cases ht
          · cases ht
        · cases ht
      · cases ht
    · have h2 : vals φ ((l.drop off).take n) = some ((vs.drop off).take n) := by
        have := (hvp.drop off).take n
        rw [← List.map_drop, ← List.map_take] at this
        exact vals_vps.1 this
      simp only [val, h2, Option.map_some]
      congr 2
      apply Array.ext'
      simp [List.take_drop]
  · cases h3
theorem ok_mkmap {t : TypeId} {o : Oper} {r : AV × List Ent × Nat} (ho : o.op = .makeMap t none) (h : valE P s (.makeMap t none) = some r) : OkV P fz B s r.1 r.2.1 r.2.2 (fun a => execOp a.eval o) := by
  simp only [valE] at h
  split at h
  · injection h with h
    subst h
    refine ⟨Nat.le_succ _, fun φ hf a w W S hs => ?_⟩
    have hx := setE_ext ⟨w.heap.size, 0, 0⟩ hf
    have hr := Run.new hs.run.sub hs.run.bound (.map #[] 0)
    have hev := hr.evo hs.run.sub
    refine ⟨_, .map (some w.heap.size), _, _, _, hx, ?_, by simp only [val, setE_at, Option.map_some], ?_, hr⟩
    · unfold execOp
      simp only [ho, Instr.makeMap, Option.map_none, newObj, Sem.run_bind, Sem.run_pure]
      rfl
    · exact ⟨fun b => b = w.heap.size, S, dnMap_mk (setE_at _ _ _) ⟨⟨#[], 0, new_at w _, trivial, trivial, by simp, by simp⟩, fun _ => Iff.rfl⟩, Sat_le hx.le (hs.sat.st hev (fun b hb => by have := hs.sat.lt b hb; simp [Array.getElem?_push, Nat.ne_of_lt this])), fun b hb hS => by have := hs.sat.lt b hS; omega, fun _ => Iff.rfl⟩
  · cases h
theorem mgetA_eq : ∀ (m : List (Int × AV)) (x : Int), mgetA m x = mget m x
  | [], _ => rfl
  | (k, a) :: m, x => by simp only [mgetA, mget, mgetA_eq m x]
theorem msetA_eq : ∀ (m : List (Int × AV)) (x : Int) (y : AV), msetA m x y = mset m x y
  | [], _, _ => rfl
  | (k, a) :: m, x, y => by simp only [msetA, mset, msetA_eq m x y]
theorem isInt_eq {t : TypeId} (h : isInt P t = true) : P.underlying t = some (.int .i64) := by
  unfold isInt at h
  split at h
  · assumption
  · cases h
theorem vals_v {φ : Env} : ∀ (l : List Value), vals φ (l.map AV.v) = some l
  | [] => rfl
  | x :: l => by simp only [List.map_cons, vals, val, vals_v l]
theorem zav_val (v : Value) : val φ (zav v) = some v := by
  unfold zav
  split
  · simp only [val, vals_v, Option.map_some]
  · rfl
theorem ok_lookup {t : TypeId} {x y : Operand} {ok : Bool} {o : Oper} {r : AV × List Ent × Nat} (ho : o.op = .lookup t x y ok) (h : valE P s (.lookup t x y ok) = some r) : OkV P fz B s r.1 r.2.1 r.2.2 (fun a => execOp a.eval o) := by
  simp only [valE] at h
  obtain ⟨av, h1, h⟩ := bnd_some h
  obtain ⟨k, h2, h⟩ := bnd_some h
  obtain ⟨bv, h3, h⟩ := bnd_some h
  obtain ⟨i, h4, h⟩ := bnd_some h
  obtain ⟨h5, h⟩ := lp1_some h
  rw [asM_eq h2] at h1
  rw [asI_eq h4] at h3
  have h5 := of_decide_eq_true h5
  refine keep_ok h fun cv h6 φ a w W S hs => ?_
  have e1 := oE_val hs h1
  have e2 := oE_val hs h3
  injection e2 with e2
  unfold lkE at h6
  obtain ⟨m, k1, h6⟩ := bnd_some h6
  obtain ⟨k2, h6⟩ := lp1_some h6
  obtain ⟨z, k3, h6⟩ := bnd_some h6
  simp only [Bool.and_eq_true] at k2
  obtain ⟨S1, S2, g1, _⟩ := Sat.pick (entM_at (φ := φ) k1) hs.sat
  obtain ⟨L, hL, g2⟩ := dnMap g1
  simp only [val, hL, Option.map_some, Option.some.injEq] at e1
  obtain ⟨u, hr, hu⟩ := run_lookup (k := i.2) (ok := ok) (d0 := zav z) k2.1 (keyInt (isInt_eq k2.2)) g2 k3 (fun w W => dn_p.2 (zav_val z))
  have hu := dn_p.1 hu
  rw [mgetA_eq] at h6
  have hex : (execOp a.eval o).run P w = .ok (.value (if ok then .tuple #[u, .bool (mget m.2.2 i.2).isSome] else u)) w := by
    have e2' : a.eval y = eI i.2 := by rw [← e2, h5]; rfl
    unfold execOp
    simp only [ho, ← e1, e2', Sem.run_bind, hr, Result.andThen_ok, Sem.run_pure]
  refine ⟨_, hex, ?_⟩
  cases hm : mget m.2.2 i.2 with
  | none =>
    rw [hm] at h6 hu
    injection h6 with h6
    subst h6
    cases ok with
    | true => simp only [cond_true, val, vals, show val φ (zav z) = some u from hu, Option.map_some]; rfl
    | false => exact hu
  | some q =>
    rw [hm] at h6 hu
    injection h6 with h6
    subst h6
    cases ok with
    | true => simp only [cond_true, val, vals, show val φ q = some u from hu, Option.map_some]; rfl
    | false => exact hu
end
end Go.Proofs.Ytkcpejbabbbjpaa
