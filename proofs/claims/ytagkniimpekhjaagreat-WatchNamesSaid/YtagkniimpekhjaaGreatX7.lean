/- A part of the proof: contracts over a program of the model. -/
import Derived.Test.YtagkniimpekhjaaGreatX4
import Derived.Lib.AppendZeros
set_option linter.unusedVariables false
set_option linter.unusedSectionVars false
set_option linter.unusedSimpArgs false
namespace Go.Proofs.YtagkniimpekhjaaGreat
open Go.RowKit

section
variable {P : Program} {fz : Nat} {B : Bs} {φ : Env} {s : XS} {a : Act} {w : World} {W : WS} {S : Nat → Prop}
theorem rowOf_ok {h : List Ent} {n : Nat} {av : AV} {r : RW} (e : rowOf h n av = some r) : av = .sl r.k r.sz r.lo r.hi ∧ entR h n r.k = some (r.e, r.sz, r.l) ∧ r.lo ≤ r.hi ∧ r.hi ≤ r.l.length ∧ (r.lo = 0 ∨ r.lo < r.l.length) := by
  unfold rowOf at e
  split at e
  · rename_i k z lo hi
    obtain ⟨x, h1, h2⟩ := bnd_some e
    obtain ⟨h3, h4⟩ := lp1_some h2
    injection h4 with h4
    subst h4
    simp only [Bool.and_eq_true, Bool.or_eq_true] at h3
    obtain ⟨⟨⟨g1, g2⟩, g3⟩, g4⟩ := h3
    have := Nat.eq_of_beq_eq_true g1
    subst this
    refine ⟨rfl, h1, Nat.le_of_ble_eq_true g2, Nat.le_of_ble_eq_true g3, ?_⟩
    rcases g4 with g4 | g4
    · exact .inl (Nat.eq_of_beq_eq_true g4)
    · exact .inr (by simpa [Nat.blt_eq] using g4)
  · cases e
/-- what is known of a row's slice -/
theorem rowOf_at {av : AV} {r : RW} (hs : Tel fz B φ s a w W S) (e : rowOf s.heap s.n av = some r) {v : Value} (hv : val φ av = some v) : ∃ L, φ r.k = some L ∧ v = .slice (some ⟨L.b, L.o + r.lo * r.sz, none⟩) (r.hi - r.lo) (L.c - r.lo) ∧ r.l.length ≤ L.c ∧
    (dnH φ s.heap)[posn s.n r.k]? = some (hrow (.slice (some ⟨L.b, L.o, none⟩) r.l.length L.c) r.e r.sz (enc φ) r.l) := by
  obtain ⟨rfl, h1, _, _, _⟩ := rowOf_ok e
  have hat := entR_at (φ := φ) h1
  obtain ⟨S1, S2, g1, _⟩ := Sat.pick hat hs.sat
  obtain ⟨L, hL, g2⟩ := dnRow g1
  simp only [val, hL, Option.map_some, Option.some.injEq] at hv
  refine ⟨L, hL, hv.symm, ?_, by rw [hat]; simp only [dnE, hL]⟩
  rcases g2 with ⟨g3, _⟩ | ⟨g, o, c, cs, g3, g4, _⟩
  · cases g3
  · injection g3 with q1 q2 q3
    rw [q3]
    exact g4
theorem ok_index {t : TypeId} {x y : Operand} {o : Oper} {r : AV × List Ent × Nat} (ho : o.op = .indexAddr t x y) (h : valE P s (.indexAddr t x y) = some r) : OkV P fz B s r.1 r.2.1 r.2.2 (fun a => execOp a.eval o) := by
  simp only [valE] at h
  obtain ⟨av, h1, h⟩ := bnd_some h
  obtain ⟨bv, h2, h⟩ := bnd_some h
  obtain ⟨i, h3, h⟩ := bnd_some h
  obtain ⟨q, h4, h⟩ := bnd_some h
  obtain ⟨h5, h⟩ := lp1_some h
  simp only [Bool.and_eq_true] at h5
  obtain ⟨⟨g1, g2⟩, g3⟩ := h5
  rw [asI_eq h3] at h2
  refine keep_ok h fun cv h6 φ a w W S hs => ?_
  injection h6 with h6
  subst h6
  have e1 := oE_val hs h1
  have e2 := oE_val hs h2
  injection e2 with e2
  obtain ⟨L, hL, hv, _, _⟩ := rowOf_at hs h4 e1
  have hi0 := of_decide_eq_true g2
  have hi1 : i.2.toNat < q.hi - q.lo := by simpa [Nat.blt_eq] using g3
  refine ⟨_, ex_index (i := i.2.toNat) g1 ho hv (by rw [← e2, Int.toNat_of_nonneg hi0]) hi1, ?_⟩
  simp only [val, hL, Option.map_some, add_pl, Nat.add_zero, Nat.add_mul, Nat.add_assoc]
theorem bnd_ok {σ : RG} {d : Nat} {x : Option Operand} {y : IntKind × Nat} (hs : Tel fz B φ s a w W S) (h : bnd s.regs d x = some y) : BdOk a y.1 d y.2 x := by
  cases x with
  | none => injection h with h; rw [← h]; rfl
  | some x =>
    simp only [bnd] at h
    obtain ⟨av, h1, h⟩ := bnd_some h
    obtain ⟨z, h2, h⟩ := bnd_some h
    obtain ⟨h3, h⟩ := lp1_some h
    injection h with h
    subst h
    rw [asI_eq h2] at h1
    have e1 := oE_val hs h1
    injection e1 with e1
    show a.eval x = _
    rw [← e1, Int.toNat_of_nonneg (of_decide_eq_true h3)]
theorem ok_slice {t : TypeId} {x : Operand} {lo hi : Option Operand} {o : Oper} {r : AV × List Ent × Nat} (ho : o.op = .slice t x lo hi none) (h : valE P s (.slice t x lo hi none) = some r) : OkV P fz B s r.1 r.2.1 r.2.2 (fun a => execOp a.eval o) := by
  simp only [valE] at h
  obtain ⟨av, h1, h⟩ := bnd_some h
  refine keep_ok h fun cv h3 φ a w W S hs => ?_
  have e1 := oE_val hs h1
  unfold cutE at h3
  cases hn : asNil av with
  | true =>
    rw [hn] at h3
    obtain ⟨e, k1, h3⟩ := bnd_some h3
    obtain ⟨i, k0, h3⟩ := bnd_some h3
    obtain ⟨l, k2, h3⟩ := bnd_some h3
    obtain ⟨hh, k3, h3⟩ := bnd_some h3
    obtain ⟨k4, h3⟩ := lp1_some h3
    injection h3 with h3
    subst h3
    rw [asNil_eq hn] at e1 ⊢
    injection e1 with e1
    simp only [Bool.and_eq_true] at k4
    have q1 := bnd_ok (σ := s.regs) hs k2
    have q2 := bnd_ok (σ := s.regs) hs k3
    rw [Nat.eq_of_beq_eq_true k4.1] at q1
    rw [Nat.eq_of_beq_eq_true k4.2] at q2
    have ht : tSl P t e i.size = true := by
      unfold tSl
      rw [elemT_eq k1, k0]
      simp
    exact ⟨_, ex_cut (n := 0) ht ho e1.symm q1 q2 (Nat.le_refl _) (Nat.le_refl _), rfl⟩
  | false =>
    rw [hn] at h3
    obtain ⟨e, k1, h3⟩ := bnd_some h3
    obtain ⟨q, k2, h3⟩ := bnd_some h3
    obtain ⟨k0, h3⟩ := lp1_some h3
    obtain ⟨l, k3, h3⟩ := bnd_some h3
    obtain ⟨hh, k4, h3⟩ := bnd_some h3
    obtain ⟨k5, h3⟩ := lp1_some h3
    injection h3 with h3
    subst h3
    simp only [Bool.and_eq_true, Bool.or_eq_true] at k5 k0
    obtain ⟨⟨g1, g2⟩, g3⟩ := k5
    have g1 := Nat.le_of_ble_eq_true g1
    have g2 := Nat.le_of_ble_eq_true g2
    obtain ⟨L, hL, hv, hlc, _⟩ := rowOf_at hs k2 e1
    have q1 := bnd_ok (σ := s.regs) hs k3
    have q2 := bnd_ok (σ := s.regs) hs k4
    refine ⟨_, ex_cut k0.2 ho hv q1 q2 g1 (by omega), ?_⟩
    simp only [val, hL, Option.map_some]
    by_cases hc : L.c - q.lo = l.2
    · rw [if_pos hc]
      have hl0 : l.2 = 0 := by
        rcases g3 with g3 | g3
        · exact Nat.eq_of_beq_eq_true g3
        · have : q.lo + l.2 < q.l.length := by simpa [Nat.blt_eq] using g3
          omega
      rw [hl0]
      simp only [Nat.add_zero, Nat.sub_zero]
      congr 2
      omega
    · rw [if_neg hc, add_pl, Nat.add_mul, Nat.add_assoc]
      congr 2 <;> omega
theorem ok_field {t : TypeId} {x : Operand} {f : Nat} {o : Oper} {r : AV × List Ent × Nat} (ho : o.op = .field t x f) (h : valE P s (.field t x f) = some r) : OkV P fz B s r.1 r.2.1 r.2.2 (fun a => execOp a.eval o) := by
  simp only [valE] at h
  obtain ⟨av, h1, h⟩ := bnd_some h
  obtain ⟨l, h2, h⟩ := bnd_some h
  rw [asA_eq h2] at h1
  refine keep_ok h fun cv h3 φ a w W S hs => ?_
  have e1 := oE_val hs h1
  simp only [val, Option.map_eq_some_iff] at e1
  obtain ⟨vs, e2, e1⟩ := e1
  unfold fldE at h3
  obtain ⟨off, k1, h3⟩ := bnd_some h3
  have hvp := (vals_vps (w := w) (W := W)).2 e2
  split at h3
  · rename_i ht
    rw [lget_eq] at h3
    obtain ⟨u, hu, hpu⟩ := hvp.get (i := off) (p := dn φ cv) (by rw [List.getElem?_map, h3]; rfl)
    refine ⟨u, ?_, dn_p.1 hpu⟩
    unfold tPart at ht
    split at ht
    · rename_i fs hu'
      split at ht
      · rename_i fd hfd
        split at ht
        · rename_i hoff
          split at ht
          · rename_i dd ii hud hid
            split at ht
            · cases ht
            · rename_i hna
              have hc : vs.toArray[fd.offset]? = some u := by rw [hoff]; simpa using hu
              unfold execOp
              simp only [ho, Instr.field, ← e1, asAgg, Sem.run_bind, run_underlying hu', Result.andThen_ok, hfd, Sem.run_pure, part, run_isAgg hud, hna, if_false, hc]
              rfl
          · cases ht
        · cases ht
      · cases ht
    · cases ht
  · rename_i n ht
    obtain ⟨k2, h3⟩ := lp1_some h3
    injection h3 with h3
    subst h3
    refine ⟨.agg (vs.toArray.extract off (off + n)), ?_, ?_⟩
    · unfold tPart at ht
      split at ht
      · rename_i fs hu
        split at ht
        · rename_i fd hfd
          split at ht
          · rename_i hoff
            split at ht
            · rename_i dd ii hud hid
              split at ht
              · rename_i hna
                simp only [Option.some.injEq] at ht
                subst hoff
                unfold execOp
                simp only [ho, Instr.field, ← e1, asAgg, Sem.run_bind, run_underlying hu, Result.andThen_ok, hfd, Sem.run_pure, part, run_isAgg hud, hna, if_true, run_size hid, ht]
              · cases ht
            · cases ht
          · cases ht
        · cases ht
      · cases ht
    · have h2 : vals φ ((l.drop off).take n) = some ((vs.drop off).take n) := by
        have := (hvp.drop off).take n
        rw [← List.map_drop, ← List.map_take] at this
        exact vals_vps.1 this
      simp only [val, h2, Option.map_some]
      congr 2
      apply Array.ext'
      simp [List.take_drop]
  · cases h3
theorem ok_mkmap {t : TypeId} {o : Oper} {r : AV × List Ent × Nat} (ho : o.op = .makeMap t none) (h : valE P s (.makeMap t none) = some r) : OkV P fz B s r.1 r.2.1 r.2.2 (fun a => execOp a.eval o) := by
  simp only [valE] at h
  split at h
  · injection h with h
    subst h
    refine ⟨Nat.le_succ _, fun φ hf a w W S hs => ?_⟩
    have hx := setE_ext ⟨w.heap.size, 0, 0⟩ hf
    have hr := Run.new hs.run.sub hs.run.bound (.map #[] 0)
    have hev := hr.evo hs.run.sub
    refine ⟨_, .map (some w.heap.size), _, _, _, hx, ?_, by simp only [val, setE_at, Option.map_some], ?_, hr⟩
    · unfold execOp
      simp only [ho, Instr.makeMap, Option.map_none, newObj, Sem.run_bind, Sem.run_pure]
      rfl
    · refine ⟨fun b => b = w.heap.size, S, ?_, Sat_le hx.le (hs.sat.st hev (fun b hb => by have := hs.sat.lt b hb; simp [Array.getElem?_push, Nat.ne_of_lt this])), fun b hb hS => by have := hs.sat.lt b hS; omega, fun _ => Iff.rfl⟩
      rename_i kt _ _
      cases tTri P kt with
      | true => exact dnMapT_mk (setE_at _ _ _) ⟨⟨#[], 0, new_at w _, trivial, trivial, by simp, by simp⟩, fun _ => Iff.rfl⟩
      | false => exact dnMap_mk (setE_at _ _ _) ⟨⟨#[], 0, new_at w _, trivial, trivial, by simp, by simp⟩, fun _ => Iff.rfl⟩
  · cases h
theorem mgetA_eq {κ : Type} [DecidableEq κ] : ∀ (m : List (κ × AV)) (x : κ), mgetA m x = mget m x
  | [], _ => rfl
  | (k, a) :: m, x => by simp only [mgetA, mget, mgetA_eq m x]
theorem msetA_eq {κ : Type} [DecidableEq κ] : ∀ (m : List (κ × AV)) (x : κ) (y : AV), msetA m x y = mset m x y
  | [], _, _ => rfl
  | (k, a) :: m, x, y => by simp only [msetA, mset, msetA_eq m x y]
theorem vals_v {φ : Env} : ∀ (l : List Value), vals φ (l.map AV.v) = some l
  | [] => rfl
  | x :: l => by simp only [List.map_cons, vals, val, vals_v l]
theorem zav_val (v : Value) : val φ (zav v) = some v := by
  unfold zav
  split
  · simp only [val, vals_v, Option.map_some]
  · rfl
theorem asTri_eq {b : AV} {x : Tri} (h : asTri b = some x) : b = .agg [.v (.int .i64 x.a), .v (.int .i64 x.b), .v (.int .i64 x.c)] := by
  unfold asTri at h
  split at h
  · injection h with h; subst h; rfl
  · cases h
theorem val_tri {φ : Env} (x : Tri) : val φ (.agg [.v (.int .i64 x.a), .v (.int .i64 x.b), .v (.int .i64 x.c)]) = some (eTri x) := rfl
theorem lk_step {κ : Type} [DecidableEq κ] {eK : κ → Value} {t kt vt : TypeId} {x y : Operand} {ok : Bool} {o : Oper} {b : Nat} {m : List (κ × AV)} {q : κ} {cv : AV} {z : Value} {S1 : Nat → Prop} (ho : o.op = .lookup t x y ok) (k2 : tMap P t kt vt = true) (hK : KeyOk P kt eK) (k3 : (P.info? vt).bind (·.zero) = some z)
    (g2 : (hmap b eK (dn φ) m).p w W S1) (e1 : a.eval x = .map (some b)) (e2' : a.eval y = eK q)
    (h6 : (match mgetA m q with | some a => some (bif ok then .tup [a, .v (.bool true)] else a) | none => some (bif ok then .tup [zav z, .v (.bool false)] else zav z)) = some cv) :
    ∃ u, (execOp a.eval o).run P w = .ok (.value u) w ∧ val φ cv = some u := by
  obtain ⟨u, hr, hu⟩ := run_lookup (k := q) (ok := ok) (d0 := zav z) k2 hK g2 k3 (fun w W => dn_p.2 (zav_val z))
  have hu := dn_p.1 hu
  rw [mgetA_eq] at h6
  have hex : (execOp a.eval o).run P w = .ok (.value (if ok then .tuple #[u, .bool (mget m q).isSome] else u)) w := by
    unfold execOp
    simp only [ho, e1, e2', Sem.run_bind, hr, Result.andThen_ok, Sem.run_pure]
  refine ⟨_, hex, ?_⟩
  cases hm : mget m q with
  | none =>
    rw [hm] at h6 hu
    injection h6 with h6
    subst h6
    cases ok with
    | true => simp only [cond_true, val, vals, show val φ (zav z) = some u from hu, Option.map_some]; rfl
    | false => exact hu
  | some q =>
    rw [hm] at h6 hu
    injection h6 with h6
    subst h6
    cases ok with
    | true => simp only [cond_true, val, vals, show val φ q = some u from hu, Option.map_some]; rfl
    | false => exact hu
theorem ok_lookup {t : TypeId} {x y : Operand} {ok : Bool} {o : Oper} {r : AV × List Ent × Nat} (ho : o.op = .lookup t x y ok) (h : valE P s (.lookup t x y ok) = some r) : OkV P fz B s r.1 r.2.1 r.2.2 (fun a => execOp a.eval o) := by
  simp only [valE] at h
  obtain ⟨av, h1, h⟩ := bnd_some h
  obtain ⟨k, h2, h⟩ := bnd_some h
  obtain ⟨bv, h3, h⟩ := bnd_some h
  rw [asM_eq h2] at h1
  split at h
  · rename_i q hq
    rw [asTri_eq hq] at h3
    refine keep_ok h fun cv h6 φ a w W S hs => ?_
    have e1 := oE_val hs h1
    have e2 := oE_val hs h3
    rw [val_tri] at e2
    injection e2 with e2
    unfold lkT at h6
    obtain ⟨m, k1, h6⟩ := bnd_some h6
    obtain ⟨k2, h6⟩ := lp1_some h6
    obtain ⟨z, k3, h6⟩ := bnd_some h6
    simp only [Bool.and_eq_true] at k2
    obtain ⟨S1, S2, g1, _⟩ := Sat.pick (entT_at (φ := φ) k1) hs.sat
    obtain ⟨L, hL, g2⟩ := dnMapT g1
    simp only [val, hL, Option.map_some, Option.some.injEq] at e1
    exact lk_step ho k2.1 (keyTri k2.2) k3 g2 e1.symm e2.symm h6
  · obtain ⟨i, h4, h⟩ := bnd_some h
    obtain ⟨h5, h⟩ := lp1_some h
    rw [asI_eq h4] at h3
    have h5 := of_decide_eq_true h5
    refine keep_ok h fun cv h6 φ a w W S hs => ?_
    have e1 := oE_val hs h1
    have e2 := oE_val hs h3
    injection e2 with e2
    unfold lkE at h6
    obtain ⟨m, k1, h6⟩ := bnd_some h6
    obtain ⟨k2, h6⟩ := lp1_some h6
    obtain ⟨z, k3, h6⟩ := bnd_some h6
    simp only [Bool.and_eq_true] at k2
    obtain ⟨S1, S2, g1, _⟩ := Sat.pick (entM_at (φ := φ) k1) hs.sat
    obtain ⟨L, hL, g2⟩ := dnMap g1
    simp only [val, hL, Option.map_some, Option.some.injEq] at e1
    exact lk_step ho k2.1 (keyInt (isInt_eq k2.2)) k3 g2 e1.symm (by rw [← e2, h5]; rfl) h6
end
end Go.Proofs.YtagkniimpekhjaaGreat

set_option linter.unusedVariables false
set_option linter.unusedSectionVars false
set_option linter.unusedSimpArgs false
namespace Go.Proofs.YtagkniimpekhjaaGreat
open Go.RowKit

section
variable {P : Program} {fz : Nat} {B : Bs} {φ : Env} {s : XS} {a : Act} {w : World} {W : WS} {S : Nat → Prop}
theorem oEs_one {x : Operand} {xs : List Operand} {av : AV} {l : List AV} {σ : RG} (h : oEs σ xs = some (av :: l)) : ∃ y ys, xs = y :: ys ∧ oE σ y = some av ∧ oEs σ ys = some l := by
  cases xs with
  | nil => injection h with h; cases h
  | cons y ys =>
    simp only [oEs] at h
    cases h1 : oE σ y with
    | none => rw [h1] at h; cases h
    | some b =>
      cases h2 : oEs σ ys with
      | none => rw [h1, h2] at h; cases h
      | some l' =>
        rw [h1, h2] at h
        injection h with h
        injection h with h3 h4
        subst h3 h4
        exact ⟨y, ys, rfl, h1, h2⟩
theorem oEs_nil {xs : List Operand} {σ : RG} (h : oEs σ xs = some []) : xs = [] := by
  cases xs with
  | nil => rfl
  | cons y ys =>
    simp only [oEs] at h
    cases h1 : oE σ y with
    | none => rw [h1] at h; cases h
    | some b =>
      cases h2 : oEs σ ys with
      | none => rw [h1, h2] at h; cases h
      | some l' => rw [h1, h2] at h; injection h with h; cases h
theorem arr1 {α : Type} {x : Array α} {y : α} (h : x.toList = [y]) : x = #[y] := Array.ext' (by rw [h])
theorem arr2 {α : Type} {x : Array α} {y z : α} (h : x.toList = [y, z]) : x = #[y, z] := Array.ext' (by rw [h])
theorem lenA_ok {t : TypeId} {av : AV} {x : Operand} {n : Nat} {o : Oper} (hs : Tel fz B φ s a w W S) (ho : o.op = .call { callee := .builtin .len, args := #[x], argTypes := #[t] }) (h : lenA P t s.heap s.n av = some n) (e1 : val φ av = some (a.eval x)) : (execOp a.eval o).run P w = .ok (.value (.int .i64 n)) w := by
  unfold lenA at h
  split at h
  · obtain ⟨e, k1, h⟩ := bnd_some h
    injection h with h
    subst h
    injection e1 with e1
    exact ex_len ho (elemT_eq k1) e1.symm
  · rename_i k
    obtain ⟨m, k1, h⟩ := bnd_some h
    obtain ⟨k2, h⟩ := lp1_some h
    injection h with h
    subst h
    obtain ⟨S1, S2, g1, _⟩ := Sat.pick (entM_at (φ := φ) k1) hs.sat
    obtain ⟨L, hL, ⟨es, c, h1, h2, h3, h4, h5⟩, hS1⟩ := dnMap g1
    simp only [val, hL, Option.map_some, Option.some.injEq] at e1
    have hl := h2.len
    rw [Array.length_toList] at hl
    unfold execOp
    simp only [ho, resolve, invoke, builtin, Builtin.len_, List.map_toArray, List.map_cons, List.map_nil, ← e1, Sem.run_bind, Sem.run_pure, Result.andThen_ok, List.getElem?_toArray, List.getElem?_cons_zero, run_underlying (tMap_parts k2), goInt, run_getMap h1, hl]
  · rename_i k
    obtain ⟨k1, h⟩ := lp1_some h
    injection h with h
    subst h
    rw [Bool.and_eq_true] at k1
    obtain ⟨S1, S2, g1, _⟩ := Sat.pick (entH_at (φ := φ) k1.1) hs.sat
    simp only [dnE] at g1
    cases hk : φ k with
    | none => rw [hk] at g1; exact g1.elim
    | some L =>
      rw [hk] at g1
      obtain ⟨⟨c, h1⟩, _⟩ := g1
      simp only [val, hk, Option.map_some, Option.some.injEq] at e1
      have hu : ∃ d e, P.underlying t = some (.chan d e) := by
        have := k1.2
        unfold isCh at this
        split at this
        · exact ⟨_, _, by assumption⟩
        · cases this
      obtain ⟨d, e, hu⟩ := hu
      have hg : (getObj L.b).run P w = .ok (.chan c #[] false 0 0 false) w := by simp [getObj, Sem.run, h1]
      unfold execOp
      simp only [ho, resolve, invoke, builtin, Builtin.len_, List.map_toArray, List.map_cons, List.map_nil, ← e1, Sem.run_bind, Sem.run_pure, Result.andThen_ok, List.getElem?_toArray, List.getElem?_cons_zero, run_underlying hu, goInt, hg]
      rfl
  · obtain ⟨e, k1, h⟩ := bnd_some h
    obtain ⟨r, k2, h⟩ := bnd_some h
    injection h with h
    subst h
    obtain ⟨L, hL, hv, _, _⟩ := rowOf_at hs k2 e1
    exact ex_len ho (elemT_eq k1) hv
theorem ok_len {c : Call} {o : Oper} {r : AV × List Ent × Nat} (ho : o.op = .call c) (hc : c.callee = .builtin .len) (h : valE P s (.call c) = some r) : OkV P fz B s r.1 r.2.1 r.2.2 (fun a => execOp a.eval o) := by
  simp only [valE, hc] at h
  obtain ⟨l, h1, h⟩ := bnd_some h
  split at h
  · rename_i av t ht
    obtain ⟨x, xs, hx, h2, h3⟩ := oEs_one (x := .func 0) h1
    have := oEs_nil h3
    subst this
    refine keep_ok h fun cv h6 φ a w W S hs => ?_
    obtain ⟨n, h7, h8⟩ := bnd_some h6
    injection h8 with h8
    subst h8
    refine ⟨_, lenA_ok (x := x) (t := t) hs ?_ h7 (oE_val hs h2), rfl⟩
    rw [ho]
    obtain ⟨c1, c2, c3⟩ := c
    simp only at hc hx ht
    rw [hc, arr1 hx, arr1 ht]
  · cases h
theorem ok_cap {c : Call} {o : Oper} {r : AV × List Ent × Nat} (ho : o.op = .call c) (hc : c.callee = .builtin .cap) (h : valE P s (.call c) = some r) : OkV P fz B s r.1 r.2.1 r.2.2 (fun a => execOp a.eval o) := by
  simp only [valE, hc] at h
  obtain ⟨l, h1, h⟩ := bnd_some h
  split at h
  · rename_i av t ht
    obtain ⟨x, xs, hx, h2, h3⟩ := oEs_one (x := .func 0) h1
    have := oEs_nil h3
    subst this
    obtain ⟨e, k1, h⟩ := bnd_some h
    obtain ⟨k2, h⟩ := lp1_some h
    refine keep_ok h fun cv h6 φ a w W S hs => ?_
    injection h6 with h6
    subst h6
    have e1 := oE_val hs h2
    rw [asNil_eq k2] at e1
    injection e1 with e1
    refine ⟨.int .i64 0, ?_, rfl⟩
    obtain ⟨c1, c2, c3⟩ := c
    simp only at hc hx ht
    unfold execOp
    simp only [ho, hc, arr1 hx, arr1 ht, resolve, invoke, builtin, Builtin.cap_, List.map_toArray, List.map_cons, List.map_nil, ← e1, Sem.run_bind, Sem.run_pure, Result.andThen_ok, List.getElem?_toArray, List.getElem?_cons_zero, run_underlying (elemT_eq k1), goInt]
    rfl
  · cases h
theorem ok_max {c : Call} {o : Oper} {r : AV × List Ent × Nat} (ho : o.op = .call c) (hc : c.callee = .builtin .max) (h : valE P s (.call c) = some r) : OkV P fz B s r.1 r.2.1 r.2.2 (fun a => execOp a.eval o) := by
  simp only [valE, hc] at h
  obtain ⟨l, h1, h⟩ := bnd_some h
  split at h
  · rename_i av bv
    obtain ⟨x, xs, hx, h2, h3⟩ := oEs_one (x := .func 0) h1
    obtain ⟨y, ys, hy, h4, h5⟩ := oEs_one (x := .func 0) h3
    have := oEs_nil h5
    subst this
    subst hy
    obtain ⟨i, k1, h⟩ := bnd_some h
    obtain ⟨j, k2, h⟩ := bnd_some h
    refine keep_ok h fun cv h6 φ a w W S hs => ?_
    injection h6 with h6
    subst h6
    have e1 := oE_val hs h2
    have e2 := oE_val hs h4
    rw [asI_eq k1] at e1
    rw [asI_eq k2] at e2
    injection e1 with e1
    injection e2 with e2
    refine ⟨.int i.1 (max i.2 j.2), ?_, rfl⟩
    obtain ⟨c1, c2, c3⟩ := c
    simp only at hc hx
    have hm : (if j.2 > i.2 then j.2 else i.2) = max i.2 j.2 := by
      rw [Int.max_def]
      split <;> split <;> omega
    unfold execOp
    simp only [ho, hc, arr2 hx, resolve, invoke, builtin, Builtin.max_, List.map_toArray, List.map_cons, List.map_nil, ← e1, ← e2, List.foldlM_cons, List.foldlM_nil, Builtin.max2, Sem.run_bind, Sem.run_pure, Result.andThen_ok, hm]
  · cases h
theorem ok_min {c : Call} {o : Oper} {r : AV × List Ent × Nat} (ho : o.op = .call c) (hc : c.callee = .builtin .min) (h : valE P s (.call c) = some r) : OkV P fz B s r.1 r.2.1 r.2.2 (fun a => execOp a.eval o) := by
  simp only [valE, hc] at h
  obtain ⟨l, h1, h⟩ := bnd_some h
  split at h
  · rename_i av bv
    obtain ⟨x, xs, hx, h2, h3⟩ := oEs_one (x := .func 0) h1
    obtain ⟨y, ys, hy, h4, h5⟩ := oEs_one (x := .func 0) h3
    have := oEs_nil h5
    subst this
    subst hy
    obtain ⟨i, k1, h⟩ := bnd_some h
    obtain ⟨j, k2, h⟩ := bnd_some h
    refine keep_ok h fun cv h6 φ a w W S hs => ?_
    injection h6 with h6
    subst h6
    have e1 := oE_val hs h2
    have e2 := oE_val hs h4
    rw [asI_eq k1] at e1
    rw [asI_eq k2] at e2
    injection e1 with e1
    injection e2 with e2
    refine ⟨.int i.1 (min i.2 j.2), ?_, rfl⟩
    obtain ⟨c1, c2, c3⟩ := c
    simp only at hc hx
    have hm : (if j.2 < i.2 then j.2 else i.2) = min i.2 j.2 := by
      rw [Int.min_def]
      split <;> split <;> omega
    unfold execOp
    simp only [ho, hc, arr2 hx, resolve, invoke, builtin, Builtin.min_, List.map_toArray, List.map_cons, List.map_nil, ← e1, ← e2, List.foldlM_cons, List.foldlM_nil, Builtin.min2, Sem.run_bind, Sem.run_pure, Result.andThen_ok, hm]
  · cases h
theorem spl_enc : ∀ (q cs : List AV) (o : Nat), spl (enc φ cs) o (enc φ q) = enc φ (spA cs o q)
  | [], cs, o => rfl
  | x :: q, cs, o => by
    show spl ((enc φ cs).set o (dn φ x)) (o + 1) (enc φ q) = enc φ (spA (lset x cs o) (o + 1) q)
    rw [lset_eq, ← spl_enc q]
    simp only [enc, List.map_set]
theorem dnH_eP {h : List Ent} {n k : Nat} {e : Ent} : dnH φ (eP h n k e) = (dnH φ h).set (posn n k) (dnE φ e) := by
  unfold eP dnH
  rw [lset_eq, List.map_set]
/-- What an operation without a value does. -/
def OkE (P : Program) (fz : Nat) (B : Bs) (s : XS) (h' : List Ent) (run : Act → Sem Next) : Prop :=
  ∀ φ a w W S, Tel fz B φ s a w W S → ∃ w' W' S', (run a).run P w = .ok .skip w' ∧ Sat w' W' (dnH φ h') S' ∧ Run w W S w' W' S'
theorem ok_store {t : TypeId} {x y : Operand} {o : Oper} {h' : List Ent} (ho : o.op = .store t x y) (h : effE P s (.store t x y) = some h') : OkE P fz B s h' (fun a => execOp a.eval o) := by
  simp only [effE] at h
  obtain ⟨pv, h1, h⟩ := bnd_some h
  obtain ⟨av, h2, h⟩ := bnd_some h
  intro φ a w W S hs
  have e1 := oE_val hs h1
  have e2 := oE_val hs h2
  clear h1
  cases pv with
  | ptr k o' =>
    simp only [stoE] at h
    obtain ⟨c, k1, h⟩ := bnd_some h
    obtain ⟨k2, h⟩ := lp1_some h
    injection h with h
    subst h
    simp only [Bool.and_eq_true] at k2
    obtain ⟨⟨g1, g2⟩, g3⟩ := k2
    have hat := entC_at (φ := φ) k1
    obtain ⟨S1, S2, q1, _⟩ := Sat.pick hat hs.sat
    obtain ⟨L, hL, hLo, _⟩ := dnC q1
    have hE : dnE φ (.cells k c.1 c.2) = hvar L.b c.1 (enc φ c.2) := by simp only [dnE, hL, hLo, show Nat.beq 0 0 = true from rfl, cond_true]
    rw [hE] at hat
    obtain ⟨f1, f2⟩ := flat_val g2 e2
    simp only [val, hL, Option.map_some, Option.some.injEq, hLo, Nat.zero_add] at e1
    obtain ⟨w', hr, hsat, hrun⟩ := store_var (P := P) (qs := enc φ (flat av)) (o := o') hat hs.sat hs.run.sub hs.run.bound (vals_vps.2 f1) f2 (by simp only [enc, List.length_map]; exact Nat.le_of_ble_eq_true g1)
    cases hi : P.info? t with
    | none => rw [hi] at g3; cases g3
    | some i =>
      rw [hi] at g3
      refine ⟨w', W, S, ex_store ho e1.symm rfl hi ?_ hr, ?_, hrun⟩
      · rw [Nat.eq_of_beq_eq_true g3, ← vals_len f1, Array.length_toList]
      · rw [dnH_eP]
        rw [spl_enc] at hsat
        have : dnE φ (.cells k c.1 (spA c.2 o' (flat av))) = hvar L.b c.1 (enc φ (spA c.2 o' (flat av))) := by simp only [dnE, hL, hLo, show Nat.beq 0 0 = true from rfl, cond_true]
        rw [this]
        exact hsat
  | el k sz i o' =>
    simp only [stoE] at h
    obtain ⟨c, k1, h⟩ := bnd_some h
    obtain ⟨cs, k3, h⟩ := bnd_some h
    obtain ⟨k2, h⟩ := lp1_some h
    injection h with h
    subst h
    simp only [Bool.and_eq_true] at k2
    obtain ⟨⟨⟨g0, g1⟩, g2⟩, g3⟩ := k2
    have := Nat.eq_of_beq_eq_true g0
    subst this
    have hat := entR_at (φ := φ) k1
    obtain ⟨S1, S2, q1, q2, hd, hS⟩ := Sat.pick hat hs.sat
    obtain ⟨L, hL, q3⟩ := dnRow q1
    obtain ⟨f1, f2⟩ := flat_val g2 e2
    simp only [val, hL, Option.map_some, Option.some.injEq] at e1
    rw [lget_eq] at k3
    obtain ⟨hi, k3'⟩ := List.getElem?_eq_some_iff.1 k3
    obtain ⟨w', hr, hrow', hrun⟩ := row_store (P := P) (i := i) (o := o') (qs := enc φ (flat av)) (x := spA cs o' (flat av)) q3 (fun b hb => hs.run.sub b ((hS b).2 (.inl hb))) hs.run.bound hi (vals_vps.2 f1) f2 (by simp only [enc, List.length_map]; exact Nat.le_of_ble_eq_true g1) (by rw [k3', spl_enc])
    have hlt := q2.lt
    obtain ⟨hr2, hd2⟩ := Run.framed (T := S2) (S := S) hrun hlt hd hS hs.run.sub
    have hev := hr2.evo hs.run.sub
    cases hi' : P.info? t with
    | none => rw [hi'] at g3; cases g3
    | some ii =>
      rw [hi'] at g3
      refine ⟨w', W, _, ex_store ho (ad := ⟨L.b, L.o + (i * c.2.1 + o'), none⟩) e1.symm rfl hi' ?_ (by simp only [sAddr, add_pl] at hr; exact hr), ?_, hr2⟩
      · rw [Nat.eq_of_beq_eq_true g3, ← vals_len f1, Array.length_toList]
      · rw [dnH_eP, lset_eq]
        refine Sat.put hat (dnRow_mk hL ?_) (q2.st hev (fun b hb => hrun.keep b (hlt b hb) (fun hc => hd b hc hb))) hd2
        rw [List.length_set]
        exact hrow'
  | _ => cases h
theorem mu_step {κ : Type} [DecidableEq κ] {eK : κ → Value} {t kt vt : TypeId} {x y z : Operand} {o : Oper} {k b : Nat} {m : List (κ × AV)} {q : κ} {cv : AV} {φ : Env} {a : Act} {w : World} {W : WS} {S : Nat → Prop} {e' : Ent} (ho : o.op = .mapUpdate t x y z) (hs : Tel fz B φ s a w W S) (k2 : tMap P t kt vt = true) (hK : KeyOk P kt eK) (g3 : m.length ≤ 1000000)
    {e0 : Ent} (hat : (dnH φ s.heap)[posn s.n k]? = some (dnE φ e0)) (hdn : ∀ {w : World} {W : WS} {S1 : Nat → Prop}, (dnE φ e0).p w W S1 → (hmap b eK (dn φ) m).p w W S1) (hup : ∀ {w : World} {W : WS} {S1 : Nat → Prop}, (hmap b eK (dn φ) (mset m q cv)).p w W S1 → (dnE φ e').p w W S1)
    (e1 : a.eval x = .map (some b)) (e2' : a.eval y = eK q) (h5 : oE s.regs z = some cv) :
    ∃ w' W' S', (execOp a.eval o).run P w = .ok .skip w' ∧ Sat w' W' (dnH φ (eP s.heap s.n k e')) S' ∧ Run w W S w' W' S' := by
  obtain ⟨S1, S2, q1, q2, hd, hS⟩ := Sat.pick hat hs.sat
  obtain ⟨w', hr, hm', hrun⟩ := run_mst (P := P) (uz := a.eval z) q cv k2 hK (by omega) hs.run.bound (dn_p.2 (oE_val hs h5)) S1 (hdn q1) (fun b hb => hs.run.sub b ((hS b).2 (.inl hb)))
  have hlt := q2.lt
  obtain ⟨hr2, hd2⟩ := Run.framed (T := S2) (S := S) hrun hlt hd hS hs.run.sub
  have hev := hr2.evo hs.run.sub
  refine ⟨w', W, _, ?_, ?_, hr2⟩
  · unfold execOp
    simp only [ho, e1, e2', Sem.run_bind, hr, Result.andThen_ok, Sem.run_pure]
  · rw [dnH_eP]
    exact Sat.put hat (hup hm') (q2.st hev (fun b hb => hrun.keep b (hlt b hb) (fun hc => hd b hc hb))) hd2
theorem ok_mapUpdate {t : TypeId} {x y z : Operand} {o : Oper} {h' : List Ent} (ho : o.op = .mapUpdate t x y z) (h : effE P s (.mapUpdate t x y z) = some h') : OkE P fz B s h' (fun a => execOp a.eval o) := by
  simp only [effE] at h
  obtain ⟨av, h1, h⟩ := bnd_some h
  obtain ⟨k, h2, h⟩ := bnd_some h
  obtain ⟨bv, h3, h⟩ := bnd_some h
  rw [asM_eq h2] at h1
  split at h
  · rename_i q hq
    rw [asTri_eq hq] at h3
    obtain ⟨cv, h5, h⟩ := bnd_some h
    obtain ⟨m, k1, h⟩ := bnd_some h
    obtain ⟨k2, h⟩ := lp1_some h
    injection h with h
    subst h
    simp only [Bool.and_eq_true] at k2
    intro φ a w W S hs
    have e1 := oE_val hs h1
    have e2 := oE_val hs h3
    rw [val_tri] at e2
    injection e2 with e2
    obtain ⟨S1, S2, q1, _⟩ := Sat.pick (entT_at (φ := φ) k1) hs.sat
    obtain ⟨L, hL, _⟩ := dnMapT q1
    simp only [val, hL, Option.map_some, Option.some.injEq] at e1
    refine mu_step (b := L.b) ho hs k2.1.1 (keyTri k2.1.2) (Nat.le_of_ble_eq_true k2.2) (entT_at (φ := φ) k1) (fun e => ?_) (fun e => ?_) e1.symm e2.symm h5
    · obtain ⟨L', hL', e⟩ := dnMapT e
      rw [hL] at hL'
      injection hL' with hL'
      rw [hL']
      exact e
    · rw [← msetA_eq] at e
      exact dnMapT_mk hL e
  · obtain ⟨i, h4, h⟩ := bnd_some h
    obtain ⟨cv, h5, h⟩ := bnd_some h
    obtain ⟨m, k1, h⟩ := bnd_some h
    obtain ⟨k2, h⟩ := lp1_some h
    injection h with h
    subst h
    simp only [Bool.and_eq_true] at k2
    obtain ⟨⟨⟨g0, g1⟩, g2⟩, g3⟩ := k2
    have g0 := of_decide_eq_true g0
    rw [asI_eq h4] at h3
    intro φ a w W S hs
    have e1 := oE_val hs h1
    have e2 := oE_val hs h3
    injection e2 with e2
    obtain ⟨S1, S2, q1, _⟩ := Sat.pick (entM_at (φ := φ) k1) hs.sat
    obtain ⟨L, hL, _⟩ := dnMap q1
    simp only [val, hL, Option.map_some, Option.some.injEq] at e1
    refine mu_step (b := L.b) ho hs g1 (keyInt (isInt_eq g2)) (Nat.le_of_ble_eq_true g3) (entM_at (φ := φ) k1) (fun e => ?_) (fun e => ?_) e1.symm (by rw [← e2, g0]; rfl) h5
    · obtain ⟨L', hL', e⟩ := dnMap e
      rw [hL] at hL'
      injection hL' with hL'
      rw [hL']
      exact e
    · rw [← msetA_eq] at e
      exact dnMap_mk hL e
end
end Go.Proofs.YtagkniimpekhjaaGreat

set_option linter.unusedVariables false
set_option linter.unusedSectionVars false
set_option linter.unusedSimpArgs false
namespace Go.Proofs.YtagkniimpekhjaaGreat
open Go.RowKit
section
variable {P : Program} {ty : TypeId} {α : Type} {sz bytes : Nat} {zs : List Value} {enc : α → List VP} {l l2 : List α} {t e : TypeId}
theorem run_app2 {w : World} {W : WS} {S1 : Nat → Prop} {v y : Value} {m : Nat} {news : List Value} (ht : tRow P t e sz bytes zs) (hr : (hrow v e sz enc l).p w W S1) (hsub : ∀ b, S1 b → W b) (hbd : ∀ b, W b → b < w.heap.size) (hml : l2.length = m) (hlen : (Builtin.lenOf y).run P w = .ok m w)
    (n1 : news.length = m * sz) (n2 : ∀ u ∈ news, u.oneCell' = true) (n3 : ∀ w' : World, w'.heap = w.heap → (Builtin.firstCells sz m y).run P w' = .ok news.toArray w') (n4 : ∀ i (hi : i < l2.length), (enc l2[i]).length = sz ∧ VPs w W (enc l2[i]) ((news.drop (i * sz)).take sz)) (hbn : (l.length + l2.length) * bytes ≤ 140737488355328)
    (hbn2 : (l.length + l2.length) * (sz + 1) ≤ 9223372036854775807) :
    ∃ v' w' W' S1', (Builtin.append_ #[t, t] ty #[v, y]).run P w = .ok v' w' ∧ v'.oneCell' = true ∧ (hrow v' e sz enc (l ++ l2)).p w' W' S1' ∧ Run w W S1 w' W' S1' := by
  obtain ⟨hu, info, z, hi, hsz, hby, hz, hzs, hz1, hzl⟩ := ht
  have n3' : ∀ w' : World, w'.heap = w.heap → (Builtin.firstCells info.size m y).run P w' = .ok news.toArray w' := by rw [hsz]; exact n3
  have hsm : l.length + m ≤ 9223372036854775807 := by rw [← hml]; exact Nat.le_trans (Nat.le_mul_of_pos_right _ (by omega)) hbn2
  have hspl : ∀ nc, l.length + m ≤ nc → (l.length + l2.length) * sz + (Builtin.zeroCells z.cells (nc - (l.length + m))).toList.length = nc * sz := by
    intro nc hnc
    have h1 : (Builtin.zeroCells z.cells (nc - (l.length + m))).toList.length = (nc - (l.length + m)) * sz := by
      rw [Array.length_toList, size_zeroC, show z.cells.size = sz from by rw [← Array.length_toList, hzs, hzl]]
    rw [h1, hml, ← Nat.add_mul]
    congr 1
    omega
  rcases hr with ⟨rfl, rfl, hS⟩ | ⟨g, o, c, cs, rfl, hlc, hh, hcs, hone, hbnd, hel, hS⟩
  · rcases Nat.eq_zero_or_pos m with h0 | h0
    · subst h0
      have : l2 = [] := List.eq_nil_of_length_eq_zero hml
      subst this
      exact ⟨.slice none 0 0, w, W, S1, app_room (news := news) hu hi rfl hlen (by omega) (n3' w rfl) rfl, rfl, .inl ⟨rfl, rfl, hS⟩, Run.refl hsub hbd⟩
    · obtain ⟨nc, hnc, hrun⟩ := app_grow (ty := ty) (A := none) (n := 0) (c := 0) (olds := []) hu hi hz rfl hlen (by omega) (by simpa using hsm) (by rw [hby]; simpa [hml] using hbn) (fun w' _ => by rfl) n3'
      obtain ⟨W', S1', h1, h2⟩ := row_new (w.drawn + 1) (l := []) (l2 := l2) (enc := enc) (e := e) (olds := []) (news := news) (sp := (Builtin.zeroCells z.cells (nc - (0 + m))).toList) (nc := nc) hsub hbd (by simp) (by rw [n1, hml]) (by simpa using hspl nc (by simpa using hnc)) (by simpa [hml] using hnc) hbn2 (by simp) n2
        (zeroCells_one (by rw [hzs]; exact hz1)) (fun i hi => by simp at hi) n4
      have hz2 : (Builtin.zeroCells z.cells (nc - (0 + m))).toList.toArray = Builtin.zeroCells z.cells (nc - (0 + m)) := by simp
      rw [hz2] at h1 h2
      refine ⟨_, _, W', S1', hrun, rfl, ?_, h2⟩
      simpa [hml] using h1
  · have hg : S1 g := (hS g).2 rfl
    have hone' : ∀ u ∈ (cs.toList.drop o).take (l.length * sz), u.oneCell' = true := hone
    by_cases hroom : l.length + m ≤ c
    · have hfit : (l.length + m) * sz ≤ c * sz := Nat.mul_le_mul_right _ hroom
      have hfit2 := hfit
      rw [Nat.add_mul] at hfit2
      obtain ⟨w', cs', hr, hb', hsz', hcs', e1, e2, e3, e4, e5⟩ := run_storeCells (P := P) (b := g) (e := e) news 0 (o + l.length * sz) w cs hh n2 (by rw [n1]; omega)
      have hrun : Run w W S1 w' W S1 := ⟨e1, e2, e3, by omega, fun k hk hn => e5 k (fun e => hn (e ▸ hg)), fun _ _ _ => Iff.rfl, fun _ _ h => h, fun _ h => .inl h, hsub, fun k hk => by rw [e4]; exact hbd k hk⟩
      have hev := hrun.evo hsub
      have hcl : cs'.toList = cs.toList.take (o + l.length * sz) ++ news ++ cs.toList.drop (o + l.length * sz + news.length) := by
        apply List.ext_getElem?
        intro j
        rw [Array.getElem?_toList, hcs' j, Nat.add_zero]
        have hlen : (cs.toList.take (o + l.length * sz)).length = o + l.length * sz := by rw [List.length_take, Array.length_toList (xs := cs)]; omega
        clear hbn hbn2 hbnd hsm hspl
        by_cases h1 : j < o + l.length * sz
        · rw [if_neg (by omega), List.append_assoc, List.getElem?_append_left (by omega), List.getElem?_take, if_pos h1, Array.getElem?_toList]
        · by_cases h2 : j < o + l.length * sz + news.length
          · rw [if_pos (by omega), List.getElem?_append_left (by rw [List.length_append, hlen]; omega), List.getElem?_append_right (by omega), hlen]
          · rw [if_neg (by omega), List.getElem?_append_right (by rw [List.length_append, hlen]; omega), List.length_append, hlen, List.getElem?_drop, Array.getElem?_toList]
            congr 1
            omega
      refine ⟨_, w', W, S1, app_room (news := news) hu hi rfl hlen hroom (n3' w rfl) (by show Sem.run P (storeCells ((⟨g, o, none⟩ : Addr).add (l.length * info.size)) news) w = _; rw [add_pl, hsz]; exact hr), rfl, .inr ⟨g, o, c, cs', by rw [List.length_append, hml], by rw [List.length_append, hml]; exact hroom, hb', by rw [hsz']; exact hcs, ?_, by rw [List.length_append]; exact hbn2, fun i hi' => ?_, hS⟩, hrun⟩
      · intro u hu
        rw [hcl] at hu
        obtain ⟨j, hj, hu⟩ := mem_seg.1 hu
        have hll : (cs.toList.take (o + l.length * sz)).length = o + l.length * sz := by rw [List.length_take, Array.length_toList (xs := cs)]; omega
        rw [List.length_append, hml, Nat.add_mul] at hj
        by_cases h1 : j < l.length * sz
        · rw [List.append_assoc, List.getElem?_append_left (by omega), List.getElem?_take, if_pos (by omega)] at hu
          exact hone u (mem_seg.2 ⟨j, h1, hu⟩)
        · rw [List.getElem?_append_left (by rw [List.length_append, hll, n1]; omega), List.getElem?_append_right (by omega)] at hu
          exact n2 u (List.mem_of_getElem? hu)
      · rw [hcl]
        by_cases hlt : i < l.length
        · rw [List.getElem_append_left hlt]
          obtain ⟨q1, q2⟩ := hel i hlt
          refine ⟨q1, ?_⟩
          have hb : i * sz + sz ≤ l.length * sz := by rw [← Nat.succ_mul]; exact Nat.mul_le_mul_right _ hlt
          have hll : (cs.toList.take (o + l.length * sz)).length = o + l.length * sz := by rw [List.length_take, Array.length_toList (xs := cs)]; omega
          rw [List.append_assoc, seg_app (by omega)]
          have : (List.drop (o + i * sz) (List.take (o + l.length * sz) cs.toList)).take sz = (List.drop (o + i * sz) cs.toList).take sz := by
            rw [List.drop_take, List.take_take]
            congr 1
            omega
          rw [this]
          exact q2.st hev
        · rw [List.getElem_append_right (by omega)]
          rw [List.length_append] at hi'
          obtain ⟨q1, q2⟩ := n4 (i - l.length) (by omega)
          refine ⟨q1, ?_⟩
          have hll : (cs.toList.take (o + l.length * sz)).length = o + l.length * sz := by rw [List.length_take, Array.length_toList (xs := cs)]; omega
          have hb : (i - l.length) * sz + sz ≤ news.length := by rw [n1, ← Nat.succ_mul]; exact Nat.mul_le_mul_right _ (by omega)
          have hi2 : o + i * sz = (cs.toList.take (o + l.length * sz)).length + (i - l.length) * sz := by rw [hll, Nat.add_assoc, ← Nat.add_mul]; congr 2; omega
          rw [hi2, List.append_assoc, seg_app2, seg_app hb]
          exact q2.st hev
    · have hol : ((cs.toList.drop o).take (l.length * sz)).length = l.length * sz := by
        rw [List.length_take, List.length_drop, Array.length_toList (xs := cs)]
        have := Nat.mul_le_mul_right sz hlc
        omega
      have hold : ∀ w' : World, w'.heap = w.heap → (Builtin.firstCells info.size l.length (.slice (some ⟨g, o, none⟩) l.length c)).run P w' = .ok ((cs.toList.drop o).take (l.length * sz)).toArray w' := by
        intro w' hw
        simp only [Builtin.firstCells, loadCells, hsz]
        have := run_loadCells (P := P) (w := w') (a := ⟨g, o, none⟩) ((cs.toList.drop o).take (l.length * sz)) 0 #[] (fun j u hj => ?_)
        · rw [hol] at this
          rw [this]
          simp
        · rw [add_pl, cell_at (by rw [hw]; exact hh), Nat.zero_add]
          rw [List.getElem?_take] at hj
          split at hj
          · rw [List.getElem?_drop] at hj
            simpa using hj
          · cases hj
      obtain ⟨nc, hnc, hrun⟩ := app_grow (ty := ty) (olds := (cs.toList.drop o).take (l.length * sz)) hu hi hz rfl hlen hroom hsm (by rw [hby, ← hml]; exact hbn) hold n3'
      have hel' : ∀ i (hi : i < l.length), (enc l[i]).length = sz ∧ VPs w W (enc l[i]) ((((cs.toList.drop o).take (l.length * sz)).drop (i * sz)).take sz) := by
        intro i hi
        obtain ⟨q1, q2⟩ := hel i hi
        refine ⟨q1, ?_⟩
        have hb : i * sz + sz ≤ l.length * sz := by rw [← Nat.succ_mul]; exact Nat.mul_le_mul_right _ hi
        have : (List.drop (i * sz) ((cs.toList.drop o).take (l.length * sz))).take sz = (List.drop (o + i * sz) cs.toList).take sz := by
          rw [List.drop_take, List.take_take, List.drop_drop]
          congr 1
          omega
        rw [this]
        exact q2
      obtain ⟨W', S1', h1, h2⟩ := row_new (w.drawn + 1) (l := l) (l2 := l2) (enc := enc) (e := e) (olds := (cs.toList.drop o).take (l.length * sz)) (news := news) (sp := (Builtin.zeroCells z.cells (nc - (l.length + m))).toList) (nc := nc) hsub hbd hol (by rw [n1, hml]) (hspl nc hnc) (by rw [hml]; exact hnc) hbn2 hone' n2
        (zeroCells_one (by rw [hzs]; exact hz1)) hel' n4
      have hz2 : (Builtin.zeroCells z.cells (nc - (l.length + m))).toList.toArray = Builtin.zeroCells z.cells (nc - (l.length + m)) := by simp
      rw [hz2] at h1 h2
      refine ⟨_, _, W', S1', hrun, rfl, ?_, h2⟩
      simpa [hml] using h1
end
section
variable {P : Program} {fz : Nat} {B : Bs} {φ : Env} {s : XS} {a : Act} {w : World} {W : WS} {S : Nat → Prop}
theorem prs_ogs {σ : RG} : ∀ {xs : List (Nat × Operand)} {l : List (Nat × AV)}, prs σ xs = some l → ogs (dnR φ σ) (xs.map (·.2)) = some (l.map fun x => dn φ x.2)
  | [], l, h => by injection h with h; subst h; rfl
  | (i, x) :: xs, l, h => by
    simp only [prs] at h
    obtain ⟨a, h1, h⟩ := bnd_some h
    obtain ⟨l', h2, h⟩ := bnd_some h
    injection h with h
    subst h
    have hx : og (dnR φ σ) x = some (dn φ a) := by
      cases x with
      | tmp t => show rg (dnR φ σ) t = _; rw [rg_dnR, show gR σ t = some a from h1]; rfl
      | const v => injection h1 with h1; subst h1; rfl
      | global g => cases h1
      | func f => injection h1 with h1; subst h1; rfl
    simp only [List.map_cons, ogs, hx, prs_ogs h2]
theorem dn_cel {a : AV} (h : (flat a).all isOne = true) : Cel (dn φ a) (enc φ (flat a)) := fun w W v hv => by
  obtain ⟨h1, h2⟩ := flat_val h (dn_p.1 hv)
  exact ⟨vals_vps.2 h1, h2⟩
theorem spA_len : ∀ (q cs : List AV) (o : Nat), (spA cs o q).length = cs.length
  | [], _, _ => rfl
  | x :: q, cs, o => by simp only [spA, spA_len q, lset_eq, List.length_set]
theorem bldA_ok {σ : RG} {pl : List (Nat × Nat)} : ∀ {xs : List (Nat × Operand)} {l : List (Nat × AV)} {ps q : List AV}, prs σ xs = some l → bldA pl ps l = some q →
    ∃ l' : List (Nat × List VP), BParts (dnR φ σ) pl xs l' ∧ bld (enc φ ps) l' = enc φ q ∧ ∀ oq ∈ l', oq.1 + oq.2.length ≤ ps.length
  | [], l, ps, q, h1, h2 => by
    injection h1 with h1
    subst h1
    injection h2 with h2
    subst h2
    exact ⟨[], .nil, rfl, fun _ h => by cases h⟩
  | (i, x) :: xs, l, ps, q, h1, h2 => by
    simp only [prs] at h1
    obtain ⟨a, k1, h1⟩ := bnd_some h1
    obtain ⟨l1, k2, h1⟩ := bnd_some h1
    injection h1 with h1
    subst h1
    simp only [bldA] at h2
    obtain ⟨y, k3, h2⟩ := bnd_some h2
    obtain ⟨k4, h2⟩ := lp1_some h2
    simp only [Bool.and_eq_true] at k4
    obtain ⟨⟨g1, g2⟩, g3⟩ := k4
    have g1 := Nat.eq_of_beq_eq_true g1
    have g2 := Nat.le_of_ble_eq_true g2
    obtain ⟨l', m1, m2, m3⟩ := bldA_ok k2 h2
    have hx : og (dnR φ σ) x = some (dn φ a) := by
      cases x with
      | tmp t => show rg (dnR φ σ) t = _; rw [rg_dnR, show gR σ t = some a from k1]; rfl
      | const v => injection k1 with k1; subst k1; rfl
      | global g => cases k1
      | func f => injection k1 with k1; subst k1; rfl
    rw [lget_eq] at k3
    have hlen : (enc φ (flat a)).length = y.2 := by simp only [enc, List.length_map]; exact g1
    refine ⟨(y.1, enc φ (flat a)) :: l', .cons hx (dn_cel g3) (by rw [k3, hlen]) m1, ?_, fun oq hoq => ?_⟩
    · simp only [bld, spl_enc]
      exact m2
    · rcases List.mem_cons.1 hoq with rfl | hoq
      · show y.1 + _ ≤ _; rw [hlen]; exact g2
      · have := m3 oq hoq
        rw [spA_len] at this
        exact this
theorem enc_v : ∀ (l : List Value), enc φ (l.map AV.v) = visL l
  | [] => rfl
  | x :: l => by
    show dn φ (.v x) :: enc φ (l.map AV.v) = vis x :: visL l
    rw [enc_v l]; rfl
theorem ok_build {t : TypeId} {xs : Array (Nat × Operand)} {o : Oper} {r : AV × List Ent × Nat} (ho : o.op = .build t xs) (h : valE P s (.build t xs) = some r) : OkV P fz B s r.1 r.2.1 r.2.2 (fun a => execOp a.eval o) := by
  simp only [valE] at h
  obtain ⟨pl, h1, h⟩ := bnd_some h
  obtain ⟨z, h2, h⟩ := bnd_some h
  obtain ⟨l, h3, h⟩ := bnd_some h
  obtain ⟨q, h4, h⟩ := bnd_some h
  refine keep_ok h fun cv h6 φ a w W S hs => ?_
  injection h6 with h6
  subst h6
  unfold zers at h2
  obtain ⟨zs, k1, h2⟩ := bnd_some h2
  obtain ⟨k2, h2⟩ := lp1_some h2
  injection h2 with h2
  subst h2
  obtain ⟨l', m1, m2, m3⟩ := bldA_ok (φ := φ) h3 h4
  rw [enc_v] at m2
  obtain ⟨v, hv, cs, q1, q2, q3⟩ := ex_blds (P := P) hs (o := o) (t := t) (by rw [ho, Array.toArray_toList]) h1 ⟨k1, fun u hu => List.all_eq_true.1 k2 u hu⟩ m1 (List.all_eq_true.2 fun oq hoq => by
    have := m3 oq hoq
    rw [List.length_map] at this
    exact Nat.ble_eq_true_of_le this)
  refine ⟨v, hv, ?_⟩
  rw [m2] at q2
  simp only [val, vals_vps.1 q2, Option.map_some, q1]
theorem eInf_ok {t : TypeId} {x : Nat × Nat × Nat × List AV} (h : eInf P t = some x) : ∃ zs, tRow P t x.1 x.2.1 x.2.2.1 zs ∧ x.2.2.2 = zs.map AV.v := by
  unfold eInf at h
  obtain ⟨e, h1, h⟩ := bnd_some h
  obtain ⟨i, h2, h⟩ := bnd_some h
  obtain ⟨z, h3, h⟩ := bnd_some h
  obtain ⟨h4, h⟩ := lp1_some h
  injection h with h
  subst h
  unfold zers tZero at h3
  obtain ⟨zs, k1, h3⟩ := bnd_some h3
  obtain ⟨k2, h3⟩ := lp1_some h3
  injection h3 with h3
  subst h3
  obtain ⟨v, h5, h6⟩ := Option.map_eq_some_iff.1 k1
  rw [h2] at h5
  have h4 := Nat.eq_of_beq_eq_true h4
  rw [List.length_map] at h4
  exact ⟨zs, ⟨elemT_eq h1, i, v, h2, rfl, rfl, h5, h6, fun u hu => List.all_eq_true.1 k2 u hu, h4⟩, rfl⟩
theorem hrow_le {φ' : Env} (h : Le φ φ') {v : Value} {e sz : Nat} {l : List (List AV)} : HLe (hrow v e sz (enc φ) l) (hrow v e sz (enc φ') l) := by
  intro w W S g
  rcases g with g | ⟨g, o, c, cs, h1, h2, h3, h4, h5, h6, h7, h8⟩
  · exact .inl g
  · exact .inr ⟨g, o, c, cs, h1, h2, h3, h4, h5, h6, fun i hi => ⟨by have := (h7 i hi).1; simp only [enc, List.length_map] at this ⊢; exact this, VPs_le h (h7 i hi).2⟩, h8⟩
theorem seqn_parts : ∀ {l : List (Nat × Operand)} {i : Nat}, seqn i l = true → ((l.map (·.2)).zipIdx i).map (fun x => (x.2, x.1)) = l
  | [], _, _ => rfl
  | (j, x) :: l, i, h => by
    simp only [seqn, Bool.and_eq_true] at h
    have := Nat.eq_of_beq_eq_true h.1
    subst this
    simp only [List.map_cons, List.zipIdx_cons, seqn_parts h.2]
theorem okLen_ok {m sz bytes : Nat} (h : okLen m sz bytes = true) : m * (sz + 1) ≤ 16777216 ∧ m * bytes ≤ 16777216 := by
  unfold okLen at h
  simp only [Bool.and_eq_true] at h
  exact ⟨Nat.le_of_ble_eq_true h.1, Nat.le_of_ble_eq_true h.2⟩
theorem cels_flat : ∀ {l : List (Nat × AV)}, (∀ x ∈ l, (flat x.2).all isOne = true) → Cels (l.map fun x => dn φ x.2) ((l.map fun x => flat x.2).map (enc φ))
  | [], _ => .nil
  | x :: l, h => .cons (dn_cel (h x (List.mem_cons_self ..))) (cels_flat fun y hy => h y (List.mem_cons_of_mem _ hy))
theorem prs_len {σ : RG} : ∀ {xs : List (Nat × Operand)} {l : List (Nat × AV)}, prs σ xs = some l → l.length = xs.length
  | [], l, h => by injection h with h; subst h; rfl
  | (i, x) :: xs, l, h => by
    simp only [prs] at h
    obtain ⟨a, h1, h⟩ := bnd_some h
    obtain ⟨l', h2, h⟩ := bnd_some h
    injection h with h
    subst h
    simp only [List.length_cons, prs_len h2]
theorem ok_buildSlice {t : TypeId} {n : Nat} {xs : Array (Nat × Operand)} {o : Oper} {r : AV × List Ent × Nat} (ho : o.op = .buildSlice t n xs) (h : valE P s (.buildSlice t n xs) = some r) : OkV P fz B s r.1 r.2.1 r.2.2 (fun a => execOp a.eval o) := by
  simp only [valE] at h
  obtain ⟨i, h1, h⟩ := bnd_some h
  obtain ⟨l, h2, h⟩ := bnd_some h
  obtain ⟨h3, h⟩ := lp1_some h
  injection h with h
  subst h
  simp only [Bool.and_eq_true] at h3
  obtain ⟨⟨⟨g1, g2⟩, g3⟩, g4⟩ := h3
  obtain ⟨zs, ht, _⟩ := eInf_ok h1
  have g2' := Nat.eq_of_beq_eq_true g2
  have hall : ∀ x ∈ l, Nat.beq (flat x.2).length i.2.1 = true ∧ (flat x.2).all isOne = true := fun x hx => by
    have := List.all_eq_true.1 g4 x hx
    simpa only [Bool.and_eq_true] using this
  refine ⟨Nat.le_succ _, fun φ hf a w W S hs => ?_⟩
  have hop : o.op = .buildSlice t n (parts0 (xs.toList.map (·.2))) := by
    rw [ho]
    unfold parts0
    rw [seqn_parts g1]
  obtain ⟨w', W', S', k1, k2, k3, k4⟩ := ex_litO (P := P) (l.map fun x => flat x.2) (enc φ) hs hop ht (cels_flat fun x hx => (hall x hx).2) (prs_ogs h2) (by
      have := prs_len h2
      rw [List.length_map, ← this, g2']
      simp) (by
      have := (okLen_ok g3).1
      exact Nat.ble_eq_true_of_le this) (List.all_eq_true.2 fun q hq => by
      obtain ⟨q', hq', rfl⟩ := List.mem_map.1 hq
      obtain ⟨x, hx, rfl⟩ := List.mem_map.1 hq'
      simp only [enc, List.length_map]
      exact (hall x hx).1)
  have hx := setE_ext ⟨w.heap.size, 0, n⟩ hf
  refine ⟨_, _, w', W', S', hx, k1, ?_, ?_, k4⟩
  · simp only [val, setE_at, Option.map_some, Nat.zero_mul, Nat.add_zero, Nat.sub_zero]
  · obtain ⟨S1, S2, j1, j2, j3⟩ := k3
    refine ⟨S1, S2, dnRow_mk (setE_at _ _ _) ?_, Sat_le hx.le j2, j3⟩
    rw [k2]
    exact hrow_le hx.le _ _ _ j1
end
end Go.Proofs.YtagkniimpekhjaaGreat
