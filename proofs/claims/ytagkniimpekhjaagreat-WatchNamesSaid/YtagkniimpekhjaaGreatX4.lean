/- A part of the proof: contracts over a program of the model. -/
import Derived.Test.YtagkniimpekhjaaGreatX1
set_option linter.unusedVariables false
set_option linter.unusedSectionVars false
set_option linter.unusedSimpArgs false
namespace Go.Proofs.YtagkniimpekhjaaGreat
open Go.RowKit

theorem lp1_some {α : Type} {b : Bool} {x : Option α} {y : α} (h : lp1 b x = some y) : b = true ∧ x = some y := by
  cases b with
  | true => exact ⟨rfl, h⟩
  | false => cases h
theorem bnd_some {α β : Type} {x : Option α} {f : α → Option β} {y : β} (h : x.bind f = some y) : ∃ a, x = some a ∧ f a = some y := Option.bind_eq_some_iff.1 h
theorem lget_eq {α : Type} : ∀ (l : List α) (i : Nat), lget l i = l[i]?
  | [], _ => by simp [lget]
  | x :: l, 0 => rfl
  | x :: l, i + 1 => by simp only [lget, List.getElem?_cons_succ]; exact lget_eq l i
theorem lset_eq {α : Type} (y : α) : ∀ (l : List α) (i : Nat), lset y l i = l.set i y
  | [], _ => by simp [lset]
  | x :: l, 0 => rfl
  | x :: l, i + 1 => by simp only [lset, List.set_cons_succ, lset_eq y l i]
theorem asI_eq {a : AV} {k : IntKind} {n : Int} (h : asI a = some (k, n)) : a = .v (.int k n) := by
  unfold asI at h
  split at h
  · injection h with h; injection h with h1 h2; rw [h1, h2]
  · cases h
theorem asB_eq {a : AV} {b : Bool} (h : asB a = some b) : a = .v (.bool b) := by
  unfold asB at h
  split at h
  · injection h with h; rw [h]
  · cases h
theorem asT_eq {a : AV} {l : List AV} (h : asT a = some l) : a = .tup l := by
  unfold asT at h
  split at h
  · injection h with h; rw [h]
  · cases h
theorem asA_eq {a : AV} {l : List AV} (h : asA a = some l) : a = .agg l := by
  unfold asA at h
  split at h
  · injection h with h; rw [h]
  · cases h
theorem asM_eq {a : AV} {k : Nat} (h : asM a = some k) : a = .mp k := by
  unfold asM at h
  split at h
  · injection h with h; rw [h]
  · cases h
theorem asNil_eq {a : AV} (h : asNil a = true) : a = .v (.slice none 0 0) := by
  unfold asNil at h
  split at h
  · rfl
  · cases h
theorem one_val {φ : Env} {a : AV} {u : Value} (h : isOne a = true) (e : val φ a = some u) : u.oneCell' = true := by
  cases a with
  | v w => injection e with e; rw [← e]; exact h
  | ptr k o => simp only [val, Option.map_eq_some_iff] at e; obtain ⟨L, _, rfl⟩ := e; rfl
  | sl k sz lo hi => simp only [val, Option.map_eq_some_iff] at e; obtain ⟨L, _, rfl⟩ := e; rfl
  | el k sz i o => simp only [val, Option.map_eq_some_iff] at e; obtain ⟨L, _, rfl⟩ := e; rfl
  | mp k => simp only [val, Option.map_eq_some_iff] at e; obtain ⟨L, _, rfl⟩ := e; rfl
  | ch k => simp only [val, Option.map_eq_some_iff] at e; obtain ⟨L, _, rfl⟩ := e; rfl
  | agg l => cases h
  | tup l => cases h
  | fn f us ws =>
    simp only [val] at e
    split at e
    · injection e with e; rw [← e]; rfl
    · cases e
  | un => cases h
theorem ones_val {φ : Env} : ∀ {l : List AV} {us : List Value}, l.all isOne = true → vals φ l = some us → ∀ u ∈ us, u.oneCell' = true
  | [], us, _, e, u, hu => by injection e with e; subst e; cases hu
  | a :: l, us, h, e, u, hu => by
    simp only [List.all_cons, Bool.and_eq_true] at h
    simp only [vals] at e
    cases h1 : val φ a with
    | none => rw [h1] at e; cases e
    | some x =>
      cases h2 : vals φ l with
      | none => rw [h1, h2] at e; cases e
      | some xs =>
        rw [h1, h2] at e
        injection e with e
        subst e
        rcases List.mem_cons.1 hu with rfl | hu
        · exact one_val h.1 h1
        · exact ones_val h.2 h2 u hu
theorem vals_len {φ : Env} {l : List AV} {us : List Value} (e : vals φ l = some us) : us.length = l.length := by
  have := (vals_vps (w := ⟨#[], fun _ _ => 0, 0, default, #[]⟩) (W := fun _ => False)).2 e
  rw [this.length, List.length_map]
/-- the cells of a value -/
theorem flat_val {φ : Env} {a : AV} {u : Value} (h : (flat a).all isOne = true) (e : val φ a = some u) : vals φ (flat a) = some u.cells.toList ∧ ∀ x ∈ u.cells.toList, x.oneCell' = true := by
  cases ha : asA a with
  | some l =>
    rw [asA_eq ha] at h e ⊢
    simp only [val, Option.map_eq_some_iff] at e
    obtain ⟨vs, h1, rfl⟩ := e
    refine ⟨by simpa [flat, Value.cells] using h1, fun x hx => ones_val h h1 x (by simpa [Value.cells] using hx)⟩
  | none =>
    have hf : flat a = [a] := by
      cases a <;> first | rfl | cases ha
    rw [hf] at h ⊢
    simp only [List.all_cons, List.all_nil, Bool.and_true] at h
    have h1 := one_val h e
    have hc := cells_one h1
    rw [hc]
    refine ⟨by simp only [vals, e], fun x hx => by simp only [List.mem_singleton] at hx; rw [hx]; exact h1⟩

section
variable {P : Program} {fz : Nat} {B : Bs} {φ : Env} {s : XS} {a : Act} {w : World} {W : WS} {S : Nat → Prop}
theorem entC_at {h : List Ent} {n k : Nat} {x : Nat × List AV} (e : entC h n k = some x) : (dnH φ h)[posn n k]? = some (dnE φ (.cells k x.1 x.2)) := by
  unfold entC eG at e
  rw [lget_eq] at e
  split at e
  · rename_i k' t cs he
    obtain ⟨h1, h2⟩ := lp1_some e
    have := Nat.eq_of_beq_eq_true h1
    subst this
    injection h2 with h2
    subst h2
    rw [dnH, List.getElem?_map, he]
    rfl
  · cases e
theorem entR_at {h : List Ent} {n k : Nat} {x : Nat × Nat × List (List AV)} (e : entR h n k = some x) : (dnH φ h)[posn n k]? = some (dnE φ (.row k x.1 x.2.1 x.2.2)) := by
  unfold entR eG at e
  rw [lget_eq] at e
  split at e
  · rename_i k' t sz l he
    obtain ⟨h1, h2⟩ := lp1_some e
    have := Nat.eq_of_beq_eq_true h1
    subst this
    injection h2 with h2
    subst h2
    rw [dnH, List.getElem?_map, he]
    rfl
  · cases e
theorem entM_at {h : List Ent} {n k : Nat} {x : Nat × Nat × List (Int × AV)} (e : entM h n k = some x) : (dnH φ h)[posn n k]? = some (dnE φ (.map k x.1 x.2.1 x.2.2)) := by
  unfold entM eG at e
  rw [lget_eq] at e
  split at e
  · rename_i k' t sz l he
    obtain ⟨h1, h2⟩ := lp1_some e
    have := Nat.eq_of_beq_eq_true h1
    subst this
    injection h2 with h2
    subst h2
    rw [dnH, List.getElem?_map, he]
    rfl
  · cases e
theorem entT_at {h : List Ent} {n k : Nat} {x : Nat × Nat × List (Tri × AV)} (e : entT h n k = some x) : (dnH φ h)[posn n k]? = some (dnE φ (.mapT k x.1 x.2.1 x.2.2)) := by
  unfold entT eG at e
  rw [lget_eq] at e
  split at e
  · rename_i k' t sz l he
    obtain ⟨h1, h2⟩ := lp1_some e
    have := Nat.eq_of_beq_eq_true h1
    subst this
    injection h2 with h2
    subst h2
    rw [dnH, List.getElem?_map, he]
    rfl
  · cases e
theorem entH_at {h : List Ent} {n k : Nat} (e : entH h n k = true) : (dnH φ h)[posn n k]? = some (dnE φ (.chan k)) := by
  unfold entH eG at e
  rw [lget_eq] at e
  split at e
  · rename_i k' he
    have := Nat.eq_of_beq_eq_true e
    subst this
    rw [dnH, List.getElem?_map, he]
    rfl
  · cases e
theorem dnC {k t : Nat} {cs : List AV} {S1 : Nat → Prop} (e : (dnE φ (.cells k t cs)).p w W S1) : ∃ L, φ k = some L ∧ L.o = 0 ∧ (hvar L.b t (enc φ cs)).p w W S1 := by
  simp only [dnE] at e
  cases hk : φ k with
  | none => rw [hk] at e; exact e.elim
  | some L =>
    rw [hk] at e
    simp only at e
    cases hb : Nat.beq L.o 0 with
    | false => rw [hb] at e; exact e.elim
    | true => rw [hb] at e; exact ⟨L, rfl, Nat.eq_of_beq_eq_true hb, e⟩
theorem dnC_mk {k t : Nat} {cs : List AV} {S1 : Nat → Prop} {L : Loc} (hk : φ k = some L) (ho : L.o = 0) (e : (hvar L.b t (enc φ cs)).p w W S1) : (dnE φ (.cells k t cs)).p w W S1 := by
  simp only [dnE, hk, ho, show Nat.beq 0 0 = true from rfl, cond_true]
  exact e
theorem dnRow {k t sz : Nat} {l : List (List AV)} {S1 : Nat → Prop} (e : (dnE φ (.row k t sz l)).p w W S1) : ∃ L, φ k = some L ∧ (hrow (.slice (some ⟨L.b, L.o, none⟩) l.length L.c) t sz (enc φ) l).p w W S1 := by
  simp only [dnE] at e
  cases hk : φ k with
  | none => rw [hk] at e; exact e.elim
  | some L => rw [hk] at e; exact ⟨L, rfl, e⟩
theorem dnRow_mk {k t sz : Nat} {l : List (List AV)} {S1 : Nat → Prop} {L : Loc} (hk : φ k = some L) (e : (hrow (.slice (some ⟨L.b, L.o, none⟩) l.length L.c) t sz (enc φ) l).p w W S1) : (dnE φ (.row k t sz l)).p w W S1 := by
  simp only [dnE, hk]
  exact e
theorem dnMap {k kt vt : Nat} {m : List (Int × AV)} {S1 : Nat → Prop} (e : (dnE φ (.map k kt vt m)).p w W S1) : ∃ L, φ k = some L ∧ (hmap L.b eI (dn φ) m).p w W S1 := by
  simp only [dnE] at e
  cases hk : φ k with
  | none => rw [hk] at e; exact e.elim
  | some L => rw [hk] at e; exact ⟨L, rfl, e⟩
theorem dnMap_mk {k kt vt : Nat} {m : List (Int × AV)} {S1 : Nat → Prop} {L : Loc} (hk : φ k = some L) (e : (hmap L.b eI (dn φ) m).p w W S1) : (dnE φ (.map k kt vt m)).p w W S1 := by
  simp only [dnE, hk]
  exact e
theorem dnMapT {k kt vt : Nat} {m : List (Tri × AV)} {S1 : Nat → Prop} (e : (dnE φ (.mapT k kt vt m)).p w W S1) : ∃ L, φ k = some L ∧ (hmap L.b eTri (dn φ) m).p w W S1 := by
  simp only [dnE] at e
  cases hk : φ k with
  | none => rw [hk] at e; exact e.elim
  | some L => rw [hk] at e; exact ⟨L, rfl, e⟩
theorem dnMapT_mk {k kt vt : Nat} {m : List (Tri × AV)} {S1 : Nat → Prop} {L : Loc} (hk : φ k = some L) (e : (hmap L.b eTri (dn φ) m).p w W S1) : (dnE φ (.mapT k kt vt m)).p w W S1 := by
  simp only [dnE, hk]
  exact e

/-- What an operation that gives a value does. -/
def OkV (P : Program) (fz : Nat) (B : Bs) (s : XS) (av : AV) (h' : List Ent) (n' : Nat) (run : Act → Sem Next) : Prop :=
  s.n ≤ n' ∧ ∀ φ, Free φ s.n n' → ∀ a w W S, Tel fz B φ s a w W S → ∃ φ' u w' W' S', Ext φ φ' s.n n' ∧ (run a).run P w = .ok (.value u) w' ∧ val φ' av = some u ∧ Sat w' W' (dnH φ' h') S' ∧ Run w W S w' W' S'
theorem okPure {av : AV} {run : Act → Sem Next} (h : ∀ φ a w W S, Tel fz B φ s a w W S → ∃ u, (run a).run P w = .ok (.value u) w ∧ val φ av = some u) : OkV P fz B s av s.heap s.n run :=
  ⟨Nat.le_refl _, fun φ _ a w W S hs => by
    obtain ⟨u, h1, h2⟩ := h φ a w W S hs
    exact ⟨φ, u, w, W, S, Ext.refl _ _ _, h1, h2, hs.sat, Run.refl hs.run.sub hs.run.bound⟩⟩
theorem keep_ok {x : Option AV} {r : AV × List Ent × Nat} {run : Act → Sem Next} (e : keep s x = some r) (h : ∀ av, x = some av → ∀ φ a w W S, Tel fz B φ s a w W S → ∃ u, (run a).run P w = .ok (.value u) w ∧ val φ av = some u) : OkV P fz B s r.1 r.2.1 r.2.2 run := by
  obtain ⟨av, h1, h2⟩ := bnd_some e
  injection h2 with h2
  subst h2
  exact okPure (h av h1)
/-- a value's cells in memory, by its type's make -/
theorem takeT_ok {t : TypeId} {cs : List AV} {vs : List Value} {o : Nat} {av : AV} {ad : Addr} (e : takeT P t cs o = some av) (hv : vals φ cs = some vs) (h1 : ∀ u ∈ vs, u.oneCell' = true) (hc : ∀ j u, vs[j]? = some u → w.cell? (ad.add j) = some u) :
    ∃ u, (loadVar t (ad.add o)).run P w = .ok u w ∧ val φ av = some u := by
  have hvp := (vals_vps (w := w) (W := fun _ => False)).2 hv
  unfold takeT at e
  split at e
  · rename_i hk
    have ht : tOne P t = true := by
      unfold knd at hk
      cases h : tOne P t with
      | true => rfl
      | false =>
        rw [h] at hk
        simp only [cond_false] at hk
        split at hk
        · rename_i i hi
          cases h2 : tAgg P t i.size with
          | true => rw [h2] at hk; simp at hk
          | false => rw [h2] at hk; simp at hk
        · cases hk
    rw [lget_eq] at e
    obtain ⟨u, hu, hpu⟩ := hvp.get (i := o) (p := dn φ av) (by rw [List.getElem?_map, e]; rfl)
    exact ⟨u, run_loadVar1 ht (hc _ _ hu), dn_p.1 hpu⟩
  · rename_i n hk
    have ht : tAgg P t n = true := by
      unfold knd at hk
      cases h : tOne P t with
      | true => rw [h] at hk; simp at hk
      | false =>
        rw [h] at hk
        simp only [cond_false] at hk
        split at hk
        · rename_i i hi
          cases h2 : tAgg P t i.size with
          | true =>
            rw [h2] at hk
            simp only [cond_true, Option.some.injEq] at hk
            have : i.size = n := by simpa using hk
            rw [← this]
            exact h2
          | false => rw [h2] at hk; simp at hk
        · cases hk
    obtain ⟨hb, e⟩ := lp1_some e
    injection e with e
    subst e
    have hl := vals_len hv
    have hb' := Nat.le_of_ble_eq_true hb
    have hlen : ((vs.drop o).take n).length = n := by rw [List.length_take, List.length_drop, hl]; omega
    refine ⟨.agg ((vs.drop o).take n).toArray, run_loadVarA ht hlen (fun j u hj => ?_), ?_⟩
    · rw [List.getElem?_take] at hj
      split at hj
      · rw [List.getElem?_drop] at hj
        have := hc _ _ hj
        rw [add_add]
        exact this
      · cases hj
    · have h2 : vals φ ((cs.drop o).take n) = some ((vs.drop o).take n) := by
        have := (hvp.drop o).take n
        rw [← List.map_drop, ← List.map_take] at this
        exact vals_vps.1 this
      simp only [val, h2, Option.map_some]
  · cases e
theorem loadE_ok {t : TypeId} {p av : AV} {v : Value} (hs : Tel fz B φ s a w W S) (e : loadE P s t p = some av) (hv : val φ p = some v) : ∃ ad u, v = .pointer (some ad) ∧ (loadVar t ad).run P w = .ok u w ∧ val φ av = some u := by
  unfold loadE at e
  split at e
  · rename_i k o
    obtain ⟨x, h1, h2⟩ := bnd_some e
    obtain ⟨S1, S2, g1, _⟩ := Sat.pick (entC_at (φ := φ) h1) hs.sat
    obtain ⟨L, hL, hLo, ⟨cs, k1, k2, k3⟩, _⟩ := dnC g1
    simp only [val, hL, Option.map_some, Option.some.injEq] at hv
    subst hv
    obtain ⟨u, hu, hav⟩ := takeT_ok (ad := ⟨L.b, 0, none⟩) h2 (vals_vps.1 k2) k3 (fun j u hj => by rw [add_pl, cell_at k1, Nat.zero_add]; simpa using hj)
    refine ⟨_, u, rfl, ?_, hav⟩
    rw [hLo, ← add_pl]
    exact hu
  · rename_i k sz i o
    obtain ⟨x, h1, h2⟩ := bnd_some e
    obtain ⟨h3, h4⟩ := lp1_some h2
    obtain ⟨cs, h5, h6⟩ := bnd_some h4
    have := Nat.eq_of_beq_eq_true h3
    subst this
    obtain ⟨S1, S2, g1, _⟩ := Sat.pick (entR_at (φ := φ) h1) hs.sat
    obtain ⟨L, hL, g2⟩ := dnRow g1
    simp only [val, hL, Option.map_some, Option.some.injEq] at hv
    subst hv
    rw [lget_eq] at h5
    obtain ⟨hi, h5'⟩ := List.getElem?_eq_some_iff.1 h5
    obtain ⟨us, k1, k2, k3, k4⟩ := row_cell g2 hi
    rw [h5'] at k1
    obtain ⟨u, hu, hav⟩ := takeT_ok (ad := ⟨L.b, L.o + i * x.2.1, none⟩) h6 (vals_vps.1 k1) k3 (fun j u hj => by
      have := k4 j u hj
      simp only [sAddr] at this
      rw [add_pl] at this ⊢
      rw [Nat.add_assoc]
      exact this)
    refine ⟨_, u, rfl, ?_, hav⟩
    rw [add_pl, Nat.add_assoc] at hu
    exact hu
  · cases e
end
end Go.Proofs.YtagkniimpekhjaaGreat

set_option linter.unusedVariables false
set_option linter.unusedSectionVars false
set_option linter.unusedSimpArgs false
namespace Go.Proofs.YtagkniimpekhjaaGreat
open Go.RowKit

section
variable {P : Program} {fz : Nat} {B : Bs} {φ : Env} {s : XS} {a : Act} {w : World} {W : WS} {S : Nat → Prop}
theorem binI_ok {op : BinOp} {k : IntKind} {m n : Int} {u : Value} (t : TypeId) (h : binI op k m n = some u) (hs : isSh op = false) : (binOp op t (.int k m) (.int k n)).run P w = .ok u w := by
  obtain ⟨c1, c2, c3, c4, c5, c6⟩ := r_cmp P w t k m n
  obtain ⟨d1, d2, d3⟩ := r_ar P w t k m n
  cases op <;> simp only [binI, isSh] at h hs <;> first
    | (injection h with h; subst h; assumption)
    | cases hs
    | cases h
    | skip
  · cases hn : n == 0 with
    | true => rw [hn] at h; cases h
    | false =>
      rw [hn] at h
      injection h with h
      subst h
      have : n ≠ 0 := by simpa using hn
      simp [binOp, Op.intDiv, this]
  · cases hn : n == 0 with
    | true => rw [hn] at h; cases h
    | false =>
      rw [hn] at h
      injection h with h
      subst h
      have : n ≠ 0 := by simpa using hn
      simp [binOp, Op.intDiv, this]
  all_goals first | (cases h; done) | (injection h with h; subst h; simp [binOp, Op.intBits])
theorem shI_ok {op : BinOp} {k k' : IntKind} {m n : Int} {u : Value} (h : shI op k m n = some u) : (Op.shift op k m k' n).run P w = .ok u w ∧ (op = .shl ∨ op = .shr) := by
  unfold shI at h
  split at h
  · obtain ⟨h1, h2⟩ := lp1_some h
    injection h2 with h2
    subst h2
    have : ¬ n < 0 := by have := of_decide_eq_true h1; omega
    exact ⟨by simp [Op.shift, this], .inl rfl⟩
  · obtain ⟨h1, h2⟩ := lp1_some h
    injection h2 with h2
    subst h2
    have : ¬ n < 0 := by have := of_decide_eq_true h1; omega
    exact ⟨by simp [Op.shift, this], .inr rfl⟩
  · cases h
theorem elemT_eq {t : TypeId} {e : Nat} (h : elemT P t = some e) : P.underlying t = some (.slice e) := by
  unfold elemT at h
  split at h
  · rename_i u
    injection h with h
    rw [u, h]
  · cases h
theorem ok_bin {op : BinOp} {t t' : TypeId} {x y : Operand} {o : Oper} {r : AV × List Ent × Nat} (ho : o.op = .binOp op t x y t') (h : valE P s (.binOp op t x y t') = some r) : OkV P fz B s r.1 r.2.1 r.2.2 (fun a => execOp a.eval o) := by
  simp only [valE] at h
  obtain ⟨av, h1, h⟩ := bnd_some h
  obtain ⟨bv, h2, h⟩ := bnd_some h
  refine keep_ok h fun cv h3 φ a w W S hs => ?_
  obtain ⟨u, h4, h5⟩ := bnd_some h3
  injection h5 with h5
  subst h5
  have e1 := oE_val hs h1
  have e2 := oE_val hs h2
  refine ⟨u, ?_, rfl⟩
  unfold binA at h4
  split at h4
  · rename_i k m k' n i1 i2
    rw [asI_eq i1] at e1
    rw [asI_eq i2] at e2
    injection e1 with e1
    injection e2 with e2
    cases hsh : isSh op with
    | true =>
      rw [hsh] at h4
      obtain ⟨g1, g2⟩ := shI_ok (P := P) (w := w) (k' := k') h4
      exact run_binS ho g2 e1.symm e2.symm g1
    | false =>
      rw [hsh] at h4
      simp only [cond_false] at h4
      cases hk : decide (k = k') with
      | false => rw [hk] at h4; cases h4
      | true =>
        rw [hk] at h4
        have := of_decide_eq_true hk
        subst this
        exact run_binI ho e1.symm e2.symm (binI_ok t h4 hsh)
  · split at h4
    · rename_i v hv
      injection h4 with h4
      subst h4
      unfold nilP at hv
      split at hv
      · rename_i el ht
        obtain ⟨hn, h4⟩ := lp1_some hv
        have hy : y = .const (.pointer none) := by
          unfold isPNil at hn
          split at hn
          · rfl
          · cases hn
        subst hy
        have key : ∀ (A : Option Addr), a.eval x = .pointer A → eqB op A.isNone = some v → (execOp a.eval o).run P w = .ok (.value v) w := by
          intro A h1 hb
          have h6 : a.eval (.const (.pointer none)) = .pointer none := rfl
          have h8 : (Op.equal t (.pointer A) (.pointer none)).run P w = .ok A.isNone w := by
            simp only [Op.equal, Op.maxDepth]
            unfold Op.equalIn
            simp only [Sem.run_bind, run_underlying ht, Result.andThen_ok]
            cases A with
            | none => rfl
            | some ad => rfl
          unfold execOp
          simp only [ho, h1, h6]
          unfold eqB at hb
          split at hb
          · injection hb with hb
            subst hb
            have : eqGuard .eql t x (.const (.pointer none)) (.pointer A) (.pointer none) = pure () := rfl
            rw [this]
            simp only [pure_bind, Sem.run_bind]
            have h7 : (binOp .eql t (.pointer A) (.pointer none)).run P w = .ok (.bool A.isNone) w := by
              simp only [binOp, Sem.run_bind, h8, Result.andThen_ok, Sem.run_pure]
            rw [h7]
            rfl
          · injection hb with hb
            subst hb
            have : eqGuard .neq t x (.const (.pointer none)) (.pointer A) (.pointer none) = pure () := rfl
            rw [this]
            simp only [pure_bind, Sem.run_bind]
            have h7 : (binOp .neq t (.pointer A) (.pointer none)).run P w = .ok (.bool (!A.isNone)) w := by
              simp only [binOp, Sem.run_bind, h8, Result.andThen_ok, Sem.run_pure]
            rw [h7]
            rfl
          · cases hb
        split at h4
        · simp only [val, Option.map_eq_some_iff] at e1
          obtain ⟨L, _, e1⟩ := e1
          exact key _ e1.symm h4
        · simp only [val, Option.map_eq_some_iff] at e1
          obtain ⟨L, _, e1⟩ := e1
          exact key _ e1.symm h4
        · injection e1 with e1
          exact key none e1.symm h4
        · cases h4
      · cases hv
    unfold nilS at h4
    obtain ⟨e, ht, h4⟩ := bnd_some h4
    obtain ⟨hn, h4⟩ := lp1_some h4
    have ht := elemT_eq ht
    have hy : y = .const (.slice none 0 0) := by
      unfold isNilC at hn
      split at hn
      · rfl
      · cases hn
    subst hy
    have key : ∀ (A : Option Addr) (n c : Nat), a.eval x = .slice A n c → ∀ (op : BinOp) (b : Bool), (op = .eql ∧ b = A.isNone) ∨ (op = .neq ∧ b = !A.isNone) → ∀ o : Oper, o.op = .binOp op t x (.const (.slice none 0 0)) t' → (execOp a.eval o).run P w = .ok (.value (.bool b)) w := by
      intro A n c h1 op b hb o ho
      have h6 : a.eval (.const (.slice none 0 0)) = .slice none 0 0 := rfl
      have h8 : (Op.equal t (.slice A n c) (.slice none 0 0)).run P w = .ok A.isNone w := by
        simp only [Op.equal, Op.maxDepth]
        unfold Op.equalIn
        simp only [Sem.run_bind, run_underlying ht, Result.andThen_ok]
        cases A with
        | none => rfl
        | some ad => rfl
      unfold execOp
      simp only [ho, h1, h6]
      rcases hb with ⟨rfl, rfl⟩ | ⟨rfl, rfl⟩
      · have : eqGuard .eql t x (.const (.slice none 0 0)) (.slice A n c) (.slice none 0 0) = pure () := rfl
        rw [this]
        simp only [pure_bind, Sem.run_bind]
        have h7 : (binOp .eql t (.slice A n c) (.slice none 0 0)).run P w = .ok (.bool A.isNone) w := by
          simp only [binOp, Sem.run_bind, h8, Result.andThen_ok, Sem.run_pure]
        rw [h7]
        rfl
      · have : eqGuard .neq t x (.const (.slice none 0 0)) (.slice A n c) (.slice none 0 0) = pure () := rfl
        rw [this]
        simp only [pure_bind, Sem.run_bind]
        have h7 : (binOp .neq t (.slice A n c) (.slice none 0 0)).run P w = .ok (.bool (!A.isNone)) w := by
          simp only [binOp, Sem.run_bind, h8, Result.andThen_ok, Sem.run_pure]
        rw [h7]
        rfl
    split at h4
    · simp only [val, Option.map_eq_some_iff] at e1
      obtain ⟨L, _, e1⟩ := e1
      split at h4
      · injection h4 with h4
        subst h4
        exact key _ _ _ e1.symm _ _ (.inl ⟨rfl, rfl⟩) o ho
      · injection h4 with h4
        subst h4
        exact key _ _ _ e1.symm _ _ (.inr ⟨rfl, rfl⟩) o ho
      · cases h4
    · injection e1 with e1
      split at h4
      · injection h4 with h4
        subst h4
        exact key _ _ _ e1.symm _ _ (.inl ⟨rfl, rfl⟩) o ho
      · injection h4 with h4
        subst h4
        exact key _ _ _ e1.symm _ _ (.inr ⟨rfl, rfl⟩) o ho
      · cases h4
    · cases h4
theorem ok_move {x : Operand} {o : Oper} {r : AV × List Ent × Nat} (ho : o.op = .move x ∨ o.op = .assign x) (h : keep s (oE s.regs x) = some r) : OkV P fz B s r.1 r.2.1 r.2.2 (fun a => execOp a.eval o) := by
  refine keep_ok h fun cv h3 φ a w W S hs => ⟨_, ?_, oE_val hs h3⟩
  rcases ho with ho | ho <;> (unfold execOp; rw [ho]; rfl)
theorem ok_pick {c x y : Operand} {o : Oper} {r : AV × List Ent × Nat} (ho : o.op = .pick c x y) (h : valE P s (.pick c x y) = some r) : OkV P fz B s r.1 r.2.1 r.2.2 (fun a => execOp a.eval o) := by
  simp only [valE] at h
  obtain ⟨av, h1, h⟩ := bnd_some h
  obtain ⟨b, h2, h⟩ := bnd_some h
  rw [asB_eq h2] at h1
  cases b with
  | true =>
    refine keep_ok h fun cv h3 φ a w W S hs => ⟨_, ?_, oE_val hs h3⟩
    have e1 := oE_val hs h1
    injection e1 with e1
    simp [execOp, ho, ← e1, asBool]
  | false =>
    refine keep_ok h fun cv h3 φ a w W S hs => ⟨_, ?_, oE_val hs h3⟩
    have e1 := oE_val hs h1
    injection e1 with e1
    simp [execOp, ho, ← e1, asBool]
theorem ok_load {t : TypeId} {x : Operand} {o : Oper} {r : AV × List Ent × Nat} (ho : o.op = .load t x) (h : valE P s (.load t x) = some r) : OkV P fz B s r.1 r.2.1 r.2.2 (fun a => execOp a.eval o) := by
  simp only [valE] at h
  obtain ⟨av, h1, h⟩ := bnd_some h
  refine keep_ok h fun cv h3 φ a w W S hs => ?_
  obtain ⟨ad, u, h4, h5, h6⟩ := loadE_ok hs h3 (oE_val hs h1)
  exact ⟨u, ex_load ho h4 h5, h6⟩
theorem offE_ok {t : TypeId} {f : Nat} {p av : AV} {v : Value} {x : Operand} {o : Oper} (ho : o.op = .fieldAddr t x f) (e : offE P t f p = some av) (hv : val φ p = some (a.eval x)) : ∃ u, (execOp a.eval o).run P w = .ok (.value u) w ∧ val φ av = some u := by
  have key : ∀ (b o' off : Nat), tFld P t f off = true → a.eval x = .pointer (some ⟨b, o', none⟩) → (execOp a.eval o).run P w = .ok (.value (.pointer (some ⟨b, o' + off, none⟩))) w := by
    intro b o' off ht h1
    unfold tFld at ht
    split at ht
    · rename_i fs hu
      split at ht
      · rename_i fd hfd
        split at ht
        · rename_i i hi
          simp only [Bool.and_eq_true, Bool.not_eq_true'] at ht
          have e1 := Nat.eq_of_beq_eq_true ht.1
          have e2 : i.size ≠ 0 := fun he => by rw [he] at ht; simp at ht
          subst e1
          unfold execOp
          simp only [ho, Instr.fieldAt, Sem.run_bind, run_underlying hu, Result.andThen_ok, hfd, h1, Instr.sureAddr, Sem.run_pure, fieldPlace, run_size hi, e2, if_false, add_pl]
        · cases ht
      · cases ht
    · cases ht
  unfold offE at e
  split at e
  · rename_i k o'
    obtain ⟨off, h1, h2⟩ := bnd_some e
    obtain ⟨h3, h4⟩ := lp1_some h2
    injection h4 with h4
    subst h4
    simp only [val, Option.map_eq_some_iff] at hv ⊢
    obtain ⟨L, hL, hv⟩ := hv
    exact ⟨_, key _ _ _ h3 hv.symm, L, hL, by rw [Nat.add_assoc]⟩
  · rename_i k sz i o'
    obtain ⟨off, h1, h2⟩ := bnd_some e
    obtain ⟨h3, h4⟩ := lp1_some h2
    injection h4 with h4
    subst h4
    simp only [val, Option.map_eq_some_iff] at hv ⊢
    obtain ⟨L, hL, hv⟩ := hv
    exact ⟨_, key _ _ _ h3 hv.symm, L, hL, by rw [Nat.add_assoc, Nat.add_assoc]⟩
  · cases e
theorem ok_fieldAddr {t : TypeId} {x : Operand} {f : Nat} {o : Oper} {r : AV × List Ent × Nat} (ho : o.op = .fieldAddr t x f) (h : valE P s (.fieldAddr t x f) = some r) : OkV P fz B s r.1 r.2.1 r.2.2 (fun a => execOp a.eval o) := by
  simp only [valE] at h
  obtain ⟨av, h1, h⟩ := bnd_some h
  exact keep_ok h fun cv h3 φ a w W S hs => offE_ok (v := a.eval x) ho h3 (oE_val hs h1)
theorem ok_nilCheck {x : Operand} {o : Oper} {r : AV × List Ent × Nat} (ho : o.op = .nilCheck x) (h : valE P s (.nilCheck x) = some r) : OkV P fz B s r.1 r.2.1 r.2.2 (fun a => execOp a.eval o) := by
  simp only [valE] at h
  obtain ⟨av, h1, h⟩ := bnd_some h
  refine keep_ok h fun cv h3 φ a w W S hs => ?_
  have e1 := oE_val hs h1
  unfold nck at h3
  split at h3
  · injection h3 with h3
    subst h3
    refine ⟨a.eval x, ?_, e1⟩
    simp only [val, Option.map_eq_some_iff] at e1
    obtain ⟨L, _, e1⟩ := e1
    unfold execOp
    simp [ho, ← e1]
  · injection h3 with h3
    subst h3
    refine ⟨a.eval x, ?_, e1⟩
    simp only [val, Option.map_eq_some_iff] at e1
    obtain ⟨L, _, e1⟩ := e1
    unfold execOp
    simp [ho, ← e1]
  · cases h3
theorem ok_un {op : UnOp} {t : TypeId} {x : Operand} {o : Oper} {r : AV × List Ent × Nat} (ho : o.op = .unOp op t x) (h : valE P s (.unOp op t x) = some r) : OkV P fz B s r.1 r.2.1 r.2.2 (fun a => execOp a.eval o) := by
  simp only [valE] at h
  split at h
  · obtain ⟨av, h1, h⟩ := bnd_some h
    obtain ⟨b, h2, h⟩ := bnd_some h
    rw [asB_eq h2] at h1
    refine keep_ok h fun cv h3 φ a w W S hs => ?_
    injection h3 with h3
    subst h3
    have e1 := oE_val hs h1
    injection e1 with e1
    exact ⟨.bool (!b), by simp [execOp, ho, ← e1, Op.unary], rfl⟩
  · obtain ⟨av, h1, h⟩ := bnd_some h
    obtain ⟨b, h2, h⟩ := bnd_some h
    rw [asI_eq h2] at h1
    refine keep_ok h fun cv h3 φ a w W S hs => ?_
    injection h3 with h3
    subst h3
    have e1 := oE_val hs h1
    injection e1 with e1
    exact ⟨_, by simp [execOp, ho, ← e1, Op.unary, Op.intArith], rfl⟩
  · cases h
theorem ok_cvt {t u : TypeId} {x : Operand} {o : Oper} {r : AV × List Ent × Nat} (ho : o.op = .convert t u x) (h : valE P s (.convert t u x) = some r) : OkV P fz B s r.1 r.2.1 r.2.2 (fun a => execOp a.eval o) := by
  simp only [valE] at h
  obtain ⟨av, h1, h⟩ := bnd_some h
  refine keep_ok h fun cv h3 φ a w W S hs => ?_
  have e1 := oE_val hs h1
  unfold cvtE at h3
  obtain ⟨y, h4, h5⟩ := bnd_some h3
  rw [asI_eq h4] at e1
  injection e1 with e1
  split at h5
  · rename_i k k' u1 u2
    obtain ⟨h6, h7⟩ := lp1_some h5
    have := of_decide_eq_true h6
    subst this
    injection h7 with h7
    subst h7
    refine ⟨_, ?_, rfl⟩
    unfold execOp
    simp only [ho, convert, ← e1, Sem.run_bind, run_underlying u1, run_underlying u2, Result.andThen_ok, Conv.intToInt, Sem.run_pure]
  · cases h5
theorem ok_ext {x : Operand} {i : Nat} {o : Oper} {r : AV × List Ent × Nat} (ho : o.op = .extract x i) (h : valE P s (.extract x i) = some r) : OkV P fz B s r.1 r.2.1 r.2.2 (fun a => execOp a.eval o) := by
  simp only [valE] at h
  obtain ⟨av, h1, h⟩ := bnd_some h
  obtain ⟨l, h2, h⟩ := bnd_some h
  rw [asT_eq h2] at h1
  refine keep_ok h fun cv h3 φ a w W S hs => ?_
  have e1 := oE_val hs h1
  simp only [val, Option.map_eq_some_iff] at e1
  obtain ⟨vs, e2, e1⟩ := e1
  rw [lget_eq] at h3
  obtain ⟨u, hu, hpu⟩ := ((vals_vps (w := w) (W := W)).2 e2).get (i := i) (p := dn φ cv) (by rw [List.getElem?_map, h3]; rfl)
  refine ⟨u, ?_, dn_p.1 hpu⟩
  have hv' : vs.toArray[i]? = some u := by simpa using hu
  unfold execOp
  simp [ho, ← e1, Instr.extract, hv']
theorem ok_mkfn {f : FuncId} {xs ys : Array Operand} {o : Oper} {r : AV × List Ent × Nat} (ho : o.op = .makeFunc (.func f) xs ys) (h : valE P s (.makeFunc (.func f) xs ys) = some r) : OkV P fz B s r.1 r.2.1 r.2.2 (fun a => execOp a.eval o) := by
  simp only [valE] at h
  obtain ⟨us, h1, h⟩ := bnd_some h
  obtain ⟨ws, h2, h⟩ := bnd_some h
  refine keep_ok h fun cv h3 φ a w W S hs => ?_
  injection h3 with h3
  subst h3
  have e1 := oEs_val hs h1
  have e2 := oEs_val hs h2
  refine ⟨.func (.func f) (xs.toList.map a.eval).toArray (ys.toList.map a.eval).toArray, ?_, by simp only [val, e1, e2]⟩
  unfold execOp
  have e3 : Array.map a.eval xs = (xs.toList.map a.eval).toArray := by rw [← List.map_toArray, Array.toArray_toList]
  have e4 : Array.map a.eval ys = (ys.toList.map a.eval).toArray := by rw [← List.map_toArray, Array.toArray_toList]
  simp only [ho, Instr.makeFunc, e3, e4, Sem.run_bind, Sem.run_pure, Result.andThen_ok]
/-- a new block of cells -/
theorem new_cells {e : TypeId} {cs : List AV} {us : Array Value} (hs : Tel fz B φ s a w W S) (hf : Free φ s.n (s.n + 1)) (hv : vals φ cs = some us.toList) (h1 : ∀ u ∈ us.toList, u.oneCell' = true) :
    Ext φ (setE φ s.n ⟨w.heap.size, 0, 0⟩) s.n (s.n + 1) ∧ val (setE φ s.n ⟨w.heap.size, 0, 0⟩) (.ptr s.n 0) = some (.pointer (some ⟨w.heap.size, 0, none⟩)) ∧
    Sat { w with heap := w.heap.push (.cells us e) } (fun b => W b ∨ b = w.heap.size) (dnH (setE φ s.n ⟨w.heap.size, 0, 0⟩) (.cells s.n e cs :: s.heap)) (fun b => b = w.heap.size ∨ S b) := by
  have hx := setE_ext ⟨w.heap.size, 0, 0⟩ hf
  refine ⟨hx, by simp only [val, setE_at, Option.map_some, Nat.add_zero], ?_⟩
  have hn := new_var (ps := enc (setE φ s.n ⟨w.heap.size, 0, 0⟩) cs) (e := e) (cs := us) hs.sat hs.run.sub hs.run.bound (vals_vps.2 (vals_le hx.le hv)) h1
  obtain ⟨S1, S2, k1, k2, k3⟩ := hn
  refine ⟨S1, S2, dnC_mk (setE_at _ _ _) rfl k1, Sat_le hx.le k2, k3⟩
theorem zers_ok {t : TypeId} {z : List AV} (h : zers P t = some z) : ∃ i v, P.info? t = some i ∧ i.zero = some v ∧ (∀ φ, vals φ z = some v.cells.toList) ∧ ∀ u ∈ v.cells.toList, u.oneCell' = true := by
  unfold zers tZero at h
  obtain ⟨l, h1, h2⟩ := bnd_some h
  obtain ⟨h3, h4⟩ := lp1_some h2
  injection h4 with h4
  subst h4
  obtain ⟨v, h5, h6⟩ := Option.map_eq_some_iff.1 h1
  obtain ⟨i, h7, h8⟩ := Option.bind_eq_some_iff.1 h5
  subst h6
  refine ⟨i, v, h7, h8, fun φ => ?_, fun u hu => List.all_eq_true.1 h3 u hu⟩
  generalize v.cells.toList = l
  induction l with
  | nil => rfl
  | cons x l ih => simp only [List.map_cons, vals, val, ih]
theorem ok_alloc {e : TypeId} {o : Oper} {r : AV × List Ent × Nat} (ho : o.op = .alloc e) (h : valE P s (.alloc e) = some r) : OkV P fz B s r.1 r.2.1 r.2.2 (fun a => execOp a.eval o) := by
  simp only [valE] at h
  obtain ⟨z, h1, h⟩ := bnd_some h
  injection h with h
  subst h
  obtain ⟨i, v, k1, k2, k3, k4⟩ := zers_ok h1
  refine ⟨Nat.le_succ _, fun φ hf a w W S hs => ?_⟩
  obtain ⟨g1, g2, g3⟩ := new_cells (e := e) hs hf (k3 φ) k4
  refine ⟨_, _, _, _, _, g1, ?_, g2, g3, Run.new hs.run.sub hs.run.bound _⟩
  unfold execOp
  simp only [ho, Instr.alloc, zeroValue, Sem.run_bind, run_tinfo k1, Result.andThen_ok, k2, Sem.run_pure, newVar, newRow, newObj]
  rfl
theorem ok_box {e : TypeId} {x : Operand} {o : Oper} {r : AV × List Ent × Nat} (ho : o.op = .box e x) (h : valE P s (.box e x) = some r) : OkV P fz B s r.1 r.2.1 r.2.2 (fun a => execOp a.eval o) := by
  simp only [valE] at h
  obtain ⟨av, h1, h⟩ := bnd_some h
  obtain ⟨h2, h⟩ := lp1_some h
  injection h with h
  subst h
  refine ⟨Nat.le_succ _, fun φ hf a w W S hs => ?_⟩
  obtain ⟨q1, q2⟩ := flat_val h2 (oE_val hs h1)
  obtain ⟨g1, g2, g3⟩ := new_cells (e := e) hs hf q1 q2
  exact ⟨_, _, _, _, _, g1, ex_box ho rfl, g2, g3, Run.new hs.run.sub hs.run.bound _⟩
end
end Go.Proofs.YtagkniimpekhjaaGreat

set_option linter.unusedVariables false
set_option linter.unusedSectionVars false
set_option linter.unusedSimpArgs false
namespace Go.Proofs.YtagkniimpekhjaaGreat
open Go.RowKit
section
variable {P : Program} {κ ν : Type} [DecidableEq κ] {encK : κ → Value} {encV : ν → VP} {m : List (κ × ν)} {t kt vt : TypeId}
theorem run_mst {w : World} {W : WS} {b : Nat} {uz : Value} (k : κ) (v : ν) (ht : tMap P t kt vt = true) (hk : KeyOk P kt encK) (hlen : m.length < 9223372036854775807) (hbd : ∀ b, W b → b < w.heap.size) (hv : (encV v).p w W uz) :
    ∀ S1, (hmap b encK encV m).p w W S1 → (∀ b, S1 b → W b) → ∃ w', (Instr.mapUpdate t (.map (some b)) (encK k) uz).run P w = .ok () w' ∧ (hmap b encK encV (mset m k v)).p w' W S1 ∧ Run w W S1 w' W S1 := by
  rintro S1 ⟨⟨es, c, h1, h2, h3, h4, h5⟩, hS1⟩ hsub
  have hbS : S1 b := (hS1 b).2 rfl
  have hget := h2.get k
  have hfind := hk.find (m.map (·.1)) es.toList k w h2.keys
  have hset : ∀ (es' : Array MapEntry) (c' : Nat), (setObj b (.map es' c')).run P w = .ok () { w with heap := w.heap.setIfInBounds b (.map es' c') } := by
    intro es' c'
    simp [setObj, Sem.run, h1]
  have hrun : ∀ (es' : Array MapEntry) (c' : Nat), Run w W S1 { w with heap := w.heap.setIfInBounds b (.map es' c') } W S1 := fun es' c' =>
    ⟨rfl, rfl, rfl, by simp, fun x hl hn => by
      have : b ≠ x := fun e => hn (e ▸ hbS)
      simp [Array.getElem?_setIfInBounds_ne this], fun _ _ _ => Iff.rfl, fun _ _ h => h, fun _ h => .inl h, hsub, fun x hx => by simpa using hbd x hx⟩
  have hat : ∀ (es' : Array MapEntry) (c' : Nat), ({ w with heap := w.heap.setIfInBounds b (.map es' c') } : World).heap[b]? = some (.map es' c') := by
    intro es' c'
    have := (Array.getElem?_eq_some_iff.1 h1).1
    simp [this]
  have hml : (mset m k v).length ≤ 9223372036854775807 := by
    have := congrArg List.length (mset_keys (m := m) (k := k) (v := v))
    rw [List.length_map] at this
    split at this
    · rw [List.length_append, List.length_map, List.length_singleton] at this; omega
    · rw [List.length_map] at this; omega
  have hnd := mset_nodup (k := k) (v := v) h5
  unfold Instr.mapUpdate
  simp only [Sem.run_bind, run_underlying (tMap_parts ht), Result.andThen_ok, run_getMap h1, hk.ck, hfind]
  cases hf : ((m.map (·.1)).findIdx? (fun k' => decide (k' = k))).bind fun i => (es.toList[i]?).map fun e => (i, e.val) with
  | none =>
    rw [hf] at hget
    have hg : mget m k = none := by
      cases hg : mget m k with
      | some v => rw [hg] at hget; exact hget.elim
      | none => rfl
    have hev := (hrun (es.push { key := encK k, val := uz, born := c }) (c + 1)).evo hsub
    refine ⟨{ w with heap := w.heap.setIfInBounds b (.map (es.push { key := encK k, val := uz, born := c }) (c + 1)) }, by simp only [hset], ⟨⟨_, _, hat _ _, ?_, ?_, hml, hnd⟩, hS1⟩, hrun _ _⟩
    · rw [Array.toList_push]
      exact (h2.push hg rfl hv).st hev
    · rw [Array.toList_push]
      exact Born.push (e := { key := encK k, val := uz, born := c }) rfl h3
  | some iu =>
    obtain ⟨i, u⟩ := iu
    rw [hf] at hget
    cases hg : mget m k with
    | none => rw [hg] at hget; exact hget.elim
    | some v0 =>
      rw [hg] at hget
      have hi : (m.map (·.1)).findIdx? (fun k' => decide (k' = k)) = some i := by
        obtain ⟨i', hi', he⟩ := Option.bind_eq_some_iff.1 hf
        obtain ⟨e, _, he2⟩ := Option.map_eq_some_iff.1 he
        injection he2 with h6
        rw [← h6]
        exact hi'
      have hkey : ((es[i]?).map (·.key)).getD (encK k) = encK k := by
        have := hget.2
        rw [Array.getElem?_toList] at this
        rw [this]
        rfl
      have hstay : (Instr.keyThatStays (((es[i]?).map (·.key)).getD (encK k)) (encK k)).run P w = .ok (encK k) w := by
        rw [hkey]
        unfold Instr.keyThatStays
        rw [hk.bits]
        rfl
      have hev := (hrun (es.modify i fun e => { e with key := encK k, val := uz }) c).evo hsub
      refine ⟨{ w with heap := w.heap.setIfInBounds b (.map (es.modify i fun e => { e with key := encK k, val := uz }) c) }, by simp only [Sem.run_bind, hstay, Result.andThen_ok, hset], ⟨⟨_, _, hat _ _, ?_, ?_, hml, hnd⟩, hS1⟩, hrun _ _⟩
      · rw [Array.toList_modify]
        exact (h2.setE hi hv).st hev
      · rw [Array.toList_modify]
        exact Born.modify (f := fun e => { e with key := encK k, val := uz }) (fun _ => rfl) h3

end
section
variable {P : Program} {fz : Nat} {B : Bs} {σ : Regs} {h : List HP} {t : TypeId}
theorem ex_blds {xs : List (Nat × Operand)} {pl : List (Nat × Nat)} {zs : List Value} {l : List (Nat × List VP)} {a : Act} {w : World} {W : WS} {S : Nat → Prop} {o : Oper} (hs : St fz B.dfr B.w0 B.W0 B.S0 σ h a w W S) (ho : o.op = .build t xs.toArray) (ht : tPlaces P t = some pl) (hz : zOk P t zs) (hb : BParts σ pl xs l) (hle : (l.all fun oq => Nat.ble (oq.1 + oq.2.length) zs.length) = true) :
    ∃ v, (execOp a.eval o).run P w = .ok (.value v) w ∧ (vagg (bld (visL zs) l)).p w W v := by
    obtain ⟨hz1, hz2⟩ := hz
    unfold tZero at hz1
    obtain ⟨z, hz3, hz4⟩ := Option.map_eq_some_iff.1 hz1
    obtain ⟨i, hi, hiz⟩ := Option.bind_eq_some_iff.1 hz3
    obtain ⟨cs', h1, h2, h3⟩ := fill_parts hs hb (cs := z.cells) (ps := visL zs) (by rw [hz4]; exact VPs.visL zs) (by rw [hz4]; exact hz2) (fun oq hoq => by
      have := Nat.le_of_ble_eq_true (List.all_eq_true.1 hle oq hoq)
      have h4 := (VPs.visL (w := w) (W := W) zs).length
      omega)
    refine ⟨.agg cs', ?_, cs', rfl, h2, h3⟩
    have hm : (Array.map (fun x => (x.1, a.eval x.2)) xs.toArray).toList = xs.map fun x => (x.1, a.eval x.2) := by simp
    unfold tPlaces at ht
    unfold execOp
    simp only [ho]
    split at ht
    · rename_i fs hu
      have hpl := run_places (P := P) (w := w) fs.toList pl ht
      have hpl2 : (fs.mapM (m := Sem) fun f => do pure (f.offset, ← sizeOf f.type)).run P w = .ok pl.toArray w := by
        rw [Array.mapM_eq_mapM_toList]
        simp only [Sem.run_map, hpl]
        rfl
      have hf : (fun (x : Nat) => pl.toArray[x]?) = fun (i : Nat) => pl[i]? := by funext i; simp
      simp only [Instr.build, Sem.run_bind, zeroValue, run_tinfo hi, Result.andThen_ok, hiz, Sem.run_pure, run_underlying hu]
      rw [hpl2]
      simp only [Result.andThen_ok, hf, hm, h1, Sem.run_pure]
    · rename_i n e hu
      obtain ⟨ie, hie, hple⟩ := Option.map_eq_some_iff.1 ht
      have hfc : Instr.fill (fun i => some (i * ie.size, ie.size)) z.cells (xs.map fun x => (x.1, a.eval x.2)) = some cs' := by
        rw [← h1]
        refine fill_congr _ _ (fun x hx => ?_)
        obtain ⟨y, hy, rfl⟩ := List.mem_map.1 hx
        obtain ⟨oq, hoq⟩ := hb.dom y hy
        rw [← hple] at hoq ⊢
        simp only at hoq ⊢
        rw [List.getElem?_map] at hoq ⊢
        cases hr : (List.range n)[y.1]? with
        | none => rw [hr] at hoq; simp at hoq
        | some j =>
          have : j = y.1 := by
            obtain ⟨h5, h6⟩ := List.getElem?_eq_some_iff.1 hr
            simpa using h6.symm
          subst this
          rfl
      simp only [Instr.build, Sem.run_bind, zeroValue, run_tinfo hi, Result.andThen_ok, hiz, Sem.run_pure, run_underlying hu, run_size hie, hm, hfc]
    · cases ht
variable {α : Type} {sz bytes : Nat} {zs : List Value} {e : TypeId}
theorem ex_litO {xs : List Operand} {vps : List VP} {n : Nat} {a : Act} {w : World} {W : WS} {S : Nat → Prop} {o : Oper} (l : List α) (enc : α → List VP) (hs : St fz B.dfr B.w0 B.W0 B.S0 σ h a w W S) (ho : o.op = .buildSlice t n (parts0 xs)) (ht : tRow P t e sz bytes zs) (hc : Cels vps (l.map enc)) (hx : ogs σ xs = some vps) (hn : Nat.beq xs.length n = true) (hsm : Nat.ble (n * (sz + 1)) 16777216 = true) (hla : (l.map enc).all (fun q => Nat.beq q.length sz) = true) :
    ∃ w' W' S', (execOp a.eval o).run P w = .ok (.value (.slice (some ⟨w.heap.size, 0, none⟩) n n)) w' ∧ l.length = n ∧ Sat w' W' (hrow (.slice (some ⟨w.heap.size, 0, none⟩) n n) e sz enc l :: h) S' ∧ Run w W S w' W' S' := by
    have hl : ∀ q ∈ l.map enc, q.length = sz := fun q hq => Nat.eq_of_beq_eq_true (List.all_eq_true.1 hla q hq)
    have hv := hs.evals hx
    have hn' := Nat.eq_of_beq_eq_true hn
    have hsm' := Nat.le_of_ble_eq_true hsm
    have hll : l.length = n := by
      have h1 := hc.len
      have h2 := hv.length
      rw [List.length_map] at h1 h2
      omega
    have hr := Run.new hs.run.sub hs.run.bound (.cells ((xs.map a.eval).map (·.cells.toList)).flatten.toArray e)
    have hev := hr.evo hs.run.sub
    have hcl : ((xs.map a.eval).map (·.cells.toList)).flatten.length = n * sz := by
      have hall : ∀ (vs : List Value), (∀ v ∈ vs, v.cells.size = sz) → ((vs.map (·.cells.toList)).flatten).length = vs.length * sz := by
        intro vs
        induction vs with
        | nil => intro _; simp
        | cons v vs ih =>
          intro h
          rw [List.map_cons, List.flatten_cons, List.length_append, ih (fun u hu => h u (List.mem_cons_of_mem _ hu)), Array.length_toList (xs := v.cells), h v (List.mem_cons_self ..), List.length_cons, Nat.succ_mul, Nat.add_comm]
      rw [hall _ (fun v hv' => Cels.siz hc hl hv v hv'), List.length_map, hn']
    refine ⟨_, _, _, ex_lit n ho hn' ht (Nat.le_trans (Nat.mul_le_mul_left _ (by omega)) hsm') (fun x hx' => Cels.siz hc hl hv _ (List.mem_map.2 ⟨x, hx', rfl⟩)), hll, ?_, hr⟩
    refine ⟨fun b => b = w.heap.size, S, .inr ⟨w.heap.size, 0, n, _, by rw [hll], by omega, new_at w _, by rw [List.size_toArray, hcl]; omega, fun u hu => Cels.one_ hc hv u (by simpa using List.mem_of_mem_drop (List.mem_of_mem_take hu)), by rw [hll]; omega, fun i hi => ?_, fun _ => Iff.rfl⟩, hs.sat.st hev (fun b hb => by have := hs.sat.lt b hb; simp [Array.getElem?_push, Nat.ne_of_lt this]), fun b hb hS => by have := hs.sat.lt b hS; omega, fun _ => Iff.rfl⟩
    have hi' : i < (l.map enc).length := by simpa using hi
    have hq := hl _ (List.getElem_mem hi')
    rw [List.getElem_map] at hq
    have hat := Cels.at_ hc hl hv i hi'
    rw [List.getElem_map] at hat
    exact ⟨hq, by rw [Nat.zero_add]; exact hat.st hev⟩

end
end Go.Proofs.YtagkniimpekhjaaGreat
