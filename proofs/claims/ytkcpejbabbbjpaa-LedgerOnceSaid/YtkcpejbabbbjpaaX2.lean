/- A part of the proof: contracts over a program of the model. -/
import Derived.Test.YtkcpejbabbbjpaaX1
set_option linter.unusedVariables false
set_option linter.unusedSectionVars false
set_option linter.unusedSimpArgs false
namespace Go.Proofs.Ytkcpejbabbbjpaa
open Go.RowKit

theorem lp1_some {α : Type} {b : Bool} {x : Option α} {y : α} (h : lp1 b x = some y) : b = true ∧ x = some y := by
  cases b with
  | true => exact ⟨rfl, h⟩
  | false => cases h
theorem bnd_some {α β : Type} {x : Option α} {f : α → Option β} {y : β} (h : x.bind f = some y) : ∃ a, x = some a ∧ f a = some y := Option.bind_eq_some_iff.1 h
theorem lget_eq {α : Type} : ∀ (l : List α) (i : Nat), lget l i = l[i]?
  | [], _ => by simp [lget]
  | x :: l, 0 => rfl
  | x :: l, i + 1 => by simp only [lget, List.getElem?_cons_succ]; exact lget_eq l i
theorem lset_eq {α : Type} (y : α) : ∀ (l : List α) (i : Nat), lset y l i = l.set i y
  | [], _ => by simp [lset]
  | x :: l, 0 => rfl
  | x :: l, i + 1 => by simp only [lset, List.set_cons_succ, lset_eq y l i]
theorem asI_eq {a : AV} {k : IntKind} {n : Int} (h : asI a = some (k, n)) : a = .v (.int k n) := by
  unfold asI at h
  split at h
  · injection h with h; injection h with h1 h2; rw [h1, h2]
  · cases h
theorem asB_eq {a : AV} {b : Bool} (h : asB a = some b) : a = .v (.bool b) := by
  unfold asB at h
  split at h
  · injection h with h; rw [h]
  · cases h
theorem asT_eq {a : AV} {l : List AV} (h : asT a = some l) : a = .tup l := by
  unfold asT at h
  split at h
  · injection h with h; rw [h]
  · cases h
theorem asA_eq {a : AV} {l : List AV} (h : asA a = some l) : a = .agg l := by
  unfold asA at h
  split at h
  · injection h with h; rw [h]
  · cases h
theorem asM_eq {a : AV} {k : Nat} (h : asM a = some k) : a = .mp k := by
  unfold asM at h
  split at h
  · injection h with h; rw [h]
  · cases h
theorem asNil_eq {a : AV} (h : asNil a = true) : a = .v (.slice none 0 0) := by
  unfold asNil at h
  split at h
  · rfl
  · cases h
theorem one_val {φ : Env} {a : AV} {u : Value} (h : isOne a = true) (e : val φ a = some u) : u.oneCell' = true := by
  cases a with
  | v w => injection e with e; rw [← e]; exact h
  | ptr k o => simp only [val, Option.map_eq_some_iff] at e; obtain ⟨L, _, rfl⟩ := e; rfl
  | sl k sz lo hi => simp only [val, Option.map_eq_some_iff] at e; obtain ⟨L, _, rfl⟩ := e; rfl
  | el k sz i o => simp only [val, Option.map_eq_some_iff] at e; obtain ⟨L, _, rfl⟩ := e; rfl
  | mp k => simp only [val, Option.map_eq_some_iff] at e; obtain ⟨L, _, rfl⟩ := e; rfl
  | agg l => cases h
  | tup l => cases h
  | fn f us ws =>
    simp only [val] at e
    split at e
    · injection e with e; rw [← e]; rfl
    · cases e
  | un => cases h
theorem ones_val {φ : Env} : ∀ {l : List AV} {us : List Value}, l.all isOne = true → vals φ l = some us → ∀ u ∈ us, u.oneCell' = true
  | [], us, _, e, u, hu => by injection e with e; subst e; cases hu
  | a :: l, us, h, e, u, hu => by
    simp only [List.all_cons, Bool.and_eq_true] at h
    simp only [vals] at e
    cases h1 : val φ a with
    | none => rw [h1] at e; cases e
    | some x =>
      cases h2 : vals φ l with
      | none => rw [h1, h2] at e; cases e
      | some xs =>
        rw [h1, h2] at e
        injection e with e
        subst e
        rcases List.mem_cons.1 hu with rfl | hu
        · exact one_val h.1 h1
        · exact ones_val h.2 h2 u hu
theorem vals_len {φ : Env} {l : List AV} {us : List Value} (e : vals φ l = some us) : us.length = l.length := by
  have := (vals_vps (w := ⟨#[], fun _ _ => 0, 0, default, #[]⟩) (W := fun _ => False)).2 e
  rw [this.length, List.length_map]
/-- the cells of a value -/
theorem flat_val {φ : Env} {a : AV} {u : Value} (h : (flat a).all isOne = true) (e : val φ a = some u) : vals φ (flat a) = some u.cells.toList ∧ ∀ x ∈ u.cells.toList, x.oneCell' = true := by
  cases ha : asA a with
  | some l =>
    rw [asA_eq ha] at h e ⊢
    simp only [val, Option.map_eq_some_iff] at e
    obtain ⟨vs, h1, rfl⟩ := e
    refine ⟨by simpa [flat, Value.cells] using h1, fun x hx => ones_val h h1 x (by simpa [Value.cells] using hx)⟩
  | none =>
    have hf : flat a = [a] := by
      cases a <;> first | rfl | cases ha
    rw [hf] at h ⊢
    simp only [List.all_cons, List.all_nil, Bool.and_true] at h
    have h1 := one_val h e
    have hc := cells_one h1
    rw [hc]
    refine ⟨by simp only [vals, e], fun x hx => by simp only [List.mem_singleton] at hx; rw [hx]; exact h1⟩

section
variable {P : Program} {fz : Nat} {B : Bs} {φ : Env} {s : XS} {a : Act} {w : World} {W : WS} {S : Nat → Prop}
theorem entC_at {h : List Ent} {n k : Nat} {x : Nat × List AV} (e : entC h n k = some x) : (dnH φ h)[posn n k]? = some (dnE φ (.cells k x.1 x.2)) := by
  unfold entC eG at e
  rw [lget_eq] at e
  split at e
  · rename_i k' t cs he
    obtain ⟨h1, h2⟩ := lp1_some e
    have := Nat.eq_of_beq_eq_true h1
    subst this
    injection h2 with h2
    subst h2
    rw [dnH, List.getElem?_map, he]
    rfl
  · cases e
theorem entR_at {h : List Ent} {n k : Nat} {x : Nat × Nat × List (List AV)} (e : entR h n k = some x) : (dnH φ h)[posn n k]? = some (dnE φ (.row k x.1 x.2.1 x.2.2)) := by
  unfold entR eG at e
  rw [lget_eq] at e
  split at e
  · rename_i k' t sz l he
    obtain ⟨h1, h2⟩ := lp1_some e
    have := Nat.eq_of_beq_eq_true h1
    subst this
    injection h2 with h2
    subst h2
    rw [dnH, List.getElem?_map, he]
    rfl
  · cases e
theorem entM_at {h : List Ent} {n k : Nat} {x : Nat × Nat × List (Int × AV)} (e : entM h n k = some x) : (dnH φ h)[posn n k]? = some (dnE φ (.map k x.1 x.2.1 x.2.2)) := by
  unfold entM eG at e
  rw [lget_eq] at e
  split at e
  · rename_i k' t sz l he
    obtain ⟨h1, h2⟩ := lp1_some e
    have := Nat.eq_of_beq_eq_true h1
    subst this
    injection h2 with h2
    subst h2
    rw [dnH, List.getElem?_map, he]
    rfl
  · cases e
theorem dnC {k t : Nat} {cs : List AV} {S1 : Nat → Prop} (e : (dnE φ (.cells k t cs)).p w W S1) : ∃ L, φ k = some L ∧ L.o = 0 ∧ (hvar L.b t (enc φ cs)).p w W S1 := by
  simp only [dnE] at e
  cases hk : φ k with
  | none => rw [hk] at e; exact e.elim
  | some L =>
    rw [hk] at e
    simp only at e
    cases hb : Nat.beq L.o 0 with
    | false => rw [hb] at e; exact e.elim
    | true => rw [hb] at e; exact ⟨L, rfl, Nat.eq_of_beq_eq_true hb, e⟩
theorem dnC_mk {k t : Nat} {cs : List AV} {S1 : Nat → Prop} {L : Loc} (hk : φ k = some L) (ho : L.o = 0) (e : (hvar L.b t (enc φ cs)).p w W S1) : (dnE φ (.cells k t cs)).p w W S1 := by
  simp only [dnE, hk, ho, show Nat.beq 0 0 = true from rfl, cond_true]
  exact e
theorem dnRow {k t sz : Nat} {l : List (List AV)} {S1 : Nat → Prop} (e : (dnE φ (.row k t sz l)).p w W S1) : ∃ L, φ k = some L ∧ (hrow (.slice (some ⟨L.b, L.o, none⟩) l.length L.c) t sz (enc φ) l).p w W S1 := by
  simp only [dnE] at e
  cases hk : φ k with
  | none => rw [hk] at e; exact e.elim
  | some L => rw [hk] at e; exact ⟨L, rfl, e⟩
theorem dnRow_mk {k t sz : Nat} {l : List (List AV)} {S1 : Nat → Prop} {L : Loc} (hk : φ k = some L) (e : (hrow (.slice (some ⟨L.b, L.o, none⟩) l.length L.c) t sz (enc φ) l).p w W S1) : (dnE φ (.row k t sz l)).p w W S1 := by
  simp only [dnE, hk]
  exact e
theorem dnMap {k kt vt : Nat} {m : List (Int × AV)} {S1 : Nat → Prop} (e : (dnE φ (.map k kt vt m)).p w W S1) : ∃ L, φ k = some L ∧ (hmap L.b eI (dn φ) m).p w W S1 := by
  simp only [dnE] at e
  cases hk : φ k with
  | none => rw [hk] at e; exact e.elim
  | some L => rw [hk] at e; exact ⟨L, rfl, e⟩
theorem dnMap_mk {k kt vt : Nat} {m : List (Int × AV)} {S1 : Nat → Prop} {L : Loc} (hk : φ k = some L) (e : (hmap L.b eI (dn φ) m).p w W S1) : (dnE φ (.map k kt vt m)).p w W S1 := by
  simp only [dnE, hk]
  exact e

/-- What an operation that gives a value does. -/
def OkV (P : Program) (fz : Nat) (B : Bs) (s : XS) (av : AV) (h' : List Ent) (n' : Nat) (run : Act → Sem Next) : Prop :=
  s.n ≤ n' ∧ ∀ φ, Free φ s.n n' → ∀ a w W S, Tel fz B φ s a w W S → ∃ φ' u w' W' S', Ext φ φ' s.n n' ∧ (run a).run P w = .ok (.value u) w' ∧ val φ' av = some u ∧ Sat w' W' (dnH φ' h') S' ∧ Run w W S w' W' S'
theorem okPure {av : AV} {run : Act → Sem Next} (h : ∀ φ a w W S, Tel fz B φ s a w W S → ∃ u, (run a).run P w = .ok (.value u) w ∧ val φ av = some u) : OkV P fz B s av s.heap s.n run :=
  ⟨Nat.le_refl _, fun φ _ a w W S hs => by
    obtain ⟨u, h1, h2⟩ := h φ a w W S hs
    exact ⟨φ, u, w, W, S, Ext.refl _ _ _, h1, h2, hs.sat, Run.refl hs.run.sub hs.run.bound⟩⟩
theorem keep_ok {x : Option AV} {r : AV × List Ent × Nat} {run : Act → Sem Next} (e : keep s x = some r) (h : ∀ av, x = some av → ∀ φ a w W S, Tel fz B φ s a w W S → ∃ u, (run a).run P w = .ok (.value u) w ∧ val φ av = some u) : OkV P fz B s r.1 r.2.1 r.2.2 run := by
  obtain ⟨av, h1, h2⟩ := bnd_some e
  injection h2 with h2
  subst h2
  exact okPure (h av h1)
/-- a value's cells in memory, by its type's make -/
theorem takeT_ok {t : TypeId} {cs : List AV} {vs : List Value} {o : Nat} {av : AV} {ad : Addr} (e : takeT P t cs o = some av) (hv : vals φ cs = some vs) (h1 : ∀ u ∈ vs, u.oneCell' = true) (hc : ∀ j u, vs[j]? = some u → w.cell? (ad.add j) = some u) :
    ∃ u, (loadVar t (ad.add o)).run P w = .ok u w ∧ val φ av = some u := by
  have hvp := (vals_vps (w := w) (W := fun _ => False)).2 hv
  unfold takeT at e
  split at e
  · rename_i hk
    have ht : tOne P t = true := by
      unfold knd at hk
      cases h : tOne P t with
      | true => rfl
      | false =>
        rw [h] at hk
        simp only [cond_false] at hk
        split at hk
        · rename_i i hi
          cases h2 : tAgg P t i.size with
          | true => rw [h2] at hk; simp at hk
          | false => rw [h2] at hk; simp at hk
        · cases hk
    rw [lget_eq] at e
    obtain ⟨u, hu, hpu⟩ := hvp.get (i := o) (p := dn φ av) (by rw [List.getElem?_map, e]; rfl)
    exact ⟨u, run_loadVar1 ht (hc _ _ hu), dn_p.1 hpu⟩
  · rename_i n hk
    have ht : tAgg P t n = true := by
      unfold knd at hk
      cases h : tOne P t with
      | true => rw [h] at hk; simp at hk
      | false =>
        rw [h] at hk
        simp only [cond_false] at hk
        split at hk
        · rename_i i hi
          cases h2 : tAgg P t i.size with
          | true =>
            rw [h2] at hk
            simp only [cond_true, Option.some.injEq] at hk
            have : i.size = n := by simpa using hk
            rw [← this]
            exact h2
          | false => rw [h2] at hk; simp at hk
        · cases hk
    obtain ⟨hb, e⟩ := lp1_some e
    injection e with e
    subst e
    have hl := vals_len hv
    have hb' := Nat.le_of_ble_eq_true hb
    have hlen : ((vs.drop o).take n).length = n := by rw [List.length_take, List.length_drop, hl]; omega
    refine ⟨.agg ((vs.drop o).take n).toArray, run_loadVarA ht hlen (fun j u hj => ?_), ?_⟩
    · rw [List.getElem?_take] at hj
      split at hj
      · rw [List.getElem?_drop] at hj
        have := hc _ _ hj
        rw [add_add]
        exact this
      · cases hj
    · have h2 : vals φ ((cs.drop o).take n) = some ((vs.drop o).take n) := by
        have := (hvp.drop o).take n
        rw [← List.map_drop, ← List.map_take] at this
        exact vals_vps.1 this
      simp only [val, h2, Option.map_some]
  · cases e
theorem loadE_ok {t : TypeId} {p av : AV} {v : Value} (hs : Tel fz B φ s a w W S) (e : loadE P s t p = some av) (hv : val φ p = some v) : ∃ ad u, v = .pointer (some ad) ∧ (loadVar t ad).run P w = .ok u w ∧ val φ av = some u := by
  unfold loadE at e
  split at e
  · rename_i k o
    obtain ⟨x, h1, h2⟩ := bnd_some e
    obtain ⟨S1, S2, g1, _⟩ := Sat.pick (entC_at (φ := φ) h1) hs.sat
    obtain ⟨L, hL, hLo, ⟨cs, k1, k2, k3⟩, _⟩ := dnC g1
    simp only [val, hL, Option.map_some, Option.some.injEq] at hv
    subst hv
    obtain ⟨u, hu, hav⟩ := takeT_ok (ad := ⟨L.b, 0, none⟩) h2 (vals_vps.1 k2) k3 (fun j u hj => by rw [add_pl, cell_at k1, Nat.zero_add]; simpa using hj)
    refine ⟨_, u, rfl, ?_, hav⟩
    rw [hLo, ← add_pl]
    exact hu
  · rename_i k sz i o
    obtain ⟨x, h1, h2⟩ := bnd_some e
    obtain ⟨h3, h4⟩ := lp1_some h2
    obtain ⟨cs, h5, h6⟩ := bnd_some h4
    have := Nat.eq_of_beq_eq_true h3
    subst this
    obtain ⟨S1, S2, g1, _⟩ := Sat.pick (entR_at (φ := φ) h1) hs.sat
    obtain ⟨L, hL, g2⟩ := dnRow g1
    simp only [val, hL, Option.map_some, Option.some.injEq] at hv
    subst hv
    rw [lget_eq] at h5
    obtain ⟨hi, h5'⟩ := List.getElem?_eq_some_iff.1 h5
    obtain ⟨us, k1, k2, k3, k4⟩ := row_cell g2 hi
    rw [h5'] at k1
    obtain ⟨u, hu, hav⟩ := takeT_ok (ad := ⟨L.b, L.o + i * x.2.1, none⟩) h6 (vals_vps.1 k1) k3 (fun j u hj => by
      have := k4 j u hj
      simp only [sAddr] at this
      rw [add_pl] at this ⊢
      rw [Nat.add_assoc]
      exact this)
    refine ⟨_, u, rfl, ?_, hav⟩
    rw [add_pl, Nat.add_assoc] at hu
    exact hu
  · cases e
end
end Go.Proofs.Ytkcpejbabbbjpaa
