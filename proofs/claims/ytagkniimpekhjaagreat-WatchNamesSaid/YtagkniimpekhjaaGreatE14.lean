/- A part of the proof: contracts over a program of the model. -/
import Derived.Test.YtagkniimpekhjaaGreatE12
import Derived.Laws.StructEq
set_option linter.unusedVariables false
set_option linter.unusedSectionVars false
set_option linter.unusedSimpArgs false
namespace Go.Proofs.YtagkniimpekhjaaGreat
open Go.RowKit

def isInt (P : Program) (t : TypeId) : Bool := match P.underlying t with
  | some (.int .i64) => true
  | _ => false
theorem isInt_eq {P : Program} {t : TypeId} (h : isInt P t = true) : P.underlying t = some (.int .i64) := by
  unfold isInt at h
  split at h
  · assumption
  · cases h
/-! ### keys that are structs of three ints -/
structure Tri where
  a : Int
  b : Int
  c : Int
  deriving DecidableEq, Inhabited
def eTri (k : Tri) : Value := .agg #[.int .i64 k.a, .int .i64 k.b, .int .i64 k.c]
/-- a struct type of three ints -/
def tTri (P : Program) (t : TypeId) : Bool := (match P.underlying t with
  | some (.struct fs) => (match fs.toList with
    | [f, g, h] => (f.name != "_") && (g.name != "_") && (h.name != "_") && Nat.beq f.offset 0 && Nat.beq g.offset 1 && Nat.beq h.offset 2 && isInt P f.type && isInt P g.type && isInt P h.type
    | _ => false)
  | _ => false) && !(P.stoodInHeld t)
theorem tTri_parts {P : Program} {t : TypeId} (h : tTri P t = true) : ∃ f g k : Field, P.underlying t = some (.struct #[f, g, k]) ∧ f.name ≠ "_" ∧ g.name ≠ "_" ∧ k.name ≠ "_" ∧ f.offset = 0 ∧ g.offset = 1 ∧ k.offset = 2 ∧ P.underlying f.type = some (.int .i64) ∧ P.underlying g.type = some (.int .i64) ∧ P.underlying k.type = some (.int .i64) ∧ P.stoodInHeld t = false := by
  unfold tTri at h
  rw [Bool.and_eq_true] at h
  obtain ⟨h, hs⟩ := h
  split at h
  · rename_i fs hu
    split at h
    · rename_i f g k hl
      have hfs : fs = #[f, g, k] := by
        have := congrArg List.toArray hl
        simpa using this
      subst hfs
      simp only [Bool.and_eq_true, bne_iff_ne] at h
      obtain ⟨⟨⟨⟨⟨⟨⟨⟨h1, h2⟩, h3⟩, h4⟩, h5⟩, h6⟩, h7⟩, h8⟩, h9⟩ := h
      exact ⟨f, g, k, hu, h1, h2, h3, Nat.eq_of_beq_eq_true h4, Nat.eq_of_beq_eq_true h5, Nat.eq_of_beq_eq_true h6, isInt_eq h7, isInt_eq h8, isInt_eq h9, by simpa using hs⟩
    · cases h
  · cases h
theorem run_partInt {P : Program} {t : TypeId} {cs : Array Value} {o : Nat} {v : Value} (w : World) (ht : P.underlying t = some (.int .i64)) (hc : cs[o]? = some v) : (part t cs o).run P w = .ok v w := by
  simp only [part, Sem.run_bind, run_isAgg ht, Result.andThen_ok, isAggD, Bool.false_eq_true, if_false, hc, Sem.run_pure]
theorem run_eqInt {P : Program} {t : TypeId} {d : Nat} {x y : Int} (w : World) (ht : P.underlying t = some (.int .i64)) : (Op.equalIn (d + 1) t (.int .i64 x) (.int .i64 y)).run P w = .ok (x == y) w := by
  unfold Op.equalIn
  simp only [Sem.run_bind, run_underlying ht, Result.andThen_ok, if_true, Sem.run_pure]
theorem run_ckInt {P : Program} {t : TypeId} {d : Nat} {b : Bool} {x : Int} (w : World) (ht : P.underlying t = some (.int .i64)) : (Instr.checkKey b (d + 1) t (.int .i64 x)).run P w = .ok () w := by
  unfold Instr.checkKey
  simp only [Sem.run_bind, run_underlying ht, Result.andThen_ok]
  rfl
theorem run_eqTri {P : Program} {t : TypeId} (w : World) (h : tTri P t = true) (x y : Tri) : (Op.equal t (eTri x) (eTri y)).run P w = .ok (decide (x = y)) w := by
  obtain ⟨f, g, k, hu, n1, n2, n3, o1, o2, o3, u1, u2, u3, hs⟩ := tTri_parts h
  have hx0 := fun (a b c : Int) => run_partInt (cs := #[.int .i64 a, .int .i64 b, .int .i64 c]) (o := 0) (v := .int .i64 a) w u1 rfl
  have hx1 := fun (a b c : Int) => run_partInt (cs := #[.int .i64 a, .int .i64 b, .int .i64 c]) (o := 1) (v := .int .i64 b) w u2 rfl
  have hx2 := fun (a b c : Int) => run_partInt (cs := #[.int .i64 a, .int .i64 b, .int .i64 c]) (o := 2) (v := .int .i64 c) w u3 rfl
  have e1 : ∀ a b : Int, (Op.equalIn 9999 f.type (.int .i64 a) (.int .i64 b)).run P w = .ok (a == b) w := fun (a b : Int) => run_eqInt (d := 9998) (x := a) (y := b) w u1
  have e2 : ∀ a b : Int, (Op.equalIn 9999 g.type (.int .i64 a) (.int .i64 b)).run P w = .ok (a == b) w := fun (a b : Int) => run_eqInt (d := 9998) (x := a) (y := b) w u2
  have e3 : ∀ a b : Int, (Op.equalIn 9999 k.type (.int .i64 a) (.int .i64 b)).run P w = .ok (a == b) w := fun (a b : Int) => run_eqInt (d := 9998) (x := a) (y := b) w u3
  have hd : decide (x = y) = ((x.a == y.a) && (x.b == y.b) && (x.c == y.c)) := by
    rw [Bool.eq_iff_iff]
    simp only [decide_eq_true_eq, Bool.and_eq_true, beq_iff_eq]
    constructor
    · rintro rfl
      exact ⟨⟨rfl, rfl⟩, rfl⟩
    · rintro ⟨⟨h1, h2⟩, h3⟩
      cases x; cases y; simp_all
  rw [hd]
  have hf : P.fieldsOf t = #[f, g, k] := by unfold Program.fieldsOf; rw [hu]
  unfold Op.equal Op.maxDepth eTri
  rw [run_equalIn_struct w 9999 t _ _ (by rw [hf]; exact hu) hs, hf]
  simp only [Op.eqFields, n1, n2, n3, ne_eq, not_false_eq_true, if_true, Sem.run_bind, o1, o2, o3, hx0, hx1, hx2, Result.andThen_ok, e1]
  by_cases h1 : x.a = y.a
  · simp only [h1, beq_self_eq_true, Bool.not_true, Bool.false_eq_true, if_false, Sem.run_bind, hx1, Result.andThen_ok, e2, Bool.true_and]
    by_cases h2 : x.b = y.b
    · simp only [h2, beq_self_eq_true, Bool.not_true, Bool.false_eq_true, if_false, Sem.run_bind, hx2, Result.andThen_ok, e3, Bool.true_and]
      by_cases h3 : x.c = y.c
      · simp [h3]
      · simp [h3]
    · simp [h2]
  · simp [h1]
theorem keyTri {P : Program} {kt : TypeId} (h : tTri P kt = true) : KeyOk P kt eTri where
  ck := fun b x w => by
    obtain ⟨f, g, k, hu, n1, n2, n3, o1, o2, o3, u1, u2, u3, hs⟩ := tTri_parts h
    unfold Instr.checkKey
    simp only [eTri, Sem.run_bind, run_underlying hu, Result.andThen_ok]
    have hx0 := run_partInt (cs := #[.int .i64 x.a, .int .i64 x.b, .int .i64 x.c]) (o := 0) (v := .int .i64 x.a) w u1 rfl
    have hx1 := run_partInt (cs := #[.int .i64 x.a, .int .i64 x.b, .int .i64 x.c]) (o := 1) (v := .int .i64 x.b) w u2 rfl
    have hx2 := run_partInt (cs := #[.int .i64 x.a, .int .i64 x.b, .int .i64 x.c]) (o := 2) (v := .int .i64 x.c) w u3 rfl
    have e1 : (Instr.checkKey b 9999 f.type (.int .i64 x.a)).run P w = .ok () w := run_ckInt (d := 9998) w u1
    have e2 : (Instr.checkKey b 9999 g.type (.int .i64 x.b)).run P w = .ok () w := run_ckInt (d := 9998) w u2
    have e3 : (Instr.checkKey b 9999 k.type (.int .i64 x.c)).run P w = .ok () w := run_ckInt (d := 9998) w u3
    rw [← Array.forIn_toList]
    simp [List.forIn_cons, n1, n2, n3, o1, o2, o3, hx0, hx1, hx2, e1, e2, e3]
  find := fun ks es x w hk => by
    have key : ∀ (ks : List Tri) (es : List MapEntry) (i : Nat), es.map (·.key) = ks.map eTri → (Instr.findAsking kt (eTri x) es i).run P w = .ok ((ks.findIdx? (fun k' => decide (k' = x))).bind fun j => (es[j]?).map fun e => (j + i, e.val)) w := by
      intro ks
      induction ks with
      | nil =>
        intro es i hk
        cases es with
        | nil => rfl
        | cons e es => simp at hk
      | cons k' ks ih =>
        intro es i hk
        cases es with
        | nil => simp at hk
        | cons e es =>
          simp only [List.map_cons, List.cons.injEq] at hk
          unfold Instr.findAsking
          simp only [Sem.run_bind, hk.1, run_eqTri w h, Result.andThen_ok]
          by_cases hx : x = k'
          · subst hx
            simp [List.findIdx?_cons]
          · have hx' : ¬ k' = x := fun e => hx e.symm
            simp only [hx, decide_false, Bool.false_eq_true, if_false, ih es (i + 1) hk.2, List.findIdx?_cons, hx']
            cases ks.findIdx? (fun k'' => decide (k'' = x)) with
            | none => rfl
            | some j => simp [Nat.add_assoc, Nat.add_comm 1 i]
    obtain ⟨f, g, k, hu, _⟩ := tTri_parts h
    unfold Instr.findKey
    simp only [Sem.run_bind, run_underlying hu, Result.andThen_ok]
    cases es with
    | nil =>
      cases ks with
      | nil => rfl
      | cons k ks => simp at hk
    | cons e es =>
      have : Instr.findNow (.struct #[f, g, k]) (eTri x) (e :: es) 0 = none := by
        unfold Instr.findNow
        rfl
      rw [this]
      have := key ks (e :: es) 0 hk
      simpa using this
  bits := fun x => by simp [eTri, Instr.sameBits]
end Go.Proofs.YtagkniimpekhjaaGreat
