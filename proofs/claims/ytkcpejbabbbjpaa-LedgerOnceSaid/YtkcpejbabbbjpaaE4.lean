/- A part of the proof: contracts over a program of the model. -/
import Derived.Test.YtkcpejbabbbjpaaE3
set_option linter.unusedVariables false
namespace Go.Proofs.Ytkcpejbabbbjpaa
open Go.RowKit

/-! ### slices that are only read -/
/-- the cells from address ad on are as the ps say -/
def At (w : World) (W : WS) (ad : Addr) (ps : List VP) : Prop :=
  ∃ cs : List Value, VPs w W ps cs ∧ (∀ u ∈ cs, u.oneCell' = true) ∧ ∀ k u, cs[k]? = some u → w.cell? (ad.add k) = some u
theorem add_block (a : Addr) (i : Nat) : (a.add i).block = a.block := by unfold Addr.add; split <;> rfl
theorem add_add (a : Addr) (i j : Nat) : (a.add i).add j = a.add (i + j) := by
  unfold Addr.add
  by_cases h1 : i = 0 <;> by_cases h2 : j = 0 <;> simp [h1, h2, Nat.add_assoc]
theorem cell_keep {w w' : World} {a : Addr} {u : Value} (h : w.cell? a = some u) (hk : w'.heap[a.block]? = w.heap[a.block]?) : w'.cell? a = some u := by
  unfold World.cell? at h ⊢
  rw [hk]
  exact h
theorem At.st {w w' : World} {W W' : WS} {ad : Addr} {ps : List VP} (he : Evo w W w' W') (hW : ¬ W ad.block) (h : At w W ad ps) : At w' W' ad ps := by
  obtain ⟨cs, h1, h2, h3⟩ := h
  refine ⟨cs, h1.st he, h2, fun k u hu => cell_keep (h3 k u hu) ?_⟩
  have hlt := World.block_lt_of_cell? w _ (h3 k u hu)
  rw [add_block] at hlt ⊢
  exact he.keep _ hlt hW
theorem At.drop {w : World} {W : WS} {ad : Addr} {ps : List VP} (h : At w W ad ps) (i : Nat) : At w W (ad.add i) (ps.drop i) := by
  obtain ⟨cs, h1, h2, h3⟩ := h
  refine ⟨cs.drop i, h1.drop i, fun u hu => h2 u (List.mem_of_mem_drop hu), fun k u hu => ?_⟩
  rw [List.getElem?_drop] at hu
  rw [add_add]
  exact h3 _ _ hu
/-- a pointer to cells that are only read -/
def vro (ps : List VP) : VP := ⟨fun w W v => ∃ ad : Addr, v = .pointer (some ad) ∧ ¬ W ad.block ∧ ad.block < w.heap.size ∧ At w W ad ps, fun {w W w' W' v} he ⟨ad, h1, h2, h3, h4⟩ => ⟨ad, h1, fun hn => h2 (he.own _ h3 hn), Nat.lt_of_lt_of_le h3 he.size, h4.st he h2⟩⟩
/-- a slice that is only read; an element's cells: enc -/
def vsl {α : Type} (sz : Nat) (enc : α → List VP) (l : List α) : VP where
  p := fun w W v => ∃ A n c, v = .slice A n c ∧ l.length = n ∧ n ≤ c ∧ n ≤ 9223372036854775807 ∧ (0 < n → ∃ ad, A = some ad ∧ ¬ W ad.block ∧ ad.block < w.heap.size ∧ ∀ i (hi : i < l.length), (enc l[i]).length = sz ∧ At w W (ad.add (i * sz)) (enc l[i]))
  st := fun {w W w' W' v} he ⟨A, n, c, h1, h2, h3, h4, h5⟩ => ⟨A, n, c, h1, h2, h3, h4, fun hn => by
    obtain ⟨ad, k1, k2, k3, k4⟩ := h5 hn
    refine ⟨ad, k1, fun hn => k2 (he.own _ k3 hn), Nat.lt_of_lt_of_le k3 he.size, fun i hi => ?_⟩
    obtain ⟨m1, m2⟩ := k4 i hi
    exact ⟨m1, m2.st he (by rw [add_block]; exact k2)⟩⟩
theorem one_vsl {α : Type} {sz : Nat} {enc : α → List VP} {l : List α} : One (vsl sz enc l) := by
  rintro w W v ⟨A, n, c, rfl, _⟩
  rfl
theorem one_vro {ps : List VP} : One (vro ps) := by
  rintro w W v ⟨A, rfl, _⟩
  rfl
theorem vsl_nil {α : Type} {sz : Nat} {enc : α → List VP} {w : World} {W : WS} : (vsl sz enc []).p w W (.slice none 0 0) := ⟨none, 0, 0, rfl, rfl, Nat.le_refl _, by simp, fun h => absurd h (by omega)⟩
def eint (x : Int) : List VP := [vint .i64 x]
def eu8 (x : Int) : List VP := [vint .u8 x]
abbrev vints (l : List Int) : VP := vsl 1 eint l
abbrev vbytes (l : List Int) : VP := vsl 1 eu8 l

section
variable {P : Program} {fz : Nat} {B : Bs} {K : KP} {ops : Array Oper} {rest : List Oper} {σ : Regs} {h : List HP} {d : Nat} {ty : TypeId} {pos : String} {af : Array Edge} {g : Option (Nat × Bool)} {α : Type} {sz : Nat} {enc : α → List VP} {l : List α}

theorem ex_len {a : Act} {w : World} {x : Operand} {t : TypeId} {o : Oper} {A : Option Addr} {n c : Nat} {e : TypeId} (ho : o.op = .call { callee := .builtin .len, args := #[x], argTypes := #[t] }) (ht : P.underlying t = some (.slice e)) (hx : a.eval x = .slice A n c) : (execOp a.eval o).run P w = .ok (.value (.int .i64 n)) w := by
  unfold execOp
  simp only [ho, resolve, invoke, builtin, Builtin.len_, List.map_toArray, List.map_cons, List.map_nil, hx, Sem.run_bind, Sem.run_pure, Result.andThen_ok, List.getElem?_toArray, List.getElem?_cons_zero, run_underlying ht, goInt]
def tSl (P : Program) (t e : TypeId) (sz : Nat) : Bool := match P.underlying t, P.info? e with
  | some (.slice e'), some i => Nat.beq e' e && Nat.beq i.size sz
  | _, _ => false
theorem tSl_parts {P : Program} {t e : TypeId} {sz : Nat} (h : tSl P t e sz = true) : P.underlying t = some (.slice e) ∧ ∃ i, P.info? e = some i ∧ i.size = sz := by
  unfold tSl at h
  split at h
  · rename_i e' i h1 h2
    simp only [Bool.and_eq_true] at h
    have := Nat.eq_of_beq_eq_true h.1
    subst this
    exact ⟨h1, i, h2, Nat.eq_of_beq_eq_true h.2⟩
  · cases h
theorem ln {x : Operand} {t e : TypeId} {sz' : Nat} (ht : tSl P t e sz' = true) (kk : l.length ≤ 9223372036854775807 → EvL P fz B K ops rest ((d, vint .i64 (l.length : Int)) :: σ) h) (hx : og σ x = some (vsl sz enc l) := by rfl) (hd : Nat.ble (d + 1) fz = true := by rfl) (hg : Gk ops σ g := by first | exact gk0 | exact gk1 rfl rfl rfl (by assumption)) :
    EvL P fz B K ops (⟨some d, .call { callee := .builtin .len, args := #[x], argTypes := #[t] }, ty, pos, af, g⟩ :: rest) σ h :=
  opx hd hg fun a w W S hs => by
    obtain ⟨A, n, c, h1, h2, h3, h4, h5⟩ := hs.eval hx
    subst h2
    exact ⟨_, h, _, w, W, S, ex_len rfl (tSl_parts ht).1 h1, rfl, hs.sat, Run.refl hs.run.sub hs.run.bound, kk h4⟩
theorem ex_index {a : Act} {w : World} {x y : Operand} {t e : TypeId} {sz : Nat} {o : Oper} {ad : Addr} {n c : Nat} {k : IntKind} {i : Nat} (ht : tSl P t e sz = true) (ho : o.op = .indexAddr t x y) (hx : a.eval x = .slice (some ad) n c) (hy : a.eval y = .int k i) (hi : i < n) :
    (execOp a.eval o).run P w = .ok (.value (.pointer (some (ad.add (i * sz))))) w := by
  obtain ⟨h1, info, h2, rfl⟩ := tSl_parts ht
  unfold execOp
  simp only [ho, Instr.indexAt, hx, hy, asIntOf, Sem.run_bind, Sem.run_pure, Result.andThen_ok, run_underlying h1]
  rw [if_pos ⟨by omega, by omega⟩]
  simp only [Sem.run_bind, run_size h2, Result.andThen_ok, Sem.run_pure, Int.toNat_natCast]
/-- The address of an element of a slice that is only read. -/
theorem ix {x y : Operand} {t e : TypeId} {k : IntKind} {i : Nat} (ht : tSl P t e sz = true) (hi : i < l.length) (kk : EvL P fz B K ops rest ((d, vro (enc (l[i]'hi))) :: σ) h) (hx : og σ x = some (vsl sz enc l) := by rfl) (hy : og σ y = some (vint k (i : Int)) := by rfl) (hd : Nat.ble (d + 1) fz = true := by rfl) (hg : Gk ops σ g := by first | exact gk0 | exact gk1 rfl rfl rfl (by assumption)) :
    EvL P fz B K ops (⟨some d, .indexAddr t x y, ty, pos, af, g⟩ :: rest) σ h :=
  opp hd hg (fun a w W S hs => by
    obtain ⟨A, n, c, h1, h2, h3, h4, h5⟩ := hs.eval hx
    obtain ⟨ad, rfl, k2, k3, k4⟩ := h5 (by omega)
    obtain ⟨m1, m2⟩ := k4 i hi
    exact ⟨_, ex_index ht rfl h1 (hs.eval hy) (by omega), ad.add (i * sz), rfl, by rw [add_block]; exact k2, by rw [add_block]; exact k3, m2⟩) kk
/-- What lies there. -/
theorem lr1 {t : TypeId} {x : Operand} {ps : List VP} {p : VP} (ht : tOne P t = true) (kk : EvL P fz B K ops rest ((d, p) :: σ) h) (hx : og σ x = some (vro ps) := by rfl) (hp : ps[0]? = some p := by rfl) (hd : Nat.ble (d + 1) fz = true := by rfl) (hg : Gk ops σ g := by first | exact gk0 | exact gk1 rfl rfl rfl (by assumption)) :
    EvL P fz B K ops (⟨some d, .load t x, ty, pos, af, g⟩ :: rest) σ h :=
  opp hd hg (fun a w W S hs => by
    obtain ⟨ad, h1, h2, h3, cs, h4, h5, h6⟩ := hs.eval hx
    obtain ⟨v, hv, hpv⟩ := h4.get hp
    exact ⟨v, ex_load rfl h1 (run_loadVar1 ht (by have := h6 0 v hv; rwa [show ad.add 0 = ad from rfl] at this)), hpv⟩) kk
theorem lrA {t : TypeId} {n : Nat} {x : Operand} {ps : List VP} (ht : tAgg P t n = true) (kk : EvL P fz B K ops rest ((d, vagg (ps.take n)) :: σ) h) (hx : og σ x = some (vro ps) := by rfl) (hn : Nat.ble n ps.length = true := by rfl) (hd : Nat.ble (d + 1) fz = true := by rfl) (hg : Gk ops σ g := by first | exact gk0 | exact gk1 rfl rfl rfl (by assumption)) :
    EvL P fz B K ops (⟨some d, .load t x, ty, pos, af, g⟩ :: rest) σ h :=
  opp hd hg (fun a w W S hs => by
    obtain ⟨ad, h1, h2, h3, cs, h4, h5, h6⟩ := hs.eval hx
    have hl := h4.length
    have hn' := Nat.le_of_ble_eq_true hn
    refine ⟨.agg (cs.take n).toArray, ex_load rfl h1 (run_loadVarA ht (by rw [List.length_take]; omega) (fun j u hj => ?_)), ⟨_, rfl, h4.take n, fun u hu => h5 u (List.mem_of_mem_take hu)⟩⟩
    rw [List.getElem?_take] at hj
    split at hj
    · exact h6 j u hj
    · cases hj) kk
theorem fro {t f off : Nat} {x : Operand} {ps : List VP} (ht : tFld P t f off = true) (kk : EvL P fz B K ops rest ((d, vro (ps.drop off)) :: σ) h) (hx : og σ x = some (vro ps) := by rfl) (hd : Nat.ble (d + 1) fz = true := by rfl) (hg : Gk ops σ g := by first | exact gk0 | exact gk1 rfl rfl rfl (by assumption)) :
    EvL P fz B K ops (⟨some d, .fieldAddr t x f, ty, pos, af, g⟩ :: rest) σ h :=
  opp hd hg (fun a w W S hs => by
    obtain ⟨ad, h1, h2, h3, h4⟩ := hs.eval hx
    refine ⟨.pointer (some (ad.add off)), ?_, ad.add off, rfl, by rw [add_block]; exact h2, by rw [add_block]; exact h3, h4.drop off⟩
    unfold tFld at ht
    split at ht
    · rename_i fs hu
      split at ht
      · rename_i fd hfd
        split at ht
        · rename_i i hi
          simp only [Bool.and_eq_true, Bool.not_eq_true'] at ht
          have e1 := Nat.eq_of_beq_eq_true ht.1
          have e2 : i.size ≠ 0 := fun he => by rw [he] at ht; simp at ht
          subst e1
          unfold execOp
          simp only [Instr.fieldAt, Sem.run_bind, run_underlying hu, Result.andThen_ok, hfd, h1, Instr.sureAddr, Sem.run_pure, fieldPlace, run_size hi, e2, if_false]
        · cases ht
      · cases ht
    · cases ht) kk
theorem nilro {x : Operand} {ps : List VP} (kk : EvL P fz B K ops rest ((d, vro ps) :: σ) h) (hx : og σ x = some (vro ps) := by rfl) (hd : Nat.ble (d + 1) fz = true := by rfl) (hg : Gk ops σ g := by first | exact gk0 | exact gk1 rfl rfl rfl (by assumption)) :
    EvL P fz B K ops (⟨some d, .nilCheck x, ty, pos, af, g⟩ :: rest) σ h :=
  opp hd hg (fun a w W S hs => by
    obtain ⟨ad, h1, h2⟩ := hs.eval hx
    exact ⟨.pointer (some ad), by unfold execOp; simp [h1], ad, rfl, h2⟩) kk
/-- A nil slice, as an empty one that is only read. -/
theorem nilsl {x : Operand} (α : Type) (sz : Nat) (enc : α → List VP) (kk : EvL P fz B K ops rest ((d, vsl sz enc []) :: σ) h) (hx : og σ x = some (vis (.slice none 0 0)) := by rfl) (hd : Nat.ble (d + 1) fz = true := by rfl) (hg : Gk ops σ g := by first | exact gk0 | exact gk1 rfl rfl rfl (by assumption)) :
    EvL P fz B K ops (⟨some d, .assign x, ty, pos, af, g⟩ :: rest) σ h :=
  opp hd hg (fun a w W S hs => ⟨a.eval x, rfl, by have h1 : a.eval x = _ := hs.eval hx; rw [h1]; exact vsl_nil⟩) kk

/-! ### s[lo:hi] of a slice that is only read -/
theorem At.sub {w : World} {W : WS} {ad : Addr} (h : True) : True := h
theorem vsl_cut {w : World} {W : WS} {A : Option Addr} {n c lo hi : Nat} (h : (vsl sz enc l).p w W (.slice A n c)) (h1 : lo ≤ hi) (h2 : hi ≤ l.length) (A' : Option Addr) (hA : ∀ ad, A = some ad → lo < hi → A' = some (ad.add (lo * sz))) :
    (vsl sz enc ((l.take hi).drop lo)).p w W (.slice A' (hi - lo) (c - lo)) := by
  obtain ⟨A0, n0, c0, he, k2, k3, k4, k5⟩ := h
  injection he with e1 e2 e3
  subst e1 e2 e3
  have hll : ((l.take hi).drop lo).length = hi - lo := by rw [List.length_drop, List.length_take]; omega
  refine ⟨A', hi - lo, c - lo, rfl, hll, by omega, by omega, fun hn => ?_⟩
  obtain ⟨ad, rfl, m1, m2, m3⟩ := k5 (by omega)
  refine ⟨ad.add (lo * sz), hA ad rfl (by omega), by rw [add_block]; exact m1, by rw [add_block]; exact m2, fun i hi' => ?_⟩
  rw [hll] at hi'
  obtain ⟨q1, q2⟩ := m3 (lo + i) (by omega)
  have : ((l.take hi).drop lo)[i]'(by rw [hll]; omega) = l[lo + i]'(by omega) := by
    rw [List.getElem_drop, List.getElem_take]
  rw [this]
  refine ⟨q1, ?_⟩
  rw [add_add, ← Nat.add_mul]
  exact q2
theorem run_bnd {w : World} {k : IntKind} {i y : Nat} {code : BoundsCode} (h : i ≤ y) : (Instr.sliceBound (.int k (i : Int)) y code).run P w = .ok i w := by
  unfold Instr.sliceBound
  simp only [asIntOf, Sem.run_bind, Sem.run_pure, Result.andThen_ok]
  rw [if_pos ⟨by omega, by omega⟩]
  simp
def BdR (σ : Regs) (k : IntKind) (dflt n : Nat) : Option Operand → Prop
  | none => n = dflt
  | some y => og σ y = some (vint k (n : Int))
def BdOk (a : Act) (k : IntKind) (dflt n : Nat) : Option Operand → Prop
  | none => n = dflt
  | some y => a.eval y = .int k (n : Int)
theorem ex_cut {a : Act} {w : World} {x : Operand} {lo hi : Option Operand} {t e : TypeId} {sz : Nat} {o : Oper} {A : Option Addr} {n c l' h' : Nat} {k1 k2 : IntKind} (ht : tSl P t e sz = true) (ho : o.op = .slice t x lo hi none) (hx : a.eval x = .slice A n c)
    (hlo : BdOk a k1 0 l' lo) (hhi : BdOk a k2 n h' hi) (h1 : l' ≤ h') (h2 : h' ≤ c) :
    (execOp a.eval o).run P w = .ok (.value (.slice (if c = l' then A else A.map (·.add (l' * sz))) (h' - l') (c - l'))) w := by
  obtain ⟨u1, info, u2, rfl⟩ := tSl_parts ht
  unfold execOp
  cases lo <;> cases hi <;> simp only [BdOk] at hlo hhi <;> (try subst hlo) <;> (try subst hhi) <;>
    simp only [*, Instr.sliceAt, Sem.run_bind, run_underlying u1, Result.andThen_ok, Instr.slice, Instr.sliceBounds, Sem.run_pure, Option.map_none, Option.map_some, run_bnd h1, run_bnd h2, run_size u2, if_true]
/-- s[lo:hi], the bounds at most the length -/
theorem cutr {x : Operand} {lo hi : Option Operand} {t e : TypeId} {l' h' : Nat} {k1 k2 : IntKind} (ht : tSl P t e sz = true) (h1 : l' ≤ h') (h2 : h' ≤ l.length) (kk : EvL P fz B K ops rest ((d, vsl sz enc ((l.take h').drop l')) :: σ) h) (hx : og σ x = some (vsl sz enc l) := by rfl)
    (hlo : BdR σ k1 0 l' lo := by rfl) (hhi : BdR σ k2 l.length h' hi := by rfl) (hd : Nat.ble (d + 1) fz = true := by rfl) (hg : Gk ops σ g := by first | exact gk0 | exact gk1 rfl rfl rfl (by assumption)) :
    EvL P fz B K ops (⟨some d, .slice t x lo hi none, ty, pos, af, g⟩ :: rest) σ h :=
  opp hd hg (fun a w W S hs => by
    have hp := hs.eval hx
    obtain ⟨A, n, c, e1, e2, e3, e4, e5⟩ := id hp
    rw [e1] at hp
    refine ⟨_, ex_cut (l' := l') (h' := h') (k1 := k1) (k2 := k2) ht rfl e1 ?_ ?_ h1 (by omega), vsl_cut hp h1 h2 _ (fun ad ha hlt => by rw [ha, if_neg (by omega)]; rfl)⟩
    · cases lo with
      | none => exact hlo
      | some y => exact hs.eval hlo
    · cases hi with
      | none => simp only [BdOk, BdR] at hhi ⊢; omega
      | some y => exact hs.eval hhi) kk
end
end Go.Proofs.Ytkcpejbabbbjpaa
