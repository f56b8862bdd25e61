/- A part of the proof: contracts over a program of the model. -/
import Derived.Test.YtkcpejbabbbjpaaE6
set_option linter.unusedVariables false
namespace Go.Proofs.Ytkcpejbabbbjpaa
open Go.RowKit
section
variable {P : Program} {fz : Nat} {B : Bs} {K : KP} {ops : Array Oper} {rest : List Oper} {σ : Regs} {h : List HP} {d : Nat} {ty : TypeId} {pos : String} {af : Array Edge} {g : Option (Nat × Bool)} {α : Type} {sz bytes : Nat} {zs : List Value} {enc : α → List VP} {l l2 : List α} {t e : TypeId}

/-! ### a slice literal: parts in their order -/
theorem fill_ok {size : Nat} : ∀ (vs : List Value) (k : Nat) (cs : Array Value), (∀ v ∈ vs, v.cells.size = size) → (k + vs.length) * size = cs.size →
    ∃ cs', Instr.fill (fun i => some (i * size, size)) cs ((vs.zipIdx k).map fun x => (x.2, x.1)) = some cs' ∧ cs'.toList = cs.toList.take (k * size) ++ (vs.map (·.cells.toList)).flatten
  | [], k, cs, _, hs => ⟨cs, rfl, by
      simp only [List.length_nil, Nat.add_zero] at hs
      simp only [List.map_nil, List.flatten_nil, List.append_nil]
      rw [List.take_of_length_le]
      rw [hs, Array.length_toList (xs := cs)]
      exact Nat.le_refl _⟩
  | v :: vs, k, cs, hv, hs => by
    have hvs := hv v (List.mem_cons_self ..)
    have hfit : k * size + size ≤ cs.size := by
      rw [← hs, List.length_cons, ← Nat.succ_mul]
      exact Nat.mul_le_mul_right _ (by omega)
    have hl := lay_list v.cells.toList (k * size) 0 cs (by rw [Array.length_toList (xs := v.cells), hvs]; omega)
    have hz : (v.cells.zipIdx.foldl (fun cs (c, j) => cs.setIfInBounds (k * size + j) c) cs) = ((v.cells.toList.zipIdx 0).foldl (fun cs (c, j) => cs.setIfInBounds (k * size + j) c) cs) := by
      rw [← Array.foldl_toList, Array.toList_zipIdx]
    obtain ⟨cs', h1, h2⟩ := fill_ok vs (k + 1) (v.cells.zipIdx.foldl (fun cs (c, j) => cs.setIfInBounds (k * size + j) c) cs) (fun u hu => hv u (List.mem_cons_of_mem _ hu)) (by
      have : (v.cells.zipIdx.foldl (fun cs (c, j) => cs.setIfInBounds (k * size + j) c) cs).size = cs.size := by
        rw [hz, ← Array.length_toList, hl]
        simp only [List.length_append, List.length_take, List.length_drop, Array.length_toList, hvs]
        omega
      rw [this, ← hs, List.length_cons]
      congr 1
      omega)
    refine ⟨cs', ?_, ?_⟩
    · rw [List.zipIdx_cons, List.map_cons]
      unfold Instr.fill
      simp only
      rw [if_neg (by simp only [hvs, ne_eq, not_true, decide_false, Bool.false_or, decide_eq_true_eq]; simp; omega)]
      exact h1
    · rw [h2, hz, hl]
      rw [Nat.add_zero, Array.length_toList (xs := v.cells), hvs, List.map_cons, List.flatten_cons]
      rw [show (k + 1) * size = k * size + size from Nat.succ_mul k size]
      rw [List.take_append_of_le_length (by simp only [List.length_append, List.length_take, Array.length_toList, hvs]; omega)]
      rw [List.take_of_length_le (by simp only [List.length_append, List.length_take, Array.length_toList, hvs]; omega)]
      simp only [List.append_assoc, Nat.add_zero]
/-- the literal's parts, laid at their places -/
def parts0 (xs : List Operand) : Array (Nat × Operand) := ((xs.zipIdx 0).map fun x => (x.2, x.1)).toArray
theorem Cels.siz {w : World} {W : WS} : ∀ {ps : List VP} {qs : List (List VP)} {vs : List Value} {sz : Nat}, Cels ps qs → (∀ q ∈ qs, q.length = sz) → VPs w W ps vs → ∀ v ∈ vs, v.cells.size = sz
  | [], _, [], _, _, _, _, v, hv => by cases hv
  | p :: ps, _, u :: us, sz, .cons h1 h2, hq, ⟨k1, k2⟩, v, hv => by
    rcases List.mem_cons.1 hv with rfl | hv
    · have := (h1 _ _ _ k1).1.length
      rw [← Array.length_toList, this]
      exact hq _ (List.mem_cons_self ..)
    · exact Cels.siz h2 (fun q hq' => hq q (List.mem_cons_of_mem _ hq')) k2 v hv
  | [], _, _ :: _, _, _, _, h, _, _ => h.elim
  | _ :: _, _, [], _, _, _, h, _, _ => h.elim
theorem Cels.at_ {w : World} {W : WS} : ∀ {ps : List VP} {qs : List (List VP)} {vs : List Value} {sz : Nat}, Cels ps qs → (∀ q ∈ qs, q.length = sz) → VPs w W ps vs → ∀ i (hi : i < qs.length), VPs w W qs[i] ((((vs.map (·.cells.toList)).flatten).drop (i * sz)).take sz)
  | [], _, [], _, .nil, _, _, i, hi => by simp at hi
  | p :: ps, q :: qs, u :: us, sz, .cons h1 h2, hq, ⟨k1, k2⟩, i, hi => by
    have hu := (h1 _ _ _ k1).1
    have hul : u.cells.toList.length = sz := by rw [hu.length]; exact hq _ (List.mem_cons_self ..)
    rw [List.map_cons, List.flatten_cons]
    cases i with
    | zero =>
      rw [Nat.zero_mul, List.drop_zero, List.take_append_of_le_length (by omega), List.take_of_length_le (by omega)]
      exact hu
    | succ i =>
      have := Cels.at_ h2 (fun q hq' => hq q (List.mem_cons_of_mem _ hq')) k2 i (by simpa using hi)
      rw [show (i + 1) * sz = u.cells.toList.length + i * sz from by rw [hul, Nat.succ_mul, Nat.add_comm], seg_app2]
      exact this
  | [], _, _ :: _, _, _, _, h, _, _ => h.elim
  | _ :: _, _, [], _, _, _, h, _, _ => h.elim
theorem Cels.one_ {w : World} {W : WS} : ∀ {ps : List VP} {qs : List (List VP)} {vs : List Value}, Cels ps qs → VPs w W ps vs → ∀ u ∈ (vs.map (·.cells.toList)).flatten, u.oneCell' = true
  | [], _, [], _, _, u, hu => by simp at hu
  | p :: ps, _, v :: vs, .cons h1 h2, ⟨k1, k2⟩, u, hu => by
    rw [List.map_cons, List.flatten_cons, List.mem_append] at hu
    rcases hu with hu | hu
    · exact (h1 _ _ _ k1).2 u hu
    · exact Cels.one_ h2 k2 u hu
  | [], _, _ :: _, _, h, _, _ => h.elim
  | _ :: _, _, [], _, h, _, _ => h.elim
theorem Cels.len : ∀ {ps : List VP} {qs : List (List VP)}, Cels ps qs → qs.length = ps.length
  | _, _, .nil => rfl
  | _, _, .cons _ h => congrArg (· + 1) (Cels.len h)
theorem ex_lit {a : Act} {w : World} {xs : List Operand} {o : Oper} (n : Nat) (ho : o.op = .buildSlice t n (parts0 xs)) (hn : xs.length = n) (ht : tRow P t e sz bytes zs) (hsm : n * sz ≤ 16777216) (hv : ∀ x ∈ xs, (a.eval x).cells.size = sz) :
    (execOp a.eval o).run P w = .ok (.value (.slice (some ⟨w.heap.size, 0, none⟩) n n)) { w with heap := w.heap.push (.cells ((xs.map a.eval).map (·.cells.toList)).flatten.toArray e) } := by
  obtain ⟨hu, info, z, hi, hsz, hby, hz, hzs, hz1, hzl⟩ := ht
  have hp : ((parts0 xs).map fun (i, x) => (i, a.eval x)).toList = ((xs.map a.eval).zipIdx 0).map fun x => (x.2, x.1) := by
    unfold parts0
    simp only [List.map_toArray, List.map_map]
    rw [List.zipIdx_map, List.map_map]
    rfl
  have hzr : (if n * sz = 0 then pure #[] else do pure (← zeroValue e).cells : Sem (Array Value)).run P w = .ok (if n * sz = 0 then #[] else z.cells) w := by
    split
    · rfl
    · simp only [zeroValue, Sem.run_bind, run_tinfo hi, Result.andThen_ok, hz, Sem.run_pure]
  obtain ⟨cs', h1, h2⟩ := fill_ok (size := sz) (xs.map a.eval) 0 ((Array.range (n * sz)).map ((if n * sz = 0 then #[] else z.cells)[· % (if n * sz = 0 then #[] else z.cells).size]!)) (fun v hv' => by
    obtain ⟨x, hx, rfl⟩ := List.mem_map.1 hv'
    exact hv x hx) (by simp [hn])
  rw [Nat.zero_mul, List.take_zero, List.nil_append] at h2
  have h3 : cs' = ((xs.map a.eval).map (·.cells.toList)).flatten.toArray := by rw [← h2]
  subst h3
  have hnl : ¬ n * sz > 2 ^ 24 := by have : (2 : Nat) ^ 24 = 16777216 := rfl; omega
  unfold execOp
  by_cases h0 : n * sz = 0
  · rw [if_pos h0] at h1
    simp only [ho, Instr.buildSlice, Sem.run_bind, run_underlying hu, Result.andThen_ok, run_size hi, hsz, h0, show ¬ (0 : Nat) > 2 ^ 24 from by omega, if_false, if_true, Sem.run_pure, hp]
    rw [h0] at h1
    simp only [h1, newRow, newObj, Sem.run_bind, Sem.run_pure]
    rfl
  · rw [if_neg h0] at h1
    simp only [ho, Instr.buildSlice, Sem.run_bind, run_underlying hu, Result.andThen_ok, run_size hi, hsz, hnl, if_false, h0, Sem.run_pure, hp, zeroValue, run_tinfo hi, hz, h1, newRow, newObj]
    rfl
/-- A literal that is only read from then on. -/
theorem litI {xs : List Operand} {vps : List VP} {n : Nat} (l : List α) (enc : α → List VP) (ht : tRow P t e sz bytes zs) (hc : Cels vps (l.map enc)) (kk : EvL P fz B K ops rest ((d, vsl sz enc l) :: σ) h) (hx : ogs σ xs = some vps := by rfl) (hn : Nat.beq xs.length n = true := by rfl) (hsm : Nat.ble (n * (sz + 1)) 16777216 = true := by rfl) (hla : (l.map enc).all (fun q => Nat.beq q.length sz) = true := by rfl)
    (hd : Nat.ble (d + 1) fz = true := by rfl) (hg : Gk ops σ g := by first | exact gk0 | exact gk1 rfl rfl rfl (by assumption)) :
    EvL P fz B K ops (⟨some d, .buildSlice t n (parts0 xs), ty, pos, af, g⟩ :: rest) σ h :=
  opx hd hg fun a w W S hs => by
    have hl : ∀ q ∈ l.map enc, q.length = sz := fun q hq => Nat.eq_of_beq_eq_true (List.all_eq_true.1 hla q hq)
    have hv := hs.evals hx
    have hn' := Nat.eq_of_beq_eq_true hn
    have hsm' := Nat.le_of_ble_eq_true hsm
    have hll : l.length = n := by
      have h1 := hc.len
      have h2 := hv.length
      rw [List.length_map] at h1 h2
      omega
    have hrun : Run w W S { w with heap := w.heap.push (.cells ((xs.map a.eval).map (·.cells.toList)).flatten.toArray e) } W S :=
      ⟨rfl, rfl, rfl, by simp, fun b hl _ => by simp [Array.getElem?_push, Nat.ne_of_lt hl], fun _ _ _ => Iff.rfl, fun _ _ h => h, fun _ h => .inl h, hs.run.sub, fun b hb => by have := hs.run.bound b hb; simp; omega⟩
    have hev := hrun.evo hs.run.sub
    refine ⟨vsl sz enc l, h, _, _, W, S, ex_lit n rfl hn' ht (Nat.le_trans (Nat.mul_le_mul_left _ (by omega)) hsm') (fun x hx' => Cels.siz hc hl hv _ (List.mem_map.2 ⟨x, hx', rfl⟩)), ⟨some ⟨w.heap.size, 0, none⟩, n, n, rfl, hll, Nat.le_refl _, by have := Nat.le_mul_of_pos_right n (show 0 < sz + 1 by omega); omega, fun _ => ⟨⟨w.heap.size, 0, none⟩, rfl, fun hb => Nat.lt_irrefl _ (hs.run.bound _ hb), by simp, fun i hi => ?_⟩⟩, hs.sat.st hev (fun b hb => by have := hs.sat.lt b hb; simp [Array.getElem?_push, Nat.ne_of_lt this]), hrun, kk⟩
    have hi' : i < (l.map enc).length := by simpa using hi
    have hq := hl _ (List.getElem_mem hi')
    rw [List.getElem_map] at hq
    have hat := Cels.at_ hc hl hv i hi'
    rw [List.getElem_map] at hat
    refine ⟨hq, _, hat.st hev, fun u hu => Cels.one_ hc hv u (List.mem_of_mem_drop (List.mem_of_mem_take hu)), fun k u hu => ?_⟩
    rw [add_pl, add_pl, cell_at (new_at w _)]
    rw [List.getElem?_take] at hu
    split at hu
    · rw [List.getElem?_drop] at hu
      simp only [Nat.zero_add]
      simpa using hu
    · cases hu
/-- A literal that is a row of one's own. -/
theorem litO {xs : List Operand} {vps : List VP} {n : Nat} (l : List α) (enc : α → List VP) (ht : tRow P t e sz bytes zs) (hc : Cels vps (l.map enc)) (kk : ∀ v, v.oneCell' = true → EvL P fz B K ops rest ((d, vis v) :: σ) (hrow v e sz enc l :: h)) (hx : ogs σ xs = some vps := by rfl) (hn : Nat.beq xs.length n = true := by rfl) (hsm : Nat.ble (n * (sz + 1)) 16777216 = true := by rfl) (hla : (l.map enc).all (fun q => Nat.beq q.length sz) = true := by rfl)
    (hd : Nat.ble (d + 1) fz = true := by rfl) (hg : Gk ops σ g := by first | exact gk0 | exact gk1 rfl rfl rfl (by assumption)) :
    EvL P fz B K ops (⟨some d, .buildSlice t n (parts0 xs), ty, pos, af, g⟩ :: rest) σ h :=
  opx hd hg fun a w W S hs => by
    have hl : ∀ q ∈ l.map enc, q.length = sz := fun q hq => Nat.eq_of_beq_eq_true (List.all_eq_true.1 hla q hq)
    have hv := hs.evals hx
    have hn' := Nat.eq_of_beq_eq_true hn
    have hsm' := Nat.le_of_ble_eq_true hsm
    have hll : l.length = n := by
      have h1 := hc.len
      have h2 := hv.length
      rw [List.length_map] at h1 h2
      omega
    have hr := Run.new hs.run.sub hs.run.bound (.cells ((xs.map a.eval).map (·.cells.toList)).flatten.toArray e)
    have hev := hr.evo hs.run.sub
    have hcl : ((xs.map a.eval).map (·.cells.toList)).flatten.length = n * sz := by
      have hall : ∀ (vs : List Value), (∀ v ∈ vs, v.cells.size = sz) → ((vs.map (·.cells.toList)).flatten).length = vs.length * sz := by
        intro vs
        induction vs with
        | nil => intro _; simp
        | cons v vs ih =>
          intro h
          rw [List.map_cons, List.flatten_cons, List.length_append, ih (fun u hu => h u (List.mem_cons_of_mem _ hu)), Array.length_toList (xs := v.cells), h v (List.mem_cons_self ..), List.length_cons, Nat.succ_mul, Nat.add_comm]
      rw [hall _ (fun v hv' => Cels.siz hc hl hv v hv'), List.length_map, hn']
    refine ⟨vis (.slice (some ⟨w.heap.size, 0, none⟩) n n), _, _, _, _, _, ex_lit n rfl hn' ht (Nat.le_trans (Nat.mul_le_mul_left _ (by omega)) hsm') (fun x hx' => Cels.siz hc hl hv _ (List.mem_map.2 ⟨x, hx', rfl⟩)), rfl, ?_, hr, kk _ rfl⟩
    refine ⟨fun b => b = w.heap.size, S, .inr ⟨w.heap.size, 0, n, _, by rw [hll], by omega, new_at w _, by rw [List.size_toArray, hcl]; omega, fun u hu => Cels.one_ hc hv u (by simpa using List.mem_of_mem_drop (List.mem_of_mem_take hu)), by rw [hll]; omega, fun i hi => ?_, fun _ => Iff.rfl⟩, hs.sat.st hev (fun b hb => by have := hs.sat.lt b hb; simp [Array.getElem?_push, Nat.ne_of_lt this]), fun b hb hS => by have := hs.sat.lt b hS; omega, fun _ => Iff.rfl⟩
    have hi' : i < (l.map enc).length := by simpa using hi
    have hq := hl _ (List.getElem_mem hi')
    rw [List.getElem_map] at hq
    have hat := Cels.at_ hc hl hv i hi'
    rw [List.getElem_map] at hat
    exact ⟨hq, by rw [Nat.zero_add]; exact hat.st hev⟩

/-! ### an element of a row of one's own -/
def sAddr : Value → Addr
  | .slice (some a) _ _ => a
  | _ => ⟨0, 0, none⟩
/-- the address of cell off of element i of the row v -/
def velt (v : Value) (sz i off : Nat) : VP := vis (.pointer (some ((sAddr v).add (i * sz + off))))
theorem one_velt {v : Value} {sz i off : Nat} : One (velt v sz i off) := one_vis rfl
theorem ixw {x y : Operand} {v : Value} {j i : Nat} {k : IntKind} (ht : tSl P t e sz = true) (hj : h[j]? = some (hrow v e sz enc l)) (hi : i < l.length) (kk : EvL P fz B K ops rest ((d, velt v sz i 0) :: σ) h) (hx : og σ x = some (vis v) := by rfl) (hy : og σ y = some (vint k (i : Int)) := by rfl) (hd : Nat.ble (d + 1) fz = true := by rfl) (hg : Gk ops σ g := by first | exact gk0 | exact gk1 rfl rfl rfl (by assumption)) :
    EvL P fz B K ops (⟨some d, .indexAddr t x y, ty, pos, af, g⟩ :: rest) σ h :=
  opp hd hg (fun a w W S hs => by
    have hxv : a.eval x = v := hs.eval hx
    obtain ⟨S1, S2, h1, _⟩ := Sat.pick hj hs.sat
    rcases h1 with ⟨rfl, rfl, hS⟩ | ⟨g, o, c, cs, rfl, hlc, hh, hcs, hone, hbnd, hel, hS⟩
    · simp at hi
    · exact ⟨_, ex_index ht rfl hxv (hs.eval hy) hi, rfl⟩) kk
theorem few {s f off : Nat} {x : Operand} {v : Value} {i o : Nat} (ht : tFld P s f off = true) (kk : EvL P fz B K ops rest ((d, velt v sz i (o + off)) :: σ) h) (hx : og σ x = some (velt v sz i o) := by rfl) (hd : Nat.ble (d + 1) fz = true := by rfl) (hg : Gk ops σ g := by first | exact gk0 | exact gk1 rfl rfl rfl (by assumption)) :
    EvL P fz B K ops (⟨some d, .fieldAddr s x f, ty, pos, af, g⟩ :: rest) σ h :=
  opp hd hg (fun a w W S hs => by
    have h1 : a.eval x = .pointer (some ((sAddr v).add (i * sz + o))) := hs.eval hx
    refine ⟨.pointer (some ((sAddr v).add (i * sz + (o + off)))), ?_, rfl⟩
    unfold tFld at ht
    split at ht
    · rename_i fs hu
      split at ht
      · rename_i fd hfd
        split at ht
        · rename_i info hi
          simp only [Bool.and_eq_true, Bool.not_eq_true'] at ht
          have e1 := Nat.eq_of_beq_eq_true ht.1
          have e2 : info.size ≠ 0 := fun he => by rw [he] at ht; simp at ht
          subst e1
          unfold execOp
          simp only [Instr.fieldAt, Sem.run_bind, run_underlying hu, Result.andThen_ok, hfd, h1, Instr.sureAddr, Sem.run_pure, fieldPlace, run_size hi, e2, if_false, add_add, Nat.add_assoc]
        · cases ht
      · cases ht
    · cases ht) kk
theorem row_cell {w : World} {W : WS} {S1 : Nat → Prop} {v : Value} (hr : (hrow v e sz enc l).p w W S1) {i : Nat} (hi : i < l.length) : ∃ us : List Value, VPs w W (enc l[i]) us ∧ us.length = sz ∧ (∀ u ∈ us, u.oneCell' = true) ∧ ∀ k u, us[k]? = some u → w.cell? ((sAddr v).add (i * sz + k)) = some u := by
  rcases hr with ⟨rfl, rfl, hS⟩ | ⟨g, o, c, cs, rfl, hlc, hh, hcs, hone, hbnd, hel, hS⟩
  · simp at hi
  · obtain ⟨q1, q2⟩ := hel i hi
    refine ⟨_, q2, by rw [q2.length, q1], fun u hu => hone u (seg_sub hi hu), fun k u hu => ?_⟩
    simp only [sAddr]
    rw [add_pl, cell_at hh]
    rw [List.getElem?_take] at hu
    split at hu
    · rw [List.getElem?_drop] at hu
      rw [← Array.getElem?_toList, ← hu]
      congr 1
      omega
    · cases hu
theorem lw1 {s : TypeId} {x : Operand} {v : Value} {p : VP} {j i o : Nat} (ht : tOne P s = true) (hj : h[j]? = some (hrow v e sz enc l)) (hi : i < l.length) (kk : EvL P fz B K ops rest ((d, p) :: σ) h) (hx : og σ x = some (velt v sz i o) := by rfl) (hp : (enc (l[i]'hi))[o]? = some p := by rfl) (hd : Nat.ble (d + 1) fz = true := by rfl) (hg : Gk ops σ g := by first | exact gk0 | exact gk1 rfl rfl rfl (by assumption)) :
    EvL P fz B K ops (⟨some d, .load s x, ty, pos, af, g⟩ :: rest) σ h :=
  opp hd hg (fun a w W S hs => by
    obtain ⟨S1, S2, h1, _⟩ := Sat.pick hj hs.sat
    obtain ⟨us, k1, k2, k3, k4⟩ := row_cell h1 hi
    obtain ⟨u, hu, hpu⟩ := k1.get hp
    exact ⟨u, ex_load rfl (hs.eval hx) (run_loadVar1 ht (k4 _ _ hu)), hpu⟩) kk
theorem lwA {s : TypeId} {n : Nat} {x : Operand} {v : Value} {j i : Nat} (ht : tAgg P s n = true) (hj : h[j]? = some (hrow v e n enc l)) (hi : i < l.length) (kk : EvL P fz B K ops rest ((d, vagg (enc (l[i]'hi))) :: σ) h) (hx : og σ x = some (velt v n i 0) := by rfl) (hd : Nat.ble (d + 1) fz = true := by rfl) (hg : Gk ops σ g := by first | exact gk0 | exact gk1 rfl rfl rfl (by assumption)) :
    EvL P fz B K ops (⟨some d, .load s x, ty, pos, af, g⟩ :: rest) σ h :=
  opp hd hg (fun a w W S hs => by
    obtain ⟨S1, S2, h1, _⟩ := Sat.pick hj hs.sat
    obtain ⟨us, k1, k2, k3, k4⟩ := row_cell h1 hi
    exact ⟨_, ex_load rfl (hs.eval hx) (run_loadVarA ht k2 (fun k u hu => by rw [add_add, Nat.add_zero]; exact k4 k u hu)), us.toArray, rfl, k1, k3⟩) kk
end
end Go.Proofs.Ytkcpejbabbbjpaa
