/- A part of the proof: contracts over a program of the model. -/
import Derived.Test.YtkcpejbabbbjpaaE1
set_option linter.unusedVariables false
namespace Go.Proofs.Ytkcpejbabbbjpaa
open Go.RowKit

/-! ### more of values -/
def One (p : VP) : Prop := ∀ w W v, p.p w W v → v.oneCell' = true
theorem one_vis {u : Value} (h : u.oneCell' = true) : One (vis u) := fun _ _ v hv => by have hv' : v = u := hv; rw [hv']; exact h
abbrev vptr (b o : Nat) : VP := vis (.pointer (some ⟨b, o, none⟩))
/-- a struct (or an array): its cells -/
def vagg (ps : List VP) : VP := ⟨fun w W v => ∃ cs : Array Value, v = .agg cs ∧ VPs w W ps cs.toList ∧ ∀ u ∈ cs.toList, u.oneCell' = true, fun he ⟨cs, h1, h2, h3⟩ => ⟨cs, h1, h2.st he, h3⟩⟩
/-- several results -/
def vtup (ps : List VP) : VP := ⟨fun w W v => ∃ cs : Array Value, v = .tuple cs ∧ VPs w W ps cs.toList, fun he ⟨cs, h1, h2⟩ => ⟨cs, h1, h2.st he⟩⟩
def Ones : List VP → Prop
  | [] => True
  | p :: ps => One p ∧ Ones ps
theorem Ones.all {w : World} {W : WS} : ∀ {ps : List VP} {vs : List Value}, Ones ps → VPs w W ps vs → ∀ u ∈ vs, u.oneCell' = true
  | [], [], _, _, u, hu => by cases hu
  | p :: ps, v :: vs, ⟨h1, h2⟩, ⟨k1, k2⟩, u, hu => by
    rcases List.mem_cons.1 hu with rfl | hu
    · exact h1 _ _ _ k1
    · exact Ones.all h2 k2 u hu
  | [], _ :: _, _, h, _, _ => h.elim
  | _ :: _, [], _, h, _, _ => h.elim

/-! ### a variable (a struct, an array, a number): a block of its own -/
def hvar (b : Nat) (e : TypeId) (ps : List VP) : HP where
  p := fun w W S => (∃ cs : Array Value, w.heap[b]? = some (.cells cs e (0, 0)) ∧ VPs w W ps cs.toList ∧ ∀ u ∈ cs.toList, u.oneCell' = true) ∧ ∀ x, S x ↔ x = b
  st := fun he hk ⟨⟨cs, h1, h2, h3⟩, hS⟩ => ⟨⟨cs, by rw [hk b ((hS b).2 rfl)]; exact h1, h2.st he, h3⟩, hS⟩
  lt := fun ⟨⟨cs, h1, _⟩, hS⟩ x hx => by
    have := (hS x).1 hx
    subst this
    exact (Array.getElem?_eq_some_iff.1 h1).1

theorem cell_at {w : World} {b e : Nat} {cs : Array Value} (h : w.heap[b]? = some (.cells cs e (0, 0))) (i : Nat) : w.cell? ⟨b, i, none⟩ = cs[i]? := by
  simp [World.cell?, h]
theorem froz_at {w : World} {b e : Nat} {cs : Array Value} (h : w.heap[b]? = some (.cells cs e (0, 0))) (i : Nat) : w.frozen? ⟨b, i, none⟩ = false := by
  simp [World.frozen?, h]
theorem add_pl (b o i : Nat) : (⟨b, o, none⟩ : Addr).add i = ⟨b, o + i, none⟩ := by
  unfold Addr.add
  split
  · rename_i h; subst h; rfl
  · rfl

/-! ### what is asked of the program's types -/
def isAggD : TypeDesc → Bool
  | .struct _ | .array _ _ => true
  | _ => false
/-- a type of one cell -/
def tOne (P : Program) (t : TypeId) : Bool := match P.underlying t, P.info? t with
  | some d, some i => !(isAggD d) && Nat.beq i.size 1
  | _, _ => false
/-- a struct or array of n cells -/
def tAgg (P : Program) (t : TypeId) (n : Nat) : Bool := match P.underlying t, P.info? t with
  | some d, some i => isAggD d && Nat.beq i.size n
  | _, _ => false
def tFld (P : Program) (t : TypeId) (f off : Nat) : Bool := match P.underlying t with
  | some (.struct fs) => match fs[f]? with
    | some fd => match P.info? fd.type with
      | some i => Nat.beq fd.offset off && !(Nat.beq i.size 0)
      | none => false
    | none => false
  | _ => false
/-- the zero value's cells -/
def tZero (P : Program) (t : TypeId) : Option (List Value) := ((P.info? t).bind (·.zero)).map fun v => v.cells.toList

theorem run_isAgg {P : Program} {t : TypeId} {d : TypeDesc} (h : P.underlying t = some d) (w : World) : (isAgg t).run P w = .ok (isAggD d) w := by
  simp only [isAgg, Sem.run_bind, run_underlying h, Result.andThen_ok]
  cases d <;> rfl
theorem run_tinfo {P : Program} {t : TypeId} {i : TypeInfo} (h : P.info? t = some i) (w : World) : (typeInfo t).run P w = .ok i w := by
  simp [typeInfo, h]
theorem run_size {P : Program} {t : TypeId} {i : TypeInfo} (h : P.info? t = some i) (w : World) : (sizeOf t).run P w = .ok i.size w := by
  simp only [sizeOf, Sem.run_bind, run_tinfo h, Result.andThen_ok, Sem.run_pure]
theorem tOne_parts {P : Program} {t : TypeId} (h : tOne P t = true) : ∃ d i, P.underlying t = some d ∧ P.info? t = some i ∧ isAggD d = false ∧ i.size = 1 := by
  unfold tOne at h
  split at h
  · rename_i d i h1 h2
    simp only [Bool.and_eq_true, Bool.not_eq_true'] at h
    exact ⟨d, i, h1, h2, h.1, Nat.eq_of_beq_eq_true h.2⟩
  · cases h
theorem tAgg_parts {P : Program} {t : TypeId} {n : Nat} (h : tAgg P t n = true) : ∃ d i, P.underlying t = some d ∧ P.info? t = some i ∧ isAggD d = true ∧ i.size = n := by
  unfold tAgg at h
  split at h
  · rename_i d i h1 h2
    simp only [Bool.and_eq_true] at h
    exact ⟨d, i, h1, h2, h.1, Nat.eq_of_beq_eq_true h.2⟩
  · cases h

theorem run_load {P : Program} {w : World} {a : Addr} {v : Value} (h : w.cell? a = some v) : (load a).run P w = .ok v w := by
  simp [load, Sem.run, h]
theorem run_loadCells {P : Program} {w : World} {a : Addr} : ∀ (vs : List Value) (i : Nat) (acc : Array Value), (∀ j u, vs[j]? = some u → w.cell? (a.add (i + j)) = some u) → (loadCellsFrom a i vs.length acc).run P w = .ok (acc ++ vs.toArray) w
  | [], i, acc, _ => by simp [loadCellsFrom]
  | v :: vs, i, acc, h => by
    have h0 : w.cell? (a.add i) = some v := h 0 v rfl
    have ih := run_loadCells (P := P) (w := w) (a := a) vs (i + 1) (acc.push v) (fun j u hj => by have := h (j + 1) u (by simpa using hj); rwa [Nat.add_assoc, Nat.add_comm 1 j])
    simp only [List.length_cons, loadCellsFrom, Sem.run_bind, run_load h0, Result.andThen_ok, ih]
    simp
/-- a value that lies in memory -/
theorem run_loadVar1 {P : Program} {w : World} {t : TypeId} {a : Addr} {v : Value} (ht : tOne P t = true) (h : w.cell? a = some v) : (loadVar t a).run P w = .ok v w := by
  obtain ⟨d, i, h1, h2, h3, h4⟩ := tOne_parts ht
  simp only [loadVar, Sem.run_bind, run_isAgg h1, Result.andThen_ok, h3, Bool.false_eq_true, if_false]
  exact run_load h
theorem run_loadVarA {P : Program} {w : World} {t : TypeId} {n : Nat} {a : Addr} {vs : List Value} (ht : tAgg P t n = true) (hn : vs.length = n) (h : ∀ j u, vs[j]? = some u → w.cell? (a.add j) = some u) : (loadVar t a).run P w = .ok (.agg vs.toArray) w := by
  obtain ⟨d, i, h1, h2, h3, h4⟩ := tAgg_parts ht
  simp only [loadVar, Sem.run_bind, run_isAgg h1, Result.andThen_ok, h3, if_true, run_size h2, loadCells]
  rw [h4, ← hn, run_loadCells (P := P) (w := w) (a := a) vs 0 #[] (fun j u hj => by rw [Nat.zero_add]; exact h j u hj)]
  simp

section
variable {P : Program} {fz : Nat} {B : Bs} {K : KP} {ops : Array Oper} {rest : List Oper} {σ : Regs} {h : List HP} {d : Nat} {ty : TypeId} {pos : String} {af : Array Edge} {g : Option (Nat × Bool)}

theorem Act.eval_def (a : Act) : (fun x => a.eval x) = a.eval := rfl
theorem ex_load {a : Act} {w : World} {t : TypeId} {x : Operand} {o : Oper} {ad : Addr} {v : Value} (ho : o.op = .load t x) (hx : a.eval x = .pointer (some ad)) (hr : (loadVar t ad).run P w = .ok v w) : (execOp a.eval o).run P w = .ok (.value v) w := by
  unfold execOp
  simp only [ho, Instr.loadAt, Instr.sureAddr, hx, Sem.run_bind, Sem.run_pure, Result.andThen_ok, hr]

/-- What's read out of a variable. -/
theorem ld1 {t : TypeId} {x : Operand} {b o e : Nat} {ps : List VP} {p : VP} {j : Nat} (ht : tOne P t = true) (hj : h[j]? = some (hvar b e ps)) (kk : EvL P fz B K ops rest ((d, p) :: σ) h) (hx : og σ x = some (vptr b o) := by rfl) (hp : ps[o]? = some p := by rfl) (hd : Nat.ble (d + 1) fz = true := by rfl) (hg : Gk ops σ g := by first | exact gk0 | exact gk1 rfl rfl rfl (by assumption)) :
    EvL P fz B K ops (⟨some d, .load t x, ty, pos, af, g⟩ :: rest) σ h :=
  opp hd hg (fun a w W S hs => by
    obtain ⟨S1, S2, ⟨⟨cs, h1, h2, h3⟩, _⟩, _⟩ := Sat.pick hj hs.sat
    obtain ⟨v, hv, hpv⟩ := h2.get hp
    have hc : w.cell? ⟨b, o, none⟩ = some v := by rw [cell_at h1]; simpa using hv
    exact ⟨v, ex_load rfl (hs.eval hx) (run_loadVar1 ht hc), hpv⟩) kk
theorem ldA {t : TypeId} {n : Nat} {x : Operand} {b o e : Nat} {ps : List VP} {j : Nat} (ht : tAgg P t n = true) (hj : h[j]? = some (hvar b e ps)) (kk : EvL P fz B K ops rest ((d, vagg ((ps.drop o).take n)) :: σ) h) (hx : og σ x = some (vptr b o) := by rfl) (hn : Nat.ble (o + n) ps.length = true := by rfl) (hd : Nat.ble (d + 1) fz = true := by rfl) (hg : Gk ops σ g := by first | exact gk0 | exact gk1 rfl rfl rfl (by assumption)) :
    EvL P fz B K ops (⟨some d, .load t x, ty, pos, af, g⟩ :: rest) σ h :=
  opp hd hg (fun a w W S hs => by
    obtain ⟨S1, S2, ⟨⟨cs, h1, h2, h3⟩, _⟩, _⟩ := Sat.pick hj hs.sat
    have hl := h2.length
    have hn' := Nat.le_of_ble_eq_true hn
    have hlen : ((cs.toList.drop o).take n).length = n := by rw [List.length_take, List.length_drop, hl]; omega
    refine ⟨.agg ((cs.toList.drop o).take n).toArray, ex_load rfl (hs.eval hx) (run_loadVarA ht hlen (fun j u hj => ?_)), ⟨_, rfl, (h2.drop o).take n, fun u hu => h3 u (List.mem_of_mem_drop (List.mem_of_mem_take hu))⟩⟩
    rw [add_pl, cell_at h1]
    rw [List.getElem?_take] at hj
    split at hj
    · rw [List.getElem?_drop] at hj
      simpa using hj
    · cases hj) kk
/-- A field's address. -/
theorem fa {t f off : Nat} {x : Operand} {b o : Nat} (ht : tFld P t f off = true) (kk : EvL P fz B K ops rest ((d, vptr b (o + off)) :: σ) h) (hx : og σ x = some (vptr b o) := by rfl) (hd : Nat.ble (d + 1) fz = true := by rfl) (hg : Gk ops σ g := by first | exact gk0 | exact gk1 rfl rfl rfl (by assumption)) :
    EvL P fz B K ops (⟨some d, .fieldAddr t x f, ty, pos, af, g⟩ :: rest) σ h :=
  opp hd hg (fun a w W S hs => by
    refine ⟨.pointer (some ⟨b, o + off, none⟩), ?_, rfl⟩
    have h1 : a.eval x = .pointer (some ⟨b, o, none⟩) := hs.eval hx
    unfold tFld at ht
    split at ht
    · rename_i fs hu
      split at ht
      · rename_i fd hfd
        split at ht
        · rename_i i hi
          simp only [Bool.and_eq_true, Bool.not_eq_true'] at ht
          have e1 := Nat.eq_of_beq_eq_true ht.1
          have e2 : i.size ≠ 0 := fun he => by rw [he] at ht; simp at ht
          subst e1
          unfold execOp
          simp only [Instr.fieldAt, Sem.run_bind, run_underlying hu, Result.andThen_ok, hfd, h1, Instr.sureAddr, Sem.run_pure, fieldPlace, run_size hi, e2, if_false, add_pl]
        · cases ht
      · cases ht
    · cases ht) kk
theorem nilck {x : Operand} {b o : Nat} (kk : EvL P fz B K ops rest ((d, vptr b o) :: σ) h) (hx : og σ x = some (vptr b o) := by rfl) (hd : Nat.ble (d + 1) fz = true := by rfl) (hg : Gk ops σ g := by first | exact gk0 | exact gk1 rfl rfl rfl (by assumption)) :
    EvL P fz B K ops (⟨some d, .nilCheck x, ty, pos, af, g⟩ :: rest) σ h :=
  opp hd hg (fun a w W S hs => ⟨.pointer (some ⟨b, o, none⟩), by have h1 : a.eval x = .pointer (some ⟨b, o, none⟩) := hs.eval hx; unfold execOp; simp [h1], rfl⟩) kk
theorem ext {x : Operand} {i : Nat} {ps : List VP} {p : VP} (kk : EvL P fz B K ops rest ((d, p) :: σ) h) (hx : og σ x = some (vtup ps) := by rfl) (hp : ps[i]? = some p := by rfl) (hd : Nat.ble (d + 1) fz = true := by rfl) (hg : Gk ops σ g := by first | exact gk0 | exact gk1 rfl rfl rfl (by assumption)) :
    EvL P fz B K ops (⟨some d, .extract x i, ty, pos, af, g⟩ :: rest) σ h :=
  opp hd hg (fun a w W S hs => by
    obtain ⟨cs, h1, h2⟩ : ∃ cs : Array Value, a.eval x = .tuple cs ∧ VPs w W ps cs.toList := hs.eval hx
    obtain ⟨v, hv, hpv⟩ := h2.get hp
    refine ⟨v, ?_, hpv⟩
    have hv' : cs[i]? = some v := by simpa using hv
    unfold execOp
    simp [h1, Instr.extract, hv']) kk

/-! ### new blocks -/
theorem size_push (w : World) (o : Obj) : ({ w with heap := w.heap.push o } : World).heap.size = w.heap.size + 1 := by simp
theorem Run.new {w : World} {W : WS} {S : Nat → Prop} (hs : ∀ b, S b → W b) (hb : ∀ b, W b → b < w.heap.size) (o : Obj) :
    Run w W S { w with heap := w.heap.push o } (fun b => W b ∨ b = w.heap.size) (fun b => b = w.heap.size ∨ S b) := by
  refine ⟨rfl, rfl, rfl, by simp, fun b hl _ => by simp [Array.getElem?_push, Nat.ne_of_lt hl], fun b hl _ => ?_, fun b hl h => ?_, fun b h => ?_, fun b h => ?_, fun b h => ?_⟩
  · exact ⟨fun h => h.resolve_right (Nat.ne_of_lt hl), .inl⟩
  · exact h.resolve_right (Nat.ne_of_lt hl)
  · rcases h with h | h
    · exact .inr (by omega)
    · exact .inl h
  · rcases h with h | h
    · exact .inr h
    · exact .inl (hs b h)
  · simp only [Array.size_push]
    rcases h with h | h
    · have := hb b h; omega
    · omega
theorem new_at (w : World) (o : Obj) : ({ w with heap := w.heap.push o } : World).heap[w.heap.size]? = some o := by simp
/-- A new block whose cells are known. -/
theorem new_var {w : World} {W : WS} {S : Nat → Prop} {hs : List HP} {e : TypeId} {cs : Array Value} {ps : List VP} (h : Sat w W hs S) (hsub : ∀ b, S b → W b) (hb : ∀ b, W b → b < w.heap.size) (hv : VPs w W ps cs.toList) (h1 : ∀ u ∈ cs.toList, u.oneCell' = true) :
    Sat { w with heap := w.heap.push (.cells cs e) } (fun b => W b ∨ b = w.heap.size) (hvar w.heap.size e ps :: hs) (fun b => b = w.heap.size ∨ S b) := by
  have hr := Run.new hsub hb (.cells cs e)
  have he := hr.evo hsub
  refine ⟨fun b => b = w.heap.size, S, ⟨⟨cs, new_at w _, hv.st he, h1⟩, fun _ => Iff.rfl⟩, h.st he (fun b hS => ?_), fun b hb' hS => ?_, fun _ => Iff.rfl⟩
  · have := h.lt b hS
    simp [Array.getElem?_push, Nat.ne_of_lt this]
  · have := h.lt b hS
    omega
theorem ex_box {a : Act} {w : World} {e : TypeId} {x : Operand} {o : Oper} {v : Value} (ho : o.op = .box e x) (hx : a.eval x = v) : (execOp a.eval o).run P w = .ok (.value (.pointer (some ⟨w.heap.size, 0, none⟩))) { w with heap := w.heap.push (.cells v.cells e) } := by
  unfold execOp
  simp only [ho, Instr.box, hx, newVar, newRow, newObj, Sem.run_bind, Sem.run_pure]
  rfl
theorem opx {op : Op} (hd : Nat.ble (d + 1) fz = true) (hg : Gk ops σ g)
    (hop : ∀ a w W S, St fz B.w0 B.W0 B.S0 σ h a w W S → ∃ p h' v w' W' S', (execOp a.eval ⟨some d, op, ty, pos, af, g⟩).run P w = .ok (.value v) w' ∧ p.p w' W' v ∧ Sat w' W' h' S' ∧ Run w W S w' W' S' ∧ EvL P fz B K ops rest ((d, p) :: σ) h') :
    EvL P fz B K ops (⟨some d, op, ty, pos, af, g⟩ :: rest) σ h := by
  intro a w W S hs
  obtain ⟨p, h', v, w', W', S', hrun, hp, hsat, hr, k⟩ := hop a w W S hs
  refine wpList_step fun C hC => ?_
  rw [if_pos (Gk.wanted (o := ⟨some d, op, ty, pos, af, g⟩) hg hs)]
  unfold Oper.wp
  rw [hrun]
  exact hC _ _ (k _ _ W' S' (hs.step hd hp hsat hr))
theorem boxA {e : TypeId} {x : Operand} {ps : List VP} (kk : ∀ b, EvL P fz B K ops rest ((d, vptr b 0) :: σ) (hvar b e ps :: h)) (hx : og σ x = some (vagg ps) := by rfl) (hd : Nat.ble (d + 1) fz = true := by rfl) (hg : Gk ops σ g := by first | exact gk0 | exact gk1 rfl rfl rfl (by assumption)) :
    EvL P fz B K ops (⟨some d, .box e x, ty, pos, af, g⟩ :: rest) σ h :=
  opx hd hg fun a w W S hs => by
    obtain ⟨cs, h1, h2, h3⟩ : ∃ cs : Array Value, a.eval x = .agg cs ∧ VPs w W ps cs.toList ∧ ∀ u ∈ cs.toList, u.oneCell' = true := hs.eval hx
    exact ⟨_, _, _, _, _, _, ex_box rfl h1, rfl, new_var hs.sat hs.run.sub hs.run.bound h2 h3, Run.new hs.run.sub hs.run.bound _, kk w.heap.size⟩
theorem cells_one {v : Value} (h : v.oneCell' = true) : v.cells = #[v] := by
  cases v <;> first | rfl | (simp [Value.oneCell'] at h)
theorem box1 {e : TypeId} {x : Operand} {p : VP} (h1 : One p) (kk : ∀ b, EvL P fz B K ops rest ((d, vptr b 0) :: σ) (hvar b e [p] :: h)) (hx : og σ x = some p := by rfl) (hd : Nat.ble (d + 1) fz = true := by rfl) (hg : Gk ops σ g := by first | exact gk0 | exact gk1 rfl rfl rfl (by assumption)) :
    EvL P fz B K ops (⟨some d, .box e x, ty, pos, af, g⟩ :: rest) σ h :=
  opx hd hg fun a w W S hs => by
    have hp := hs.eval hx
    have ho := h1 _ _ _ hp
    refine ⟨_, _, _, _, _, _, ex_box rfl rfl, rfl, new_var hs.sat hs.run.sub hs.run.bound (cs := (a.eval x).cells) (ps := [p]) ?_ ?_, Run.new hs.run.sub hs.run.bound _, kk w.heap.size⟩
    · rw [cells_one ho]; exact ⟨hp, trivial⟩
    · rw [cells_one ho]
      intro u hu
      simp only [List.mem_singleton] at hu
      rw [hu]; exact ho
/-- the zero value's cells, each of one cell -/
def zOk (P : Program) (t : TypeId) (zs : List Value) : Prop := tZero P t = some zs ∧ ∀ u ∈ zs, u.oneCell' = true
def visL : List Value → List VP
  | [] => []
  | v :: vs => vis v :: visL vs
theorem VPs.visL {w : World} {W : WS} : ∀ (vs : List Value), VPs w W (visL vs) vs
  | [] => trivial
  | _ :: vs => ⟨rfl, VPs.visL vs⟩
theorem alloc {e : TypeId} {zs : List Value} (hz : zOk P e zs) (kk : ∀ b, EvL P fz B K ops rest ((d, vptr b 0) :: σ) (hvar b e (visL zs) :: h)) (hd : Nat.ble (d + 1) fz = true := by rfl) (hg : Gk ops σ g := by first | exact gk0 | exact gk1 rfl rfl rfl (by assumption)) :
    EvL P fz B K ops (⟨some d, .alloc e, ty, pos, af, g⟩ :: rest) σ h :=
  opx hd hg fun a w W S hs => by
    obtain ⟨h1, h2⟩ := hz
    unfold tZero at h1
    obtain ⟨z, hz1, hz2⟩ := Option.map_eq_some_iff.1 h1
    obtain ⟨i, hi, hiz⟩ := Option.bind_eq_some_iff.1 hz1
    refine ⟨vptr w.heap.size 0, _, _, { w with heap := w.heap.push (.cells z.cells e) }, _, _, ?_, rfl, new_var hs.sat hs.run.sub hs.run.bound (cs := z.cells) (ps := visL zs) ?_ ?_, Run.new hs.run.sub hs.run.bound _, kk w.heap.size⟩
    · unfold execOp
      simp only [Instr.alloc, zeroValue, Sem.run_bind, run_tinfo hi, Result.andThen_ok, hiz, Sem.run_pure, newVar, newRow, newObj]
      rfl
    · rw [hz2]; exact VPs.visL zs
    · rw [hz2]; exact h2

/-! ### stores -/
theorem Run.setCell {w : World} {W : WS} {S : Nat → Prop} (hs : ∀ b, S b → W b) (hb : ∀ b, W b → b < w.heap.size) {a : Addr} {v : Value} (ha : S a.block) : Run w W S (w.setCell a v) W S := by
  refine ⟨rfl, rfl, rfl, by simp [World.setCell], fun b hl hn => Below.heap_setCell w a v b (fun e => hn (by rw [e]; exact ha)), fun _ _ _ => Iff.rfl, fun _ _ h => h, fun _ h => .inl h, hs, fun b h => by simpa [World.setCell] using hb b h⟩
theorem heap_setCell_at {w : World} {b e : Nat} {cs : Array Value} (h : w.heap[b]? = some (.cells cs e (0, 0))) (i : Nat) (v : Value) : (w.setCell ⟨b, i, none⟩ v).heap[b]? = some (.cells (cs.setIfInBounds i v) e (0, 0)) := by
  simp [World.setCell, Array.getElem?_modify, h]
/-- Stores of cells into one block that is owned. -/
theorem run_storeCells {P : Program} {b e : Nat} : ∀ (vs : List Value) (i o : Nat) (w : World) (cs : Array Value), w.heap[b]? = some (.cells cs e (0, 0)) → (∀ u ∈ vs, u.oneCell' = true) → o + i + vs.length ≤ cs.size →
    ∃ w' cs', (storeCells ⟨b, o, none⟩ vs i).run P w = .ok () w' ∧ w'.heap[b]? = some (.cells cs' e (0, 0)) ∧ cs'.size = cs.size ∧ (∀ j, cs'[j]? = if o + i ≤ j ∧ j < o + i + vs.length then vs[j - (o + i)]? else cs[j]?) ∧
      w'.os = w.os ∧ w'.tape = w.tape ∧ w'.output = w.output ∧ w'.heap.size = w.heap.size ∧ ∀ k, k ≠ b → w'.heap[k]? = w.heap[k]?
  | [], i, o, w, cs, h, _, _ => ⟨w, cs, by simp [storeCells], h, rfl, fun j => by rw [if_neg (by simp)], rfl, rfl, rfl, rfl, fun _ _ => rfl⟩
  | v :: vs, i, o, w, cs, h, h1, hl => by
    have hlt : o + i < cs.size := by simp only [List.length_cons] at hl; omega
    have hc : w.cell? ⟨b, o + i, none⟩ = some cs[o + i] := by rw [cell_at h]; simp [hlt]
    have hst : (store (⟨b, o, none⟩ : Addr) v).run P w = (store (⟨b, o, none⟩ : Addr) v).run P w := rfl
    obtain ⟨w', cs', hr, hb, hsz, hcs, e1, e2, e3, e4, e5⟩ := run_storeCells (P := P) (b := b) (e := e) vs (i + 1) o (w.setCell ⟨b, o + i, none⟩ v) (cs.setIfInBounds (o + i) v) (heap_setCell_at h _ _) (fun u hu => h1 u (List.mem_cons_of_mem _ hu)) (by simp only [List.length_cons] at hl; rw [Array.size_setIfInBounds]; omega)
    refine ⟨w', cs', ?_, hb, by rw [hsz, Array.size_setIfInBounds], fun j => ?_, e1, e2, e3, by rw [e4]; simp [World.setCell], fun k hk => by rw [e5 k hk]; exact Below.heap_setCell _ _ _ _ hk⟩
    · simp only [storeCells, Sem.run_bind, add_pl, run_store P w _ v .plain (h1 v (List.mem_cons_self ..)), hc, froz_at h, Bool.false_eq_true, if_false, Result.andThen_ok, hr]
    · rw [hcs j]
      simp only [List.length_cons]
      by_cases hj : j = o + i
      · subst hj
        rw [if_neg (by omega), if_pos (by omega)]
        simp [hlt]
      · by_cases h2 : o + (i + 1) ≤ j ∧ j < o + (i + 1) + vs.length
        · rw [if_pos h2, if_pos (by omega)]
          have : j - (o + i) = (j - (o + (i + 1))) + 1 := by omega
          rw [this, List.getElem?_cons_succ]
        · rw [if_neg h2, if_neg (by omega), Array.getElem?_setIfInBounds_ne (by omega)]

/-- qs laid over ps from o on -/
def spl (ps : List VP) (o : Nat) : List VP → List VP
  | [] => ps
  | q :: qs => spl (ps.set o q) (o + 1) qs
theorem VPs.spl {w : World} {W : WS} : ∀ {qs : List VP} {us : List Value} {ps : List VP} {vs : List Value} (o : Nat), VPs w W qs us → VPs w W ps vs → ∃ vs', vs'.length = vs.length ∧ VPs w W (spl ps o qs) vs' ∧ ∀ j, j < vs.length → vs'[j]? = if o ≤ j ∧ j < o + us.length then us[j - o]? else vs[j]?
  | [], [], ps, vs, o, _, h => ⟨vs, rfl, h, fun j _ => by rw [if_neg (by simp)]⟩
  | q :: qs, u :: us, ps, vs, o, ⟨h1, h2⟩, h => by
    obtain ⟨vs', hl, hp, hv⟩ := VPs.spl (qs := qs) (us := us) (o + 1) h2 (h.set (i := o) h1)
    rw [List.length_set] at hl hv
    refine ⟨vs', hl, hp, fun j hj => ?_⟩
    rw [hv j hj]
    simp only [List.length_cons]
    by_cases he : j = o
    · subst he
      rw [if_neg (by omega), if_pos (by omega)]
      simp [hj]
    · by_cases h3 : o + 1 ≤ j ∧ j < o + 1 + us.length
      · rw [if_pos h3, if_pos (by omega)]
        have : j - o = (j - (o + 1)) + 1 := by omega
        rw [this, List.getElem?_cons_succ]
      · rw [if_neg h3, if_neg (by omega), List.getElem?_set_ne (fun e => he e.symm)]
  | [], _ :: _, _, _, _, h, _ => h.elim
  | _ :: _, [], _, _, _, h, _ => h.elim
theorem spl_length : ∀ (qs : List VP) (ps : List VP) (o : Nat), (Ytkcpejbabbbjpaa.spl ps o qs).length = ps.length
  | [], _, _ => rfl
  | q :: qs, ps, o => by simp only [Ytkcpejbabbbjpaa.spl, spl_length qs, List.length_set]
theorem ex_store {a : Act} {w w' : World} {t : TypeId} {x y : Operand} {o : Oper} {ad : Addr} {v : Value} {i : TypeInfo} (ho : o.op = .store t x y) (hx : a.eval x = .pointer (some ad)) (hy : a.eval y = v) (hi : P.info? t = some i) (hsz : v.cells.size = i.size) (hr : (storeCells ad v.cells.toList).run P w = .ok () w') :
    (execOp a.eval o).run P w = .ok .skip w' := by
  unfold execOp
  simp only [ho, Instr.storeAt, Instr.sureAddr, hx, hy, storeVar, Sem.run_bind, Sem.run_pure, Result.andThen_ok, run_size hi, hsz, ne_eq, not_true, if_false, hr]
theorem store_var {w : World} {W : WS} {S : Nat → Prop} {j b o e : Nat} {ps qs : List VP} {us : List Value} (hj : h[j]? = some (hvar b e ps)) (hsat : Sat w W h S) (hsub : ∀ b, S b → W b) (hb : ∀ b, W b → b < w.heap.size) (hq : VPs w W qs us) (h1 : ∀ u ∈ us, u.oneCell' = true) (hl : o + qs.length ≤ ps.length) :
    ∃ w', (storeCells ⟨b, o, none⟩ us).run P w = .ok () w' ∧ Sat w' W (h.set j (hvar b e (spl ps o qs))) S ∧ Run w W S w' W S := by
  obtain ⟨S1, S2, ⟨⟨cs, hc, hp, ho⟩, hS1⟩, hS2, hd, hS⟩ := Sat.pick hj hsat
  have hlen := hp.length
  have hql := hq.length
  obtain ⟨w', cs', hr, hb', hsz, hcs, e1, e2, e3, e4, e5⟩ := run_storeCells (P := P) us 0 o w cs hc h1 (by rw [← Array.length_toList, hlen, hql]; omega)
  have hSb : S b := (hS b).2 (.inl ((hS1 b).2 rfl))
  have hrun : Run w W S w' W S := ⟨e1, e2, e3, by omega, fun k hk hn => e5 k (fun e => hn (e ▸ hSb)), fun _ _ _ => Iff.rfl, fun _ _ h => h, fun _ h => .inl h, hsub, fun k hk => by rw [e4]; exact hb k hk⟩
  have hev := hrun.evo hsub
  obtain ⟨vs', hvl, hvp, hvv⟩ := VPs.spl o hq hp
  have hcs' : cs'.toList = vs' := by
    apply List.ext_getElem?
    intro j
    by_cases hj : j < cs.toList.length
    · rw [hvv j hj]
      have := hcs j
      simp only [Nat.add_zero] at this
      simp only [Array.getElem?_toList]
      exact this
    · rw [List.getElem?_eq_none (by rw [Array.length_toList, hsz, ← Array.length_toList]; omega), List.getElem?_eq_none (by omega)]
  refine ⟨w', hr, ?_, hrun⟩
  have hone : ∀ u ∈ cs'.toList, u.oneCell' = true := by
    intro u hu
    obtain ⟨j, hjl, hju⟩ := List.getElem_of_mem hu
    have hj' : cs'[j]? = some u := by
      rw [← Array.getElem?_toList, List.getElem?_eq_getElem hjl, hju]
    rw [hcs j] at hj'
    split at hj'
    · exact h1 u (List.mem_of_getElem? hj')
    · rw [← Array.getElem?_toList] at hj'
      exact ho u (List.mem_of_getElem? hj')
  have hput := Sat.put (w := w') (W := W) (y := hvar b e (spl ps o qs)) hj ⟨⟨cs', hb', by rw [hcs']; exact hvp.st hev, hone⟩, hS1⟩ (hS2.st hev (fun k hk => e5 k (fun e => hd b ((hS1 b).2 rfl) (e ▸ hk)))) hd
  exact hput.congr fun k => (hS k).symm
/-- A store of one cell. -/
theorem st1 {t : TypeId} {x y : Operand} {b o e : Nat} {ps : List VP} {p : VP} {j : Nat} (ht : tOne P t = true) (hj : h[j]? = some (hvar b e ps)) (ho : One p) (kk : EvL P fz B K ops rest σ (h.set j (hvar b e (ps.set o p)))) (hx : og σ x = some (vptr b o) := by rfl) (hy : og σ y = some p := by rfl) (hl : Nat.ble (o + 1) ps.length = true := by rfl) (hg : Gk ops σ g := by first | exact gk0 | exact gk1 rfl rfl rfl (by assumption)) :
    EvL P fz B K ops (⟨none, .store t x y, ty, pos, af, g⟩ :: rest) σ h :=
  opu hg (fun a w W S hs => by
    have hp := hs.eval hy
    have h1 := ho _ _ _ hp
    obtain ⟨_, i, _, hi, _, h4⟩ := tOne_parts ht
    obtain ⟨w', hr, hsat, hrun⟩ := store_var (P := P) hj hs.sat hs.run.sub hs.run.bound (qs := [p]) (us := [a.eval y]) (o := o) ⟨hp, trivial⟩ (fun u hu => by simp only [List.mem_singleton] at hu; rw [hu]; exact h1) (Nat.le_of_ble_eq_true hl)
    have hc := cells_one h1
    exact ⟨w', W, S, .inl (ex_store rfl (hs.eval hx) rfl hi (by rw [hc, h4]; rfl) (by rw [hc]; exact hr)), hsat, hrun⟩) kk
theorem stA {t : TypeId} {n : Nat} {x y : Operand} {b o e : Nat} {ps qs : List VP} {j : Nat} (ht : tAgg P t n = true) (hj : h[j]? = some (hvar b e ps)) (kk : EvL P fz B K ops rest σ (h.set j (hvar b e (spl ps o qs)))) (hx : og σ x = some (vptr b o) := by rfl) (hy : og σ y = some (vagg qs) := by rfl) (hq : Nat.beq qs.length n = true := by rfl) (hl : Nat.ble (o + qs.length) ps.length = true := by rfl) (hg : Gk ops σ g := by first | exact gk0 | exact gk1 rfl rfl rfl (by assumption)) :
    EvL P fz B K ops (⟨none, .store t x y, ty, pos, af, g⟩ :: rest) σ h :=
  opu hg (fun a w W S hs => by
    obtain ⟨cs, h1, h2, h3⟩ : ∃ cs : Array Value, a.eval y = .agg cs ∧ VPs w W qs cs.toList ∧ ∀ u ∈ cs.toList, u.oneCell' = true := hs.eval hy
    obtain ⟨_, i, _, hi, _, h4⟩ := tAgg_parts ht
    obtain ⟨w', hr, hsat, hrun⟩ := store_var (P := P) hj hs.sat hs.run.sub hs.run.bound h2 h3 (Nat.le_of_ble_eq_true hl)
    exact ⟨w', W, S, .inl (ex_store rfl (hs.eval hx) h1 hi (by rw [h4, ← Nat.eq_of_beq_eq_true hq, ← h2.length]; rfl) hr), hsat, hrun⟩) kk
end
end Go.Proofs.Ytkcpejbabbbjpaa
