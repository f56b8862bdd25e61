/- A part of the proof: contracts over a program of the model. -/
import Derived.Test.YtkcpejbabbbjpaaE2
set_option linter.unusedVariables false
namespace Go.Proofs.Ytkcpejbabbbjpaa
open Go.RowKit

/-! ### a function's contract out of its body; calls -/
def ags : Nat → List VP → Regs
  | _, [] => []
  | i, p :: ps => (i, p) :: ags (i + 1) ps
inductive ResV (P : Program) (σ : Regs) (h : List HP) : ResultVar → VP → Prop
  | tmp {t : Nat} {p : VP} (hp : rg σ t = some p) : ResV P σ h (.tmp t) p
  | cell1 {t ty b o e : Nat} {ps : List VP} {j : Nat} {p : VP} (hx : rg σ t = some (vptr b o)) (ht : tOne P ty = true) (hj : h[j]? = some (hvar b e ps)) (hp : ps[o]? = some p) : ResV P σ h (.cell t ty) p
  | cellA {t ty b o e : Nat} {ps : List VP} {j n : Nat} (hx : rg σ t = some (vptr b o)) (ht : tAgg P ty n = true) (hj : h[j]? = some (hvar b e ps)) (hn : Nat.ble (o + n) ps.length = true) : ResV P σ h (.cell t ty) (vagg ((ps.drop o).take n))
inductive ResVs (P : Program) (σ : Regs) (h : List HP) : List ResultVar → List VP → Prop
  | nil : ResVs P σ h [] []
  | cons {r rs p ps} (h1 : ResV P σ h r p) (h2 : ResVs P σ h rs ps) : ResVs P σ h (r :: rs) (p :: ps)
/-- hc are some of h; hf the others -/
inductive Sel : List HP → List HP → List HP → Prop
  | nil {h : List HP} : Sel h [] h
  | cons {h : List HP} {x : HP} {hc hf : List HP} (j : Nat) (hj : h[j]? = some x) (k : Sel (h.eraseIdx j) hc hf) : Sel h (x :: hc) hf
theorem Sel.sat {w : World} {W : WS} : ∀ {h hc hf : List HP} {S : Nat → Prop}, Sel h hc hf → Sat w W h S → ∃ S1 S2, Sat w W hc S1 ∧ Sat w W hf S2 ∧ (∀ x, S1 x → ¬ S2 x) ∧ ∀ x, S x ↔ (S1 x ∨ S2 x)
  | h, _, _, S, .nil, hs => ⟨fun _ => False, S, fun _ h => h, hs, fun _ h => h.elim, fun x => by simp⟩
  | h, _, _, S, .cons j hj k, hs => by
    obtain ⟨S1, S2, h1, h2, hd, hS⟩ := Sat.pick hj hs
    obtain ⟨T1, T2, g1, g2, gd, gS⟩ := Sel.sat k h2
    refine ⟨fun b => S1 b ∨ T1 b, T2, ⟨S1, T1, h1, g1, fun b hb ht => hd b hb ((gS b).2 (.inl ht)), fun _ => Iff.rfl⟩, g2, ?_, ?_⟩
    · rintro b (hb | hb) ht
      · exact hd b hb ((gS b).2 (.inr ht))
      · exact gd b hb ht
    · intro b
      rw [hS b, gS b, or_assoc]
def rOne : List VP → VP
  | [p] => p
  | ps => vtup ps
def Kret (P : Program) (rs : Array ResultVar) (Post : VP → List HP → Prop) : KP
  | .ret, σ, h => ∃ ps h1 hf, ResVs P σ h rs.toList ps ∧ Sel h h1 hf ∧ Post (rOne ps) h1
  | .normal, σ, h => ∃ ps h1 hf, ResVs P σ h rs.toList ps ∧ Sel h h1 hf ∧ Post (rOne ps) h1
  | _, _, _ => False
section
variable {P : Program} {fz : Nat} {B : Bs} {K : KP} {ops : Array Oper} {rest : List Oper} {σ : Regs} {h : List HP} {d : Nat} {ty : TypeId} {pos : String} {af : Array Edge} {g : Option (Nat × Bool)}

def rvS (tmps : Array Value) : ResultVar → Sem Value
  | .tmp t => pure (tmps.getD t undef)
  | .cell x t => do loadVar t (← asAddr (tmps.getD x undef))
theorem ResV.run {w0 W0 S0 a w W S} {rv : ResultVar} {p : VP} (hr : ResV P σ h rv p) (hs : St fz w0 W0 S0 σ h a w W S) :
    ∃ v, (rvS a.tmps rv).run P w = .ok v w ∧ p.p w W v := by
  cases hr with
  | tmp hp =>
    obtain ⟨v, hv, hpv⟩ := hs.regs _ _ hp
    exact ⟨v, by simp [rvS, Array.getD_eq_getD_getElem?, hv], hpv⟩
  | cell1 hx ht hj hp =>
    obtain ⟨v, hv, hpv⟩ := hs.regs _ _ hx
    have hpv' : v = _ := hpv
    subst hpv'
    obtain ⟨S1, S2, ⟨⟨cs, h1, h2, h3⟩, _⟩, _⟩ := Sat.pick hj hs.sat
    obtain ⟨u, hu, hpu⟩ := h2.get hp
    refine ⟨u, ?_, hpu⟩
    simp only [rvS, Array.getD_eq_getD_getElem?, hv, Option.getD_some, asAddr, Sem.run_bind, Sem.run_pure, Result.andThen_ok]
    exact run_loadVar1 ht (by rw [cell_at h1]; simpa using hu)
  | @cellA t ty b o e ps j n hx ht hj hn =>
    obtain ⟨v, hv, hpv⟩ := hs.regs _ _ hx
    have hpv' : v = _ := hpv
    subst hpv'
    obtain ⟨S1, S2, ⟨⟨cs, h1, h2, h3⟩, _⟩, _⟩ := Sat.pick hj hs.sat
    have hl := h2.length
    have hn' := Nat.le_of_ble_eq_true hn
    have hlen : ((cs.toList.drop o).take n).length = n := by rw [List.length_take, List.length_drop, hl]; omega
    refine ⟨.agg ((cs.toList.drop o).take n).toArray, ?_, ⟨_, rfl, (h2.drop o).take n, fun u hu => h3 u (List.mem_of_mem_drop (List.mem_of_mem_take hu))⟩⟩
    simp only [rvS, Array.getD_eq_getD_getElem?, hv, Option.getD_some, asAddr, Sem.run_bind, Sem.run_pure, Result.andThen_ok]
    refine run_loadVarA ht hlen (fun j u hj => ?_)
    rw [add_pl, cell_at h1]
    rw [List.getElem?_take] at hj
    split at hj
    · rw [List.getElem?_drop] at hj
      simpa using hj
    · cases hj
theorem ResVs.run {w0 W0 S0 a w W S} (hs : St fz w0 W0 S0 σ h a w W S) : ∀ {rs : List ResultVar} {ps : List VP}, ResVs P σ h rs ps →
    ∃ vs, (rs.mapM (m := Sem) (rvS a.tmps)).run P w = .ok vs w ∧ VPs w W ps vs
  | [], _, .nil => ⟨[], by simp, trivial⟩
  | rv :: rs, _, .cons h1 h2 => by
    obtain ⟨v, hv, hp⟩ := h1.run hs
    obtain ⟨vs, hvs, hps⟩ := ResVs.run hs h2
    refine ⟨v :: vs, ?_, hp, hps⟩
    simp only [List.mapM_cons, Sem.run_bind, hv, Result.andThen_ok, hvs, Sem.run_pure]
theorem ags_rg : ∀ {ps : List VP} {i j : Nat} {p : VP}, rg (ags i ps) j = some p → i ≤ j ∧ ps[j - i]? = some p
  | [], _, _, _, h => by cases h
  | q :: ps, i, j, p, h => by
    simp only [ags, rg] at h
    cases hb : Nat.beq i j with
    | true =>
      have := Nat.eq_of_beq_eq_true hb
      subst this
      rw [hb] at h
      simp only [cond_true, Option.some.injEq] at h
      exact ⟨Nat.le_refl _, by simp [h]⟩
    | false =>
      rw [hb] at h
      obtain ⟨h1, h2⟩ := ags_rg (ps := ps) h
      refine ⟨by omega, ?_⟩
      have : j - i = (j - (i + 1)) + 1 := by omega
      rw [this, List.getElem?_cons_succ]
      exact h2
theorem Fn.body {f : FuncId} {fn : Func} {c : Code} {args : List VP} {Post : VP → List HP → Prop} (hf : P.funcs[f]? = some fn) (hb : fn.body = some c) (hn : fn.ntmps = fz) (ha : Nat.ble args.length fz = true)
    (k : ∀ B, EvC P fz B (Kret P fn.results Post) c (ags 0 args) h) : Fn P f args h Post := by
  intro w W S vs hv hsat hsub hbd
  have hlv := hv.length
  have ha' := Nat.le_of_ble_eq_true ha
  refine calls_of_wp hf hb (wp_mono (k ⟨w, W, S, hsub⟩ _ w W S ⟨?_, rfl, ?_, hsat, Run.refl hsub hbd⟩) ?_)
  · simp [hn, hlv]
    try omega
  · intro d p hd
    obtain ⟨_, h2⟩ := ags_rg hd
    simp only [Nat.sub_zero] at h2
    obtain ⟨v, hv1, hp⟩ := hv.get h2
    refine ⟨v, ?_, hp⟩
    have hlt : d < vs.length := (List.getElem?_eq_some_iff.1 hv1).1
    rw [Array.getElem?_append_left (by simpa using hlt)]
    simpa using hv1
  · rintro e a w' ⟨h1, h2, σ', h', W', S', hs, hk⟩
    have fin : ∀ ps h1 hf, ResVs P σ' h' fn.results.toList ps → Sel h' h1 hf → Post (rOne ps) h1 → a.defers = [] ∧ ∃ v, (results fn a.tmps).run P w' = .ok v w' ∧ ∃ v', ∃ r h' W' S', Ending.returned v = .returned v' ∧ r.p w' W' v' ∧ Post r h' ∧ Sat w' W' h' S' ∧ Run w W S w' W' S' := by
      intro ps h1 hf hps hsel hpost
      obtain ⟨us, hus, hpu⟩ := hps.run hs
      obtain ⟨T1, T2, hT1, _, _, hT⟩ := hsel.sat hs.sat
      refine ⟨hs.defers, if h : us.toArray.size = 1 then us.toArray[0] else .tuple us.toArray, ?_, _, rOne ps, h1, W', T1, rfl, ?_, hpost, hT1, hs.run.less fun b hb => (hT b).2 (.inl hb)⟩
      · have hrv : results fn a.tmps = (fn.results.mapM (m := Sem) (rvS a.tmps) >>= fun vs => pure (if h : vs.size = 1 then vs[0] else .tuple vs)) := by
          unfold results
          congr 1
        have : (fn.results.mapM (m := Sem) (rvS a.tmps)).run P w' = .ok us.toArray w' := by
          rw [Array.mapM_eq_mapM_toList]
          simp only [Sem.run_map, hus]
          rfl
        rw [hrv]
        simp only [Sem.run_bind]
        rw [this]
        rfl
      · match ps, us, hpu with
        | [], [], _ => exact ⟨#[], rfl, trivial⟩
        | [p], [u], ⟨hp, _⟩ => exact hp
        | p :: q :: ps, u :: v :: us, hp => exact ⟨_, rfl, hp⟩
        | [], _ :: _, h => exact h.elim
        | _ :: _, [], h => exact h.elim
        | [_], _ :: _ :: _, h => exact h.2.elim
        | _ :: _ :: _, [_], h => exact h.2.elim
    cases e with
    | ret => obtain ⟨ps, h1, hf, h3, h4, h5⟩ := hk; exact fin ps h1 hf h3 h4 h5
    | normal => obtain ⟨ps, h1, hf, h3, h4, h5⟩ := hk; exact fin ps h1 hf h3 h4 h5
    | panic c => exact (h1 c rfl).elim
    | outgrown => exact (h2 rfl).elim
    | exit id => exact hk.elim
    | goto id => exact hk.elim

def ogs (σ : Regs) : List Operand → Option (List VP)
  | [] => some []
  | x :: xs => match og σ x, ogs σ xs with
    | some p, some ps => some (p :: ps)
    | _, _ => none
theorem St.evals {w0 W0 S0 a w W S} (hs : St fz w0 W0 S0 σ h a w W S) : ∀ {xs : List Operand} {ps : List VP}, ogs σ xs = some ps → VPs w W ps (xs.map a.eval)
  | [], ps, hx => by simp only [ogs, Option.some.injEq] at hx; subst hx; trivial
  | x :: xs, ps, hx => by
    simp only [ogs] at hx
    split at hx
    · rename_i p ps' h1 h2
      injection hx with hx
      subst hx
      exact ⟨hs.eval h1, St.evals hs h2⟩
    · cases hx
/-- a function's body that is no extern -/
def isGo (P : Program) (f : FuncId) : Bool := match P.funcs[f]? with
  | some fn => fn.body.isSome && fn.name != "runtime.NumGoroutine"
  | none => false
theorem run_callFunc {w : World} {f : FuncId} {args : Array Value} (hf : isGo P f = true) : (callFunc f args).run P w = .ok (.enter f args) w := by
  unfold isGo at hf
  split at hf
  · rename_i fn hfn
    simp only [Bool.and_eq_true, bne_iff_ne, ne_eq] at hf
    obtain ⟨h1, h2⟩ := hf
    have h3 : fn.body.isNone = false := by cases hb : fn.body <;> simp_all
    have h4 : (fn.name == "runtime.NumGoroutine") = false := by simpa using h2
    unfold callFunc
    simp only [program, Sem.run_bind]
    show Result.andThen (.ok P w) _ = _
    simp only [Result.andThen_ok, hfn, h4, h3, Bool.false_eq_true, if_false, Sem.run_pure]
  · cases hf
theorem opcall {f : FuncId} {args hc hf : List HP} {vps : List VP} {Post : VP → List HP → Prop} {op : Op} {dst : Option Nat} (hfn : Fn P f vps hc Post) (hsel : Sel h hc hf) (hdst : ∀ d, dst = some d → Nat.ble (d + 1) fz = true) (hg : Gk ops σ g)
    (hop : ∀ a w W S, St fz B.w0 B.W0 B.S0 σ h a w W S → ∃ vs, (execOp a.eval ⟨dst, op, ty, pos, af, g⟩).run P w = .ok (.enter f vs.toArray) w ∧ VPs w W vps vs)
    (k : ∀ r h', Post r h' → EvL P fz B K ops rest (match dst with | some d => (d, r) :: σ | none => σ) (h' ++ hf)) : EvL P fz B K ops (⟨dst, op, ty, pos, af, g⟩ :: rest) σ h := by
  intro a w W S hs
  obtain ⟨vs, hrun, hvs⟩ := hop a w W S hs
  obtain ⟨S1, S2, h1, h2, hd, hS⟩ := hsel.sat hs.sat
  refine wpList_step fun C hC => ?_
  rw [if_pos (Gk.wanted (o := ⟨dst, op, ty, pos, af, g⟩) hg hs)]
  unfold Oper.wp
  rw [hrun]
  intro cs
  obtain ⟨e, w', fr, ⟨v, r, h', W', S', rfl, hp, hpost, hsat, hr⟩, h3, h4, h5⟩ := hfn w W S1 vs hvs h1 (fun b hb => hs.run.sub b ((hS b).2 (.inl hb))) hs.run.bound cs
  refine ⟨_, w', fr, ?_, h3, h4, h5⟩
  have hlt : ∀ b, S2 b → b < w.heap.size := h2.lt
  obtain ⟨hr2, hd2⟩ := Run.framed (T := S2) (S := S) hr hlt hd hS hs.run.sub
  have hev : Evo w W w' W' := hr2.evo hs.run.sub
  have hsat2 : Sat w' W' (h' ++ hf) (fun b => S' b ∨ S2 b) := hsat.join (h2.st hev (fun b hb => hr.keep b (hlt b hb) (fun hc => hd b hc hb))) hd2
  refine hC _ _ (k r h' hpost _ _ W' (fun b => S' b ∨ S2 b) ?_)
  cases dst with
  | some d => exact hs.step (hdst d rfl) hp hsat2 hr2
  | none =>
    have he : Evo w W w' W' := hr2.evo hs.run.sub
    exact ⟨hs.tmps, hs.defers, fun d' q hq => let ⟨u, hu, hup⟩ := hs.regs d' q hq; ⟨u, hu, q.st he hup⟩, hsat2, hs.run.trans hr2⟩
theorem ex_call {a : Act} {w : World} {f : FuncId} {xs : Array Operand} {ts : Array TypeId} {o : Oper} (ho : o.op = .call { callee := .value (.func f), args := xs, argTypes := ts }) (hf : isGo P f = true) :
    (execOp a.eval o).run P w = .ok (.enter f (xs.map a.eval)) w := by
  unfold execOp
  simp only [ho, resolve, Act.eval, Deferred.ofValue, Sem.run_bind, Sem.run_pure, Result.andThen_ok, invoke]
  simp only [Array.append_empty, Array.empty_append]
  rw [run_callFunc hf]
/-- A call of a function of the program's. -/
theorem call {f : FuncId} {hc hf : List HP} {vps : List VP} {Post : VP → List HP → Prop} {xs : List Operand} {ts : Array TypeId} (hfn : Fn P f vps hc Post) (hgo : isGo P f = true) (hsel : Sel h hc hf) (k : ∀ r h', Post r h' → EvL P fz B K ops rest ((d, r) :: σ) (h' ++ hf)) (hx : ogs σ xs = some vps := by rfl) (hd : Nat.ble (d + 1) fz = true := by rfl) (hg : Gk ops σ g := by first | exact gk0 | exact gk1 rfl rfl rfl (by assumption)) :
    EvL P fz B K ops (⟨some d, .call { callee := .value (.func f), args := xs.toArray, argTypes := ts }, ty, pos, af, g⟩ :: rest) σ h :=
  opcall (args := []) hfn hsel (fun d' hd' => by cases hd'; exact hd) hg (fun a w W S hs => ⟨_, by rw [ex_call rfl hgo, List.map_toArray], hs.evals hx⟩) k
theorem callu {f : FuncId} {hc hf : List HP} {vps : List VP} {Post : VP → List HP → Prop} {xs : List Operand} {ts : Array TypeId} (hfn : Fn P f vps hc Post) (hgo : isGo P f = true) (hsel : Sel h hc hf) (k : ∀ r h', Post r h' → EvL P fz B K ops rest σ (h' ++ hf)) (hx : ogs σ xs = some vps := by rfl) (hg : Gk ops σ g := by first | exact gk0 | exact gk1 rfl rfl rfl (by assumption)) :
    EvL P fz B K ops (⟨none, .call { callee := .value (.func f), args := xs.toArray, argTypes := ts }, ty, pos, af, g⟩ :: rest) σ h :=
  opcall (args := []) hfn hsel nofun hg (fun a w W S hs => ⟨_, by rw [ex_call rfl hgo, List.map_toArray], hs.evals hx⟩) k
/-- A function that only computes. -/
def PFn (P : Program) (f : FuncId) (args : List VP) (r : VP) : Prop := isGo P f = true ∧ Fn P f args [] fun r' h' => r' = r ∧ h' = []
/-- .. and its call -/
theorem cp {f : FuncId} {vps : List VP} {r : VP} {xs : List Operand} {ts : Array TypeId} (hfn : PFn P f vps r) (k : EvL P fz B K ops rest ((d, r) :: σ) h) (hx : ogs σ xs = some vps := by rfl) (hd : Nat.ble (d + 1) fz = true := by rfl) (hg : Gk ops σ g := by first | exact gk0 | exact gk1 rfl rfl rfl (by assumption)) :
    EvL P fz B K ops (⟨some d, .call { callee := .value (.func f), args := xs.toArray, argTypes := ts }, ty, pos, af, g⟩ :: rest) σ h :=
  call hfn.2 hfn.1 .nil (fun r' h' ⟨hr, hh⟩ => by subst hr hh; exact k) hx hd hg
end
end Go.Proofs.Ytkcpejbabbbjpaa
