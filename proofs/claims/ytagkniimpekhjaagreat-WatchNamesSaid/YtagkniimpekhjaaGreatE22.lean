/- A part of the proof: contracts over a program of the model. -/
import Derived.Test.YtagkniimpekhjaaGreatE17
import Derived.RangeFuncRecord
set_option linter.unusedVariables false
set_option linter.unusedSectionVars false
set_option linter.unusedSimpArgs false
namespace Go.Proofs.YtagkniimpekhjaaGreat
open Go.RowKit

/-! ### ranges over functions -/
def vyield (l : Nat) : VP := vis (.func (.yield l) #[] #[])
/-- what a loop's rounds do, from the iterator's side -/
def Rounds (P : Program) (l : Nat) {α : Type} (px : α → List VP) (J : Nat → HP) (Jx : HP) (xs : List α) : Prop :=
  ∀ i x, xs[i]? = some x → ∀ (w : World) (W : WS) (S : Nat → Prop) (vs : List Value), VPs w W (px x) vs → (J i).p w W S → (∀ b, S b → W b) → (∀ b, W b → b < w.heap.size) →
    ∃ fn tmps assign body, (Instr.yield l vs.toArray).run P w = .ok (.round l fn tmps assign body) w ∧
      RoundIn Fence.wide 0 P l fn tmps assign body w fun e w' => ∃ W' S', Run w W S w' W' S' ∧ ((e = .returned (.bool true) ∧ (J (i + 1)).p w' W' S') ∨ (e = .returned (.bool false) ∧ Jx.p w' W' S'))
/-- an iterator that gives these elements -/
def IterFn (P : Program) (gf : FuncId) (caps : List Value) (hc hc' : List HP) {α : Type} (px : α → List VP) (xs : List α) : Prop :=
  ∀ l J Jx, Rounds P l px J Jx xs → Fn P gf (vyield l :: visL caps) (J 0 :: hc) fun _ h' => h' = J xs.length :: hc' ∨ h' = Jx :: hc'

theorem run_put {w : World} {W : WS} {S : Nat → Prop} {l : Nat} (o : Obj) (hl : S l) (hsub : ∀ b, S b → W b) (hbd : ∀ b, W b → b < w.heap.size) : Run w W S (w.putObj l o) W S :=
  ⟨rfl, rfl, rfl, by simp, fun b hb hn => World.putObj_heap_other (fun e => hn (e ▸ hl)), fun _ _ _ => Iff.rfl, fun _ _ h => h, fun _ h => .inl h, hsub, fun b hb => by simpa using hbd b hb⟩

section
variable {P : Program} {fz : Nat} {B : Bs} {K : KP} {ops : Array Oper} {rest : List Oper} {σ : Regs} {h : List HP} {d : Nat} {ty : TypeId} {pos : String} {af : Array Edge} {g : Option (Nat × Bool)}
/-- the iterator calls yield -/
theorem cally {α : Type} {px : α → List VP} {J : Nat → HP} {Jx : HP} {xs : List α} {l i : Nat} {x : α} {j : Nat} {f : Operand} {as : List Operand} {ts : Array TypeId} (hr : Rounds P l px J Jx xs) (hi : xs[i]? = some x) (hj : h[j]? = some (J i))
    (kT : EvL P fz B K ops rest ((d, vbool true) :: σ) (h.set j (J (i + 1)))) (kF : EvL P fz B K ops rest ((d, vbool false) :: σ) (h.set j Jx)) (hf : og σ f = some (vyield l) := by rfl) (ha : ogs σ as = some (px x) := by rfl) (hd : Nat.ble (d + 1) fz = true := by rfl) (hg : Gk ops σ g := by first | exact gk0 | exact gk1 rfl rfl rfl (by assumption)) :
    EvL P fz B K ops (⟨some d, .call { callee := .value f, args := as.toArray, argTypes := ts }, ty, pos, af, g⟩ :: rest) σ h := by
  intro a w W S hs
  have hfv : a.eval f = .func (.yield l) #[] #[] := hs.eval hf
  have hvs := hs.evals ha
  obtain ⟨S1, S2, h1, h2, hdj, hS⟩ := Sat.pick hj hs.sat
  obtain ⟨fn, tmps, assign, body, hy, hR⟩ := hr i x hi w W S1 _ hvs h1 (fun b hb => hs.run.sub b ((hS b).2 (.inl hb))) hs.run.bound
  have hrun : (execOp a.eval ⟨some d, .call { callee := .value f, args := as.toArray, argTypes := ts }, ty, pos, af, g⟩).run P w = .ok (.round l fn tmps assign body) w := by
    unfold execOp
    simp only [resolve, hfv, Deferred.ofValue, Sem.run_bind, Sem.run_pure, Result.andThen_ok, invoke, Array.append_empty, Array.empty_append, List.map_toArray]
    exact hy
  refine wpListIn_step fun C hC => ?_
  rw [if_pos (Gk.wanted (o := ⟨some d, .call { callee := .value f, args := as.toArray, argTypes := ts }, ty, pos, af, g⟩) hg hs)]
  have hR' : RoundIn (FB B) 0 P l fn tmps assign body w fun e w' => ∃ W' S', Run w W S1 w' W' S' ∧ ((e = .returned (.bool true) ∧ (J (i + 1)).p w' W' S') ∨ (e = .returned (.bool false) ∧ Jx.p w' W' S')) := hR
  refine opr hrun nofun ⟨fun h => (by cases h), hR'.mono ?_⟩
  rintro e w' ⟨W', S', hrn, hor⟩
  have hlt : ∀ b, S2 b → b < w.heap.size := h2.lt
  obtain ⟨hr2, hd2⟩ := Run.framed (T := S2) (S := S) hrn hlt hdj hS hs.run.sub
  have hev : Evo w W w' W' := hr2.evo hs.run.sub
  have h2' : Sat w' W' (h.eraseIdx j) S2 := h2.st hev (fun b hb => hrn.keep b (hlt b hb) (fun hc => hdj b hc hb))
  rcases hor with ⟨rfl, hJ⟩ | ⟨rfl, hJ⟩
  · exact hC _ _ (kT _ _ W' _ (hs.step hd rfl (Sat.put hj hJ h2' hd2) hr2))
  · exact hC _ _ (kF _ _ W' _ (hs.step hd rfl (Sat.put hj hJ h2' hd2) hr2))
end

/-! ### code of a frame that has marks among its deferred calls -/
def mkD (D : Nat) : Deferred := { target := .collected D, args := #[] }
structure DOk (w0 : World) (Ds : List Nat) (w : World) (W : WS) (S : Nat → Prop) : Prop where
  nd : Ds.Nodup
  at_ : ∀ D ∈ Ds, w0.heap.size ≤ D ∧ W D ∧ w.heap[D]? = some (.deferred (some [])) ∧ ¬ S D
theorem DOk.run {w0 w w' : World} {W W' : WS} {S S' : Nat → Prop} {Ds : List Nat} (h : DOk w0 Ds w W S) (hr : Run w W S w' W' S') : DOk w0 Ds w' W' S' :=
  ⟨h.nd, fun D hD => by
    obtain ⟨h1, h2, h3, h4⟩ := h.at_ D hD
    have hlt := (Array.getElem?_eq_some_iff.1 h3).1
    exact ⟨h1, (hr.frame D hlt h4).2 h2, (hr.keep D hlt h4).trans h3, fun hS => by
      rcases hr.foot D hS with h5 | h5
      · exact h4 h5
      · omega⟩⟩
def QF (fz : Nat) (B : Bs) (K : KP) (e : Exit) (a : Act) (w : World) : Prop :=
  (∀ c, e ≠ .panic c) ∧ e ≠ .outgrown ∧ ∃ Ds σ h W S, St fz (Ds.map mkD) B.w0 B.W0 B.S0 σ h a w W S ∧ DOk B.w0 Ds w W S ∧ K e σ h
def EvF (P : Program) (fz : Nat) (B : Bs) (K : KP) (c : Code) (σ : Regs) (h : List HP) : Prop :=
  ∀ Ds a w W S, St fz (Ds.map mkD) B.w0 B.W0 B.S0 σ h a w W S → DOk B.w0 Ds w W S → c.wpIn (FB B) 0 P (QF fz B K) a w
section
variable {P : Program} {fz : Nat} {B : Bs} {K : KP} {σ : Regs} {h : List HP}
theorem evf {c : Code} (k : ∀ B', EvC P fz B' K c σ h) : EvF P fz B K c σ h := by
  intro Ds a w W S hs hd
  have k' : c.wpIn (FB B) 0 P (QK fz ⟨w, W, S, hs.run.sub, B.ro, Ds.map mkD⟩ K) a w := k ⟨w, W, S, hs.run.sub, B.ro, Ds.map mkD⟩ a w W S ⟨hs.tmps, hs.defers, hs.regs, hs.sat, Run.refl hs.run.sub hs.run.bound⟩
  refine wpIn_mono k' ?_
  rintro e a' w' ⟨h1, h2, σ', h', W', S', hs', hk⟩
  exact ⟨h1, h2, Ds, σ', h', W', S', ⟨hs'.tmps, hs'.defers, hs'.regs, hs'.sat, hs.run.trans hs'.run⟩, hd.run hs'.run, hk⟩
def KthF (P : Program) (fz : Nat) (B : Bs) (K : KP) (y : Code) : KP
  | .normal, σ, h => EvF P fz B K y σ h
  | e, σ, h => K e σ h
theorem seqF {x y : Code} (k : EvF P fz B (KthF P fz B K y) x σ h) : EvF P fz B K (.seq x y) σ h := by
  intro Ds a w W S hs hd
  refine wpIn_seq (wpIn_mono (k Ds a w W S hs hd) ?_)
  rintro e a w ⟨h1, h2, Ds, σ, h, W, S, hs, hd, hk⟩
  cases e with
  | normal => exact hk Ds a w W S hs hd
  | exit id => exact ⟨h1, h2, Ds, σ, h, W, S, hs, hd, hk⟩
  | goto id => exact ⟨h1, h2, Ds, σ, h, W, S, hs, hd, hk⟩
  | ret => exact ⟨h1, h2, Ds, σ, h, W, S, hs, hd, hk⟩
  | panic c => exact (h1 c rfl).elim
  | outgrown => exact (h2 rfl).elim
theorem nxtF {y : Code} (k : EvF P fz B K y σ h) : KthF P fz B K y .normal σ h := k
theorem ktF {x : Exit} {y : Code} (k : K x σ h) (hx : x ≠ .normal := by nofun) : KthF P fz B K y x σ h := by
  cases x <;> first | exact k | exact absurd rfl hx
theorem blockF {id : Nat} {c : Code} (k : EvF P fz B (Kbl K id) c σ h) : EvF P fz B K (.block id c) σ h := by
  intro Ds a w W S hs hd
  refine wpIn_block (wpIn_mono (k Ds a w W S hs hd) ?_)
  rintro e a w ⟨h1, h2, Ds, σ, h, W, S, hs, hd, hk⟩
  cases e with
  | normal => exact ⟨h1, h2, Ds, σ, h, W, S, hs, hd, hk⟩
  | exit id' =>
    simp only [Exit.inBlock]
    by_cases he : id' = id
    · rw [if_pos he]
      subst he
      have : Nat.beq id' id' = true := by simp
      simp only [Kbl, this, cond_true] at hk
      exact ⟨nofun, nofun, Ds, σ, h, W, S, hs, hd, hk⟩
    · rw [if_neg he]
      have : Nat.beq id' id = false := by rw [← Bool.not_eq_true]; exact fun h => he (Nat.eq_of_beq_eq_true h)
      simp only [Kbl, this, cond_false] at hk
      exact ⟨h1, h2, Ds, σ, h, W, S, hs, hd, hk⟩
  | goto id => exact ⟨h1, h2, Ds, σ, h, W, S, hs, hd, hk⟩
  | ret => exact ⟨h1, h2, Ds, σ, h, W, S, hs, hd, hk⟩
  | panic c => exact (h1 c rfl).elim
  | outgrown => exact (h2 rfl).elim
theorem condF {c : Operand} {x y : Code} {b : Bool} (ht : b = true → EvF P fz B K x σ h) (hf : b = false → EvF P fz B K y σ h) (hc : og σ c = some (vbool b) := by rfl) : EvF P fz B K (.cond c x y) σ h := by
  intro Ds a w W S hs hd
  have h1 : a.eval c = .bool b := hs.eval hc
  exact wpIn_cond_split h1 (fun e => ht e Ds a w W S hs hd) (fun e => hf e Ds a w W S hs hd)

/-! ### a function's contract -/
def putAll (w : World) : List Nat → World
  | [] => w
  | D :: Ds => putAll (w.putObj D (.deferred none)) Ds
theorem putAll_other : ∀ {Ds : List Nat} {w : World} {b : Nat}, b ∉ Ds → (putAll w Ds).heap[b]? = w.heap[b]?
  | [], _, _, _ => rfl
  | D :: Ds, w, b, h => by
    rw [putAll, putAll_other (fun hm => h (List.mem_cons_of_mem _ hm))]
    exact World.putObj_heap_other (fun e => h (e ▸ List.mem_cons_self ..))
theorem putAll_size : ∀ {Ds : List Nat} {w : World}, (putAll w Ds).heap.size = w.heap.size
  | [], _ => rfl
  | D :: Ds, w => by rw [putAll, putAll_size]; simp
theorem putAll_os : ∀ {Ds : List Nat} {w : World}, (putAll w Ds).os = w.os ∧ (putAll w Ds).tape = w.tape ∧ (putAll w Ds).output = w.output
  | [], _ => ⟨rfl, rfl, rfl⟩
  | D :: Ds, w => by rw [putAll]; exact putAll_os
theorem DOk.leave {w0 w : World} {W0 W : WS} {S0 S : Nat → Prop} {Ds : List Nat} (h : DOk w0 Ds w W S) (hr : Run w0 W0 S0 w W S) : Run w0 W0 S0 (putAll w Ds) W S ∧ Evo w W (putAll w Ds) W ∧ ∀ b, S b → (putAll w Ds).heap[b]? = w.heap[b]? := by
  obtain ⟨o1, o2, o3⟩ := putAll_os (Ds := Ds) (w := w)
  refine ⟨⟨o1.trans hr.os, o2.trans hr.tape, o3.trans hr.output, by rw [putAll_size]; exact hr.size, fun b hb hn => ?_, hr.frame, hr.own, hr.foot, hr.sub, fun b hb => by rw [putAll_size]; exact hr.bound b hb⟩, ⟨by rw [putAll_size]; exact Nat.le_refl _, fun b hb hn => putAll_other fun hm => hn (h.at_ b hm).2.1, fun _ _ h => h⟩, fun b hb => putAll_other fun hm => (h.at_ b hm).2.2.2 hb⟩
  rw [putAll_other (fun hm => by have := (h.at_ b hm).1; omega)]
  exact hr.keep b hb hn
theorem leavesM {F : Fence} {n : Nat} {fn : Func} {tmps : Array Value} {R : Ending → World → Prop} : ∀ {Ds : List Nat} {w : World}, Ds.Nodup → (∀ D ∈ Ds, w.heap[D]? = some (.deferred (some []))) → LeavesIn F n P fn tmps R [] .returning (putAll w Ds) → LeavesInM F n P fn tmps R (Ds.map mkD) .returning w
  | [], w, _, _, h => h
  | D :: Ds, w, hn, hD, h => by
    rw [List.nodup_cons] at hn
    refine ⟨nofun, .inl ⟨D, _, rfl, run_takeDeferred (hD D (List.mem_cons_self ..)), leavesM hn.2 (fun E hE => ?_) h⟩⟩
    have hne : E ≠ D := fun e => hn.1 (e ▸ hE)
    rw [World.putObj_heap_other hne]
    exact hD E (List.mem_cons_of_mem _ hE)
theorem Fn.bodyF {f : FuncId} {fn : Func} {c : Code} {args : List VP} {Post : VP → List HP → Prop} (hf : P.funcs[f]? = some fn) (hb : fn.body = some c) (hn : fn.ntmps = fz) (ha : Nat.ble args.length fz = true)
    (k : ∀ B, B.ro = none → EvF P fz B (Kret P fn.results Post) c (ags 0 args) h) : Fn P f args h Post := by
  intro w W S vs hv hsat hsub hbd
  have hlv := hv.length
  have ha' := Nat.le_of_ble_eq_true ha
  refine callsIn_wide.1 (callsIn_of_wp_marks (n := 0) hf hb trivial (wpIn_mono (k ⟨w, W, S, hsub, none, []⟩ rfl [] _ w W S ⟨?_, rfl, ?_, hsat, Run.refl hsub hbd⟩ ⟨by simp, nofun⟩) ?_) rfl)
  · simp [hn, hlv]
    try omega
  · intro d p hd
    obtain ⟨_, h2⟩ := ags_rg hd
    simp only [Nat.sub_zero] at h2
    obtain ⟨v, hv1, hp⟩ := hv.get h2
    refine ⟨v, ?_, hp⟩
    have hlt : d < vs.length := (List.getElem?_eq_some_iff.1 hv1).1
    rw [Array.getElem?_append_left (by simpa using hlt)]
    simpa using hv1
  · rintro e a w' ⟨h1, h2, Ds, σ', h', W', S', hs, hd, hk⟩
    have fin : ∀ ps h1 hf, ResVs P σ' h' fn.results.toList ps → Sel h' h1 hf → Post (rOne ps) h1 → LeavesInM Fence.wide 0 P fn a.tmps (fun e w' => ∃ v r h' W' S', e = .returned v ∧ r.p w' W' v ∧ Post r h' ∧ Sat w' W' h' S' ∧ Run w W S w' W' S') a.defers .returning w' := by
      intro ps h1 hf hps hsel hpost
      obtain ⟨hr2, hev, hkp⟩ := hd.leave hs.run
      have hs2 : St fz (Ds.map mkD) w W S σ' h' a (putAll w' Ds) W' S' := ⟨hs.tmps, hs.defers, fun d p hdp => by
        obtain ⟨v, hv, hp⟩ := hs.regs d p hdp
        exact ⟨v, hv, p.st hev hp⟩, hs.sat.st hev hkp, hr2⟩
      obtain ⟨us, hus, hpu⟩ := hps.run hs2
      obtain ⟨T1, T2, hT1, _, _, hT⟩ := hsel.sat hs2.sat
      rw [hs.defers]
      refine leavesM hd.nd (fun D hD => (hd.at_ D hD).2.2.1) ?_
      refine ⟨if h : us.toArray.size = 1 then us.toArray[0] else .tuple us.toArray, ?_, _, rOne ps, h1, W', T1, rfl, ?_, hpost, hT1, hs2.run.less fun b hb => (hT b).2 (.inl hb)⟩
      · have hrv : results fn a.tmps = (fn.results.mapM (m := Sem) (rvS a.tmps) >>= fun vs => pure (if h : vs.size = 1 then vs[0] else .tuple vs)) := by
          unfold results
          congr 1
        have : (fn.results.mapM (m := Sem) (rvS a.tmps)).run P (putAll w' Ds) = .ok us.toArray (putAll w' Ds) := by
          rw [Array.mapM_eq_mapM_toList]
          simp only [Sem.run_map, hus]
          rfl
        rw [hrv]
        simp only [Sem.run_bind]
        rw [this]
        rfl
      · match ps, us, hpu with
        | [], [], _ => exact ⟨#[], rfl, trivial⟩
        | [p], [u], ⟨hp, _⟩ => exact hp
        | p :: q :: ps, u :: v :: us, hp => exact ⟨_, rfl, hp⟩
        | [], _ :: _, h => exact h.elim
        | _ :: _, [], h => exact h.elim
        | [_], _ :: _ :: _, h => exact h.2.elim
        | _ :: _ :: _, [_], h => exact h.2.elim
    cases e with
    | ret => obtain ⟨ps, h1, hf, h3, h4, h5⟩ := hk; exact fin ps h1 hf h3 h4 h5
    | normal => obtain ⟨ps, h1, hf, h3, h4, h5⟩ := hk; exact fin ps h1 hf h3 h4 h5
    | panic c => exact (h1 c rfl).elim
    | outgrown => exact (h2 rfl).elim
    | exit id => exact hk.elim
    | goto id => exact hk.elim
end
end Go.Proofs.YtagkniimpekhjaaGreat

set_option linter.unusedVariables false
set_option linter.unusedSectionVars false
set_option linter.unusedSimpArgs false
namespace Go.Proofs.YtagkniimpekhjaaGreat
open Go.RowKit

/-! ### the statement -/
/-- a loop's record, its block, and what the frame owns -/
def hrec (wL : World) (WL : WS) (l D : Nat) (rc : Loop) (hi : List HP) : HP where
  p := fun w W S => Evo wL WL w W ∧ w.heap[l]? = some (.loop rc) ∧ w.heap[D]? = some (.deferred (some [])) ∧ ∃ SI, Sat w W hi SI ∧ ¬ SI l ∧ ¬ SI D ∧ ∀ b, S b ↔ ((b = l ∨ b = D) ∨ SI b)
  st := by
    rintro w W w' W' S he hk ⟨h1, h2, h3, SI, h4, h5, h6, h7⟩
    exact ⟨h1.trans he, (hk l ((h7 l).2 (.inl (.inl rfl)))).trans h2, (hk D ((h7 D).2 (.inl (.inr rfl)))).trans h3, SI, h4.st he (fun b hb => hk b ((h7 b).2 (.inr hb))), h5, h6, h7⟩
  lt := by
    rintro w W S ⟨h1, h2, h3, SI, h4, h5, h6, h7⟩ b hb
    rcases (h7 b).1 hb with (rfl | rfl) | hb
    · exact (Array.getElem?_eq_some_iff.1 h2).1
    · exact (Array.getElem?_eq_some_iff.1 h3).1
    · exact h4.lt b hb
/-- .. after a round that left by a jump -/
def hrecX (wL : World) (WL : WS) (l D : Nat) (rc : Option Code → Loop) (Kx : Code → List HP → Prop) : HP where
  p := fun w W S => ∃ c hx, Kx c hx ∧ (hrec wL WL l D (rc (some c)) hx).p w W S
  st := fun he hk ⟨c, hx, h1, h2⟩ => ⟨c, hx, h1, HP.st _ he hk h2⟩
  lt := fun ⟨c, hx, h1, h2⟩ => HP.lt _ h2
def addp : List Nat → List VP → Regs → Regs
  | t :: ts, p :: ps, σ => addp ts ps ((t, p) :: σ)
  | _, _, σ => σ
theorem addp_st {fz : Nat} {w : World} {W : WS} : ∀ {ts : List Nat} {ps : List VP} {vs : List Value} {σ : Regs} {tm : Array Value}, VPs w W ps vs → tm.size = fz → (ts.all fun t => Nat.ble (t + 1) fz) = true → (∀ d p, rg σ d = some p → ∃ v, tm[d]? = some v ∧ p.p w W v) →
    ((ts.zip vs).foldl (fun t pv => t.setIfInBounds pv.1 pv.2) tm).size = fz ∧ ∀ d p, rg (addp ts ps σ) d = some p → ∃ v, ((ts.zip vs).foldl (fun t pv => t.setIfInBounds pv.1 pv.2) tm)[d]? = some v ∧ p.p w W v
  | [], _, _, _, tm, _, hz, _, hr => ⟨by simpa using hz, by simpa [addp] using hr⟩
  | t :: ts, [], [], σ, tm, _, hz, _, hr => ⟨by simpa using hz, by simpa [addp] using hr⟩
  | t :: ts, p :: ps, v :: vs, σ, tm, ⟨hp, hps⟩, hz, hb, hr => by
    rw [List.all_cons, Bool.and_eq_true] at hb
    have htl : t < fz := by have := Nat.le_of_ble_eq_true hb.1; omega
    have := addp_st (ts := ts) (ps := ps) (vs := vs) (σ := (t, p) :: σ) (tm := tm.setIfInBounds t v) hps (by simpa using hz) hb.2 (fun d q hq => by
      by_cases e : t = d
      · subst e
        have h1 : Nat.beq t t = true := by simp
        simp only [rg, h1, cond_true, Option.some.injEq] at hq
        subst hq
        exact ⟨v, by rw [Array.getElem?_setIfInBounds_self_of_lt (by rw [hz]; exact htl)], hp⟩
      · have h1 : Nat.beq t d = false := by rw [← Bool.not_eq_true]; exact fun h => e (Nat.eq_of_beq_eq_true h)
        simp only [rg, h1, cond_false] at hq
        obtain ⟨u, hu, hpu⟩ := hr d q hq
        exact ⟨u, by rw [Array.getElem?_setIfInBounds_ne e]; exact hu, hpu⟩)
    simpa [addp] using this
/-- how a round may end -/
def KR (I' : List HP) (Kx : Code → List HP → Prop) : KP
  | .normal, _, h' => ∃ hf, Sel h' I' hf
  | .ret, _, h' => Kx .ret h'
  | .exit id, _, h' => Kx (.exit id) h'
  | .goto t, _, h' => Kx (.goto t) h'
  | _, _, _ => False
def KA (P : Program) (fz : Nat) (I' : List HP) (Kx : Code → List HP → Prop) (body : Code) : KP
  | .normal, σ', h' => ∀ B', EvC P fz B' (KR I' Kx) body σ' h'
  | _, _, _ => False
theorem Sat.sub_run {w w' : World} {W W' : WS} {S S' T : Nat → Prop} {hi : List HP} (hr : Run w W S w' W' S') (hs : ∀ b, S b → W b) (h : Sat w W hi T) (hT : ∀ b, T b → ¬ S b) : Sat w' W' hi T :=
  h.st (hr.evo hs) (fun b hb => hr.keep b (h.lt b hb) (hT b hb))
section
variable {P : Program} {fz : Nat} {B : Bs} {K : KP} {σ : Regs} {h : List HP}
theorem one_round {w wL : World} {W WL : WS} {a : Act} {ts : List Nat} {assign body : Code} {qs : List VP} {fn : FuncId} {l D : Nat} {rc : LoopState → Option Code → Loop} {Ii Ij : List HP} {Kx : Code → List HP → Prop}
    (hrc : rc = fun st pe => { state := st, pending := pe, fn, tmps := a.tmps, params := ts.toArray, assign, body, defers := D })
    (hz : a.tmps.size = fz) (hregs : ∀ d p, rg σ d = some p → ∃ v, a.tmps[d]? = some v ∧ p.p wL WL v) (hlD : l ≠ D)
    (hbody : ∀ B', EvC P fz B' (KA P fz Ij Kx body) assign (addp ts qs σ) Ii) (hql : qs.length = ts.length)
    (hts : (ts.all fun t => Nat.ble (t + 1) fz) = true)
    {S : Nat → Prop} {vs : List Value} (hv : VPs w W qs vs) (hJ : (hrec wL WL l D (rc .ready none) Ii).p w W S) (hsub : ∀ b, S b → W b) (hbd : ∀ b, W b → b < w.heap.size) :
    ∃ fn tmps assign body, (Instr.yield l vs.toArray).run P w = .ok (.round l fn tmps assign body) w ∧
      RoundIn Fence.wide 0 P l fn tmps assign body w fun e w' => ∃ W' S', Run w W S w' W' S' ∧ ((e = .returned (.bool true) ∧ (hrec wL WL l D (rc .ready none) Ij).p w' W' S') ∨ (e = .returned (.bool false) ∧ (hrecX wL WL l D (fun pe => rc .done pe) Kx).p w' W' S')) := by
  subst hrc
  obtain ⟨he, hl, hDD, SI, hSI, hSl, hSD, hS⟩ := hJ
  have hlS : S l := (hS l).2 (.inl (.inl rfl))
  have hSS : ∀ b, SI b → S b := fun b hb => (hS b).2 (.inr hb)
  have hvl := hv.length
  have hy := run_yield (P := P) (args := vs.toArray) hl (by simp [hvl, hql])
  refine ⟨_, _, _, _, hy, ?_⟩
  have hzip : ts.toArray.zip vs.toArray = (ts.zip vs).toArray := by simp
  simp only [hzip]
  refine roundIn_of_wpIn (F := Fence.wide) trivial ?_
  obtain ⟨hz2, hregs2⟩ := addp_st (σ := σ) (tm := a.tmps) hv hz hts (fun d p hd => by
    obtain ⟨v, h1, h2⟩ := hregs d p hd
    exact ⟨v, h1, p.st he h2⟩)
  have hrun0 : Run w W SI w W SI := Run.refl (fun b hb => hsub b (hSS b hb)) hbd
  have h0 := hbody ⟨w, W, SI, fun b hb => hsub b (hSS b hb), some l, []⟩ ⟨(ts.zip vs).foldl (fun t pv => t.setIfInBounds pv.1 pv.2) a.tmps, []⟩ w W SI ⟨hz2, rfl, hregs2, hSI, hrun0⟩
  have h0' : assign.wpIn (Fence.wide.inRound l) 0 P (QK fz ⟨w, W, SI, fun b hb => hsub b (hSS b hb), some l, []⟩ (KA P fz Ij Kx body)) ⟨(ts.zip vs).foldl (fun t pv => t.setIfInBounds pv.1 pv.2) a.tmps, []⟩ w := h0
  have hfold : (ts.zip vs).toArray.foldl (fun t (x : Nat × Value) => t.setIfInBounds x.1 x.2) a.tmps = (ts.zip vs).foldl (fun t pv => t.setIfInBounds pv.1 pv.2) a.tmps := by simp
  have hlw : l < w.heap.size := (Array.getElem?_eq_some_iff.1 hl).1
  have hDw : D < w.heap.size := (Array.getElem?_eq_some_iff.1 hDD).1
  rw [hfold]
  refine wpIn_mono h0' ?_
  rintro e a1 w1 ⟨h1, h2, σ1, hh1, W1, S1, hs1, hk1⟩
  have hn : ∀ {w' : World} {W' : WS} {S' : Nat → Prop}, Run w W SI w' W' S' → ¬ S' l ∧ ¬ S' D := fun hr => ⟨fun h => by
    rcases hr.foot l h with h | h
    · exact hSl h
    · omega, fun h => by
    rcases hr.foot D h with h | h
    · exact hSD h
    · omega⟩
  cases e with
  | normal =>
    have hr1 : Run w W SI w1 W1 S1 := hs1.run
    obtain ⟨hl1n, hD1n⟩ := hn hr1
    have hl1 := (hr1.keep l hlw hSl).trans hl
    have hb1 := run_beginRound (P := P) hl1 rfl
    refine ⟨_, hb1, ?_⟩
    have hWl : W1 l := (hr1.frame l hlw hSl).2 (hsub l hlS)
    have hWD : W1 D := (hr1.frame D hDw hSD).2 (hsub D ((hS D).2 (.inl (.inr rfl))))
    -- the world after the record is busy
    obtain ⟨w2, hw2⟩ : ∃ w2, w1.putObj l (.loop { state := .busy, pending := none, fn, tmps := a.tmps, params := ts.toArray, assign, body, defers := D }) = w2 := ⟨_, rfl⟩
    have hrp : Run w1 W1 (fun b => b = l ∨ S1 b) w2 W1 (fun b => b = l ∨ S1 b) := by
      rw [← hw2]
      exact run_put _ (.inl rfl) (fun b hb => hb.elim (fun e => e ▸ hWl) (hr1.sub b)) hr1.bound
    have hev2 : Evo w1 W1 w2 W1 := hrp.evo (fun b hb => hb.elim (fun e => e ▸ hWl) (hr1.sub b))
    have hsat2 : Sat w2 W1 hh1 S1 := hs1.sat.st hev2 (fun b hb => by rw [← hw2]; exact World.putObj_heap_other (fun e => hl1n (e ▸ hb)))
    have hs2 : St fz [] w2 W1 S1 σ1 hh1 a1 w2 W1 S1 := ⟨hs1.tmps, hs1.defers, fun d p hd => by
      obtain ⟨v, g1, g2⟩ := hs1.regs d p hd
      exact ⟨v, g1, p.st hev2 g2⟩, hsat2, Run.refl hr1.sub hrp.bound⟩
    have h3 := hk1 ⟨w2, W1, S1, hr1.sub, some l, []⟩ a1 w2 W1 S1 hs2
    have h3' : body.wpIn (Fence.wide.inRound l) 0 P (QK fz ⟨w2, W1, S1, hr1.sub, some l, []⟩ (KR Ij Kx)) a1 w2 := h3
    rw [hw2]
    refine wpIn_mono h3' ?_
    rintro e a3 w3 ⟨g1, g2, σ3, hh3, W3, S3, hs3, hk3⟩
    have hr3 : Run w2 W1 S1 w3 W3 S3 := hs3.run
    have hsz2 : w2.heap.size = w1.heap.size := by rw [← hw2]; simp
    have hlw1 : l < w1.heap.size := Nat.lt_of_lt_of_le hlw hr1.size
    have hDw1 : D < w1.heap.size := Nat.lt_of_lt_of_le hDw hr1.size
    have hl3 : w3.heap[l]? = some (.loop { state := .busy, pending := none, fn, tmps := a.tmps, params := ts.toArray, assign, body, defers := D }) := (hr3.keep l (by omega) hl1n).trans (by rw [← hw2]; exact World.putObj_heap_same hlw1)
    have hD3 : w3.heap[D]? = some (.deferred (some [])) := (hr3.keep D (by omega) hD1n).trans (by rw [← hw2, World.putObj_heap_other (Ne.symm hlD)]; exact (hr1.keep D hDw hSD).trans hDD)
    have hl3n : ¬ S3 l := fun h => by
      rcases hr3.foot l h with h | h
      · exact hl1n h
      · omega
    have hD3n : ¬ S3 D := fun h => by
      rcases hr3.foot D h with h | h
      · exact hD1n h
      · omega
    have hW3l : W3 l := (hr3.frame l (by omega) hl1n).2 hWl
    have hW3D : W3 D := (hr3.frame D (by omega) hD1n).2 hWD
    -- the whole way
    have fin : ∀ (jump : Option Code) (S4 : Nat → Prop), (∀ b, S4 b → S3 b) → ∃ v w4, (Instr.endRound l jump).run P w3 = .ok v w4 ∧ v = .bool jump.isNone ∧ Run w W S w4 W3 (fun b => (b = l ∨ b = D) ∨ S4 b) ∧ Evo wL WL w4 W3 ∧ w4.heap[l]? = some (.loop { state := if jump.isNone then .ready else .done, pending := jump, fn, tmps := a.tmps, params := ts.toArray, assign, body, defers := D }) ∧ w4.heap[D]? = some (.deferred (some [])) ∧ (∀ hi, Sat w3 W3 hi S4 → Sat w4 W3 hi S4) ∧ ¬ S4 l ∧ ¬ S4 D := by
      intro jump S4 hS4
      have he4 := run_endRound (P := P) jump hl3
      obtain ⟨w4, hw4⟩ : ∃ w4, w3.putObj l (.loop { state := if jump.isNone then .ready else .done, pending := jump, fn, tmps := a.tmps, params := ts.toArray, assign, body, defers := D }) = w4 := ⟨_, rfl⟩
      have hlw3 : l < w3.heap.size := (Array.getElem?_eq_some_iff.1 hl3).1
      have hrp4 : Run w3 W3 (fun b => (b = l ∨ b = D) ∨ S3 b) w4 W3 (fun b => (b = l ∨ b = D) ∨ S3 b) := by
        rw [← hw4]
        refine run_put _ (.inl (.inl rfl)) (fun b hb => ?_) hr3.bound
        rcases hb with (e | e) | hb
        · exact e ▸ hW3l
        · exact e ▸ hW3D
        · exact hr3.sub b hb
      have hT : ∀ b, (b = l ∨ b = D) → b < w2.heap.size := fun b hb => by rcases hb with e | e <;> omega
      have hTl : ∀ b, S1 b → ¬ (b = l ∨ b = D) := fun b hb h => by
        rcases h with e | e
        · exact hl1n (e ▸ hb)
        · exact hD1n (e ▸ hb)
      have hr3' := (hr3.framed (T := fun b => b = l ∨ b = D) (S := fun b => (b = l ∨ b = D) ∨ S1 b) hT hTl (fun b => or_comm) (fun b hb => by
        rcases hb with (e | e) | hb
        · exact e ▸ hWl
        · exact e ▸ hWD
        · exact hr1.sub b hb)).1
      have hr1' := (hr1.framed (T := fun b => b = l ∨ b = D) (S := S) (fun b hb => by rcases hb with e | e <;> omega) (fun b hb h => by
        rcases h with e | e
        · exact hSl (e ▸ hb)
        · exact hSD (e ▸ hb)) (fun b => (hS b).trans or_comm) hsub).1
      have hrp2 : Run w1 W1 (fun b => S1 b ∨ (b = l ∨ b = D)) w2 W1 (fun b => (b = l ∨ b = D) ∨ S1 b) := by
        rw [← hw2]
        refine (run_put _ (.inr (.inl rfl)) (fun b hb => ?_) hr1.bound).less (fun b hb => hb.symm)
        rcases hb with hb | e | e
        · exact hr1.sub b hb
        · exact e ▸ hWl
        · exact e ▸ hWD
      have hrA : Run w W S w3 W3 (fun b => (b = l ∨ b = D) ∨ S3 b) := ((hr1'.trans hrp2).trans hr3').less (fun b hb => hb.symm)
      have hrB : Run w W S w4 W3 (fun b => (b = l ∨ b = D) ∨ S4 b) := (hrA.trans hrp4).less (fun b hb => hb.imp id (hS4 b))
      have hev4 : Evo w3 W3 w4 W3 := hrp4.evo (fun b hb => by
        rcases hb with (e | e) | hb
        · exact e ▸ hW3l
        · exact e ▸ hW3D
        · exact hr3.sub b hb)
      refine ⟨_, _, he4, rfl, ?_, ?_, ?_, ?_, fun hi hsi => ?_, fun h => hl3n (hS4 l h), fun h => hD3n (hS4 D h)⟩
      · exact hw4 ▸ hrB
      · exact hw4 ▸ he.trans (hrB.evo hsub)
      · exact World.putObj_heap_same hlw3
      · rw [World.putObj_heap_other (Ne.symm hlD)]; exact hD3
      · have := hsi.st hev4 (fun b hb => by rw [← hw4]; exact World.putObj_heap_other (fun e => hl3n (hS4 l (e ▸ hb))))
        exact hw4 ▸ this
    have stop : ∀ c, Kx c hh3 → ∃ v w4, (Instr.endRound l (some c)).run P w3 = .ok v w4 ∧ ∃ W' S', Run w W S w4 W' S' ∧ ((Ending.returned v = .returned (.bool true) ∧ (hrec wL WL l D { state := .ready, pending := none, fn, tmps := a.tmps, params := ts.toArray, assign, body, defers := D } Ij).p w4 W' S') ∨ (Ending.returned v = .returned (.bool false) ∧ (hrecX wL WL l D (fun pe => { state := .done, pending := pe, fn, tmps := a.tmps, params := ts.toArray, assign, body, defers := D }) Kx).p w4 W' S')) := by
      intro c hc
      obtain ⟨v, w4, h4, hv4, hr4, hev4, hl4, hD4, hs4, hn4, hn4'⟩ := fin (some c) S3 (fun _ h => h)
      exact ⟨v, w4, h4, W3, _, hr4, .inr ⟨by rw [hv4]; rfl, c, hh3, hc, hev4, hl4, hD4, S3, hs4 _ hs3.sat, hn4, hn4', fun b => Iff.rfl⟩⟩
    cases e with
    | normal =>
      obtain ⟨hf, hsel⟩ := hk3
      obtain ⟨T1, T2, hT1, _, _, hT⟩ := hsel.sat hs3.sat
      obtain ⟨v, w4, h4, hv4, hr4, hev4, hl4, hD4, hs4, hn4, hn4'⟩ := fin none T1 (fun b hb => (hT b).2 (.inl hb))
      exact ⟨v, w4, h4, W3, _, hr4, .inl ⟨by rw [hv4]; rfl, hev4, hl4, hD4, T1, hs4 _ hT1, hn4, hn4', fun b => Iff.rfl⟩⟩
    | ret => exact stop _ hk3
    | exit id => exact stop _ hk3
    | goto t => exact stop _ hk3
    | panic c => exact hk3
    | outgrown => exact hk3
  | exit id => exact hk1
  | goto id => exact hk1
  | ret => exact hk1
  | panic c => exact hk1
  | outgrown => exact hk1
end
end Go.Proofs.YtagkniimpekhjaaGreat

set_option linter.unusedVariables false
set_option linter.unusedSectionVars false
set_option linter.unusedSimpArgs false
namespace Go.Proofs.YtagkniimpekhjaaGreat
open Go.RowKit
section
variable {P : Program} {fz : Nat} {B : Bs} {K : KP} {σ : Regs} {h : List HP}
theorem rangeF {α : Type} {gf : FuncId} {caps : List Value} {hc hc' : List HP} {px : α → List VP} {xs : List α} {ts : List Nat} {assign body : Code} {x : Operand} (hro : B.ro = none) (hit : IterFn P gf caps hc hc' px xs) (hgo : isGo P gf = true) (I : Nat → List HP) (Kx : Code → List HP → Prop) (hsel : Sel h hc (I 0))
    (hpx : ∀ x, (px x).length = ts.length)
    (hbody : ∀ i x, xs[i]? = some x → ∀ B', EvC P fz B' (KA P fz (I (i + 1)) Kx body) assign (addp ts (px x) σ) (I i))
    (hdone : K .normal σ (I xs.length ++ hc')) (hstop : ∀ c hx, Kx c hx → EvF P fz B K c σ (hx ++ hc'))
    (hx : og σ x = some (vfn gf [] caps) := by rfl) (hts : (ts.all fun t => Nat.ble (t + 1) fz) = true := by rfl) :
    EvF P fz B K (.rangeFunc x ts.toArray assign body) σ h := by
  intro Ds a w W S hs hd
  refine wpIn_rangeFunc (F := FB B) ?_
  intro fn hfn
  have hrd : (FB B).round = none := hro
  rw [hrd]
  obtain ⟨SC, SI, hC, hI, hCI, hS⟩ := hsel.sat hs.sat
  obtain ⟨rc, hrc⟩ : ∃ rc : LoopState → Option Code → Loop, rc = fun st pe => { state := st, pending := pe, fn, tmps := a.tmps, params := ts.toArray, assign, body, defers := w.heap.size } := ⟨_, rfl⟩
  obtain ⟨W1, hW1⟩ : ∃ W1, (w.alloc (.deferred (some []))).alloc (.loop (rc .ready none)) = W1 := ⟨_, rfl⟩
  have hL1 : W1.heap[w.heap.size + 1]? = some (.loop (rc .ready none)) := by
    rw [← hW1]; have := World.alloc_heap_new (w.alloc (.deferred (some []))) (.loop (rc .ready none)); rwa [World.size_alloc] at this
  have hK1 : W1.heap[w.heap.size]? = some (.deferred (some [])) := by
    rw [← hW1]; exact (Below.heap_alloc _ _ _ (by simp)).trans (World.alloc_heap_new w _)
  have r1 := Run.new hs.run.sub hs.run.bound (.deferred (some []))
  have r2 := Run.new r1.sub r1.bound (.loop (rc .ready none))
  have hszA : ({ w with heap := w.heap.push (.deferred (some [])) } : World).heap.size = w.heap.size + 1 := by simp
  have hWe : ({ { w with heap := w.heap.push (.deferred (some [])) } with heap := ({ w with heap := w.heap.push (.deferred (some [])) } : World).heap.push (.loop (rc .ready none)) } : World) = W1 := hW1
  rw [hszA, hWe] at r2
  obtain ⟨V1, hV1⟩ : ∃ V1 : WS, (fun b => (W b ∨ b = w.heap.size) ∨ b = w.heap.size + 1) = V1 := ⟨_, rfl⟩
  rw [hV1] at r2
  have r12 := r1.trans r2
  have hev1 : Evo w W W1 V1 := r12.evo hs.run.sub
  have hsz1 : W1.heap.size = w.heap.size + 2 := by rw [← hW1]; simp
  have hkp : ∀ b, b < w.heap.size → W1.heap[b]? = w.heap[b]? := fun b hb => by
    rw [← hW1, Below.heap_alloc _ _ _ (by simp; omega), Below.heap_alloc _ _ _ hb]
  have hC1 : Sat W1 V1 hc SC := hC.st hev1 (fun b hb => hkp b (hC.lt b hb))
  have hI1 : Sat W1 V1 (I 0) SI := hI.st hev1 (fun b hb => hkp b (hI.lt b hb))
  have hSlt : ∀ b, S b → b < w.heap.size := fun b hb => hs.run.bound b (hs.run.sub b hb)
  have hnl : ∀ b, S b → b ≠ w.heap.size ∧ b ≠ w.heap.size + 1 := fun b hb => by have := hSlt b hb; omega
  have hregs1 : ∀ d p, rg σ d = some p → ∃ v, a.tmps[d]? = some v ∧ p.p W1 V1 v := fun d p hd => by
    obtain ⟨v, g1, g2⟩ := hs.regs d p hd
    exact ⟨v, g1, p.st hev1 g2⟩
  have hgv : a.eval x = .func (.func gf) #[] caps.toArray := hs.eval hx
  have hJ0 : (hrec W1 V1 (w.heap.size + 1) w.heap.size (rc .ready none) (I 0)).p W1 V1 (fun b => (b = w.heap.size + 1 ∨ b = w.heap.size) ∨ SI b) :=
    ⟨Evo.refl _ _, hL1, hK1, SI, hI1, fun h => (hnl _ ((hS _).2 (.inr h))).2 rfl, fun h => (hnl _ ((hS _).2 (.inr h))).1 rfl, fun _ => Iff.rfl⟩
  have hrds : Rounds P (w.heap.size + 1) px (fun i => hrec W1 V1 (w.heap.size + 1) w.heap.size (rc .ready none) (I i)) (hrecX W1 V1 (w.heap.size + 1) w.heap.size (fun pe => rc .done pe) Kx) xs := by
    intro i y hi w2 W2 S2 vs hv hJ hsub hbd
    exact one_round hrc hs.tmps hregs1 (by omega) (hbody i y hi) (hpx y) hts hv hJ hsub hbd
  have hcall := hit _ _ _ hrds W1 V1 (fun b => ((b = w.heap.size + 1 ∨ b = w.heap.size) ∨ SI b) ∨ SC b) (.func (.yield (w.heap.size + 1)) #[] #[] :: caps) ⟨rfl, VPs.visL caps⟩
    ⟨_, SC, hJ0, hC1, (fun b hb hc => by
      rcases hb with (e | e) | hb
      · exact (hnl b ((hS b).2 (.inl hc))).2 e
      · exact (hnl b ((hS b).2 (.inl hc))).1 e
      · exact hCI b hc hb), fun _ => Iff.rfl⟩
    (fun b hb => r2.sub b (by
      rcases hb with ((e | e) | hb) | hb
      · exact .inl e
      · exact .inr (.inl e)
      · exact .inr (.inr ((hS b).2 (.inr hb)))
      · exact .inr (.inr ((hS b).2 (.inl hb))))) r2.bound
  have hSeq : (fun b => b = w.heap.size + 1 ∨ b = w.heap.size ∨ S b) = fun b => ((b = w.heap.size + 1 ∨ b = w.heap.size) ∨ SI b) ∨ SC b := by
    funext b
    rw [hS b]
    exact propext ⟨fun h => by rcases h with h | h | h | h <;> simp [h], fun h => by rcases h with ((h | h) | h) | h <;> simp [h]⟩
  rw [hSeq] at r12
  refine ⟨w.heap.size + 1, [mkD w.heap.size], W1, { target := .fn (.func gf) caps.toArray, args := #[.func (.yield (w.heap.size + 1)) #[] #[]] }, W1, gf,
    (.func (.yield (w.heap.size + 1)) #[] #[] :: caps).toArray, W1, ?_, ?_, ?_, ?_, fun h => (by cases h), ?_⟩
  · rw [← hW1, hrc]; exact run_enterLoop_outer _ _ _ _ _
  · simp only [resolve, hgv]
    simp [go_sem]
  · intro f' hf'; exact trivial
  · simp only [invoke]
    have : #[Value.func (.yield (w.heap.size + 1)) #[] #[]] ++ caps.toArray = (Value.func (.yield (w.heap.size + 1)) #[] #[] :: caps).toArray := by simp
    rw [this, run_callFunc hgo]
  · refine (callsIn_wide (n := 0)).2 (hcall.mono ?_)
    rintro e w2 ⟨v, r, h', W2, S2, rfl, hp, hpost, hsat, hr⟩
    -- what is left behind
    have fin : ∀ (pe : Option Code) (st : LoopState) (hx : List HP) (hne : st ≠ .busy) (S2 : Nat → Prop), Run W1 V1 (fun b => ((b = w.heap.size + 1 ∨ b = w.heap.size) ∨ SI b) ∨ SC b) w2 W2 S2 → Sat w2 W2 (hrec W1 V1 (w.heap.size + 1) w.heap.size (rc st pe) hx :: hc') S2 →
        ∃ w3, (Instr.endLoop (w.heap.size + 1)).run P w2 = .ok pe w3 ∧ ∃ S3, St fz ((w.heap.size :: Ds).map mkD) B.w0 B.W0 B.S0 σ (hx ++ hc') { a with defers := [mkD w.heap.size] ++ a.defers } w3 W2 S3 ∧ DOk B.w0 (w.heap.size :: Ds) w3 W2 S3 := by
      intro pe st hx hne S2 hr hsat
      obtain ⟨SJ, SC', ⟨he, hl, hDD, SI', hSI, hSl, hSD, hSJ⟩, hC', hdj, hS2⟩ := hsat
      have hend := run_endLoop (P := P) hl (by rw [hrc]; exact hne)
      have hlS : S2 (w.heap.size + 1) := (hS2 _).2 (.inl ((hSJ _).2 (.inl (.inl rfl))))
      have hDS : S2 w.heap.size := (hS2 _).2 (.inl ((hSJ _).2 (.inl (.inr rfl))))
      obtain ⟨w3, hw3⟩ : ∃ w3, w2.putObj (w.heap.size + 1) (.loop { rc st pe with state := .exhausted }) = w3 := ⟨_, rfl⟩
      have hrp : Run w2 W2 S2 w3 W2 S2 := hw3 ▸ run_put _ hlS hr.sub hr.bound
      have hev : Evo w2 W2 w3 W2 := hrp.evo hr.sub
      have hnot : ∀ b, (SI' b ∨ SC' b) → b ≠ w.heap.size + 1 ∧ b ≠ w.heap.size := fun b hb => by
        rcases hb with hb | hb
        · exact ⟨fun e => hSl (e ▸ hb), fun e => hSD (e ▸ hb)⟩
        · exact ⟨fun e => hdj b ((hSJ b).2 (.inl (.inl e))) hb, fun e => hdj b ((hSJ b).2 (.inl (.inr e))) hb⟩
      have hsub3 : ∀ b, (SI' b ∨ SC' b) → S2 b := fun b hb => (hS2 b).2 (hb.imp (fun h => (hSJ b).2 (.inr h)) id)
      have hj := Sat.join hSI hC' (fun b hb hc => hdj b ((hSJ b).2 (.inr hb)) hc)
      have hj3 : Sat w3 W2 (hx ++ hc') (fun b => SI' b ∨ SC' b) := hj.st hev (fun b hb => by rw [← hw3]; exact World.putObj_heap_other (hnot b hb).1)
      have hall : Run w W S w3 W2 (fun b => SI' b ∨ SC' b) := ((r12.trans hr).trans hrp).less hsub3
      have hev3 : Evo w W w3 W2 := hall.evo hs.run.sub
      have hd3 := hd.run hall
      refine ⟨w3, ?_, _, ⟨hs.tmps, by rw [List.map_cons, ← hs.defers]; rfl, fun d p hd => ?_, hj3, hs.run.trans hall⟩, ⟨List.nodup_cons.2 ⟨fun hm => ?_, hd.nd⟩, fun D hD => ?_⟩⟩
      · rw [← hw3]
        rw [hend]
        subst hrc
        rfl
      · obtain ⟨v, g1, g2⟩ := hs.regs d p hd
        exact ⟨v, g1, p.st hev3 g2⟩
      · have := (Array.getElem?_eq_some_iff.1 (hd.at_ _ hm).2.2.1).1
        omega
      · rcases List.mem_cons.1 hD with rfl | hD
        · exact ⟨hs.run.size, hr.sub _ hDS, by rw [← hw3, World.putObj_heap_other (by omega)]; exact hDD, fun h => (hnot _ h).2 rfl⟩
        · exact hd3.at_ D hD
    rcases hpost with rfl | rfl
    · obtain ⟨w3, h3, S3, hs3, hd3⟩ := fin none .ready (I xs.length) (by nofun) S2 hr hsat
      exact ⟨none, w3, h3, nofun, nofun, _, σ, _, W2, S3, hs3, hd3, hdone⟩
    · obtain ⟨SJ, SC', ⟨c, hx, hkx, hJ⟩, hC', hdj, hS2⟩ := hsat
      obtain ⟨w3, h3, S3, hs3, hd3⟩ := fin (some c) .done hx (by nofun) S2 hr ⟨SJ, SC', hJ, hC', hdj, hS2⟩
      exact ⟨some c, w3, h3, hstop c hx hkx _ _ w3 W2 S3 hs3 hd3⟩
end
end Go.Proofs.YtagkniimpekhjaaGreat

set_option linter.unusedVariables false
set_option linter.unusedSectionVars false
set_option linter.unusedSimpArgs false
namespace Go.Proofs.YtagkniimpekhjaaGreat
open Go.RowKit
section
variable {P : Program} {fz : Nat} {B : Bs} {K : KP} {ops : Array Oper} {rest : List Oper} {σ : Regs} {h : List HP} {d : Nat} {ty : TypeId} {pos : String} {af : Array Edge} {g : Option (Nat × Bool)}
/-- an operation whose guard says no -/
theorem skp {o oj : Oper} {j dj : Nat} {want b : Bool} (hb : b ≠ want) (kk : EvL P fz B K ops rest σ h) (hgd : o.guard = some (j, want) := by rfl) (h1 : ops[j]? = some oj := by rfl) (h2 : oj.dst = some dj := by rfl) (h3 : rg σ dj = some (vbool b) := by rfl) (hn : (match o.dst with | some d => rg σ d | none => none) = none := by rfl) :
    EvL P fz B K ops (o :: rest) σ h := by
  intro a w W S hs
  refine wpListIn_step fun C hC => ?_
  obtain ⟨v, hv, hp⟩ := hs.regs dj _ h3
  have hp' : v = .bool b := hp
  subst hp'
  have hw : ¬ Region.wanted o (yielded ops a.tmps) = true := by
    unfold Region.wanted
    rw [hgd]
    simp [yielded, h1, h2, hv]
    exact hb
  rw [if_neg hw]
  refine ⟨fun _ _ => trivial, hC _ _ (kk _ _ W S ?_)⟩
  refine ⟨?_, ?_, fun d' q hq => ?_, hs.sat, hs.run⟩
  · cases o.dst <;> simp [Act.put, hs.tmps]
  · cases o.dst <;> simp [Act.put, hs.defers]
  · obtain ⟨u, hu, hpu⟩ := hs.regs d' q hq
    refine ⟨u, ?_, hpu⟩
    cases hd : o.dst with
    | none => exact hu
    | some e =>
      rw [hd] at hn
      have hn2 : rg σ e = none := hn
      have : e ≠ d' := fun he => by subst he; rw [hq] at hn2; cases hn2
      simp only [Act.put]
      rw [Array.getElem?_setIfInBounds_ne this]
      exact hu
/-- the iterator calls yield; what came of it is a truth value -/
theorem callyB {α : Type} {px : α → List VP} {J : Nat → HP} {Jx : HP} {xs : List α} {l i : Nat} {x : α} {j : Nat} {f : Operand} {as : List Operand} {ts : Array TypeId} (hr : Rounds P l px J Jx xs) (hi : xs[i]? = some x) (hj : h[j]? = some (J i))
    (kk : ∀ b : Bool, EvL P fz B K ops rest ((d, vbool b) :: σ) (h.set j (bif b then J (i + 1) else Jx))) (hf : og σ f = some (vyield l) := by rfl) (ha : ogs σ as = some (px x) := by rfl) (hd : Nat.ble (d + 1) fz = true := by rfl) (hg : Gk ops σ g := by first | exact gk0 | exact gk1 rfl rfl rfl (by assumption)) :
    EvL P fz B K ops (⟨some d, .call { callee := .value f, args := as.toArray, argTypes := ts }, ty, pos, af, g⟩ :: rest) σ h :=
  cally hr hi hj (kk true) (kk false) hf ha hd hg
/-- .. the same is known ahead of each round -/
theorem rangeF0 {α : Type} {gf : FuncId} {caps : List Value} {hc hc' : List HP} {px : α → List VP} {xs : List α} {ts : List Nat} {assign body : Code} {x : Operand} {I : List HP} (hro : B.ro = none) (hit : IterFn P gf caps hc hc' px xs) (hgo : isGo P gf = true) (Kx : Code → List HP → Prop) (hsel : Sel h hc I)
    (hpx : ∀ x, (px x).length = ts.length)
    (hbody : ∀ (i : Nat) (x : α), xs[i]? = some x → ∀ B', EvC P fz B' (KA P fz I Kx body) assign (addp ts (px x) σ) I)
    (hdone : K .normal σ (I ++ hc')) (hstop : ∀ c hx, Kx c hx → EvF P fz B K c σ (hx ++ hc'))
    (hx : og σ x = some (vfn gf [] caps) := by rfl) (hts : (ts.all fun t => Nat.ble (t + 1) fz) = true := by rfl) :
    EvF P fz B K (.rangeFunc x ts.toArray assign body) σ h :=
  rangeF hro hit hgo (fun _ => I) Kx hsel hpx hbody hdone hstop hx hts
end
end Go.Proofs.YtagkniimpekhjaaGreat

set_option linter.unusedVariables false
set_option linter.unusedSectionVars false
set_option linter.unusedSimpArgs false
namespace Go.Proofs.YtagkniimpekhjaaGreat
open Go.RowKit
/-- a variable that has a row, the row -/
def hSl (c ct e : Nat) (l : List Int) : HP where
  p := fun w W S => ∃ v : Value, v.oneCell' = true ∧ (l = [] → v = .slice none 0 0) ∧ Sat w W [hvar c ct [vis v], hrow v e 1 eint l] S
  st := fun he hk ⟨v, h1, h2, h3⟩ => ⟨v, h1, h2, h3.st he hk⟩
  lt := fun ⟨v, h1, h2, h3⟩ b hb => h3.lt b hb
section
variable {P : Program} {fz : Nat} {B : Bs} {K : KP} {ops : Array Oper} {rest : List Oper} {σ : Regs} {h : List HP} {c ct e : Nat} {l : List Int}
theorem Sat.opn {w : World} {W : WS} {S : Nat → Prop} {x y z : HP} (hx : ∀ S1, z.p w W S1 → Sat w W [x, y] S1) (hs : Sat w W (z :: h) S) : Sat w W (x :: y :: h) S := by
  obtain ⟨S1, S2, h1, h2, h3, h4⟩ := hs
  exact (Sat.join (a := [x, y]) (hx S1 h1) h2 h3).congr fun b => (h4 b).symm
theorem opnC {cd : Code} (kk : ∀ v : Value, v.oneCell' = true → (l = [] → v = .slice none 0 0) → EvC P fz B K cd σ (hvar c ct [vis v] :: hrow v e 1 eint l :: h)) : EvC P fz B K cd σ (hSl c ct e l :: h) := fun a w W S hs => by
  obtain ⟨S1, S2, ⟨v, h1, h2, h3⟩, g2, g3, g4⟩ := hs.sat
  exact kk v h1 h2 a w W S ⟨hs.tmps, hs.defers, hs.regs, (Sat.join (a := [hvar c ct [vis v], hrow v e 1 eint l]) h3 g2 g3).congr fun b => (g4 b).symm, hs.run⟩
theorem opnF {cd : Code} (kk : ∀ v : Value, v.oneCell' = true → (l = [] → v = .slice none 0 0) → EvF P fz B K cd σ (hvar c ct [vis v] :: hrow v e 1 eint l :: h)) : EvF P fz B K cd σ (hSl c ct e l :: h) := fun Ds a w W S hs hd => by
  obtain ⟨S1, S2, ⟨v, h1, h2, h3⟩, g2, g3, g4⟩ := hs.sat
  exact kk v h1 h2 Ds a w W S ⟨hs.tmps, hs.defers, hs.regs, (Sat.join (a := [hvar c ct [vis v], hrow v e 1 eint l]) h3 g2 g3).congr fun b => (g4 b).symm, hs.run⟩ hd
theorem pkF {cd : Code} {v : Value} {h' : List HP} (hv : v.oneCell' = true) (hn : l = [] → v = .slice none 0 0) (hsel : Sel h [hvar c ct [vis v], hrow v e 1 eint l] h') (kk : EvF P fz B K cd σ (hSl c ct e l :: h')) : EvF P fz B K cd σ h := fun Ds a w W S hs hd => by
  obtain ⟨S1, S2, g1, g2, g3, g4⟩ := hsel.sat hs.sat
  exact kk Ds a w W S ⟨hs.tmps, hs.defers, hs.regs, ⟨S1, S2, ⟨v, hv, hn, g1⟩, g2, g3, g4⟩, hs.run⟩ hd
theorem pkL {v : Value} {h' : List HP} (hv : v.oneCell' = true) (hn : l = [] → v = .slice none 0 0) (hsel : Sel h [hvar c ct [vis v], hrow v e 1 eint l] h') (kk : EvL P fz B K ops rest σ (hSl c ct e l :: h')) : EvL P fz B K ops rest σ h := fun a w W S hs => by
  obtain ⟨S1, S2, g1, g2, g3, g4⟩ := hsel.sat hs.sat
  exact kk a w W S ⟨hs.tmps, hs.defers, hs.regs, ⟨S1, S2, ⟨v, hv, hn, g1⟩, g2, g3, g4⟩, hs.run⟩
end
end Go.Proofs.YtagkniimpekhjaaGreat
