/- A part of the proof: contracts over a program of the model. -/
import Derived.Test.YtagkniimpekhjaaGreatX9
import Derived.Scope
set_option linter.unusedVariables false
set_option linter.unusedSectionVars false
set_option linter.unusedSimpArgs false
namespace Go.Proofs.YtagkniimpekhjaaGreat
open Go.RowKit

section
variable {P : Program} {fz : Nat} {B : Bs} {φ : Env} {s : XS} {a : Act} {w : World} {W : WS} {S : Nat → Prop}
theorem ok_call {c : Call} {o : Oper} {r : AV × List Ent × Nat} (ho : o.op = .call c) (h : valE P s (.call c) = some r) : OkV P fz B s r.1 r.2.1 r.2.2 (fun a => execOp a.eval o) := by
  cases hc : c.callee with
  | value f => simp only [valE, hc] at h; cases h
  | invoke x m => simp only [valE, hc] at h; cases h
  | builtin b =>
    cases b with
    | len => exact ok_len ho hc h
    | cap => exact ok_cap ho hc h
    | max => exact ok_max ho hc h
    | copy => exact ok_copy ho hc h
    | min => exact ok_min ho hc h
    | clear => exact ok_clear ho hc h
    | append =>
      simp only [valE, hc] at h
      obtain ⟨l, h1, h⟩ := bnd_some h
      split at h
      · rename_i av bv t t' hty
        obtain ⟨x, xs, hx, h2, h3⟩ := oEs_one (x := .func 0) h1
        obtain ⟨y, ys, hy, h4, h5⟩ := oEs_one (x := .func 0) h3
        have := oEs_nil h5
        subst this
        subst hy
        split at h
        · rename_i k m hk
          rw [asI_eq hk] at h4
          exact ok_appz ho hc (arr2 hx) (arr2 hty) h2 h4 h
        · obtain ⟨h9, h8⟩ := lp1_some h
          have := Nat.eq_of_beq_eq_true h9
          subst this
          exact ok_append ho hc (arr2 hx) (arr2 hty) h2 h4 h8
      · cases h
    | _ => simp only [valE, hc] at h; cases h
theorem valE_ok {o : Oper} {r : AV × List Ent × Nat} (h : valE P s o.op = some r) : OkV P fz B s r.1 r.2.1 r.2.2 (fun a => execOp a.eval o) := by
  cases ho : o.op with
  | move x => rw [ho] at h; exact ok_move (.inl ho) h
  | assign x => rw [ho] at h; exact ok_move (.inr ho) h
  | pick c x y => rw [ho] at h; exact ok_pick ho h
  | load t x => rw [ho] at h; exact ok_load ho h
  | fieldAddr t x f => rw [ho] at h; exact ok_fieldAddr ho h
  | field t x f => rw [ho] at h; exact ok_field ho h
  | nilCheck x => rw [ho] at h; exact ok_nilCheck ho h
  | binOp op t x y t' => rw [ho] at h; exact ok_bin ho h
  | unOp op t x => rw [ho] at h; exact ok_un ho h
  | convert t u x => rw [ho] at h; exact ok_cvt ho h
  | extract x i => rw [ho] at h; exact ok_ext ho h
  | alloc e => rw [ho] at h; exact ok_alloc ho h
  | box e x => rw [ho] at h; exact ok_box ho h
  | build t xs => rw [ho] at h; exact ok_build ho h
  | buildSlice t n xs => rw [ho] at h; exact ok_buildSlice ho h
  | indexAddr t x y => rw [ho] at h; exact ok_index ho h
  | slice t x lo hi m =>
    rw [ho] at h
    cases m with
    | none => exact ok_slice ho h
    | some m => cases h
  | makeFunc f xs ys =>
    rw [ho] at h
    cases f with
    | func f => exact ok_mkfn ho h
    | _ => cases h
  | makeMap t m =>
    rw [ho] at h
    cases m with
    | none => exact ok_mkmap ho h
    | some m => cases h
  | lookup t x y ok => rw [ho] at h; exact ok_lookup ho h
  | makeChan t x => rw [ho] at h; exact ok_makeChan ho h
  | makeSlice t x y => rw [ho] at h; exact ok_makeSlice ho h
  | index t x y => rw [ho] at h; exact ok_indexS ho h
  | call c => rw [ho] at h; exact ok_call ho h
  | _ => rw [ho] at h; cases h
theorem effE_ok {o : Oper} {h' : List Ent} (h : effE P s o.op = some h') : OkE P fz B s h' (fun a => execOp a.eval o) := by
  cases ho : o.op with
  | store t x y => rw [ho] at h; exact ok_store ho h
  | mapUpdate t x y z => rw [ho] at h; exact ok_mapUpdate ho h
  | _ => rw [ho] at h; cases h

def CalOk (P : Program) (cal : CAL) : Prop := ∀ f args h n r, cal f args h n = some r → isGo P f = true ∧ n ≤ r.2.2 ∧ ∀ φ, Free φ n r.2.2 →
  Fn P f (args.map (dn φ)) (dnH φ h) fun rv h' => ∃ φ', Ext φ φ' n r.2.2 ∧ VLe rv (dn φ' r.1) ∧ h' = dnH φ' r.2.1
theorem Sel_all : ∀ (h : List HP), Sel h h []
  | [] => .nil
  | x :: h => .cons 0 rfl (Sel_all h)
theorem gdE_true {ops : Array Oper} {g : Option (Nat × Bool)} (h : gdE ops s g = some true) : Gk ops (dnR φ s.regs) g := by
  cases g with
  | none => trivial
  | some jw =>
    obtain ⟨j, want⟩ := jw
    simp only [gdE] at h
    obtain ⟨d, h1, h⟩ := bnd_some h
    obtain ⟨oj, h2, h3⟩ := Option.bind_eq_some_iff.1 h1
    refine ⟨oj, d, h2, h3, ?_⟩
    rw [rg_dnR]
    split at h
    · rename_i b hb
      injection h with h
      have : b = want := by simpa using h
      subst this
      rw [hb]
      rfl
    · cases h
    · cases h
theorem gdE_false {o : Oper} {ops : Array Oper} (hs : Tel fz B φ s a w W S) (h : gdE ops s o.guard = some false) : Region.wanted o (yielded ops a.tmps) = false := by
  unfold Region.wanted
  cases hg : o.guard with
  | none => rw [hg] at h; cases h
  | some jw =>
    obtain ⟨j, want⟩ := jw
    rw [hg] at h
    simp only [gdE] at h
    obtain ⟨d, h1, h⟩ := bnd_some h
    have key : ∀ av, gR s.regs d = some av → a.tmps[d]? = (val φ av) ∧ (val φ av).isSome := by
      intro av hav
      obtain ⟨v, hv, hp⟩ := hs.regs d (dn φ av) (by rw [rg_dnR, hav]; rfl)
      have := dn_p.1 hp
      rw [this]
      exact ⟨hv, rfl⟩
    simp only [yielded, h1, Option.bind_some]
    split at h
    · rename_i b hb
      injection h with h
      obtain ⟨k1, _⟩ := key _ hb
      rw [k1]
      simp only [val]
      simpa using h
    · rename_i hb
      obtain ⟨k1, _⟩ := key _ hb
      rw [k1]
      simp [val, undef]
    · cases h
/-- what a step of a region does -/
def StepOk (P : Program) (fz : Nat) (ops : Array Oper) (o : Oper) (s s' : XS) : Prop :=
  s.n ≤ s'.n ∧ ∀ φ, Free φ s.n s'.n → ∀ B K rest, (∀ φ', Ext φ φ' s.n s'.n → EvL P fz B K ops rest (dnR φ' s'.regs) (dnH φ' s'.heap)) → EvL P fz B K ops (o :: rest) (dnR φ s.regs) (dnH φ s.heap)
theorem stepV {ops : Array Oper} {o : Oper} {d n' : Nat} {av : AV} {h' : List Ent} (hd : o.dst = some d) (hdn : Nat.ble (d + 1) fz = true) (hg : gdE ops s o.guard = some true) (hv : ∀ B, OkV P fz B s av h' n' (fun a => execOp a.eval o)) : StepOk P fz ops o s ⟨pR d av s.regs, h', n'⟩ := by
  refine ⟨(hv ⟨default, fun _ => False, fun _ => False, fun _ h => h, none, []⟩).1, fun φ hf B K rest k a w W S hs => ?_⟩
  obtain ⟨φ', u, w', W', S', hx, hrun, hu, hsat, hr⟩ := (hv B).2 φ hf a w W S hs
  refine wpListIn_step fun C hC => ?_
  rw [if_pos (Gk.wanted (gdE_true hg) hs)]
  refine opr hrun nofun ?_
  refine hC _ _ ?_
  rw [hd]
  exact k φ' hx _ _ W' S' (Tel.put hs hdn hx.le hu hsat hr)
theorem Tel.none {φ φ' : Env} {s : XS} {a : Act} {w w' : World} {W W' : WS} {S S' : Nat → Prop} {h' : List Ent} {u : Value} {n' : Nat} (hs : Tel fz B φ s a w W S) (hle : Le φ φ') (hsat : Sat w' W' (dnH φ' h') S') (hr : Run w W S w' W' S') :
    Tel fz B φ' ⟨s.regs, h', n'⟩ (a.put none u) w' W' S' := by
  have he : Evo w W w' W' := hr.evo hs.run.sub
  refine ⟨hs.tmps, hs.defers, fun k p hk => ?_, hsat, hs.run.trans hr⟩
  rw [rg_dnR] at hk
  obtain ⟨a', ha, rfl⟩ := Option.map_eq_some_iff.1 hk
  obtain ⟨v, hv, hp⟩ := hs.regs k (dn φ a') (by rw [rg_dnR, ha]; rfl)
  exact ⟨v, hv, dn_le hle _ _ _ _ (VP.st _ he hp)⟩
theorem stepN {ops : Array Oper} {o : Oper} {n' : Nat} {av : AV} {h' : List Ent} (hd : o.dst = none) (hg : gdE ops s o.guard = some true) (hv : ∀ B, OkV P fz B s av h' n' (fun a => execOp a.eval o)) : StepOk P fz ops o s ⟨s.regs, h', n'⟩ := by
  refine ⟨(hv ⟨default, fun _ => False, fun _ => False, fun _ h => h, none, []⟩).1, fun φ hf B K rest k a w W S hs => ?_⟩
  obtain ⟨φ', u, w', W', S', hx, hrun, hu, hsat, hr⟩ := (hv B).2 φ hf a w W S hs
  refine wpListIn_step fun C hC => ?_
  rw [if_pos (Gk.wanted (gdE_true hg) hs)]
  refine opr hrun nofun ?_
  refine hC _ _ ?_
  rw [hd]
  exact k φ' hx _ _ W' S' (Tel.none hs hx.le hsat hr)
theorem stepE {ops : Array Oper} {o : Oper} {h' : List Ent} (hd : o.dst = none) (hg : gdE ops s o.guard = some true) (hv : ∀ B, OkE P fz B s h' (fun a => execOp a.eval o)) : StepOk P fz ops o s ⟨s.regs, h', s.n⟩ := by
  refine ⟨Nat.le_refl _, fun φ hf B K rest k a w W S hs => ?_⟩
  obtain ⟨w', W', S', hrun, hsat, hr⟩ := hv B φ a w W S hs
  refine wpListIn_step fun C hC => ?_
  rw [if_pos (Gk.wanted (gdE_true hg) hs)]
  refine opr hrun nofun ?_
  refine hC _ _ ?_
  have := k φ (Ext.refl _ _ _) _ _ W' S' (Tel.none (u := undef) hs (Le.refl _) hsat hr)
  first | exact this | (rw [hd]; exact this)
theorem stepS {ops : Array Oper} {o : Oper} (hg : gdE ops s o.guard = some false) (hdn : ∀ d, o.dst = some d → Nat.ble (d + 1) fz = true) : StepOk P fz ops o s (match o.dst with | some d => rS s d .un | none => s) := by
  have hn : (match o.dst with | some d => rS s d .un | none => s).n = s.n := by cases o.dst <;> rfl
  refine ⟨by rw [hn]; exact Nat.le_refl _, fun φ hf B K rest k a w W S hs => ?_⟩
  refine wpListIn_step fun C hC => ?_
  rw [if_neg (by rw [gdE_false hs hg]; simp)]
  refine ⟨fun _ _ => trivial, hC _ _ ?_⟩
  have k' := k φ (Ext.refl _ _ _)
  cases hd : o.dst with
  | none =>
    rw [hd] at k'
    exact k' _ _ W S hs
  | some d =>
    rw [hd] at k'
    exact k' _ _ W S (Tel.put hs (hdn d hd) (Le.refl _) rfl hs.sat (Run.refl hs.run.sub hs.run.bound))
theorem callOf_eq {op : Op} {f : Operand} {xs : List Operand} (h : callOf op = some (f, xs)) : ∃ ts, op = .call ⟨.value f, xs.toArray, ts⟩ := by
  unfold callOf at h
  split at h
  · injection h with h
    injection h with h1 h2
    subst h1 h2
    exact ⟨_, by rw [Array.toArray_toList]⟩
  · cases h
theorem vps_app {l1 l2 : List AV} {u1 u2 : List Value} (h1 : vals φ l1 = some u1) (h2 : vals φ l2 = some u2) : vals φ (l1 ++ l2) = some (u1 ++ u2) := by
  have := ((vals_vps (w := ⟨#[], fun _ _ => 0, 0, default, #[]⟩) (W := fun _ => False)).2 h1).append (vals_vps.2 h2)
  rw [← List.map_append] at this
  exact vals_vps.1 this
theorem stepC {cal : CAL} (hcal : CalOk P cal) {ops : Array Oper} {o : Oper} {f : Operand} {xs : List Operand} {fv : AV} {c : FuncId × List AV × List AV} {l : List AV} {r : AV × List Ent × Nat} (hg : gdE ops s o.guard = some true) (hdn : ∀ d, o.dst = some d → Nat.ble (d + 1) fz = true) (ho : callOf o.op = some (f, xs)) (h1 : oE s.regs f = some fv) (h2 : fnOf fv = some c) (h3 : oEs s.regs xs = some l) (h4 : cal c.1 (c.2.1 ++ l ++ c.2.2) s.heap s.n = some r) :
    StepOk P fz ops o s (match o.dst with | some d => ⟨pR d r.1 s.regs, r.2.1, r.2.2⟩ | none => ⟨s.regs, r.2.1, r.2.2⟩) := by
  obtain ⟨hgo, hn, hfn⟩ := hcal _ _ _ _ _ h4
  have hnn : (match o.dst with | some d => (⟨pR d r.1 s.regs, r.2.1, r.2.2⟩ : XS) | none => ⟨s.regs, r.2.1, r.2.2⟩).n = r.2.2 := by cases o.dst <;> rfl
  refine ⟨by rw [hnn]; exact hn, fun φ hf B K rest k => ?_⟩
  rw [hnn] at hf k
  obtain ⟨ts, hop⟩ := callOf_eq ho
  have hfv : fv = .fn c.1 c.2.1 c.2.2 := by
    unfold fnOf at h2
    split at h2
    · injection h2 with h2
      subst h2
      rfl
    · cases h2
  subst hfv
  obtain ⟨dst, op, ty, pos, af, g⟩ := o
  simp only at hop hg hdn k
  subst hop
  refine opcall (args := []) (hfn φ hf) (Sel_all _) hdn (gdE_true hg) (fun a w W S hs => ?_) (fun rv h' hpost => ?_)
  · have e1 := oE_val hs h1
    simp only [val] at e1
    cases k1 : vals φ c.2.1 with
    | none => rw [k1] at e1; cases e1
    | some us =>
      cases k2 : vals φ c.2.2 with
      | none => rw [k1, k2] at e1; cases e1
      | some ws =>
        rw [k1, k2] at e1
        injection e1 with e1
        refine ⟨us ++ xs.map a.eval ++ ws, ?_, ?_⟩
        · unfold execOp
          simp only [resolve, ← e1, Deferred.ofValue, Sem.run_bind, Sem.run_pure, Result.andThen_ok, invoke, List.map_toArray]
          rw [run_callFunc hgo]
          simp
        · exact vals_vps.2 (vps_app (vps_app k1 (oEs_val hs h3)) k2)
  · obtain ⟨φ', hx, hv, rfl⟩ := hpost
    rw [List.append_nil]
    have k' := k φ' hx
    cases dst with
    | none =>
      refine EvL.le k' (fun d p' hd => ?_) (fun _ _ _ h => h)
      rw [rg_dnR] at hd ⊢
      obtain ⟨a', ha, rfl⟩ := Option.map_eq_some_iff.1 hd
      have ha : gR s.regs d = some a' := ha
      exact ⟨dn φ a', by rw [ha]; rfl, dn_le hx.le _⟩
    | some d0 =>
      refine EvL.le k' (fun d p' hd => ?_) (fun _ _ _ h => h)
      rw [rg_dnR] at hd
      obtain ⟨a', ha, rfl⟩ := Option.map_eq_some_iff.1 hd
      have ha : gR (pR d0 r.1 s.regs) d = some a' := ha
      rw [gR_pR] at ha
      simp only [rg]
      cases hb : Nat.beq d0 d with
      | true =>
        rw [hb] at ha
        injection ha with ha
        subst ha
        exact ⟨rv, rfl, hv⟩
      | false =>
        rw [hb] at ha
        simp only [cond_false] at ha ⊢
        exact ⟨dn φ a', by rw [rg_dnR, ha]; rfl, dn_le hx.le _⟩
theorem opE_ok {cal : CAL} (hcal : CalOk P cal) {ops : Array Oper} {o : Oper} {s' : XS} (h : opE P cal fz ops s o = some s') : StepOk P fz ops o s s' := by
  unfold opE at h
  obtain ⟨g, hg, h⟩ := bnd_some h
  cases g with
  | false =>
    simp only [cond_false] at h
    cases hd : o.dst with
    | none =>
      rw [hd] at h
      injection h with h
      subst h
      have := stepS (P := P) (fz := fz) hg (fun d h => by rw [hd] at h; cases h)
      rw [hd] at this
      exact this
    | some d =>
      rw [hd] at h
      obtain ⟨h1, h⟩ := lp1_some h
      injection h with h
      subst h
      have := stepS (P := P) (fz := fz) hg (fun d' h => by rw [hd] at h; injection h with h; rw [← h]; exact h1)
      rw [hd] at this
      exact this
  | true =>
    simp only [cond_true] at h
    cases hc : callOf o.op with
    | some fx =>
      obtain ⟨f, xs⟩ := fx
      rw [hc] at h
      simp only at h
      obtain ⟨fv, k1, h⟩ := bnd_some h
      obtain ⟨c, k2, h⟩ := bnd_some h
      obtain ⟨l, k3, h⟩ := bnd_some h
      obtain ⟨r, k4, h⟩ := bnd_some h
      cases hd : o.dst with
      | none =>
        rw [hd] at h
        injection h with h
        subst h
        have := stepC (fz := fz) hcal hg (fun d h => by rw [hd] at h; cases h) hc k1 k2 k3 k4
        rw [hd] at this
        exact this
      | some d =>
        rw [hd] at h
        obtain ⟨h1, h⟩ := lp1_some h
        injection h with h
        subst h
        have := stepC (fz := fz) hcal hg (fun d' h => by rw [hd] at h; injection h with h; rw [← h]; exact h1) hc k1 k2 k3 k4
        rw [hd] at this
        exact this
    | none =>
      rw [hc] at h
      simp only at h
      cases hd : o.dst with
      | some d =>
        rw [hd] at h
        obtain ⟨h1, h⟩ := lp1_some h
        obtain ⟨r, h2, h⟩ := bnd_some h
        injection h with h
        subst h
        exact stepV hd h1 hg fun B => valE_ok h2
      | none =>
        rw [hd] at h
        simp only at h
        cases he : effE P s o.op with
        | some h' =>
          rw [he] at h
          injection h with h
          subst h
          exact stepE hd hg fun B => effE_ok he
        | none =>
          rw [he] at h
          obtain ⟨r, h2, h⟩ := bnd_some h
          injection h with h
          subst h
          exact stepN hd hg fun B => valE_ok h2
theorem opsE_ok {cal : CAL} (hcal : CalOk P cal) {ops : Array Oper} : ∀ {l : List Oper} {s s' : XS}, opsE P cal fz ops l s = some s' → s.n ≤ s'.n ∧ ∀ φ, Free φ s.n s'.n → ∀ B K, (∀ φ', Ext φ φ' s.n s'.n → K .normal (dnR φ' s'.regs) (dnH φ' s'.heap)) → EvL P fz B K ops l (dnR φ s.regs) (dnH φ s.heap)
  | [], s, s', h => by
    injection h with h
    subst h
    exact ⟨Nat.le_refl _, fun φ hf B K k => done (k φ (Ext.refl _ _ _))⟩
  | o :: l, s, s', h => by
    simp only [opsE] at h
    obtain ⟨s1, h1, h2⟩ := bnd_some h
    obtain ⟨k1, k2⟩ := opE_ok hcal h1
    obtain ⟨m1, m2⟩ := opsE_ok hcal h2
    exact ⟨Nat.le_trans k1 m1, fun φ hf B K k => k2 φ (hf.left m1) B K l fun φ' hx => m2 φ' (hf.right k1 hx) B K fun φ'' hx' => k φ'' (hx.trans hx' k1 m1)⟩
end
end Go.Proofs.YtagkniimpekhjaaGreat

set_option linter.unusedVariables false
set_option linter.unusedSectionVars false
set_option linter.unusedSimpArgs false
namespace Go.Proofs.YtagkniimpekhjaaGreat
open Go.RowKit

section
variable {P : Program} {fz : Nat} {B : Bs} {K : KP}
theorem stepR_scope {P : Program} {b : Frame} {a : Act} {k : List Item} {cs : List Frame} {w : World} {c : Code} : step P (lone (b.atR a (.code (.scope c) :: k)) cs w) = .next (lone (b.atR a (.code c :: .inScope c :: k)) cs w) :=
  step_lone_go (by simp [stepG, stepG.exec, Frame.atR])
theorem stepR_inScope {P : Program} {b : Frame} {a : Act} {k : List Item} {cs : List Frame} {w : World} {c : Code} : step P (lone (b.atR a (.inScope c :: k)) cs w) = .next (lone (b.atR a k) cs w) :=
  step_lone_go (by simp [stepG, stepG.exec, Frame.atR])
/-- a loop's next round -/
def Lp (P : Program) (fz : Nat) (B : Bs) (K : KP) (c : Code) (σ : Regs) (h : List HP) : Prop :=
  ∀ a w W S, St fz B.dfr B.w0 B.W0 B.S0 σ h a w W S → ∀ (b : Frame) (k : List Item) (cs : List Frame), b.roundOf = (FB B).round → (FB B).fn b.fn → (FB B).room (cs.length + 1 + 0) → ∃ e a' w', QK fz B K e a' w' ∧ ArrivesIn (Machine.fenced P (FB B)) P (lone (b.atR a (.code c :: .inLoop c :: k)) cs w) b k cs e a' w'
def Kn (P : Program) (fz : Nat) (B : Bs) (K : KP) (c : Code) : KP
  | .normal, σ, h => Lp P fz B K c σ h
  | e, σ, h => K e σ h
theorem Lp.mk {c : Code} {σ : Regs} {h : List HP} (k1 : EvC P fz B (Kn P fz B K c) c σ h) : Lp P fz B K c σ h := by
  intro a w W S hs b k cs hro hb hr
  obtain ⟨e, a₁, w₁, ⟨h1, h2, σ', h', W', S', hs', hk⟩, harr⟩ := k1 a w W S hs b (.inLoop c :: k) cs hro hb hr
  cases e with
  | normal =>
    obtain ⟨e₂, a₂, w₂, hq₂, harr₂⟩ := hk a₁ w₁ W' S' hs' b k cs hro hb hr
    exact ⟨e₂, a₂, w₂, hq₂, .of_steps (StepsIn.trans harr (.one (fenced_calm hb hr rfl) stepR_inLoop)) harr₂⟩
  | exit id => exact ⟨_, a₁, w₁, ⟨h1, h2, σ', h', W', S', hs', hk⟩, .pass (x := .inLoop c) rfl (fun _ _ => .inl (by simp)) harr⟩
  | goto l => exact ⟨_, a₁, w₁, ⟨h1, h2, σ', h', W', S', hs', hk⟩, .pass (x := .inLoop c) rfl (fun _ _ => .inl (by simp)) harr⟩
  | ret => exact ⟨_, a₁, w₁, ⟨h1, h2, σ', h', W', S', hs', hk⟩, .pass (x := .inLoop c) rfl (fun _ _ => .inl (by simp)) harr⟩
  | panic ch => exact (h1 ch rfl).elim
  | outgrown => exact (h2 rfl).elim
theorem Lp.loop {c : Code} {σ : Regs} {h : List HP} (k1 : Lp P fz B K c σ h) : EvC P fz B K (.loop c) σ h := by
  intro a w W S hs b k cs hro hb hr
  obtain ⟨e, a', w', hq, harr⟩ := k1 a w W S hs b k cs hro hb hr
  exact ⟨e, a', w', hq, .of_steps (.one (fenced_calm hb hr rfl) stepR_loop) harr⟩
/-- a scope, from a label on -/
def Jp (P : Program) (fz : Nat) (B : Bs) (K : KP) (c rest : Code) (σ : Regs) (h : List HP) : Prop :=
  ∀ a w W S, St fz B.dfr B.w0 B.W0 B.S0 σ h a w W S → ∀ (b : Frame) (k : List Item) (cs : List Frame), b.roundOf = (FB B).round → (FB B).fn b.fn → (FB B).room (cs.length + 1 + 0) → ∃ e a' w', QK fz B K e a' w' ∧ ArrivesIn (Machine.fenced P (FB B)) P (lone (b.atR a (.code rest :: .inScope c :: k)) cs w) b k cs e a' w'
def Kj (P : Program) (fz : Nat) (B : Bs) (K : KP) (c : Code) : KP
  | .goto l, σ, h => ∃ r, findLabel c l = some r ∧ Jp P fz B K c r σ h
  | .normal, σ, h => K .normal σ h
  | .ret, σ, h => K .ret σ h
  | _, _, _ => False
theorem Jp.mk {c rest : Code} {σ : Regs} {h : List HP} (k1 : EvC P fz B (Kj P fz B K c) rest σ h) : Jp P fz B K c rest σ h := by
  intro a w W S hs b k cs hro hb hr
  obtain ⟨e, a₁, w₁, ⟨h1, h2, σ', h', W', S', hs', hk⟩, harr⟩ := k1 a w W S hs b (.inScope c :: k) cs hro hb hr
  cases e with
  | normal => exact ⟨.normal, a₁, w₁, ⟨nofun, nofun, σ', h', W', S', hs', hk⟩, StepsIn.trans harr (.one (fenced_calm hb hr rfl) stepR_inScope)⟩
  | exit id => exact hk.elim
  | goto l =>
    obtain ⟨r, hf, hj⟩ := hk
    have hg : gotoIn l (.inScope c :: k) = some (.code r :: .inScope c :: k) := by simp [gotoIn, hf]
    obtain ⟨e₂, a₂, w₂, hq₂, harr₂⟩ := hj a₁ w₁ W' S' hs' b k cs hro hb hr
    exact ⟨e₂, a₂, w₂, hq₂, .of_steps (harr.1 _ hg) harr₂⟩
  | ret => exact ⟨_, a₁, w₁, ⟨h1, h2, σ', h', W', S', hs', hk⟩, harr⟩
  | panic ch => exact (h1 ch rfl).elim
  | outgrown => exact (h2 rfl).elim
theorem Jp.scope {c : Code} {σ : Regs} {h : List HP} (k1 : Jp P fz B K c c σ h) : EvC P fz B K (.scope c) σ h := by
  intro a w W S hs b k cs hro hb hr
  obtain ⟨e, a', w', hq, harr⟩ := k1 a w W S hs b k cs hro hb hr
  exact ⟨e, a', w', hq, .of_steps (.one (fenced_calm hb hr rfl) stepR_scope) harr⟩

def Good (fz : Nat) (P : Program) (c : Code) (s : XS) (e : Exit) (s' : XS) : Prop :=
  s.n ≤ s'.n ∧ ∀ φ, Free φ s.n s'.n → ∀ B K, (∀ φ', Ext φ φ' s.n s'.n → K e (dnR φ' s'.regs) (dnH φ' s'.heap)) → EvC P fz B K c (dnR φ s.regs) (dnH φ s.heap)
def EvOk (P : Program) (ev : Nat → Code → XS → Option (Exit × XS)) : Prop := ∀ fz c s e s', ev fz c s = some (e, s') → Good fz P c s e s'
theorem loopE_ok {evb : XS → Option (Exit × XS)} {c : Code} (h0 : ∀ s e s', evb s = some (e, s') → Good fz P c s e s') : ∀ (j : Nat) (s : XS) (e : Exit) (s' : XS), loopE evb j s = some (e, s') →
    s.n ≤ s'.n ∧ ∀ φ, Free φ s.n s'.n → ∀ B K, (∀ φ', Ext φ φ' s.n s'.n → K e (dnR φ' s'.regs) (dnH φ' s'.heap)) → Lp P fz B K c (dnR φ s.regs) (dnH φ s.heap)
  | 0, s, e, s', h => by cases h
  | j + 1, s, e, s', h => by
    simp only [loopE] at h
    obtain ⟨r, h1, h2⟩ := bnd_some h
    obtain ⟨e1, s1⟩ := r
    obtain ⟨g1, g2⟩ := h0 _ _ _ h1
    cases e1 with
    | normal =>
      obtain ⟨m1, m2⟩ := loopE_ok h0 j s1 e s' h2
      exact ⟨Nat.le_trans g1 m1, fun φ hf B K k => Lp.mk (g2 φ (hf.left m1) B _ fun φ' hx => m2 φ' (hf.right g1 hx) B K fun φ'' hx' => k φ'' (hx.trans hx' g1 m1))⟩
    | exit id => injection h2 with h2; injection h2 with h3 h4; subst h3 h4; exact ⟨g1, fun φ hf B K k => Lp.mk (g2 φ hf B _ k)⟩
    | goto id => injection h2 with h2; injection h2 with h3 h4; subst h3 h4; exact ⟨g1, fun φ hf B K k => Lp.mk (g2 φ hf B _ k)⟩
    | ret => injection h2 with h2; injection h2 with h3 h4; subst h3 h4; exact ⟨g1, fun φ hf B K k => Lp.mk (g2 φ hf B _ k)⟩
    | panic c => cases h2
    | outgrown => cases h2
theorem jumpE_ok {ev : Code → XS → Option (Exit × XS)} {c : Code} (h0 : ∀ c s e s', ev c s = some (e, s') → Good fz P c s e s') : ∀ (j : Nat) (rest : Code) (s : XS) (e : Exit) (s' : XS), jumpE ev c j rest s = some (e, s') →
    s.n ≤ s'.n ∧ ∀ φ, Free φ s.n s'.n → ∀ B K, (∀ φ', Ext φ φ' s.n s'.n → K e (dnR φ' s'.regs) (dnH φ' s'.heap)) → Jp P fz B K c rest (dnR φ s.regs) (dnH φ s.heap)
  | 0, rest, s, e, s', h => by cases h
  | j + 1, rest, s, e, s', h => by
    simp only [jumpE] at h
    obtain ⟨r, h1, h2⟩ := bnd_some h
    obtain ⟨e1, s1⟩ := r
    obtain ⟨g1, g2⟩ := h0 _ _ _ _ h1
    cases e1 with
    | goto l =>
      obtain ⟨q, h3, h4⟩ := bnd_some h2
      obtain ⟨m1, m2⟩ := jumpE_ok h0 j q s1 e s' h4
      exact ⟨Nat.le_trans g1 m1, fun φ hf B K k => Jp.mk (g2 φ (hf.left m1) B _ fun φ' hx => ⟨q, h3, m2 φ' (hf.right g1 hx) B K fun φ'' hx' => k φ'' (hx.trans hx' g1 m1)⟩)⟩
    | normal => injection h2 with h2; injection h2 with h3 h4; subst h3 h4; exact ⟨g1, fun φ hf B K k => Jp.mk (g2 φ hf B _ k)⟩
    | ret => injection h2 with h2; injection h2 with h3 h4; subst h3 h4; exact ⟨g1, fun φ hf B K k => Jp.mk (g2 φ hf B _ k)⟩
    | exit id => cases h2
    | panic c => cases h2
    | outgrown => cases h2
end
end Go.Proofs.YtagkniimpekhjaaGreat
