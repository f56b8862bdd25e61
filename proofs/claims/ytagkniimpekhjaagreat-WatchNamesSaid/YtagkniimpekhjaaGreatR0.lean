/- From what an argument reads as to what my contracts ask; and a law's row. -/
import Derived.Test.YtagkniimpekhjaaGreatE13
import Derived.ProofKit
import Derived.Carry
import Derived.Deep.Slices
set_option linter.unusedVariables false
set_option linter.unusedSectionVars false
set_option linter.unusedSimpArgs false
namespace Go.Proofs.YtagkniimpekhjaaGreat
open Go.Deep Go.RowKit Go.ChangeShapes Go.WideShapes Go.ChangeAt

def W0 : WS := fun _ => False
/-- cells that read as a datum of type t are those of some a -/
def Rd {α : Type} (P : Program) (t : TypeId) (enc : α → List VP) (ok : α → Prop) : Prop :=
  ∀ (H : Type) (eH : TypeId × Value → H) (w : World) (fuel : Nat) (cs : List Value) (x : DataW H × List MemPlace), DataW.trod eH P w 0 (fun _ => true) true fuel t cs = some x → ∃ a : α, ok a ∧ VPs w W0 (enc a) cs ∧ ∀ u ∈ cs, u.oneCell' = true
section
variable {P : Program} {t e : TypeId}
theorem rdInt {k : IntKind} (ht : P.underlying t = some (.int k)) : Rd P t (fun z : Int => [vint k z]) (fun z => (Lit.int k z).wf = true) := by
  intro H eH w fuel cs x h
  obtain ⟨n, rfl, rfl, hw⟩ := DataW.trod_int ht h
  exact ⟨n, hw, ⟨rfl, trivial⟩, fun u hu => by simp at hu; subst hu; rfl⟩
theorem rdBool (ht : P.underlying t = some .bool) : Rd P t (fun z : Bool => [vbool z]) (fun _ => True) := by
  intro H eH w fuel cs x h
  obtain ⟨b, rfl, rfl⟩ := DataW.trod_bool ht h
  exact ⟨b, trivial, ⟨rfl, trivial⟩, fun u hu => by simp at hu; subst hu; rfl⟩
theorem choose_list {α : Type} {p : Nat → α → Prop} : ∀ (n : Nat), (∀ i, i < n → ∃ a, p i a) → ∃ l : List α, l.length = n ∧ ∀ i (h : i < l.length), p i l[i]
  | 0, _ => ⟨[], rfl, fun i h => by simp at h⟩
  | n + 1, h => by
    obtain ⟨l, hl, hp⟩ := choose_list n (fun i hi => h i (by omega))
    obtain ⟨a, ha⟩ := h n (by omega)
    refine ⟨l ++ [a], by simp [hl], fun i hi => ?_⟩
    by_cases hlt : i < l.length
    · rw [List.getElem_append_left hlt]; exact hp i hlt
    · rw [List.length_append, List.length_singleton] at hi
      have : i = n := by omega
      subst this
      rw [List.getElem_append_right (by omega)]
      simpa [hl] using ha
/-- a slice -/
theorem rdSlice {α : Type} {enc : α → List VP} {ok : α → Prop} {sz : Nat} (ht : P.underlying t = some (.slice e)) (hc : P.cellsOf e = sz) (hsz : 0 < sz) (he : Rd P e enc ok) :
    Rd P t (fun l : List α => [vsl sz enc l]) (fun l => ∀ a ∈ l, ok a) := by
  intro H eH w fuel cs x h
  rcases open_slice ht h with ⟨rfl, rfl⟩ | ⟨a, len, cap, m, n, D, Pl, rfl, hb, hl, hm, hmm, rfl, hx⟩
  · exact ⟨[], by simp, ⟨vsl_nil, trivial⟩, fun u hu => by simp at hu; subst hu; rfl⟩
  · simp only [if_true] at hmm
    subst hmm
    obtain ⟨l, hll, hp⟩ := choose_list (p := fun i (b : α) => ok b ∧ ∃ cs', w.cells? 0 (a.add (i * P.cellsOf e)) (P.cellsOf e) = some cs' ∧ VPs w W0 (enc b) cs' ∧ ∀ u ∈ cs', u.oneCell' = true) len (fun i hi => by
      obtain ⟨cs', h1, h2⟩ := hx i (by omega)
      obtain ⟨b, h3, h4, h5⟩ := he H eH w n cs' _ h2
      exact ⟨b, h3, cs', h1, h4, h5⟩)
    refine ⟨l, fun b hb' => ?_, ⟨⟨some a, len, m, rfl, hll, hl, by unfold maxLen at hm; omega, fun hpos => ?_⟩, trivial⟩, fun u hu => by simp at hu; subst hu; rfl⟩
    · obtain ⟨i, hi, rfl⟩ := List.getElem_of_mem hb'
      exact (hp i hi).1
    · have hblk : a.block < w.heap.size := by
        obtain ⟨_, cs', h1, h2, h3⟩ := hp 0 (by omega)
        obtain ⟨_, k1, k2⟩ := World.cells?_some h1
        have := k2 0 (by omega)
        rw [add_add] at this
        have hz : cs'[0]? = some (cs'[0]'(by omega)) := List.getElem?_eq_getElem (by omega)
        rw [hz] at this
        have := World.block_lt_of_cell? w _ this
        rwa [add_block] at this
      refine ⟨a, rfl, fun h => h, hblk, fun i hi => ?_⟩
      obtain ⟨_, cs', h1, h2, h3⟩ := hp i hi
      obtain ⟨_, k1, k2⟩ := World.cells?_some h1
      rw [hc] at h1 k1 k2
      refine ⟨by rw [← h2.length, k1], cs', h2, h3, fun k u hu => ?_⟩
      have hk := (List.getElem?_eq_some_iff.1 hu).1
      rw [k2 k (by omega), hu]
end
theorem cells_one_of {v : Value} (h : ∀ cs, v ≠ .agg cs) : v.cells.toList = [v] := by
  cases v <;> first | rfl | exact absurd rfl (h _)
theorem ok_slice_cells {P : Program} {t e : TypeId} {W : World} {base : Nat} {v : Value} (ht : P.underlying t = some (.slice e)) (h : Value.okWide P W .any base t v) : v.cells.toList = [v] := by
  refine cells_one_of ?_
  rintro cs rfl
  unfold Value.okWide at h
  rw [ht] at h
  simp [Cell.okWide, Cell.ok, ht] at h
theorem ok_int_cells {P : Program} {t : TypeId} {k : IntKind} {W : World} {base : Nat} {v : Value} (ht : P.underlying t = some (.int k)) (h : Value.okWide P W .any base t v) : v.cells.toList = [v] := by
  refine cells_one_of ?_
  rintro cs rfl
  unfold Value.okWide at h
  rw [ht] at h
  simp [Cell.okWide, Cell.ok, ht] at h
theorem ok_struct_cells {P : Program} {t : TypeId} {fs : Array Field} {W : World} {base : Nat} {v : Value} (ht : P.underlying t = some (.struct fs)) (h : Value.okWide P W .any base t v) : ∃ cs, v = .agg cs ∧ v.cells = cs := by
  unfold Value.okWide at h
  rw [ht] at h
  obtain ⟨cs, rfl, _⟩ := h
  exact ⟨cs, rfl, rfl⟩
/-- an argument of one cell -/
theorem Rd.one {α : Type} {P : Program} {t : TypeId} {p : α → VP} {ok : α → Prop} (h : Rd P t (fun a => [p a]) ok) {H : Type} {eH : TypeId × Value → H} {w : World} {v : Value} {d : DataW H} {ps : List MemPlace} (hr : DataW.Trod eH P w 0 (fun _ => true) true t v d ps) (hc : v.cells.toList = [v]) : ∃ a, ok a ∧ (p a).p w W0 v := by
  obtain ⟨n, hn⟩ := hr
  obtain ⟨a, h1, h2, _⟩ := h H eH w n _ _ hn
  rw [hc] at h2
  exact ⟨a, h1, h2.1⟩
/-- an argument that is a struct -/
theorem Rd.agg {α : Type} {P : Program} {t : TypeId} {en : α → List VP} {ok : α → Prop} (h : Rd P t en ok) {H : Type} {eH : TypeId × Value → H} {w : World} {v : Value} {d : DataW H} {ps : List MemPlace} (hr : DataW.Trod eH P w 0 (fun _ => true) true t v d ps) (hc : ∃ cs, v = .agg cs ∧ v.cells = cs) : ∃ a, ok a ∧ (vagg (en a)).p w W0 v := by
  obtain ⟨n, hn⟩ := hr
  obtain ⟨a, h1, h2, h3⟩ := h H eH w n _ _ hn
  obtain ⟨cs, rfl, hcs⟩ := hc
  rw [hcs] at h2 h3
  exact ⟨a, h1, cs, rfl, h2, h3⟩
/-- what a contract says of a call -/
theorem law_calls {P : Program} {f : FuncId} {ps : List VP} {vs : Array Value} {W : World} (h : Fn P f ps [] (fun r h' => r = vbool true ∧ h' = [])) (hv : VPs W W0 ps vs.toList) : Calls P f vs W fun e W' => e = .returned (.bool true) ∧ Below W.heap.size W W' := by
  have := h W W0 (fun _ => False) vs.toList hv (fun _ h => h) (fun _ h => h.elim) (fun _ h => h.elim)
  rw [Array.toArray_toList] at this
  refine this.mono ?_
  rintro e w' ⟨v, r, h', W', S', rfl, hr, ⟨rfl, rfl⟩, _, hrun⟩
  refine ⟨by rw [show v = .bool true from hr], ⟨hrun.os, hrun.tape, hrun.output, hrun.size, fun k hk => hrun.keep k hk (fun h => h)⟩⟩
/-- arguments that are only read read as they did -/
theorem args_stay {H : Type} {enc : TypeId × Value → H} {P : Program} (hl : laidOutB P = true) {W W' : World} (hb : Below W.heap.size W W') {sp : Nat → Bool} : ∀ {ts : List TypeId} {vs : List Value} {ds : List (DataW H)} {ps : List MemPlace}, (∀ t ∈ ts, P.readableRec t = true ∧ t < P.types.size) →
    DataW.TrodAll enc P W 0 (fun _ => true) true ts vs ds ps → (∀ x ∈ ps, x.block < W.heap.size) → (∀ x ∈ ps, sp x.block = true) → DataW.TrodAll enc P W' 0 sp true ts vs ds ps
  | [], [], [], _, _, h, _, _ => h
  | t :: ts, v :: vs, d :: ds, ps, hr, ⟨p, q, h1, h2, h3⟩, hlt, hsp => by
    subst h3
    obtain ⟨r1, r2⟩ := hr t (List.mem_cons_self ..)
    exact ⟨p, q, WideElems.Trod_stays hl r1 r2 h1 (fun x hx => hb.same (hlt x (List.mem_append.2 (.inl hx)))) (fun x hx => hsp x (List.mem_append.2 (.inl hx))),
      args_stay hl hb (fun t ht => hr t (List.mem_cons_of_mem _ ht)) h2 (fun x hx => hlt x (List.mem_append.2 (.inr hx))) (fun x hx => hsp x (List.mem_append.2 (.inr hx))), rfl⟩
  | [], _ :: _, _, _, _, h, _, _ => h.elim
  | [], [], _ :: _, _, _, h, _, _ => h.elim
  | _ :: _, [], _, _, _, h, _, _ => h.elim
  | _ :: _, _ :: _, [], _, _, h, _, _ => h.elim
section
variable {H : Type} {enc : TypeId × Value → H} {P : Program}
/-- the row's last step, of a law that is true and turns nothing that was there -/
theorem law_post {f : Func} {s : ChangeSpec} {apart fresh handsOn again : Bool} {W W' : World} {args : Array Value} {ds gs : List (DataW H)} {before : List MemPlace} {tb : TypeId}
    (hl : laidOutB P = true) (hr : ∀ t ∈ f.params.toList, P.readableRec t = true ∧ t < P.types.size) (hres : f.resultTypes = #[tb]) (hbool : P.underlying tb = some .bool) (hvars : s.vars = [])
    (hfn : s.fn H (ds ++ gs) = { results := [.lit (.bool true)], args := ds }) (hW : DataW.Whole enc P f.params.toList s.vars apart W args.toList ds gs before) (hb : Below W.heap.size W W') :
    s.post enc P f apart fresh handsOn again W args (.bool true) W' := by
  have hlt : ∀ p ∈ before, p.block < W.heap.size := fun p hp => hW.lt p hp
  have hW0 := hW
  obtain ⟨p, q, hA, hV, hpq, hz, hn⟩ := hW
  rw [hvars] at hV
  have hq : q = [] := by
    cases gs with
    | nil => exact hV
    | cons g gs => exact hV.elim
  subst hq
  rw [List.append_nil] at hpq
  subst hpq
  have hrl : Value.resultList f.resultTypes.size (.bool true) = [.bool true] := by rw [hres]; rfl
  have htb : ∀ (b : Nat) (sp : Nat → Bool) (hd : Bool), DataW.TrodAll enc P W' b sp hd f.resultTypes.toList (Value.resultList f.resultTypes.size (.bool true)) [.lit (.bool true)] [] := fun b sp hd => by
    rw [hrl, hres]
    exact trodAll_mk1 (shut_bool hbool _)
  have hst : ∀ sp : Nat → Bool, (∀ x ∈ before, sp x.block = true) → DataW.TrodAll enc P W' 0 sp true f.params.toList args.toList ds before := fun sp hsp => args_stay hl hb hr hA hlt hsp
  have hvs : ∀ sp : Nat → Bool, DataW.TrodVars enc P W' sp s.vars [] [] := fun sp => by rw [hvars]; rfl
  refine ⟨ds, gs, before, [], before, [], hW0, by rw [hfn]; exact htb _ _ _, by rw [hfn]; exact hst _ (fun x hx => by simpa using hlt x hx), by rw [hfn]; exact hvs _, World.keptBut_mono (fun p hp => ⟨hp, ?_⟩) (hb.frame (· ∈ before)), fun _ => ?_⟩
  · exact .inr (.inl hp)
  · refine ⟨fun j t r h1 h2 => ?_, _, _, ([] ++ before) ++ [], ⟨[] ++ before, [], trodAll_append (hst _ (fun _ _ => rfl)) (htb _ _ _), hvs _, rfl, ?_, ?_⟩, ?_⟩
    · rw [hres] at h1
      rw [hrl] at h2
      cases j with
      | zero =>
        simp at h1 h2
        subst h1 h2
        exact okWide_bool_mk hbool _
      | succ j => simp at h1
    · intro b off hp
      have hin : MemPlace.cell b off ∈ before := by simpa using hp
      rw [hb.frozen (hlt _ hin)]
      exact hz b off hin
    · intro ha
      have := hn ha
      simpa using this
    · intro p hp _
      simpa using hp
end
end Go.Proofs.YtagkniimpekhjaaGreat
