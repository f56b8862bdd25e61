/- A part of the proof: contracts over a program of the model. -/
import Derived.Test.YtkcpejbabbbjpaaE10
set_option linter.unusedVariables false
set_option linter.unusedSectionVars false
set_option linter.unusedSimpArgs false
namespace Go.Proofs.Ytkcpejbabbbjpaa
open Go.RowKit
section
variable {P : Program} {fz : Nat} {B : Bs} {K : KP} {ops : Array Oper} {rest : List Oper} {σ : Regs} {h : List HP} {d : Nat} {ty : TypeId} {pos : String} {af : Array Edge} {g : Option (Nat × Bool)} {t e : TypeId}

/-! ### function values -/
def vfn (f : FuncId) (first captured : List Value) : VP := vis (.func (.func f) first.toArray captured.toArray)
theorem ofVis {w : World} {W : WS} : ∀ {us vs : List Value}, VPs w W (visL us) vs → vs = us
  | [], [], _ => rfl
  | u :: us, v :: vs, ⟨h1, h2⟩ => by
    have h1' : v = u := h1
    rw [h1', ofVis h2]
  | [], _ :: _, h => h.elim
  | _ :: _, [], h => h.elim
theorem mkfn {f : FuncId} {xs ys : List Operand} (us vs : List Value) (kk : EvL P fz B K ops rest ((d, vfn f us vs) :: σ) h) (hx : ogs σ xs = some (visL us) := by rfl) (hy : ogs σ ys = some (visL vs) := by rfl) (hd : Nat.ble (d + 1) fz = true := by rfl) (hg : Gk ops σ g := by first | exact gk0 | exact gk1 rfl rfl rfl (by assumption)) :
    EvL P fz B K ops (⟨some d, .makeFunc (.func f) xs.toArray ys.toArray, ty, pos, af, g⟩ :: rest) σ h :=
  opp hd hg (fun a w W S hs => by
    refine ⟨.func (.func f) us.toArray vs.toArray, ?_, rfl⟩
    have h1 := ofVis (hs.evals hx)
    have h2 := ofVis (hs.evals hy)
    unfold execOp
    simp only [Instr.makeFunc, List.map_toArray, h1, h2, Sem.run_bind, Sem.run_pure, Result.andThen_ok]) kk
theorem visApp {w : World} {W : WS} {us : List Value} {ps : List VP} {vs : List Value} (h : VPs w W ps vs) (ws : List Value) : VPs w W (visL us ++ ps ++ visL ws) (us ++ vs ++ ws) :=
  ((VPs.visL us).append h).append (VPs.visL ws)
/-- A call of a function value. -/
theorem callv {f : FuncId} {x : Operand} {us ws : List Value} {hc hf : List HP} {ps : List VP} {Post : VP → List HP → Prop} {xs : List Operand} {ts : Array TypeId} (hfn : Fn P f (visL us ++ ps ++ visL ws) hc Post) (hgo : isGo P f = true) (hsel : Sel h hc hf) (k : ∀ r h', Post r h' → EvL P fz B K ops rest ((d, r) :: σ) (h' ++ hf)) (hxv : og σ x = some (vfn f us ws) := by rfl) (hx : ogs σ xs = some ps := by rfl) (hd : Nat.ble (d + 1) fz = true := by rfl) (hg : Gk ops σ g := by first | exact gk0 | exact gk1 rfl rfl rfl (by assumption)) :
    EvL P fz B K ops (⟨some d, .call { callee := .value x, args := xs.toArray, argTypes := ts }, ty, pos, af, g⟩ :: rest) σ h :=
  opcall (args := []) hfn hsel (fun d' hd' => by cases hd'; exact hd) hg (fun a w W S hs => by
    have h1 : a.eval x = .func (.func f) us.toArray ws.toArray := hs.eval hxv
    refine ⟨us ++ xs.map a.eval ++ ws, ?_, visApp (hs.evals hx) ws⟩
    unfold execOp
    simp only [resolve, h1, Deferred.ofValue, Sem.run_bind, Sem.run_pure, Result.andThen_ok, invoke, List.map_toArray]
    rw [run_callFunc hgo]
    simp) k

/-! ### structs and arrays built by value -/
def tPlaces (P : Program) (t : TypeId) : Option (List (Nat × Nat)) := match P.underlying t with
  | some (.struct fs) => fs.toList.mapM fun f => (P.info? f.type).map fun i => (f.offset, i.size)
  | some (.array n e) => (P.info? e).map fun i => (List.range n).map fun j => (j * i.size, i.size)
  | _ => none
/-- parts laid over the zero value's cells -/
def bld : List VP → List (Nat × List VP) → List VP
  | ps, [] => ps
  | ps, (o, qs) :: l => bld (spl ps o qs) l
inductive BParts (σ : Regs) (pl : List (Nat × Nat)) : List (Nat × Operand) → List (Nat × List VP) → Prop
  | nil : BParts σ pl [] []
  | cons {i : Nat} {x : Operand} {xs : List (Nat × Operand)} {o : Nat} {q : List VP} {l : List (Nat × List VP)} {p : VP} (hp : og σ x = some p) (hc : Cel p q) (ho : pl[i]? = some (o, q.length)) (k : BParts σ pl xs l) : BParts σ pl ((i, x) :: xs) ((o, q) :: l)
theorem run_places {w : World} : ∀ (fs : List Field) (pl : List (Nat × Nat)), (fs.mapM fun f => (P.info? f.type).map fun i => (f.offset, i.size)) = some pl → (fs.mapM (m := Sem) fun f => do pure (f.offset, ← sizeOf f.type)).run P w = .ok pl w
  | [], pl, h => by simp at h; subst h; rfl
  | f :: fs, pl, h => by
    rw [List.mapM_cons] at h
    cases hi : P.info? f.type with
    | none => rw [hi] at h; simp at h
    | some i =>
      rw [hi] at h
      simp only [Option.map_some, Option.bind_eq_bind, Option.bind_some] at h
      cases hr : fs.mapM fun f => (P.info? f.type).map fun i => (f.offset, i.size) with
      | none => rw [hr] at h; simp at h
      | some r =>
        rw [hr] at h
        simp at h
        subst h
        rw [List.mapM_cons]
        simp only [Sem.run_bind, run_size hi, Result.andThen_ok, Sem.run_pure, run_places fs r hr]
theorem fill_parts {w : World} {W : WS} {a : Act} {S : Nat → Prop} {w0 : World} {W0 : WS} {S0 : Nat → Prop} (hs : St fz w0 W0 S0 σ h a w W S) {pl : List (Nat × Nat)} : ∀ {xs : List (Nat × Operand)} {l : List (Nat × List VP)} {cs : Array Value} {ps : List VP}, BParts σ pl xs l → VPs w W ps cs.toList → (∀ u ∈ cs.toList, u.oneCell' = true) → (∀ oq ∈ l, oq.1 + oq.2.length ≤ ps.length) →
    ∃ cs', Instr.fill (fun i => pl[i]?) cs (xs.map fun x => (x.1, a.eval x.2)) = some cs' ∧ VPs w W (bld ps l) cs'.toList ∧ ∀ u ∈ cs'.toList, u.oneCell' = true
  | _, _, cs, ps, .nil, hp, h1, _ => ⟨cs, rfl, hp, h1⟩
  | _, _, cs, ps, .cons (i := i) (x := x) (o := o) (q := q) (l := l) hpx hc ho k, hp, h1, hle => by
    have hv := hc _ _ _ (hs.eval hpx)
    have hvl := hv.1.length
    have hpl := hp.length
    have ho2 := hle (o, q) (List.mem_cons_self ..)
    simp only at ho2
    have hcsz : cs.size = ps.length := by rw [← Array.length_toList, hpl]
    have hvsz : (a.eval x).cells.size = q.length := by rw [← Array.length_toList, hvl]
    have hz : ((a.eval x).cells.zipIdx.foldl (fun cs (c, j) => cs.setIfInBounds (o + j) c) cs) = (((a.eval x).cells.toList.zipIdx 0).foldl (fun cs (c, j) => cs.setIfInBounds (o + j) c) cs) := by
      rw [← Array.foldl_toList, Array.toList_zipIdx]
    have hl := lay_list (a.eval x).cells.toList o 0 cs (by rw [Array.length_toList (xs := (a.eval x).cells), hvsz]; omega)
    obtain ⟨vs', p1, p2, p3⟩ := VPs.spl o hv.1 hp
    have hcl : ((a.eval x).cells.zipIdx.foldl (fun cs (c, j) => cs.setIfInBounds (o + j) c) cs).toList = vs' := by
      rw [hz, hl, Nat.add_zero]
      apply List.ext_getElem?
      intro j
      have hcl : cs.toList.length = ps.length := hpl
      by_cases hj : j < cs.toList.length
      · rw [p3 j hj]
        have htl : (cs.toList.take o).length = o := by rw [List.length_take]; omega
        by_cases h2 : o ≤ j ∧ j < o + (a.eval x).cells.toList.length
        · rw [if_pos h2, List.getElem?_append_left (by rw [List.length_append, htl]; omega), List.getElem?_append_right (by omega), htl]
        · rw [if_neg h2]
          by_cases h3 : j < o
          · rw [List.append_assoc, List.getElem?_append_left (by omega), List.getElem?_take, if_pos h3]
          · rw [List.getElem?_append_right (by rw [List.length_append, htl]; omega), List.length_append, htl, List.getElem?_drop]
            congr 1
            omega
      · rw [List.getElem?_eq_none (by simp only [List.length_append, List.length_take, List.length_drop]; omega), List.getElem?_eq_none (by omega)]
    have hone : ∀ u ∈ ((a.eval x).cells.zipIdx.foldl (fun cs (c, j) => cs.setIfInBounds (o + j) c) cs).toList, u.oneCell' = true := by
      intro u hu
      rw [hz, hl] at hu
      simp only [List.mem_append] at hu
      rcases hu with (hu | hu) | hu
      · exact h1 u (List.mem_of_mem_take hu)
      · exact hv.2 u hu
      · exact h1 u (List.mem_of_mem_drop hu)
    obtain ⟨cs', q1, q2, q3⟩ := fill_parts hs k (by rw [hcl]; exact p2) hone (fun oq hoq => by rw [spl_length]; exact hle oq (List.mem_cons_of_mem _ hoq))
    refine ⟨cs', ?_, q2, q3⟩
    rw [List.map_cons]
    unfold Instr.fill
    simp only [ho]
    rw [if_neg (by simp only [hvsz, ne_eq, not_true, decide_false, Bool.false_or, decide_eq_true_eq]; simp; omega)]
    exact q1
/-- what a place function does on the indexes that occur -/
theorem fill_congr {f g : Nat → Option (Nat × Nat)} : ∀ (xs : List (Nat × Value)) (cs : Array Value), (∀ x ∈ xs, f x.1 = g x.1) → Instr.fill f cs xs = Instr.fill g cs xs
  | [], cs, _ => rfl
  | (i, v) :: xs, cs, h => by
    have hi : f i = g i := h (i, v) (List.mem_cons_self ..)
    unfold Instr.fill
    rw [hi]
    cases g i with
    | none => rfl
    | some os =>
      simp only
      split
      · rfl
      · exact fill_congr xs _ (fun x hx => h x (List.mem_cons_of_mem _ hx))
theorem BParts.dom {pl : List (Nat × Nat)} : ∀ {xs : List (Nat × Operand)} {l : List (Nat × List VP)}, BParts σ pl xs l → ∀ x ∈ xs, ∃ oq, pl[x.1]? = some oq
  | _, _, .nil, x, hx => by cases hx
  | _, _, .cons hp hc ho k, x, hx => by
    rcases List.mem_cons.1 hx with rfl | hx
    · exact ⟨_, ho⟩
    · exact BParts.dom k x hx
theorem blds {xs : List (Nat × Operand)} {pl : List (Nat × Nat)} {zs : List Value} {l : List (Nat × List VP)} (ht : tPlaces P t = some pl) (hz : zOk P t zs) (hb : BParts σ pl xs l) (kk : EvL P fz B K ops rest ((d, vagg (bld (visL zs) l)) :: σ) h) (hle : (l.all fun oq => Nat.ble (oq.1 + oq.2.length) zs.length) = true := by rfl) (hd : Nat.ble (d + 1) fz = true := by rfl) (hg : Gk ops σ g := by first | exact gk0 | exact gk1 rfl rfl rfl (by assumption)) :
    EvL P fz B K ops (⟨some d, .build t xs.toArray, ty, pos, af, g⟩ :: rest) σ h :=
  opp hd hg (fun a w W S hs => by
    obtain ⟨hz1, hz2⟩ := hz
    unfold tZero at hz1
    obtain ⟨z, hz3, hz4⟩ := Option.map_eq_some_iff.1 hz1
    obtain ⟨i, hi, hiz⟩ := Option.bind_eq_some_iff.1 hz3
    obtain ⟨cs', h1, h2, h3⟩ := fill_parts hs hb (cs := z.cells) (ps := visL zs) (by rw [hz4]; exact VPs.visL zs) (by rw [hz4]; exact hz2) (fun oq hoq => by
      have := Nat.le_of_ble_eq_true (List.all_eq_true.1 hle oq hoq)
      have h4 := (VPs.visL (w := w) (W := W) zs).length
      omega)
    refine ⟨.agg cs', ?_, cs', rfl, h2, h3⟩
    have hm : (Array.map (fun x => (x.1, a.eval x.2)) xs.toArray).toList = xs.map fun x => (x.1, a.eval x.2) := by simp
    unfold tPlaces at ht
    unfold execOp
    split at ht
    · rename_i fs hu
      have hpl := run_places (P := P) (w := w) fs.toList pl ht
      have hpl2 : (fs.mapM (m := Sem) fun f => do pure (f.offset, ← sizeOf f.type)).run P w = .ok pl.toArray w := by
        rw [Array.mapM_eq_mapM_toList]
        simp only [Sem.run_map, hpl]
        rfl
      have hf : (fun (x : Nat) => pl.toArray[x]?) = fun (i : Nat) => pl[i]? := by funext i; simp
      simp only [Instr.build, Sem.run_bind, zeroValue, run_tinfo hi, Result.andThen_ok, hiz, Sem.run_pure, run_underlying hu]
      rw [hpl2]
      simp only [Result.andThen_ok, hf, hm, h1, Sem.run_pure]
    · rename_i n e hu
      obtain ⟨ie, hie, hple⟩ := Option.map_eq_some_iff.1 ht
      have hfc : Instr.fill (fun i => some (i * ie.size, ie.size)) z.cells (xs.map fun x => (x.1, a.eval x.2)) = some cs' := by
        rw [← h1]
        refine fill_congr _ _ (fun x hx => ?_)
        obtain ⟨y, hy, rfl⟩ := List.mem_map.1 hx
        obtain ⟨oq, hoq⟩ := hb.dom y hy
        rw [← hple] at hoq ⊢
        simp only at hoq ⊢
        rw [List.getElem?_map] at hoq ⊢
        cases hr : (List.range n)[y.1]? with
        | none => rw [hr] at hoq; simp at hoq
        | some j =>
          have : j = y.1 := by
            obtain ⟨h5, h6⟩ := List.getElem?_eq_some_iff.1 hr
            simpa using h6.symm
          subst this
          rfl
      simp only [Instr.build, Sem.run_bind, zeroValue, run_tinfo hi, Result.andThen_ok, hiz, Sem.run_pure, run_underlying hu, run_size hie, hm, hfc]
    · cases ht) kk
/-! ### a part of a struct by value -/
def tPart (P : Program) (t : TypeId) (f : Nat) (off : Nat) : Option (Option Nat) := match P.underlying t with
  | some (.struct fs) => match fs[f]? with
    | some fd => if fd.offset = off then match P.underlying fd.type, P.info? fd.type with
        | some d, some i => if isAggD d then some (some i.size) else some none
        | _, _ => none
      else none
    | none => none
  | _ => none
theorem fld1 {x : Operand} {f off : Nat} {ps : List VP} {p : VP} (ht : tPart P t f off = some none) (kk : EvL P fz B K ops rest ((d, p) :: σ) h) (hx : og σ x = some (vagg ps) := by rfl) (hp : ps[off]? = some p := by rfl) (hd : Nat.ble (d + 1) fz = true := by rfl) (hg : Gk ops σ g := by first | exact gk0 | exact gk1 rfl rfl rfl (by assumption)) :
    EvL P fz B K ops (⟨some d, .field t x f, ty, pos, af, g⟩ :: rest) σ h :=
  opp hd hg (fun a w W S hs => by
    obtain ⟨cs, h1, h2, h3⟩ : ∃ cs : Array Value, a.eval x = .agg cs ∧ VPs w W ps cs.toList ∧ ∀ u ∈ cs.toList, u.oneCell' = true := hs.eval hx
    obtain ⟨v, hv, hpv⟩ := h2.get hp
    refine ⟨v, ?_, hpv⟩
    unfold tPart at ht
    split at ht
    · rename_i fs hu
      split at ht
      · rename_i fd hfd
        split at ht
        · rename_i hoff
          split at ht
          · rename_i dd ii hud hid
            split at ht
            · cases ht
            · rename_i hna
              have hc : cs[fd.offset]? = some v := by rw [hoff]; simpa using hv
              unfold execOp
              simp only [Instr.field, h1, asAgg, Sem.run_bind, run_underlying hu, Result.andThen_ok, hfd, Sem.run_pure, part, run_isAgg hud, hna, if_false, hc]
              rfl
          · cases ht
        · cases ht
      · cases ht
    · cases ht) kk
theorem fldA {x : Operand} {f off n : Nat} {ps : List VP} (ht : tPart P t f off = some (some n)) (kk : EvL P fz B K ops rest ((d, vagg ((ps.drop off).take n)) :: σ) h) (hx : og σ x = some (vagg ps) := by rfl) (hd : Nat.ble (d + 1) fz = true := by rfl) (hg : Gk ops σ g := by first | exact gk0 | exact gk1 rfl rfl rfl (by assumption)) :
    EvL P fz B K ops (⟨some d, .field t x f, ty, pos, af, g⟩ :: rest) σ h :=
  opp hd hg (fun a w W S hs => by
    obtain ⟨cs, h1, h2, h3⟩ : ∃ cs : Array Value, a.eval x = .agg cs ∧ VPs w W ps cs.toList ∧ ∀ u ∈ cs.toList, u.oneCell' = true := hs.eval hx
    refine ⟨.agg (cs.extract off (off + n)), ?_, _, rfl, ?_, ?_⟩
    · unfold tPart at ht
      split at ht
      · rename_i fs hu
        split at ht
        · rename_i fd hfd
          split at ht
          · rename_i hoff
            split at ht
            · rename_i dd ii hud hid
              split at ht
              · rename_i hna
                simp only [Option.some.injEq] at ht
                subst hoff
                unfold execOp
                simp only [Instr.field, h1, asAgg, Sem.run_bind, run_underlying hu, Result.andThen_ok, hfd, Sem.run_pure, part, run_isAgg hud, hna, if_true, run_size hid, ht]
              · cases ht
            · cases ht
          · cases ht
        · cases ht
      · cases ht
    · have : (cs.extract off (off + n)).toList = (cs.toList.drop off).take n := by
        rw [Array.toList_extract, List.extract_eq_take_drop, Nat.add_sub_cancel_left]
      rw [this]
      exact (h2.drop off).take n
    · intro u hu
      have : (cs.extract off (off + n)).toList = (cs.toList.drop off).take n := by
        rw [Array.toList_extract, List.extract_eq_take_drop, Nat.add_sub_cancel_left]
      rw [this] at hu
      exact h3 u (List.mem_of_mem_drop (List.mem_of_mem_take hu))) kk
end
end Go.Proofs.Ytkcpejbabbbjpaa
