/- A part of the proof: contracts over a program of the model. -/
import Derived.Test.YtkcpejbabbbjpaaX3
set_option linter.unusedVariables false
set_option linter.unusedSectionVars false
set_option linter.unusedSimpArgs false
namespace Go.Proofs.Ytkcpejbabbbjpaa
open Go.RowKit
section
variable {P : Program} {κ ν : Type} [DecidableEq κ] {encK : κ → Value} {encV : ν → VP} {m : List (κ × ν)} {t kt vt : TypeId}
theorem run_mst {w : World} {W : WS} {b : Nat} {uz : Value} (k : κ) (v : ν) (ht : tMap P t kt vt = true) (hk : KeyOk P kt encK) (hlen : m.length < 9223372036854775807) (hbd : ∀ b, W b → b < w.heap.size) (hv : (encV v).p w W uz) :
    ∀ S1, (hmap b encK encV m).p w W S1 → (∀ b, S1 b → W b) → ∃ w', (Instr.mapUpdate t (.map (some b)) (encK k) uz).run P w = .ok () w' ∧ (hmap b encK encV (mset m k v)).p w' W S1 ∧ Run w W S1 w' W S1 := by
  rintro S1 ⟨⟨es, c, h1, h2, h3, h4, h5⟩, hS1⟩ hsub
  have hbS : S1 b := (hS1 b).2 rfl
  have hget := h2.get k
  have hfind := hk.find (m.map (·.1)) es.toList k w h2.keys
  have hset : ∀ (es' : Array MapEntry) (c' : Nat), (setObj b (.map es' c')).run P w = .ok () { w with heap := w.heap.setIfInBounds b (.map es' c') } := by
    intro es' c'
    simp [setObj, Sem.run, h1]
  have hrun : ∀ (es' : Array MapEntry) (c' : Nat), Run w W S1 { w with heap := w.heap.setIfInBounds b (.map es' c') } W S1 := fun es' c' =>
    ⟨rfl, rfl, rfl, by simp, fun x hl hn => by
      have : b ≠ x := fun e => hn (e ▸ hbS)
      simp [Array.getElem?_setIfInBounds_ne this], fun _ _ _ => Iff.rfl, fun _ _ h => h, fun _ h => .inl h, hsub, fun x hx => by simpa using hbd x hx⟩
  have hat : ∀ (es' : Array MapEntry) (c' : Nat), ({ w with heap := w.heap.setIfInBounds b (.map es' c') } : World).heap[b]? = some (.map es' c') := by
    intro es' c'
    have := (Array.getElem?_eq_some_iff.1 h1).1
    simp [this]
  have hml : (mset m k v).length ≤ 9223372036854775807 := by
    have := congrArg List.length (mset_keys (m := m) (k := k) (v := v))
    rw [List.length_map] at this
    split at this
    · rw [List.length_append, List.length_map, List.length_singleton] at this; omega
    · rw [List.length_map] at this; omega
  have hnd := mset_nodup (k := k) (v := v) h5
  unfold Instr.mapUpdate
  simp only [Sem.run_bind, run_underlying (tMap_parts ht), Result.andThen_ok, run_getMap h1, hk.ck, hfind]
  cases hf : ((m.map (·.1)).findIdx? (fun k' => decide (k' = k))).bind fun i => (es.toList[i]?).map fun e => (i, e.val) with
  | none =>
    rw [hf] at hget
    have hg : mget m k = none := by
      cases hg : mget m k with
      | some v => rw [hg] at hget; exact hget.elim
      | none => rfl
    have hev := (hrun (es.push { key := encK k, val := uz, born := c }) (c + 1)).evo hsub
    refine ⟨{ w with heap := w.heap.setIfInBounds b (.map (es.push { key := encK k, val := uz, born := c }) (c + 1)) }, by simp only [hset], ⟨⟨_, _, hat _ _, ?_, ?_, hml, hnd⟩, hS1⟩, hrun _ _⟩
    · rw [Array.toList_push]
      exact (h2.push hg rfl hv).st hev
    · rw [Array.toList_push]
      exact Born.push (e := { key := encK k, val := uz, born := c }) rfl h3
  | some iu =>
    obtain ⟨i, u⟩ := iu
    rw [hf] at hget
    cases hg : mget m k with
    | none => rw [hg] at hget; exact hget.elim
    | some v0 =>
      rw [hg] at hget
      have hi : (m.map (·.1)).findIdx? (fun k' => decide (k' = k)) = some i := by
        obtain ⟨i', hi', he⟩ := Option.bind_eq_some_iff.1 hf
        obtain ⟨e, _, he2⟩ := Option.map_eq_some_iff.1 he
        injection he2 with h6
        rw [← h6]
        exact hi'
      have hkey : ((es[i]?).map (·.key)).getD (encK k) = encK k := by
        have := hget.2
        rw [Array.getElem?_toList] at this
        rw [this]
        rfl
      have hstay : (Instr.keyThatStays (((es[i]?).map (·.key)).getD (encK k)) (encK k)).run P w = .ok (encK k) w := by
        rw [hkey]
        unfold Instr.keyThatStays
        rw [hk.bits]
        rfl
      have hev := (hrun (es.modify i fun e => { e with key := encK k, val := uz }) c).evo hsub
      refine ⟨{ w with heap := w.heap.setIfInBounds b (.map (es.modify i fun e => { e with key := encK k, val := uz }) c) }, by simp only [Sem.run_bind, hstay, Result.andThen_ok, hset], ⟨⟨_, _, hat _ _, ?_, ?_, hml, hnd⟩, hS1⟩, hrun _ _⟩
      · rw [Array.toList_modify]
        exact (h2.setE hi hv).st hev
      · rw [Array.toList_modify]
        exact Born.modify (f := fun e => { e with key := encK k, val := uz }) (fun _ => rfl) h3

end
section
variable {P : Program} {fz : Nat} {B : Bs} {σ : Regs} {h : List HP} {t : TypeId}
theorem ex_blds {xs : List (Nat × Operand)} {pl : List (Nat × Nat)} {zs : List Value} {l : List (Nat × List VP)} {a : Act} {w : World} {W : WS} {S : Nat → Prop} {o : Oper} (hs : St fz B.w0 B.W0 B.S0 σ h a w W S) (ho : o.op = .build t xs.toArray) (ht : tPlaces P t = some pl) (hz : zOk P t zs) (hb : BParts σ pl xs l) (hle : (l.all fun oq => Nat.ble (oq.1 + oq.2.length) zs.length) = true) :
    ∃ v, (execOp a.eval o).run P w = .ok (.value v) w ∧ (vagg (bld (visL zs) l)).p w W v := by
    obtain ⟨hz1, hz2⟩ := hz
    unfold tZero at hz1
    obtain ⟨z, hz3, hz4⟩ := Option.map_eq_some_iff.1 hz1
    obtain ⟨i, hi, hiz⟩ := Option.bind_eq_some_iff.1 hz3
    obtain ⟨cs', h1, h2, h3⟩ := fill_parts hs hb (cs := z.cells) (ps := visL zs) (by rw [hz4]; exact VPs.visL zs) (by rw [hz4]; exact hz2) (fun oq hoq => by
      have := Nat.le_of_ble_eq_true (List.all_eq_true.1 hle oq hoq)
      have h4 := (VPs.visL (w := w) (W := W) zs).length
      omega)
    refine ⟨.agg cs', ?_, cs', rfl, h2, h3⟩
    have hm : (Array.map (fun x => (x.1, a.eval x.2)) xs.toArray).toList = xs.map fun x => (x.1, a.eval x.2) := by simp
    unfold tPlaces at ht
    unfold execOp
    simp only [ho]
    split at ht
    · rename_i fs hu
      have hpl := run_places (P := P) (w := w) fs.toList pl ht
      have hpl2 : (fs.mapM (m := Sem) fun f => do pure (f.offset, ← sizeOf f.type)).run P w = .ok pl.toArray w := by
        rw [Array.mapM_eq_mapM_toList]
        simp only [Sem.run_map, hpl]
        rfl
      have hf : (fun (x : Nat) => pl.toArray[x]?) = fun (i : Nat) => pl[i]? := by funext i; simp
      simp only [Instr.build, Sem.run_bind, zeroValue, run_tinfo hi, Result.andThen_ok, hiz, Sem.run_pure, run_underlying hu]
      rw [hpl2]
      simp only [Result.andThen_ok, hf, hm, h1, Sem.run_pure]
    · rename_i n e hu
      obtain ⟨ie, hie, hple⟩ := Option.map_eq_some_iff.1 ht
      have hfc : Instr.fill (fun i => some (i * ie.size, ie.size)) z.cells (xs.map fun x => (x.1, a.eval x.2)) = some cs' := by
        rw [← h1]
        refine fill_congr _ _ (fun x hx => ?_)
        obtain ⟨y, hy, rfl⟩ := List.mem_map.1 hx
        obtain ⟨oq, hoq⟩ := hb.dom y hy
        rw [← hple] at hoq ⊢
        simp only at hoq ⊢
        rw [List.getElem?_map] at hoq ⊢
        cases hr : (List.range n)[y.1]? with
        | none => rw [hr] at hoq; simp at hoq
        | some j =>
          have : j = y.1 := by
            obtain ⟨h5, h6⟩ := List.getElem?_eq_some_iff.1 hr
            simpa using h6.symm
          subst this
          rfl
      simp only [Instr.build, Sem.run_bind, zeroValue, run_tinfo hi, Result.andThen_ok, hiz, Sem.run_pure, run_underlying hu, run_size hie, hm, hfc]
    · cases ht
variable {α : Type} {sz bytes : Nat} {zs : List Value} {e : TypeId}
theorem ex_litO {xs : List Operand} {vps : List VP} {n : Nat} {a : Act} {w : World} {W : WS} {S : Nat → Prop} {o : Oper} (l : List α) (enc : α → List VP) (hs : St fz B.w0 B.W0 B.S0 σ h a w W S) (ho : o.op = .buildSlice t n (parts0 xs)) (ht : tRow P t e sz bytes zs) (hc : Cels vps (l.map enc)) (hx : ogs σ xs = some vps) (hn : Nat.beq xs.length n = true) (hsm : Nat.ble (n * (sz + 1)) 16777216 = true) (hla : (l.map enc).all (fun q => Nat.beq q.length sz) = true) :
    ∃ w' W' S', (execOp a.eval o).run P w = .ok (.value (.slice (some ⟨w.heap.size, 0, none⟩) n n)) w' ∧ l.length = n ∧ Sat w' W' (hrow (.slice (some ⟨w.heap.size, 0, none⟩) n n) e sz enc l :: h) S' ∧ Run w W S w' W' S' := by
    have hl : ∀ q ∈ l.map enc, q.length = sz := fun q hq => Nat.eq_of_beq_eq_true (List.all_eq_true.1 hla q hq)
    have hv := hs.evals hx
    have hn' := Nat.eq_of_beq_eq_true hn
    have hsm' := Nat.le_of_ble_eq_true hsm
    have hll : l.length = n := by
      have h1 := hc.len
      have h2 := hv.length
      rw [List.length_map] at h1 h2
      omega
    have hr := Run.new hs.run.sub hs.run.bound (.cells ((xs.map a.eval).map (·.cells.toList)).flatten.toArray e)
    have hev := hr.evo hs.run.sub
    have hcl : ((xs.map a.eval).map (·.cells.toList)).flatten.length = n * sz := by
      have hall : ∀ (vs : List Value), (∀ v ∈ vs, v.cells.size = sz) → ((vs.map (·.cells.toList)).flatten).length = vs.length * sz := by
        intro vs
        induction vs with
        | nil => intro _; simp
        | cons v vs ih =>
          intro h
          rw [List.map_cons, List.flatten_cons, List.length_append, ih (fun u hu => h u (List.mem_cons_of_mem _ hu)), Array.length_toList (xs := v.cells), h v (List.mem_cons_self ..), List.length_cons, Nat.succ_mul, Nat.add_comm]
      rw [hall _ (fun v hv' => Cels.siz hc hl hv v hv'), List.length_map, hn']
    refine ⟨_, _, _, ex_lit n ho hn' ht (Nat.le_trans (Nat.mul_le_mul_left _ (by omega)) hsm') (fun x hx' => Cels.siz hc hl hv _ (List.mem_map.2 ⟨x, hx', rfl⟩)), hll, ?_, hr⟩
    refine ⟨fun b => b = w.heap.size, S, .inr ⟨w.heap.size, 0, n, _, by rw [hll], by omega, new_at w _, by rw [List.size_toArray, hcl]; omega, fun u hu => Cels.one_ hc hv u (by simpa using List.mem_of_mem_drop (List.mem_of_mem_take hu)), by rw [hll]; omega, fun i hi => ?_, fun _ => Iff.rfl⟩, hs.sat.st hev (fun b hb => by have := hs.sat.lt b hb; simp [Array.getElem?_push, Nat.ne_of_lt this]), fun b hb hS => by have := hs.sat.lt b hS; omega, fun _ => Iff.rfl⟩
    have hi' : i < (l.map enc).length := by simpa using hi
    have hq := hl _ (List.getElem_mem hi')
    rw [List.getElem_map] at hq
    have hat := Cels.at_ hc hl hv i hi'
    rw [List.getElem_map] at hat
    exact ⟨hq, by rw [Nat.zero_add]; exact hat.st hev⟩

end
end Go.Proofs.Ytkcpejbabbbjpaa
