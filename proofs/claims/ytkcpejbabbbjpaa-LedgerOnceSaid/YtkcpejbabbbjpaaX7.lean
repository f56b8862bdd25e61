/- A part of the proof: contracts over a program of the model. -/
import Derived.Test.YtkcpejbabbbjpaaX6
import Derived.Lib.AppendZeros
set_option linter.unusedVariables false
set_option linter.unusedSectionVars false
set_option linter.unusedSimpArgs false
namespace Go.Proofs.Ytkcpejbabbbjpaa
open Go.RowKit
section
variable {P : Program} {ty : TypeId} {α : Type} {sz bytes : Nat} {zs : List Value} {enc : α → List VP} {l l2 : List α} {t e : TypeId}
theorem run_app2 {w : World} {W : WS} {S1 : Nat → Prop} {v y : Value} {m : Nat} {news : List Value} (ht : tRow P t e sz bytes zs) (hr : (hrow v e sz enc l).p w W S1) (hsub : ∀ b, S1 b → W b) (hbd : ∀ b, W b → b < w.heap.size) (hml : l2.length = m) (hlen : (Builtin.lenOf y).run P w = .ok m w)
    (n1 : news.length = m * sz) (n2 : ∀ u ∈ news, u.oneCell' = true) (n3 : ∀ w' : World, w'.heap = w.heap → (Builtin.firstCells sz m y).run P w' = .ok news.toArray w') (n4 : ∀ i (hi : i < l2.length), (enc l2[i]).length = sz ∧ VPs w W (enc l2[i]) ((news.drop (i * sz)).take sz)) (hbn : (l.length + l2.length) * bytes ≤ 140737488355328)
    (hbn2 : (l.length + l2.length) * (sz + 1) ≤ 9223372036854775807) :
    ∃ v' w' W' S1', (Builtin.append_ #[t, t] ty #[v, y]).run P w = .ok v' w' ∧ v'.oneCell' = true ∧ (hrow v' e sz enc (l ++ l2)).p w' W' S1' ∧ Run w W S1 w' W' S1' := by
  obtain ⟨hu, info, z, hi, hsz, hby, hz, hzs, hz1, hzl⟩ := ht
  have n3' : ∀ w' : World, w'.heap = w.heap → (Builtin.firstCells info.size m y).run P w' = .ok news.toArray w' := by rw [hsz]; exact n3
  have hsm : l.length + m ≤ 9223372036854775807 := by rw [← hml]; exact Nat.le_trans (Nat.le_mul_of_pos_right _ (by omega)) hbn2
  have hspl : ∀ nc, l.length + m ≤ nc → (l.length + l2.length) * sz + (Builtin.zeroCells z.cells (nc - (l.length + m))).toList.length = nc * sz := by
    intro nc hnc
    have h1 : (Builtin.zeroCells z.cells (nc - (l.length + m))).toList.length = (nc - (l.length + m)) * sz := by
      rw [Array.length_toList, size_zeroC, show z.cells.size = sz from by rw [← Array.length_toList, hzs, hzl]]
    rw [h1, hml, ← Nat.add_mul]
    congr 1
    omega
  rcases hr with ⟨rfl, rfl, hS⟩ | ⟨g, o, c, cs, rfl, hlc, hh, hcs, hone, hbnd, hel, hS⟩
  · rcases Nat.eq_zero_or_pos m with h0 | h0
    · subst h0
      have : l2 = [] := List.eq_nil_of_length_eq_zero hml
      subst this
      exact ⟨.slice none 0 0, w, W, S1, app_room (news := news) hu hi rfl hlen (by omega) (n3' w rfl) rfl, rfl, .inl ⟨rfl, rfl, hS⟩, Run.refl hsub hbd⟩
    · obtain ⟨nc, hnc, hrun⟩ := app_grow (ty := ty) (A := none) (n := 0) (c := 0) (olds := []) hu hi hz rfl hlen (by omega) (by simpa using hsm) (by rw [hby]; simpa [hml] using hbn) (fun w' _ => by rfl) n3'
      obtain ⟨W', S1', h1, h2⟩ := row_new (w.drawn + 1) (l := []) (l2 := l2) (enc := enc) (e := e) (olds := []) (news := news) (sp := (Builtin.zeroCells z.cells (nc - (0 + m))).toList) (nc := nc) hsub hbd (by simp) (by rw [n1, hml]) (by simpa using hspl nc (by simpa using hnc)) (by simpa [hml] using hnc) hbn2 (by simp) n2
        (zeroCells_one (by rw [hzs]; exact hz1)) (fun i hi => by simp at hi) n4
      have hz2 : (Builtin.zeroCells z.cells (nc - (0 + m))).toList.toArray = Builtin.zeroCells z.cells (nc - (0 + m)) := by simp
      rw [hz2] at h1 h2
      refine ⟨_, _, W', S1', hrun, rfl, ?_, h2⟩
      simpa [hml] using h1
  · have hg : S1 g := (hS g).2 rfl
    have hone' : ∀ u ∈ (cs.toList.drop o).take (l.length * sz), u.oneCell' = true := hone
    by_cases hroom : l.length + m ≤ c
    · have hfit : (l.length + m) * sz ≤ c * sz := Nat.mul_le_mul_right _ hroom
      have hfit2 := hfit
      rw [Nat.add_mul] at hfit2
      obtain ⟨w', cs', hr, hb', hsz', hcs', e1, e2, e3, e4, e5⟩ := run_storeCells (P := P) (b := g) (e := e) news 0 (o + l.length * sz) w cs hh n2 (by rw [n1]; omega)
      have hrun : Run w W S1 w' W S1 := ⟨e1, e2, e3, by omega, fun k hk hn => e5 k (fun e => hn (e ▸ hg)), fun _ _ _ => Iff.rfl, fun _ _ h => h, fun _ h => .inl h, hsub, fun k hk => by rw [e4]; exact hbd k hk⟩
      have hev := hrun.evo hsub
      have hcl : cs'.toList = cs.toList.take (o + l.length * sz) ++ news ++ cs.toList.drop (o + l.length * sz + news.length) := by
        apply List.ext_getElem?
        intro j
        rw [Array.getElem?_toList, hcs' j, Nat.add_zero]
        have hlen : (cs.toList.take (o + l.length * sz)).length = o + l.length * sz := by rw [List.length_take, Array.length_toList (xs := cs)]; omega
        clear hbn hbn2 hbnd hsm hspl
        by_cases h1 : j < o + l.length * sz
        · rw [if_neg (by omega), List.append_assoc, List.getElem?_append_left (by omega), List.getElem?_take, if_pos h1, Array.getElem?_toList]
        · by_cases h2 : j < o + l.length * sz + news.length
          · rw [if_pos (by omega), List.getElem?_append_left (by rw [List.length_append, hlen]; omega), List.getElem?_append_right (by omega), hlen]
          · rw [if_neg (by omega), List.getElem?_append_right (by rw [List.length_append, hlen]; omega), List.length_append, hlen, List.getElem?_drop, Array.getElem?_toList]
            congr 1
            omega
      refine ⟨_, w', W, S1, app_room (news := news) hu hi rfl hlen hroom (n3' w rfl) (by show Sem.run P (storeCells ((⟨g, o, none⟩ : Addr).add (l.length * info.size)) news) w = _; rw [add_pl, hsz]; exact hr), rfl, .inr ⟨g, o, c, cs', by rw [List.length_append, hml], by rw [List.length_append, hml]; exact hroom, hb', by rw [hsz']; exact hcs, ?_, by rw [List.length_append]; exact hbn2, fun i hi' => ?_, hS⟩, hrun⟩
      · intro u hu
        rw [hcl] at hu
        obtain ⟨j, hj, hu⟩ := mem_seg.1 hu
        have hll : (cs.toList.take (o + l.length * sz)).length = o + l.length * sz := by rw [List.length_take, Array.length_toList (xs := cs)]; omega
        rw [List.length_append, hml, Nat.add_mul] at hj
        by_cases h1 : j < l.length * sz
        · rw [List.append_assoc, List.getElem?_append_left (by omega), List.getElem?_take, if_pos (by omega)] at hu
          exact hone u (mem_seg.2 ⟨j, h1, hu⟩)
        · rw [List.getElem?_append_left (by rw [List.length_append, hll, n1]; omega), List.getElem?_append_right (by omega)] at hu
          exact n2 u (List.mem_of_getElem? hu)
      · rw [hcl]
        by_cases hlt : i < l.length
        · rw [List.getElem_append_left hlt]
          obtain ⟨q1, q2⟩ := hel i hlt
          refine ⟨q1, ?_⟩
          have hb : i * sz + sz ≤ l.length * sz := by rw [← Nat.succ_mul]; exact Nat.mul_le_mul_right _ hlt
          have hll : (cs.toList.take (o + l.length * sz)).length = o + l.length * sz := by rw [List.length_take, Array.length_toList (xs := cs)]; omega
          rw [List.append_assoc, seg_app (by omega)]
          have : (List.drop (o + i * sz) (List.take (o + l.length * sz) cs.toList)).take sz = (List.drop (o + i * sz) cs.toList).take sz := by
            rw [List.drop_take, List.take_take]
            congr 1
            omega
          rw [this]
          exact q2.st hev
        · rw [List.getElem_append_right (by omega)]
          rw [List.length_append] at hi'
          obtain ⟨q1, q2⟩ := n4 (i - l.length) (by omega)
          refine ⟨q1, ?_⟩
          have hll : (cs.toList.take (o + l.length * sz)).length = o + l.length * sz := by rw [List.length_take, Array.length_toList (xs := cs)]; omega
          have hb : (i - l.length) * sz + sz ≤ news.length := by rw [n1, ← Nat.succ_mul]; exact Nat.mul_le_mul_right _ (by omega)
          have hi2 : o + i * sz = (cs.toList.take (o + l.length * sz)).length + (i - l.length) * sz := by rw [hll, Nat.add_assoc, ← Nat.add_mul]; congr 2; omega
          rw [hi2, List.append_assoc, seg_app2, seg_app hb]
          exact q2.st hev
    · have hol : ((cs.toList.drop o).take (l.length * sz)).length = l.length * sz := by
        rw [List.length_take, List.length_drop, Array.length_toList (xs := cs)]
        have := Nat.mul_le_mul_right sz hlc
        omega
      have hold : ∀ w' : World, w'.heap = w.heap → (Builtin.firstCells info.size l.length (.slice (some ⟨g, o, none⟩) l.length c)).run P w' = .ok ((cs.toList.drop o).take (l.length * sz)).toArray w' := by
        intro w' hw
        simp only [Builtin.firstCells, loadCells, hsz]
        have := run_loadCells (P := P) (w := w') (a := ⟨g, o, none⟩) ((cs.toList.drop o).take (l.length * sz)) 0 #[] (fun j u hj => ?_)
        · rw [hol] at this
          rw [this]
          simp
        · rw [add_pl, cell_at (by rw [hw]; exact hh), Nat.zero_add]
          rw [List.getElem?_take] at hj
          split at hj
          · rw [List.getElem?_drop] at hj
            simpa using hj
          · cases hj
      obtain ⟨nc, hnc, hrun⟩ := app_grow (ty := ty) (olds := (cs.toList.drop o).take (l.length * sz)) hu hi hz rfl hlen hroom hsm (by rw [hby, ← hml]; exact hbn) hold n3'
      have hel' : ∀ i (hi : i < l.length), (enc l[i]).length = sz ∧ VPs w W (enc l[i]) ((((cs.toList.drop o).take (l.length * sz)).drop (i * sz)).take sz) := by
        intro i hi
        obtain ⟨q1, q2⟩ := hel i hi
        refine ⟨q1, ?_⟩
        have hb : i * sz + sz ≤ l.length * sz := by rw [← Nat.succ_mul]; exact Nat.mul_le_mul_right _ hi
        have : (List.drop (i * sz) ((cs.toList.drop o).take (l.length * sz))).take sz = (List.drop (o + i * sz) cs.toList).take sz := by
          rw [List.drop_take, List.take_take, List.drop_drop]
          congr 1
          omega
        rw [this]
        exact q2
      obtain ⟨W', S1', h1, h2⟩ := row_new (w.drawn + 1) (l := l) (l2 := l2) (enc := enc) (e := e) (olds := (cs.toList.drop o).take (l.length * sz)) (news := news) (sp := (Builtin.zeroCells z.cells (nc - (l.length + m))).toList) (nc := nc) hsub hbd hol (by rw [n1, hml]) (hspl nc hnc) (by rw [hml]; exact hnc) hbn2 hone' n2
        (zeroCells_one (by rw [hzs]; exact hz1)) hel' n4
      have hz2 : (Builtin.zeroCells z.cells (nc - (l.length + m))).toList.toArray = Builtin.zeroCells z.cells (nc - (l.length + m)) := by simp
      rw [hz2] at h1 h2
      refine ⟨_, _, W', S1', hrun, rfl, ?_, h2⟩
      simpa [hml] using h1
end
section
variable {P : Program} {fz : Nat} {B : Bs} {φ : Env} {s : XS} {a : Act} {w : World} {W : WS} {S : Nat → Prop}
theorem prs_ogs {σ : RG} : ∀ {xs : List (Nat × Operand)} {l : List (Nat × AV)}, prs σ xs = some l → ogs (dnR φ σ) (xs.map (·.2)) = some (l.map fun x => dn φ x.2)
  | [], l, h => by injection h with h; subst h; rfl
  | (i, x) :: xs, l, h => by
    simp only [prs] at h
    obtain ⟨a, h1, h⟩ := bnd_some h
    obtain ⟨l', h2, h⟩ := bnd_some h
    injection h with h
    subst h
    have hx : og (dnR φ σ) x = some (dn φ a) := by
      cases x with
      | tmp t => show rg (dnR φ σ) t = _; rw [rg_dnR, show gR σ t = some a from h1]; rfl
      | const v => injection h1 with h1; subst h1; rfl
      | global g => cases h1
      | func f => injection h1 with h1; subst h1; rfl
    simp only [List.map_cons, ogs, hx, prs_ogs h2]
theorem dn_cel {a : AV} (h : (flat a).all isOne = true) : Cel (dn φ a) (enc φ (flat a)) := fun w W v hv => by
  obtain ⟨h1, h2⟩ := flat_val h (dn_p.1 hv)
  exact ⟨vals_vps.2 h1, h2⟩
theorem spA_len : ∀ (q cs : List AV) (o : Nat), (spA cs o q).length = cs.length
  | [], _, _ => rfl
  | x :: q, cs, o => by simp only [spA, spA_len q, lset_eq, List.length_set]
theorem bldA_ok {σ : RG} {pl : List (Nat × Nat)} : ∀ {xs : List (Nat × Operand)} {l : List (Nat × AV)} {ps q : List AV}, prs σ xs = some l → bldA pl ps l = some q →
    ∃ l' : List (Nat × List VP), BParts (dnR φ σ) pl xs l' ∧ bld (enc φ ps) l' = enc φ q ∧ ∀ oq ∈ l', oq.1 + oq.2.length ≤ ps.length
  | [], l, ps, q, h1, h2 => by
    injection h1 with h1
    subst h1
    injection h2 with h2
    subst h2
    exact ⟨[], .nil, rfl, fun _ h => by cases h⟩
  | (i, x) :: xs, l, ps, q, h1, h2 => by
    simp only [prs] at h1
    obtain ⟨a, k1, h1⟩ := bnd_some h1
    obtain ⟨l1, k2, h1⟩ := bnd_some h1
    injection h1 with h1
    subst h1
    simp only [bldA] at h2
    obtain ⟨y, k3, h2⟩ := bnd_some h2
    obtain ⟨k4, h2⟩ := lp1_some h2
    simp only [Bool.and_eq_true] at k4
    obtain ⟨⟨g1, g2⟩, g3⟩ := k4
    have g1 := Nat.eq_of_beq_eq_true g1
    have g2 := Nat.le_of_ble_eq_true g2
    obtain ⟨l', m1, m2, m3⟩ := bldA_ok k2 h2
    have hx : og (dnR φ σ) x = some (dn φ a) := by
      cases x with
      | tmp t => show rg (dnR φ σ) t = _; rw [rg_dnR, show gR σ t = some a from k1]; rfl
      | const v => injection k1 with k1; subst k1; rfl
      | global g => cases k1
      | func f => injection k1 with k1; subst k1; rfl
    rw [lget_eq] at k3
    have hlen : (enc φ (flat a)).length = y.2 := by simp only [enc, List.length_map]; exact g1
    refine ⟨(y.1, enc φ (flat a)) :: l', .cons hx (dn_cel g3) (by rw [k3, hlen]) m1, ?_, fun oq hoq => ?_⟩
    · simp only [bld, spl_enc]
      exact m2
    · rcases List.mem_cons.1 hoq with rfl | hoq
      · show y.1 + _ ≤ _; rw [hlen]; exact g2
      · have := m3 oq hoq
        rw [spA_len] at this
        exact this
theorem enc_v : ∀ (l : List Value), enc φ (l.map AV.v) = visL l
  | [] => rfl
  | x :: l => by
    show dn φ (.v x) :: enc φ (l.map AV.v) = vis x :: visL l
    rw [enc_v l]; rfl
theorem ok_build {t : TypeId} {xs : Array (Nat × Operand)} {o : Oper} {r : AV × List Ent × Nat} (ho : o.op = .build t xs) (h : valE P s (.build t xs) = some r) : OkV P fz B s r.1 r.2.1 r.2.2 (fun a => execOp a.eval o) := by
  simp only [valE] at h
  obtain ⟨pl, h1, h⟩ := bnd_some h
  obtain ⟨z, h2, h⟩ := bnd_some h
  obtain ⟨l, h3, h⟩ := bnd_some h
  obtain ⟨q, h4, h⟩ := bnd_some h
  refine keep_ok h fun cv h6 φ a w W S hs => ?_
  injection h6 with h6
  subst h6
  unfold zers at h2
  obtain ⟨zs, k1, h2⟩ := bnd_some h2
  obtain ⟨k2, h2⟩ := lp1_some h2
  injection h2 with h2
  subst h2
  obtain ⟨l', m1, m2, m3⟩ := bldA_ok (φ := φ) h3 h4
  rw [enc_v] at m2
  obtain ⟨v, hv, cs, q1, q2, q3⟩ := ex_blds (P := P) hs (o := o) (t := t) (by rw [ho, Array.toArray_toList]) h1 ⟨k1, fun u hu => List.all_eq_true.1 k2 u hu⟩ m1 (List.all_eq_true.2 fun oq hoq => by
    have := m3 oq hoq
    rw [List.length_map] at this
    exact Nat.ble_eq_true_of_le this)
  refine ⟨v, hv, ?_⟩
  rw [m2] at q2
  simp only [val, vals_vps.1 q2, Option.map_some, q1]
theorem eInf_ok {t : TypeId} {x : Nat × Nat × Nat × List AV} (h : eInf P t = some x) : ∃ zs, tRow P t x.1 x.2.1 x.2.2.1 zs ∧ x.2.2.2 = zs.map AV.v := by
  unfold eInf at h
  obtain ⟨e, h1, h⟩ := bnd_some h
  obtain ⟨i, h2, h⟩ := bnd_some h
  obtain ⟨z, h3, h⟩ := bnd_some h
  obtain ⟨h4, h⟩ := lp1_some h
  injection h with h
  subst h
  unfold zers tZero at h3
  obtain ⟨zs, k1, h3⟩ := bnd_some h3
  obtain ⟨k2, h3⟩ := lp1_some h3
  injection h3 with h3
  subst h3
  obtain ⟨v, h5, h6⟩ := Option.map_eq_some_iff.1 k1
  rw [h2] at h5
  have h4 := Nat.eq_of_beq_eq_true h4
  rw [List.length_map] at h4
  exact ⟨zs, ⟨elemT_eq h1, i, v, h2, rfl, rfl, h5, h6, fun u hu => List.all_eq_true.1 k2 u hu, h4⟩, rfl⟩
theorem hrow_le {φ' : Env} (h : Le φ φ') {v : Value} {e sz : Nat} {l : List (List AV)} : HLe (hrow v e sz (enc φ) l) (hrow v e sz (enc φ') l) := by
  intro w W S g
  rcases g with g | ⟨g, o, c, cs, h1, h2, h3, h4, h5, h6, h7, h8⟩
  · exact .inl g
  · exact .inr ⟨g, o, c, cs, h1, h2, h3, h4, h5, h6, fun i hi => ⟨by have := (h7 i hi).1; simp only [enc, List.length_map] at this ⊢; exact this, VPs_le h (h7 i hi).2⟩, h8⟩
theorem seqn_parts : ∀ {l : List (Nat × Operand)} {i : Nat}, seqn i l = true → ((l.map (·.2)).zipIdx i).map (fun x => (x.2, x.1)) = l
  | [], _, _ => rfl
  | (j, x) :: l, i, h => by
    simp only [seqn, Bool.and_eq_true] at h
    have := Nat.eq_of_beq_eq_true h.1
    subst this
    simp only [List.map_cons, List.zipIdx_cons, seqn_parts h.2]
theorem okLen_ok {m sz bytes : Nat} (h : okLen m sz bytes = true) : m * (sz + 1) ≤ 16777216 ∧ m * bytes ≤ 16777216 := by
  unfold okLen at h
  simp only [Bool.and_eq_true] at h
  exact ⟨Nat.le_of_ble_eq_true h.1, Nat.le_of_ble_eq_true h.2⟩
theorem cels_flat : ∀ {l : List (Nat × AV)}, (∀ x ∈ l, (flat x.2).all isOne = true) → Cels (l.map fun x => dn φ x.2) ((l.map fun x => flat x.2).map (enc φ))
  | [], _ => .nil
  | x :: l, h => .cons (dn_cel (h x (List.mem_cons_self ..))) (cels_flat fun y hy => h y (List.mem_cons_of_mem _ hy))
theorem prs_len {σ : RG} : ∀ {xs : List (Nat × Operand)} {l : List (Nat × AV)}, prs σ xs = some l → l.length = xs.length
  | [], l, h => by injection h with h; subst h; rfl
  | (i, x) :: xs, l, h => by
    simp only [prs] at h
    obtain ⟨a, h1, h⟩ := bnd_some h
    obtain ⟨l', h2, h⟩ := bnd_some h
    injection h with h
    subst h
    simp only [List.length_cons, prs_len h2]
theorem ok_buildSlice {t : TypeId} {n : Nat} {xs : Array (Nat × Operand)} {o : Oper} {r : AV × List Ent × Nat} (ho : o.op = .buildSlice t n xs) (h : valE P s (.buildSlice t n xs) = some r) : OkV P fz B s r.1 r.2.1 r.2.2 (fun a => execOp a.eval o) := by
  simp only [valE] at h
  obtain ⟨i, h1, h⟩ := bnd_some h
  obtain ⟨l, h2, h⟩ := bnd_some h
  obtain ⟨h3, h⟩ := lp1_some h
  injection h with h
  subst h
  simp only [Bool.and_eq_true] at h3
  obtain ⟨⟨⟨g1, g2⟩, g3⟩, g4⟩ := h3
  obtain ⟨zs, ht, _⟩ := eInf_ok h1
  have g2' := Nat.eq_of_beq_eq_true g2
  have hall : ∀ x ∈ l, Nat.beq (flat x.2).length i.2.1 = true ∧ (flat x.2).all isOne = true := fun x hx => by
    have := List.all_eq_true.1 g4 x hx
    simpa only [Bool.and_eq_true] using this
  refine ⟨Nat.le_succ _, fun φ hf a w W S hs => ?_⟩
  have hop : o.op = .buildSlice t n (parts0 (xs.toList.map (·.2))) := by
    rw [ho]
    unfold parts0
    rw [seqn_parts g1]
  obtain ⟨w', W', S', k1, k2, k3, k4⟩ := ex_litO (P := P) (l.map fun x => flat x.2) (enc φ) hs hop ht (cels_flat fun x hx => (hall x hx).2) (prs_ogs h2) (by
      have := prs_len h2
      rw [List.length_map, ← this, g2']
      simp) (by
      have := (okLen_ok g3).1
      exact Nat.ble_eq_true_of_le this) (List.all_eq_true.2 fun q hq => by
      obtain ⟨q', hq', rfl⟩ := List.mem_map.1 hq
      obtain ⟨x, hx, rfl⟩ := List.mem_map.1 hq'
      simp only [enc, List.length_map]
      exact (hall x hx).1)
  have hx := setE_ext ⟨w.heap.size, 0, n⟩ hf
  refine ⟨_, _, w', W', S', hx, k1, ?_, ?_, k4⟩
  · simp only [val, setE_at, Option.map_some, Nat.zero_mul, Nat.add_zero, Nat.sub_zero]
  · obtain ⟨S1, S2, j1, j2, j3⟩ := k3
    refine ⟨S1, S2, dnRow_mk (setE_at _ _ _) ?_, Sat_le hx.le j2, j3⟩
    rw [k2]
    exact hrow_le hx.le _ _ _ j1
end
end Go.Proofs.Ytkcpejbabbbjpaa
