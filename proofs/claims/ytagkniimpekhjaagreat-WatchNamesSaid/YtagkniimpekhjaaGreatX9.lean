/- A part of the proof: contracts over a program of the model. -/
import Derived.Test.YtagkniimpekhjaaGreatX7
set_option linter.unusedVariables false
set_option linter.unusedSectionVars false
set_option linter.unusedSimpArgs false
namespace Go.Proofs.YtagkniimpekhjaaGreat
open Go.RowKit

section
variable {P : Program} {fz : Nat} {B : Bs} {φ : Env} {s : XS} {a : Act} {w : World} {W : WS} {S : Nat → Prop}
/-- cells over a row's elements -/
theorem row_fill {α : Type} {enc : α → List VP} {e sz : Nat} {l l2 : List α} {g o c hi : Nat} {S1 : Nat → Prop} {news : List Value} (hr : (hrow (.slice (some ⟨g, o, none⟩) l.length c) e sz enc l).p w W S1) (hsub : ∀ b, S1 b → W b) (hbd : ∀ b, W b → b < w.heap.size) (hfit : hi + l2.length ≤ l.length)
    (n1 : news.length = l2.length * sz) (n2 : ∀ u ∈ news, u.oneCell' = true) (n4 : ∀ i (hi : i < l2.length), (enc l2[i]).length = sz ∧ VPs w W (enc l2[i]) ((news.drop (i * sz)).take sz)) :
    ∃ w', (storeCells ⟨g, o + hi * sz, none⟩ news).run P w = .ok () w' ∧ (hrow (.slice (some ⟨g, o, none⟩) l.length c) e sz enc (l.take hi ++ l2 ++ l.drop (hi + l2.length))).p w' W S1 ∧ Run w W S1 w' W S1 := by
  rcases hr with ⟨h0, _⟩ | ⟨g', o', c', cs, h0, hlc, hh, hcs, hone, hbnd, hel, hS⟩
  · cases h0
  injection h0 with q1 q2 q3
  injection q1 with q1
  injection q1 with q4 q5
  subst q4 q5 q3
  have hg : S1 g := (hS g).2 rfl
  have hm1 : (hi + l2.length) * sz ≤ l.length * sz := Nat.mul_le_mul_right _ hfit
  have hm2 : l.length * sz ≤ c * sz := Nat.mul_le_mul_right _ hlc
  rw [Nat.add_mul] at hm1
  obtain ⟨w', cs', hr, hb', hsz', hcs', e1, e2, e3, e4, e5⟩ := run_storeCells (P := P) (b := g) (e := e) news 0 (o + hi * sz) w cs hh n2 (by rw [n1]; omega)
  have hrun : Run w W S1 w' W S1 := ⟨e1, e2, e3, by omega, fun k hk hn => e5 k (fun e => hn (e ▸ hg)), fun _ _ _ => Iff.rfl, fun _ _ h => h, fun _ h => .inl h, hsub, fun k hk => by rw [e4]; exact hbd k hk⟩
  have hev := hrun.evo hsub
  have hL : (l.take hi ++ l2 ++ l.drop (hi + l2.length)).length = l.length := by
    rw [List.length_append, List.length_append, List.length_take, List.length_drop]
    omega
  have hcl : cs'.toList = cs.toList.take (o + hi * sz) ++ news ++ cs.toList.drop (o + hi * sz + news.length) := by
    apply List.ext_getElem?
    intro j
    rw [Array.getElem?_toList, hcs' j, Nat.add_zero]
    have hlen : (cs.toList.take (o + hi * sz)).length = o + hi * sz := by rw [List.length_take, Array.length_toList (xs := cs)]; omega
    by_cases h1 : j < o + hi * sz
    · rw [if_neg (by omega), List.append_assoc, List.getElem?_append_left (by omega), List.getElem?_take, if_pos h1, Array.getElem?_toList]
    · by_cases h2 : j < o + hi * sz + news.length
      · rw [if_pos (by omega), List.getElem?_append_left (by rw [List.length_append, hlen]; omega), List.getElem?_append_right (by omega), hlen]
      · rw [if_neg (by omega), List.getElem?_append_right (by rw [List.length_append, hlen]; omega), List.length_append, hlen, List.getElem?_drop, Array.getElem?_toList]
        congr 1
        omega
  refine ⟨w', hr, .inr ⟨g, o, c, cs', by rw [hL], by rw [hL]; exact hlc, hb', by rw [hsz']; exact hcs, ?_, by rw [hL]; exact hbnd, fun i hi' => ?_, hS⟩, hrun⟩
  · intro u hu
    rw [hcl] at hu
    rw [hL] at hu
    obtain ⟨j, hj, hu⟩ := mem_seg.1 hu
    have hll : (cs.toList.take (o + hi * sz)).length = o + hi * sz := by rw [List.length_take, Array.length_toList (xs := cs)]; omega
    by_cases h1 : j < hi * sz
    · rw [List.append_assoc, List.getElem?_append_left (by omega), List.getElem?_take, if_pos (by omega)] at hu
      exact hone u (mem_seg.2 ⟨j, hj, hu⟩)
    · by_cases h2 : j < hi * sz + news.length
      · rw [List.getElem?_append_left (by rw [List.length_append, hll]; omega), List.getElem?_append_right (by omega)] at hu
        exact n2 u (List.mem_of_getElem? hu)
      · rw [List.getElem?_append_right (by rw [List.length_append, hll]; omega), List.length_append, hll, List.getElem?_drop] at hu
        refine hone u (mem_seg.2 ⟨j, hj, ?_⟩)
        rw [← hu]
        congr 1
        omega
  · have hi2' : i < l.length := by rw [← hL]; exact hi'
    rw [hcl]
    have hll : (cs.toList.take (o + hi * sz)).length = o + hi * sz := by rw [List.length_take, Array.length_toList (xs := cs)]; omega
    by_cases hlt : i < hi
    · have hge : (l.take hi ++ l2 ++ l.drop (hi + l2.length))[i]'hi' = l[i] := by
        have h9 : (l.take hi ++ l2 ++ l.drop (hi + l2.length))[i]? = l[i]? := by rw [List.append_assoc, List.getElem?_append_left (by rw [List.length_take]; omega), List.getElem?_take, if_pos hlt]
        rw [List.getElem?_eq_getElem hi', List.getElem?_eq_getElem hi2'] at h9
        exact Option.some.inj h9
      rw [hge]
      obtain ⟨p1, p2⟩ := hel i hi2'
      refine ⟨p1, ?_⟩
      have hb : i * sz + sz ≤ hi * sz := by rw [← Nat.succ_mul]; exact Nat.mul_le_mul_right _ hlt
      rw [List.append_assoc, seg_app (by omega)]
      have : (List.drop (o + i * sz) (List.take (o + hi * sz) cs.toList)).take sz = (List.drop (o + i * sz) cs.toList).take sz := by
        rw [List.drop_take, List.take_take]
        congr 1
        omega
      rw [this]
      exact p2.st hev
    · by_cases hlt2 : i < hi + l2.length
      · have hge : (l.take hi ++ l2 ++ l.drop (hi + l2.length))[i]'hi' = l2[i - hi]'(by omega) := by
          have hmin : min hi l.length = hi := by omega
          have h9 : (l.take hi ++ l2 ++ l.drop (hi + l2.length))[i]? = l2[i - hi]? := by rw [List.getElem?_append_left (by rw [List.length_append, List.length_take]; omega), List.getElem?_append_right (by rw [List.length_take]; omega), List.length_take, hmin]
          rw [List.getElem?_eq_getElem hi', List.getElem?_eq_getElem (show i - hi < l2.length by omega)] at h9
          exact Option.some.inj h9
        rw [hge]
        obtain ⟨p1, p2⟩ := n4 (i - hi) (by omega)
        refine ⟨p1, ?_⟩
        have hb : (i - hi) * sz + sz ≤ news.length := by rw [n1, ← Nat.succ_mul]; exact Nat.mul_le_mul_right _ (by omega)
        have hi2 : o + i * sz = (cs.toList.take (o + hi * sz)).length + (i - hi) * sz := by rw [hll, Nat.add_assoc, ← Nat.add_mul]; congr 2; omega
        rw [hi2, List.append_assoc, seg_app2, seg_app hb]
        exact p2.st hev
      · have hge : (l.take hi ++ l2 ++ l.drop (hi + l2.length))[i]'hi' = l[i] := by
          have hmin : min hi l.length = hi := by omega
          have h9 : (l.take hi ++ l2 ++ l.drop (hi + l2.length))[i]? = l[i]? := by
            rw [List.getElem?_append_right (by rw [List.length_append, List.length_take]; omega), List.getElem?_drop, List.length_append, List.length_take, hmin]
            congr 1
            omega
          rw [List.getElem?_eq_getElem hi', List.getElem?_eq_getElem hi2'] at h9
          exact Option.some.inj h9
        rw [hge]
        obtain ⟨p1, p2⟩ := hel i hi2'
        refine ⟨p1, ?_⟩
        have hi2 : o + i * sz = (cs.toList.take (o + hi * sz) ++ news).length + (i - (hi + l2.length)) * sz := by
          rw [List.length_append, hll, n1, Nat.add_assoc, Nat.add_assoc, ← Nat.add_mul, ← Nat.add_mul]
          congr 2
          omega
        rw [hi2, seg_app2, List.drop_drop, n1]
        have : o + hi * sz + l2.length * sz + (i - (hi + l2.length)) * sz = o + i * sz := by
          rw [Nat.add_assoc, Nat.add_assoc, ← Nat.add_mul, ← Nat.add_mul]
          congr 2
          omega
        rw [this]
        exact p2.st hev
/-- the cells of a part of a row -/
theorem row_part {α : Type} {enc : α → List VP} {e sz : Nat} {l : List α} {g o c lo hi : Nat} {S1 : Nat → Prop} (hr : (hrow (.slice (some ⟨g, o, none⟩) l.length c) e sz enc l).p w W S1) (h1 : lo ≤ hi) (h2 : hi ≤ l.length) (c2 : Nat) :
    ∃ news : List Value, news.length = (hi - lo) * sz ∧ (∀ u ∈ news, u.oneCell' = true) ∧ (∀ w' : World, w'.heap = w.heap → (Builtin.firstCells sz (hi - lo) (.slice (some ⟨g, o + lo * sz, none⟩) (hi - lo) c2)).run P w' = .ok news.toArray w') ∧
      ∀ i (hi' : i < (cutL l lo hi).length), (enc (cutL l lo hi)[i]).length = sz ∧ VPs w W (enc (cutL l lo hi)[i]) ((news.drop (i * sz)).take sz) := by
  rcases hr with ⟨h0, _⟩ | ⟨g', o', c', cs, h0, hlc, hh, hcs, hone, hbnd, hel, hS⟩
  · cases h0
  injection h0 with q1 q2 q3
  injection q1 with q1
  injection q1 with q4 q5
  subst q4 q5 q3
  have hm1 : hi * sz ≤ l.length * sz := Nat.mul_le_mul_right _ h2
  have hm2 : l.length * sz ≤ c * sz := Nat.mul_le_mul_right _ hlc
  have hm3 : lo * sz + (hi - lo) * sz = hi * sz := by rw [← Nat.add_mul]; congr 1; omega
  have hol : ((cs.toList.drop (o + lo * sz)).take ((hi - lo) * sz)).length = (hi - lo) * sz := by
    rw [List.length_take, List.length_drop, Array.length_toList (xs := cs)]
    omega
  refine ⟨(cs.toList.drop (o + lo * sz)).take ((hi - lo) * sz), hol, fun u hu => hone u (by
    obtain ⟨j, hj1, hj2⟩ := mem_seg.1 hu
    exact mem_seg.2 ⟨lo * sz + j, by omega, by rw [← Nat.add_assoc]; exact hj2⟩), fun w' hw => ?_, fun i hi' => ?_⟩
  · simp only [Builtin.firstCells, loadCells]
    have := run_loadCells (P := P) (w := w') (a := ⟨g, o + lo * sz, none⟩) ((cs.toList.drop (o + lo * sz)).take ((hi - lo) * sz)) 0 #[] (fun j u hj => ?_)
    · rw [hol] at this
      rw [this]
      simp
    · rw [add_pl, cell_at (by rw [hw]; exact hh), Nat.zero_add]
      rw [List.getElem?_take] at hj
      split at hj
      · rw [List.getElem?_drop] at hj
        simpa using hj
      · cases hj
  · have hcl : (cutL l lo hi).length = hi - lo := by unfold cutL; rw [List.length_drop, List.length_take]; omega
    have hi2' : i < hi - lo := by rw [← hcl]; exact hi'
    have hge : (cutL l lo hi)[i]'hi' = l[lo + i]'(by omega) := by
      have h9 : (cutL l lo hi)[i]? = l[lo + i]? := by unfold cutL; rw [List.getElem?_drop, List.getElem?_take, if_pos (by omega)]
      rw [List.getElem?_eq_getElem hi', List.getElem?_eq_getElem (show lo + i < l.length by omega)] at h9
      exact Option.some.inj h9
    rw [hge]
    obtain ⟨p1, p2⟩ := hel (lo + i) (by omega)
    refine ⟨p1, ?_⟩
    have hb : i * sz + sz ≤ (hi - lo) * sz := by rw [← Nat.succ_mul]; exact Nat.mul_le_mul_right _ hi2'
    have : (List.drop (i * sz) ((cs.toList.drop (o + lo * sz)).take ((hi - lo) * sz))).take sz = (List.drop (o + (lo + i) * sz) cs.toList).take sz := by
      rw [List.drop_take, List.take_take, List.drop_drop, Nat.add_mul]
      congr 1
      · omega
      · congr 1; omega
    rw [this]
    exact p2
end
end Go.Proofs.YtagkniimpekhjaaGreat

set_option linter.unusedVariables false
set_option linter.unusedSectionVars false
set_option linter.unusedSimpArgs false
namespace Go.Proofs.YtagkniimpekhjaaGreat
open Go.RowKit

section
variable {P : Program} {fz : Nat} {B : Bs} {φ : Env} {s : XS} {a : Act} {w : World} {W : WS} {S : Nat → Prop}
/-- the operand whose elements are appended -/
theorem news_ok {av : AV} {v : Value} {i : Nat × Nat × Nat × List AV} {news : List (List AV)} (hs : Tel fz B φ s a w W S) (hv : val φ av = some v)
    (h : (bif asNil av then some [] else (rowOf s.heap s.n av).bind fun r => lp1 (Nat.beq r.sz i.2.1 && Nat.beq r.e i.1) (some (cutL r.l r.lo r.hi))) = some news) :
    ∃ cs : List Value, (Builtin.lenOf v).run P w = .ok news.length w ∧ cs.length = news.length * i.2.1 ∧ (∀ u ∈ cs, u.oneCell' = true) ∧ (∀ w' : World, w'.heap = w.heap → (Builtin.firstCells i.2.1 news.length v).run P w' = .ok cs.toArray w') ∧
      ∀ j (hj : j < news.length), (enc φ news[j]).length = i.2.1 ∧ VPs w W (enc φ news[j]) ((cs.drop (j * i.2.1)).take i.2.1) := by
  cases hn : asNil av with
  | true =>
    rw [hn] at h
    injection h with h
    subst h
    rw [asNil_eq hn] at hv
    injection hv with hv
    subst hv
    exact ⟨[], rfl, by simp, by simp, fun w' _ => rfl, fun j hj => by simp at hj⟩
  | false =>
    rw [hn] at h
    obtain ⟨r, h1, h⟩ := bnd_some h
    obtain ⟨h2, h⟩ := lp1_some h
    injection h with h
    subst h
    simp only [Bool.and_eq_true] at h2
    obtain ⟨L, hL, rfl, hlc, hat⟩ := rowOf_at hs h1 hv
    obtain ⟨_, _, g1, g2, _⟩ := rowOf_ok h1
    obtain ⟨S1, S2, q1, _⟩ := Sat.pick hat hs.sat
    have hcl : (cutL r.l r.lo r.hi).length = r.hi - r.lo := by unfold cutL; rw [List.length_drop, List.length_take]; omega
    have hsz := Nat.eq_of_beq_eq_true h2.1
    obtain ⟨cs, k1, k2, k3, k4⟩ := row_part (P := P) q1 g1 g2 (L.c - r.lo)
    rw [← hsz]
    exact ⟨cs, by rw [hcl]; rfl, by rw [hcl]; exact k1, k2, fun w' hw => by rw [hcl]; exact k3 w' hw, k4⟩
/-- a row that a new number names -/
theorem row_new_at {k' : Nat} {v' : Value} {e sz : Nat} {l : List (List AV)} {S1 : Nat → Prop} (hl : l ≠ []) (h : (hrow v' e sz (enc φ) l).p w W S1) : ∃ L : Loc, v' = .slice (some ⟨L.b, L.o, none⟩) l.length L.c := by
  rcases h with ⟨_, h, _⟩ | ⟨g, o, c, cs, h, _⟩
  · exact (hl h).elim
  · exact ⟨⟨g, o, c⟩, h⟩
theorem ok_append {c : Call} {o : Oper} {r : AV × List Ent × Nat} (ho : o.op = .call c) (hc : c.callee = .builtin .append) {x y : Operand} {t : TypeId} (hx : c.args = #[x, y]) (hty : c.argTypes = #[t, t]) {av bv : AV} (h1 : oE s.regs x = some av) (h2 : oE s.regs y = some bv) (h : appE P s t av bv = some r) : OkV P fz B s r.1 r.2.1 r.2.2 (fun a => execOp a.eval o) := by
  have hex : ∀ (a : Act) (w w' : World) (u : Value), (Builtin.append_ #[t, t] o.type #[a.eval x, a.eval y]).run P w = .ok u w' → (execOp a.eval o).run P w = .ok (.value u) w' := by
    intro a w w' u hr
    obtain ⟨c1, c2, c3⟩ := c
    simp only at hc hx hty
    exact ex_append (by rw [ho, hc, hx, hty]) rfl rfl hr
  unfold appE at h
  obtain ⟨i, k1, h⟩ := bnd_some h
  obtain ⟨news, k2, h⟩ := bnd_some h
  obtain ⟨zs, ht, _⟩ := eInf_ok k1
  obtain ⟨hu, info, z, hi, hsz, hby, hz, hzs, hz1, hzl⟩ := id ht
  cases hn : asNil av with
  | true =>
    rw [hn] at h
    have e1' : ∀ φ a w W S, Tel fz B φ s a w W S → a.eval x = .slice none 0 0 := fun φ a w W S hs => by
      have e1 := oE_val hs h1
      rw [asNil_eq hn] at e1
      injection e1 with e1
      exact e1.symm
    simp only [cond_true] at h
    cases news with
    | nil =>
      injection h with h
      subst h
      refine okPure fun φ a w W S hs => ⟨.slice none 0 0, hex a w w _ ?_, by rw [asNil_eq hn]; rfl⟩
      obtain ⟨cs, m1, m2, m3, m4, m5⟩ := news_ok (P := P) hs (oE_val hs h2) k2
      rw [e1' φ a w W S hs]
      exact app_room (news := cs) hu hi rfl m1 (Nat.le_refl _) (by rw [hsz]; exact m4 w rfl) rfl
    | cons q news =>
      obtain ⟨k3, h⟩ := lp1_some h
      injection h with h
      subst h
      obtain ⟨b1, b2⟩ := okLen_ok k3
      refine ⟨Nat.le_succ _, fun φ hf a w W S hs => ?_⟩
      obtain ⟨cs, m1, m2, m3, m4, m5⟩ := news_ok (P := P) hs (oE_val hs h2) k2
      have hemp : (hrow (.slice none 0 0) i.1 i.2.1 (enc φ) []).p w W (fun _ => False) := .inl ⟨rfl, rfl, fun _ h => h⟩
      obtain ⟨v', w', W', S1', hr, hone, hrow', hrun⟩ := run_app2 (P := P) (ty := o.type) (l := []) (l2 := q :: news) ht hemp (fun _ h => h.elim) hs.run.bound rfl m1 m2 m3 m4 m5 (by simp only [List.length_nil, Nat.zero_add]; omega) (by simp only [List.length_nil, Nat.zero_add]; omega)
      rw [List.nil_append] at hrow'
      obtain ⟨L, hL⟩ := row_new_at (k' := 0) (List.cons_ne_nil _ _) hrow'
      have hx := setE_ext L hf
      obtain ⟨hr2, hd2⟩ := Run.framed (T := S) (S := S) hrun hs.sat.lt (fun _ h => h.elim) (fun b => by simp) hs.run.sub
      have hev := hr2.evo hs.run.sub
      refine ⟨_, v', w', W', _, hx, hex a w w' v' (by rw [e1' φ a w W S hs]; exact hr), ?_, ?_, hr2⟩
      · simp only [val, setE_at, Option.map_some, Nat.zero_mul, Nat.add_zero, Nat.sub_zero, hL]
      · refine ⟨S1', S, dnRow_mk (setE_at _ _ _) ?_, Sat_le hx.le (hs.sat.st hev (fun b hb => hrun.keep b (hs.sat.lt b hb) (fun h => h))), hd2, fun _ => Iff.rfl⟩
        rw [← hL]
        exact hrow_le hx.le _ _ _ hrow'
  | false =>
    rw [hn] at h
    simp only [cond_false] at h
    obtain ⟨q, k3, h⟩ := bnd_some h
    obtain ⟨k4, h⟩ := lp1_some h
    simp only [Bool.and_eq_true] at k4
    obtain ⟨⟨g1, g2⟩, g3⟩ := k4
    have g1 := Nat.eq_of_beq_eq_true g1
    have g2 := Nat.eq_of_beq_eq_true g2
    obtain ⟨b1, b2⟩ := okLen_ok g3
    obtain ⟨_, _, j1, j2, _⟩ := rowOf_ok k3
    cases hroom : Nat.ble (q.hi + news.length) q.l.length with
    | true =>
      rw [hroom] at h
      injection h with h
      subst h
      have hroom' := Nat.le_of_ble_eq_true hroom
      refine ⟨Nat.le_refl _, fun φ hf a w W S hs => ?_⟩
      obtain ⟨cs, m1, m2, m3, m4, m5⟩ := news_ok (P := P) hs (oE_val hs h2) k2
      obtain ⟨L, hL, hv, hlc, hat⟩ := rowOf_at hs k3 (oE_val hs h1)
      obtain ⟨S1, S2, q1, q2, hd, hS⟩ := Sat.pick hat hs.sat
      rw [← g1] at m2 m4 m5
      obtain ⟨w', hst, hrow', hrun⟩ := row_fill (P := P) (hi := q.hi) q1 (fun b hb => hs.run.sub b ((hS b).2 (.inl hb))) hs.run.bound hroom' m2 m3 m5
      have hlt := q2.lt
      obtain ⟨hr2, hd2⟩ := Run.framed (T := S2) (S := S) hrun hlt hd hS hs.run.sub
      have hev := hr2.evo hs.run.sub
      refine ⟨φ, _, w', W, _, Ext.refl _ _ _, hex a w w' _ (app_room (news := cs) hu hi hv m1 (by omega) (by rw [hsz, ← g1]; exact m4 w rfl) ?_), ?_, ?_, hr2⟩
      · show (storeCells ((⟨L.b, L.o + q.lo * q.sz, none⟩ : Addr).add ((q.hi - q.lo) * info.size)) cs).run P w = _
        rw [add_pl, hsz, ← g1]
        have : L.o + q.lo * q.sz + (q.hi - q.lo) * q.sz = L.o + q.hi * q.sz := by
          rw [Nat.add_assoc, ← Nat.add_mul]
          congr 2
          omega
        rw [this]
        exact hst
      · simp only [val, hL, Option.map_some]
        congr 2
        omega
      · rw [dnH_eP]
        refine Sat.put hat (dnRow_mk hL ?_) (q2.st hev (fun b hb => hrun.keep b (hlt b hb) (fun hc => hd b hc hb))) hd2
        have hlen : (q.l.take q.hi ++ news ++ q.l.drop (q.hi + news.length)).length = q.l.length := by
          rw [List.length_append, List.length_append, List.length_take, List.length_drop]
          omega
        rw [hlen]
        exact hrow'
    | false =>
      rw [hroom] at h
      simp only [cond_false] at h
      obtain ⟨k5, h⟩ := lp1_some h
      injection h with h
      subst h
      simp only [Bool.and_eq_true] at k5
      have hhi := Nat.eq_of_beq_eq_true k5.1
      have hlo := Nat.eq_of_beq_eq_true k5.2
      have hne : q.l ++ news ≠ [] := fun he => by
        have h9 := congrArg List.length he
        rw [List.length_append, List.length_nil] at h9
        have : Nat.ble (q.hi + news.length) q.l.length = true := Nat.ble_eq_true_of_le (by omega)
        rw [this] at hroom
        cases hroom
      refine ⟨Nat.le_succ _, fun φ hf a w W S hs => ?_⟩
      obtain ⟨cs, m1, m2, m3, m4, m5⟩ := news_ok (P := P) hs (oE_val hs h2) k2
      obtain ⟨L, hL, hv, hlc, hat⟩ := rowOf_at hs k3 (oE_val hs h1)
      rw [hlo, hhi, Nat.zero_mul, Nat.add_zero, Nat.sub_zero, Nat.sub_zero] at hv
      obtain ⟨S1, S2, q1, q2, hd, hS⟩ := Sat.pick hat hs.sat
      rw [← g1] at m2 m4 m5 ht
      rw [← g2] at ht
      obtain ⟨v', w', W', S1', hr, hone, hrow', hrun⟩ := run_app2 (P := P) (ty := o.type) (l := q.l) (l2 := news) ht q1 (fun b hb => hs.run.sub b ((hS b).2 (.inl hb))) hs.run.bound rfl m1 m2 m3 m4 m5 (by omega) (by rw [g1]; omega)
      obtain ⟨L', hL'⟩ := row_new_at (k' := 0) hne hrow'
      have hx := setE_ext L' hf
      have hlt := q2.lt
      obtain ⟨hr2, hd2⟩ := Run.framed (T := S2) (S := S) hrun hlt hd hS hs.run.sub
      have hev := hr2.evo hs.run.sub
      refine ⟨_, v', w', W', _, hx, hex a w w' v' (by rw [hv]; exact hr), ?_, ?_, hr2⟩
      · simp only [val, setE_at, Option.map_some, Nat.zero_mul, Nat.add_zero, Nat.sub_zero, hL', List.length_append, hhi]
      · refine ⟨S1', S2, dnRow_mk (setE_at _ _ _) ?_, ?_, hd2, fun _ => Iff.rfl⟩
        · rw [← hL']
          exact hrow_le hx.le _ _ _ hrow'
        · refine Sat_le hx.le ?_
          rw [dnH_eP]
          have h2' := q2.st hev (fun b hb => hrun.keep b (hlt b hb) (fun hc => hd b hc hb))
          exact (Sat.put (y := dnE φ .dead) (S1 := fun _ => False) hat (fun _ h => h) h2' (fun _ h => h.elim)).congr (fun b => by simp)
theorem zc_len (z : Array Value) (n : Nat) : (Builtin.zeroCells z n).toList.length = n * z.size := by rw [Array.length_toList, size_zeroC]
theorem zc_part (z : Array Value) (n i : Nat) (hi : i < n) (hz : 0 < z.size) : ((Builtin.zeroCells z n).toList.drop (i * z.size)).take z.size = z.toList := by
  have hb : i * z.size + z.size ≤ n * z.size := by rw [← Nat.succ_mul]; exact Nat.mul_le_mul_right _ hi
  apply List.ext_getElem?
  intro j
  rw [List.getElem?_take]
  by_cases hj : j < z.size
  · rw [if_pos hj, List.getElem?_drop, Array.getElem?_toList, Array.getElem?_toList]
    unfold Builtin.zeroCells
    rw [Array.getElem?_map, Array.getElem?_eq_getElem (by rw [Array.size_range]; omega), Option.map_some, Array.getElem_range]
    have : (i * z.size + j) % z.size = j := by rw [Nat.add_comm, Nat.add_mul_mod_self_right, Nat.mod_eq_of_lt hj]
    rw [this, getElem!_pos z j hj, Array.getElem?_eq_getElem hj]
  · rw [if_neg hj, Array.getElem?_toList, Array.getElem?_eq_none (by omega)]
theorem ex_append2 {a : Act} {w w' : World} {x y : Operand} {t t' : TypeId} {o : Oper} {v u r : Value} (ho : o.op = .call { callee := .builtin .append, args := #[x, y], argTypes := #[t, t'] }) (hx : a.eval x = v) (hy : a.eval y = u) (hr : (Builtin.append_ #[t, t'] o.type #[v, u]).run P w = .ok r w') : (execOp a.eval o).run P w = .ok (.value r) w' := by
  unfold execOp
  simp only [ho, resolve, invoke, builtin, List.map_toArray, List.map_cons, List.map_nil, hx, hy, Sem.run_bind, Sem.run_pure, Result.andThen_ok, hr]
theorem ok_appz {c : Call} {o : Oper} {r : AV × List Ent × Nat} (ho : o.op = .call c) (hc : c.callee = .builtin .append) {x y : Operand} {t t' : TypeId} {k : IntKind} (hx : c.args = #[x, y]) (hty : c.argTypes = #[t, t']) {av : AV} {m : Int} (h1 : oE s.regs x = some av) (h2 : oE s.regs y = some (.v (.int k m))) (h : appZ P s t t' av m = some r) : OkV P fz B s r.1 r.2.1 r.2.2 (fun a => execOp a.eval o) := by
  unfold appZ at h
  obtain ⟨i, k1, h⟩ := bnd_some h
  obtain ⟨k2, h⟩ := lp1_some h
  injection h with h
  subst h
  simp only [Bool.and_eq_true] at k2
  obtain ⟨⟨⟨⟨g1, g2⟩, g3⟩, g4⟩, g5⟩ := k2
  have g2 := of_decide_eq_true g2
  obtain ⟨b1, b2⟩ := okLen_ok g3
  have g5 : 0 < i.2.1 := by simpa [Nat.blt_eq] using g5
  obtain ⟨zs, ht, hz9⟩ := eInf_ok k1
  obtain ⟨hu, info, z, hi, hsz, hby, hz, hzs, hz1, hzl⟩ := ht
  obtain ⟨kn, hkn⟩ : ∃ kn, P.underlying t' = some (.int kn) := by
    unfold isIntT at g4
    split at g4
    · exact ⟨_, by assumption⟩
    · cases g4
  have hzsz : z.cells.size = i.2.1 := by rw [← Array.length_toList, hzs, hzl]
  refine ⟨Nat.le_succ _, fun φ hf a w W S hs => ?_⟩
  have e1 := oE_val hs h1
  rw [asNil_eq g1] at e1
  injection e1 with e1
  have e2 := oE_val hs h2
  injection e2 with e2
  have hm : ((m.toNat : Nat) : Int) = m := Int.toNat_of_nonneg (by omega)
  have hm63 : m.toNat ≤ 16777216 := Nat.le_trans (Nat.le_mul_of_pos_right _ (by omega)) b1
  have hrun := Lib.run_append_nil_zeros (P := P) w t t' o.type i.1 info z k kn hu hkn hi hz m.toNat (by omega) (by omega) (by omega) (by rw [hby]; omega)
  have hnc : m.toNat ≤ grownCap w m.toNat 0 i.1 := by
    unfold grownCap Question.cut
    exact Nat.le_add_right _ _
  generalize grownCap w m.toNat 0 i.1 = nc at hrun hnc
  have hsp : (m.toNat) * i.2.1 + (Builtin.zeroCells z.cells (nc - m.toNat)).toList.length = nc * i.2.1 := by
    rw [zc_len, hzsz, ← Nat.add_mul]
    congr 1
    omega
  obtain ⟨W', S1', r1, r2⟩ := row_new (w := w) (W := W) (S1 := fun _ => False) (w.drawn + 1) (l := []) (l2 := List.replicate m.toNat i.2.2.2) (enc := enc φ) (e := i.1) (sz := i.2.1) (olds := []) (news := (Builtin.zeroCells z.cells m.toNat).toList) (sp := (Builtin.zeroCells z.cells (nc - m.toNat)).toList) (nc := nc) (fun _ h => h.elim) hs.run.bound (by simp) (by rw [zc_len, hzsz, List.length_replicate]) (by rw [List.length_replicate, List.length_nil, Nat.zero_add]; exact hsp) (by rw [List.length_replicate, List.length_nil, Nat.zero_add]; exact hnc) (by rw [List.length_replicate, List.length_nil, Nat.zero_add]; omega) (by simp) (zeroCells_one (by rw [hzs]; exact hz1)) (zeroCells_one (by rw [hzs]; exact hz1)) (fun i hi => by simp at hi) (fun j hj => by
    rw [List.length_replicate] at hj
    rw [List.getElem_replicate, ← hzsz, zc_part z.cells _ _ hj (by omega), hz9]
    refine ⟨by simp only [enc, List.length_map]; rw [hzl, hzsz], ?_⟩
    rw [hzs, enc_v]
    exact VPs.visL zs)
  rw [List.nil_append, List.length_replicate, List.length_nil, Nat.zero_add] at r1
  have hx' := setE_ext ⟨w.heap.size, 0, nc⟩ hf
  obtain ⟨hr2, hd2⟩ := Run.framed (T := S) (S := S) r2 hs.sat.lt (fun _ h => h.elim) (fun b => by simp) hs.run.sub
  have hev := hr2.evo hs.run.sub
  refine ⟨_, .slice (some ⟨w.heap.size, 0, none⟩) m.toNat nc, _, W', _, hx', ?_, ?_, ?_, hr2⟩
  · obtain ⟨c1, c2, c3⟩ := c
    simp only at hc hx hty
    rw [hm] at hrun
    refine ex_append2 (by rw [ho, hc, hx, hty]) e1.symm e2.symm ?_
    rw [hrun]
    have hA : ([] : List Value).toArray ++ (Builtin.zeroCells z.cells m.toNat).toList.toArray ++ (Builtin.zeroCells z.cells (nc - m.toNat)).toList.toArray = Builtin.zeroCells z.cells m.toNat ++ Builtin.zeroCells z.cells (nc - m.toNat) := by simp
    rw [hA]
    rfl
  · simp only [val, setE_at, Option.map_some, Nat.zero_mul, Nat.add_zero, Nat.sub_zero]
  · refine ⟨S1', S, dnRow_mk (setE_at _ _ _) ?_, Sat_le hx'.le (hs.sat.st hev (fun b hb => r2.keep b (hs.sat.lt b hb) (fun h => h))), hd2, fun _ => Iff.rfl⟩
    rw [List.length_replicate]
    exact hrow_le hx'.le _ _ _ r1
theorem ok_clear {c : Call} {o : Oper} {r : AV × List Ent × Nat} (ho : o.op = .call c) (hc : c.callee = .builtin .clear) (h : valE P s (.call c) = some r) : OkV P fz B s r.1 r.2.1 r.2.2 (fun a => execOp a.eval o) := by
  simp only [valE, hc] at h
  obtain ⟨l, h1, h⟩ := bnd_some h
  split at h
  · rename_i av t hty
    obtain ⟨x, xs, hx, h2, h3⟩ := oEs_one (x := .func 0) h1
    have := oEs_nil h3
    subst this
    obtain ⟨i, k1, h⟩ := bnd_some h
    obtain ⟨q, k2, h⟩ := bnd_some h
    obtain ⟨k3, h⟩ := lp1_some h
    injection h with h
    subst h
    simp only [Bool.and_eq_true] at k3
    obtain ⟨⟨g1, g2⟩, g3⟩ := k3
    have g2 := Nat.eq_of_beq_eq_true g2
    have g3 : 0 < i.2.1 := by simpa [Nat.blt_eq] using g3
    obtain ⟨zs, ht, hz9⟩ := eInf_ok k1
    obtain ⟨hu, info, z, hi, hsz, hby, hz, hzs, hz1, hzl⟩ := ht
    have hzsz : z.cells.size = i.2.1 := by rw [← Array.length_toList, hzs, hzl]
    obtain ⟨_, _, j1, j2, _⟩ := rowOf_ok k2
    refine ⟨Nat.le_refl _, fun φ hf a w W S hs => ?_⟩
    obtain ⟨L, hL, hv, hlc, hat⟩ := rowOf_at hs k2 (oE_val hs h2)
    obtain ⟨S1, S2, q1, q2, hd, hS⟩ := Sat.pick hat hs.sat
    obtain ⟨w', hst, hrow', hrun⟩ := row_fill (P := P) (hi := q.lo) (l2 := List.replicate (q.hi - q.lo) i.2.2.2) (news := (Builtin.zeroCells z.cells (q.hi - q.lo)).toList) q1 (fun b hb => hs.run.sub b ((hS b).2 (.inl hb))) hs.run.bound (by rw [List.length_replicate]; omega) (by rw [zc_len, hzsz, List.length_replicate, g2]) (zeroCells_one (by rw [hzs]; exact hz1)) (fun j hj => by
      rw [List.length_replicate] at hj
      rw [List.getElem_replicate, g2, ← hzsz, zc_part z.cells _ _ hj (by omega), hz9]
      refine ⟨by simp only [enc, List.length_map]; rw [hzl, hzsz], ?_⟩
      rw [hzs, enc_v]
      exact VPs.visL zs)
    have hlt := q2.lt
    obtain ⟨hr2, hd2⟩ := Run.framed (T := S2) (S := S) hrun hlt hd hS hs.run.sub
    have hev := hr2.evo hs.run.sub
    have hlen : (q.l.take q.lo ++ List.replicate (q.hi - q.lo) i.2.2.2 ++ q.l.drop (q.lo + (q.hi - q.lo))).length = q.l.length := by
      rw [List.length_append, List.length_append, List.length_take, List.length_drop, List.length_replicate]
      omega
    have hll : q.lo + (q.hi - q.lo) = q.hi := by omega
    refine ⟨φ, .tuple #[], w', W, _, Ext.refl _ _ _, ?_, rfl, ?_, hr2⟩
    · obtain ⟨c1, c2, c3⟩ := c
      simp only at hc hx hty
      unfold execOp
      simp only [ho, hc, arr1 hx, arr1 hty, resolve, invoke, builtin, Builtin.clear_, List.map_toArray, List.map_cons, List.map_nil, hv, Sem.run_bind, Sem.run_pure, Result.andThen_ok, List.getElem?_toArray, List.getElem?_cons_zero, run_underlying hu]
      cases hq : q.hi - q.lo with
      | zero =>
        rw [hq] at hst
        have h0 : (Builtin.zeroCells z.cells 0).toList = [] := by simp [Builtin.zeroCells]
        rw [h0] at hst
        have : w' = w := by
          simp only [storeCells, Sem.run_pure] at hst
          injection hst with _ hst
          exact hst.symm
        subst this
        rfl
      | succ n =>
        rw [hq] at hst
        simp only [Sem.run_bind, zeroValue, run_tinfo hi, hz, Result.andThen_ok, Sem.run_pure]
        rw [hst]
        rfl
    · rw [dnH_eP]
      refine Sat.put hat (dnRow_mk hL ?_) (q2.st hev (fun b hb => hrun.keep b (hlt b hb) (fun hc => hd b hc hb))) hd2
      rw [List.length_replicate, hll] at hrow'
      rw [hll] at hlen
      rw [hlen]
      exact hrow'
  · cases h
theorem ok_makeChan {t : TypeId} {x : Operand} {o : Oper} {r : AV × List Ent × Nat} (ho : o.op = .makeChan t x) (h : valE P s (.makeChan t x) = some r) : OkV P fz B s r.1 r.2.1 r.2.2 (fun a => execOp a.eval o) := by
  simp only [valE] at h
  obtain ⟨av, h1, h⟩ := bnd_some h
  obtain ⟨m, h2, h⟩ := bnd_some h
  obtain ⟨h3, h⟩ := lp1_some h
  injection h with h
  subst h
  rw [asI_eq h2] at h1
  unfold chanOk at h3
  split at h3
  · rename_i d e hu
    split at h3
    · rename_i i hi
      simp only [Bool.and_eq_true, decide_eq_true_eq] at h3
      obtain ⟨⟨g1, g2⟩, g3⟩ := h3
      refine ⟨Nat.le_succ _, fun φ hf a w W S hs => ?_⟩
      have e1 := oE_val hs h1
      injection e1 with e1
      have hx := setE_ext ⟨w.heap.size, 0, 0⟩ hf
      have hr := Run.new hs.run.sub hs.run.bound (.chan m.2.toNat #[] false 0 0 false)
      have hev := hr.evo hs.run.sub
      refine ⟨_, .chan (some w.heap.size), _, _, _, hx, ?_, by simp only [val, setE_at, Option.map_some], ?_, hr⟩
      · have hc : ¬ (m.2 < 0 ∨ m.2 > IntKind.i64.max ∨ (i.bytes : Int) * m.2 > 2 ^ 48 - 112) := by
          have h5 : IntKind.i64.max = 9223372036854775807 := rfl
          have h6 : (2 : Int) ^ 48 - 112 = 281474976710544 := rfl
          rw [h5, h6]
          omega
        unfold execOp
        simp only [ho, Instr.makeChan, ← e1, asInt, asIntOf, Sem.run_bind, Sem.run_pure, Result.andThen_ok, run_underlying hu, run_tinfo hi, hc, if_false, newObj]
        rfl
      · refine ⟨fun b => b = w.heap.size, S, ?_, Sat_le hx.le (hs.sat.st hev (fun b hb => by have := hs.sat.lt b hb; simp [Array.getElem?_push, Nat.ne_of_lt this])), fun b hb hS => by have := hs.sat.lt b hS; omega, fun _ => Iff.rfl⟩
        simp only [dnE, setE_at]
        exact ⟨⟨_, new_at w _⟩, fun _ => Iff.rfl⟩
    · cases h3
  · cases h3
theorem ok_makeSlice {t : TypeId} {x y : Operand} {o : Oper} {r : AV × List Ent × Nat} (ho : o.op = .makeSlice t x y) (h : valE P s (.makeSlice t x y) = some r) : OkV P fz B s r.1 r.2.1 r.2.2 (fun a => execOp a.eval o) := by
  simp only [valE] at h
  obtain ⟨av, h1, h⟩ := bnd_some h
  obtain ⟨m, h2, h⟩ := bnd_some h
  obtain ⟨bv, h3, h⟩ := bnd_some h
  obtain ⟨m', h4, h⟩ := bnd_some h
  obtain ⟨i, h5, h⟩ := bnd_some h
  obtain ⟨h6, h⟩ := lp1_some h
  injection h with h
  subst h
  simp only [Bool.and_eq_true, decide_eq_true_eq] at h6
  obtain ⟨⟨⟨⟨⟨g1, g2⟩, g3⟩, g4⟩, g5⟩, g6⟩ := h6
  have g6 : 0 < i.2.1 := by simpa [Nat.blt_eq] using g6
  rw [asI_eq h2] at h1
  rw [asI_eq h4] at h3
  obtain ⟨zs, ht, hzs⟩ := eInf_ok h5
  obtain ⟨k1, k2⟩ := okLen_ok g5
  refine ⟨Nat.le_succ _, fun φ hf a w W S hs => ?_⟩
  have e1 := oE_val hs h1
  have e2 := oE_val hs h3
  injection e1 with e1
  injection e2 with e2
  have hm : ((m.2.toNat : Nat) : Int) = m.2 := Int.toNat_of_nonneg g4
  obtain ⟨w', W', S', q1, q2, q3⟩ := mk_run (P := P) (z := i.2.2.2) (enc := enc φ) (n := m.2.toNat) ho ht (by rw [hzs]; exact enc_v zs) g6 (by omega) (by omega) hs (by rw [← e1, g1, hm]) (by rw [← e2, g2, ← g3, hm])
  have hx := setE_ext ⟨w.heap.size, 0, m.2.toNat⟩ hf
  refine ⟨_, _, w', W', S', hx, q1, ?_, ?_, q3⟩
  · simp only [val, setE_at, Option.map_some, Nat.zero_mul, Nat.add_zero, Nat.sub_zero]
  · obtain ⟨S1, S2, j1, j2, j3⟩ := q2
    refine ⟨S1, S2, dnRow_mk (setE_at _ _ _) ?_, Sat_le hx.le j2, j3⟩
    rw [List.length_replicate]
    exact hrow_le hx.le _ _ _ j1
theorem ok_indexS {t : TypeId} {x y : Operand} {o : Oper} {r : AV × List Ent × Nat} (ho : o.op = .index t x y) (h : valE P s (.index t x y) = some r) : OkV P fz B s r.1 r.2.1 r.2.2 (fun a => execOp a.eval o) := by
  simp only [valE] at h
  obtain ⟨l, h1, h⟩ := bnd_some h
  obtain ⟨bv, h3, h⟩ := bnd_some h
  obtain ⟨m, h4, h⟩ := bnd_some h
  obtain ⟨h5, h⟩ := lp1_some h
  simp only [Bool.and_eq_true, decide_eq_true_eq] at h5
  rw [asI_eq h4] at h3
  have hu : P.underlying t = some .string := by
    have := h5.1
    unfold isStr at this
    split at this
    · assumption
    · cases this
  refine keep_ok h fun cv h6 φ a w W S hs => ?_
  obtain ⟨c, h7, h8⟩ := bnd_some h6
  injection h8 with h8
  subst h8
  have e2 := oE_val hs h3
  injection e2 with e2
  unfold strOf at h1
  split at h1
  · rename_i b
    injection h1 with h1
    subst h1
    rw [lget_eq, Array.getElem?_toList] at h7
    have h9 : b[m.2.toNat]? = some c := by
      obtain ⟨g1, g2⟩ := Array.getElem?_eq_some_iff.1 h7
      have g1' : m.2.toNat < b.size := g1
      rw [getElem?_pos b m.2.toNat g1']
      exact congrArg some g2
    refine ⟨.int .u8 c.toNat, ?_, rfl⟩
    have hx : a.eval (.const (.string b)) = .string b := rfl
    unfold execOp
    simp only [ho, Instr.index, hx, ← e2, asIntOf, Sem.run_bind, Sem.run_pure, Result.andThen_ok, run_underlying hu, h5.2, if_true, h9]
  · cases h1
theorem ok_copy {c : Call} {o : Oper} {r : AV × List Ent × Nat} (ho : o.op = .call c) (hc : c.callee = .builtin .copy) (h : valE P s (.call c) = some r) : OkV P fz B s r.1 r.2.1 r.2.2 (fun a => execOp a.eval o) := by
  simp only [valE, hc] at h
  obtain ⟨l, h1, h⟩ := bnd_some h
  split at h
  · rename_i av bv t t' hty
    obtain ⟨x, xs, hx, h2, h3⟩ := oEs_one (x := .func 0) h1
    obtain ⟨y, ys, hy, h4, h5⟩ := oEs_one (x := .func 0) h3
    have := oEs_nil h5
    subst this
    subst hy
    obtain ⟨htt, hb⟩ := lp1_some h
    have := Nat.eq_of_beq_eq_true htt
    clear h
    subst this
    obtain ⟨i, k1, h⟩ := bnd_some hb
    obtain ⟨news, k2, h⟩ := bnd_some h
    obtain ⟨q, k3, h⟩ := bnd_some h
    obtain ⟨k4, h⟩ := lp1_some h
    injection h with h
    subst h
    simp only [Bool.and_eq_true] at k4
    obtain ⟨⟨g1, g2⟩, g3⟩ := k4
    have g1 := Nat.eq_of_beq_eq_true g1
    have g2 := Nat.eq_of_beq_eq_true g2
    have g3 := Nat.le_of_ble_eq_true g3
    obtain ⟨zs, ht, _⟩ := eInf_ok k1
    obtain ⟨hu, info, z, hi, hsz, hby, hz, hzs, hz1, hzl⟩ := id ht
    obtain ⟨_, _, j1, j2, _⟩ := rowOf_ok k3
    refine ⟨Nat.le_refl _, fun φ hf a w W S hs => ?_⟩
    obtain ⟨cs, m1, m2, m3, m4, m5⟩ := news_ok (P := P) hs (oE_val hs h4) k2
    obtain ⟨L, hL, hv, hlc, hat⟩ := rowOf_at hs k3 (oE_val hs h2)
    obtain ⟨S1, S2, q1, q2, hd, hS⟩ := Sat.pick hat hs.sat
    rw [← g2] at m2 m4 m5
    obtain ⟨w', hst, hrow', hrun⟩ := row_fill (P := P) (hi := q.lo) q1 (fun b hb => hs.run.sub b ((hS b).2 (.inl hb))) hs.run.bound (by omega) m2 m3 m5
    have hlt := q2.lt
    obtain ⟨hr2, hd2⟩ := Run.framed (T := S2) (S := S) hrun hlt hd hS hs.run.sub
    have hev := hr2.evo hs.run.sub
    refine ⟨φ, .int .i64 news.length, w', W, _, Ext.refl _ _ _, ?_, rfl, ?_, hr2⟩
    · obtain ⟨c1, c2, c3⟩ := c
      simp only at hc hx hty
      have hmin : Nat.min news.length (q.hi - q.lo) = news.length := Nat.min_eq_left g3
      unfold execOp
      simp only [ho, hc, arr2 hx, arr2 hty, resolve, invoke, builtin, Builtin.copy_, List.map_toArray, List.map_cons, List.map_nil, Sem.run_bind, Sem.run_pure, Result.andThen_ok, List.getElem?_toArray, List.getElem?_cons_zero, List.getElem?_cons_succ, run_underlying hu, hv, m1, hmin, run_size hi, hsz]
      rw [← g2, m4 w rfl]
      simp only [Result.andThen_ok, Sem.run_bind, hst, Sem.run_pure, goInt]
    · rw [dnH_eP]
      refine Sat.put hat (dnRow_mk hL ?_) (q2.st hev (fun b hb => hrun.keep b (hlt b hb) (fun hc => hd b hc hb))) hd2
      have hlen : (q.l.take q.lo ++ news ++ q.l.drop (q.lo + news.length)).length = q.l.length := by
        rw [List.length_append, List.length_append, List.length_take, List.length_drop]
        omega
      rw [hlen]
      exact hrow'
  · cases h
end
end Go.Proofs.YtagkniimpekhjaaGreat
