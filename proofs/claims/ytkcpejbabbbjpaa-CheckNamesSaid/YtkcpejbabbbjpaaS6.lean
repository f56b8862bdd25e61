/- A part of the proof: contracts over a program of the model. -/
import Derived.Test.YtkcpejbabbbjpaaX0Q
import Derived.Test.YtkcpejbabbbjpaaD4
set_option linter.unusedVariables false
set_option linter.unusedSectionVars false
set_option linter.unusedSimpArgs false
namespace Go.Proofs.Ytkcpejbabbbjpaa
open Go.RowKit

/-! ### contracts in a greater heap -/
theorem HP.eq_of {a b : HP} (h : ∀ w W S, a.p w W S ↔ b.p w W S) : a = b := by
  cases a with
  | mk p1 _ _ =>
    cases b with
    | mk p2 _ _ =>
      have : p1 = p2 := by
        funext w W S
        exact propext (h w W S)
      subst this
      rfl
theorem set_same {α : Type} {l : List α} {j : Nat} {x : α} (h : l[j]? = some x) : l.set j x = l := by
  apply List.ext_getElem?
  intro i
  rw [List.getElem?_set]
  split
  · rename_i e
    subst e
    obtain ⟨h1, _⟩ := List.getElem?_eq_some_iff.1 h
    rw [if_pos h1, h]
  · rfl
theorem Sel.back {w : World} {W : WS} : ∀ {h hc hf : List HP} {S1 S2 : Nat → Prop}, Sel h hc hf → Sat w W hc S1 → Sat w W hf S2 → (∀ x, S1 x → ¬ S2 x) → Sat w W h (fun x => S1 x ∨ S2 x)
  | h, _, _, S1, S2, .nil, h1, h2, hd => h2.congr fun b => ⟨.inr, fun h => h.elim (fun h => (h1 b h).elim) id⟩
  | h, _, _, S1, S2, .cons (x := x) (hc := hc) (hf := hf) j hj k, h1, h2, hd => by
    obtain ⟨T1, T2, t1, t2, t3, t4⟩ := h1
    have h3 := Sel.back k t2 h2 (fun b hb hc => hd b ((t4 b).2 (.inr hb)) hc)
    have := Sat.put (y := x) hj t1 h3 (fun b hb hc => by
      rcases hc with hc | hc
      · exact t3 b hb hc
      · exact hd b ((t4 b).2 (.inl hb)) hc)
    rw [set_same hj] at this
    exact this.congr fun b => by rw [t4 b, or_assoc]
theorem fn_in {P : Program} {f : FuncId} {args : List VP} {h hc hf : List HP} {Q : VP → List HP → Prop} (hfn : Fn P f args hc fun r h' => ∃ new, Q r new ∧ h' = new ++ hc) (hsel : Sel h hc hf) : Fn P f args h fun r h' => ∃ new, Q r new ∧ h' = new ++ h := by
  intro w W S vs hv hsat hsub hbd
  obtain ⟨S1, S2, h1, h2, hd, hS⟩ := hsel.sat hsat
  refine (hfn w W S1 vs hv h1 (fun b hb => hsub b ((hS b).2 (.inl hb))) hbd).mono ?_
  rintro e w' ⟨v, r, h', W', S', he, hr, ⟨new, hq, rfl⟩, hs, hrun⟩
  have hlt : ∀ b, S2 b → b < w.heap.size := h2.lt
  obtain ⟨hr2, hd2⟩ := Run.framed (T := S2) (S := S) hrun hlt hd hS hsub
  have hev : Evo w W w' W' := hr2.evo hsub
  have h2' : Sat w' W' hf S2 := h2.st hev (fun b hb => hrun.keep b (hlt b hb) (fun hc => hd b hc hb))
  obtain ⟨Sn, Sc, g1, g2, g3, g4⟩ := Sat.split hs
  have hback := hsel.back g2 h2' (fun b hb hc => hd2 b ((g4 b).2 (.inr hb)) hc)
  have hj := Sat.join g1 hback (fun b hb hc => by
    rcases hc with hc | hc
    · exact g3 b hb hc
    · exact hd2 b ((g4 b).2 (.inl hb)) hc)
  exact ⟨v, r, new ++ h, W', _, he, hr, ⟨new, hq, rfl⟩, hj, hr2.less fun b hb => by
    rcases hb with hb | hb | hb
    · exact .inl ((g4 b).2 (.inl hb))
    · exact .inl ((g4 b).2 (.inr hb))
    · exact .inr hb⟩
theorem sel2 {h : List HP} {i j : Nat} {x y : HP} (hi : h[i]? = some x) (hj : h[j]? = some y) (hne : i ≠ j) : ∃ hf, Sel h [x, y] hf := by
  have : (h.eraseIdx i)[if j < i then j else j - 1]? = some y := by
    rw [List.getElem?_eraseIdx]
    by_cases h1 : j < i
    · rw [if_pos h1, if_pos h1]; exact hj
    · rw [if_neg h1, if_neg (by omega), show j - 1 + 1 = j by omega]; exact hj
  exact ⟨_, .cons i hi (.cons _ this .nil)⟩

/-! ### the tally in the evaluator's heap -/
theorem triInts_cons {k : Tri} {a : AV} {m : List (Tri × AV)} {l : List (Tri × Int)} (h : triInts ((k, a) :: m) = some l) : ∃ n l', a = .v (.int .i64 n) ∧ triInts m = some l' ∧ l = (k, n) :: l' := by
  unfold triInts at h
  split at h
  · rename_i n
    obtain ⟨l', h1, h2⟩ := bnd_some h
    injection h2 with h2
    exact ⟨n, l', rfl, h1, h2.symm⟩
  · cases h
theorem triInts_len {φ : Env} : ∀ {m : List (Tri × AV)} {l : List (Tri × Int)}, triInts m = some l → l.length = m.length ∧ l.map (·.1) = m.map (·.1)
  | [], l, h => by injection h with h; subst h; exact ⟨rfl, rfl⟩
  | (k, a) :: m, l, h => by
    obtain ⟨n, l', rfl, h1, rfl⟩ := triInts_cons h
    obtain ⟨g1, g2⟩ := triInts_len (φ := φ) h1
    exact ⟨by simp [g1], by simp [g2]⟩
theorem triInts_ent {φ : Env} {w : World} {W : WS} : ∀ {es : List MapEntry} {m : List (Tri × AV)} {l : List (Tri × Int)}, triInts m = some l → (EntOk w W eTri (dn φ) es m ↔ EntOk w W eTri vI es l)
  | [], [], l, h => by injection h with h; subst h; exact Iff.rfl
  | [], (k, a) :: m, l, h => by
    obtain ⟨n, l', rfl, h1, rfl⟩ := triInts_cons h
    exact Iff.rfl
  | e :: es, [], l, h => by injection h with h; subst h; exact Iff.rfl
  | e :: es, (k, a) :: m, l, h => by
    obtain ⟨n, l', rfl, h1, rfl⟩ := triInts_cons h
    have := triInts_ent (φ := φ) (w := w) (W := W) (es := es) h1
    exact ⟨fun ⟨g1, g2, g3⟩ => ⟨g1, g2, this.1 g3⟩, fun ⟨g1, g2, g3⟩ => ⟨g1, g2, this.2 g3⟩⟩
theorem triInts_hmap {φ : Env} {b : Nat} {m : List (Tri × AV)} {l : List (Tri × Int)} (h : triInts m = some l) : hmap b eTri (dn φ) m = hmap b eTri vI l := by
  obtain ⟨h1, h2⟩ := triInts_len (φ := φ) h
  refine HP.eq_of fun w W S => ?_
  constructor
  · rintro ⟨⟨es, c, g1, g2, g3, g4, g5⟩, g6⟩
    exact ⟨⟨es, c, g1, (triInts_ent h).1 g2, g3, by rw [h1]; exact g4, by rw [h2]; exact g5⟩, g6⟩
  · rintro ⟨⟨es, c, g1, g2, g3, g4, g5⟩, g6⟩
    exact ⟨⟨es, c, g1, (triInts_ent h).2 g2, g3, by rw [← h1]; exact g4, by rw [← h2]; exact g5⟩, g6⟩
theorem tallyOf_ok {φ : Env} {h : List Ent} {n : Nat} {p : AV} {T : TAL} (ht : tallyOf h n p = some T) {w : World} {W : WS} {S : Nat → Prop} (hsat : Sat w W (dnH φ h) S) :
    ∃ tb mb hf, dn φ p = vptr tb 0 ∧ Sel (dnH φ h) [hvar tb T.e [dn φ T.stk, vmap mb], hmap mb eTri vI T.m] hf ∧ T.m.length ≤ 1000000 := by
  unfold tallyOf at ht
  split at ht
  · rename_i kb
    obtain ⟨x, h1, ht⟩ := bnd_some ht
    split at ht
    · rename_i stk k hx
      obtain ⟨y, h2, ht⟩ := bnd_some ht
      obtain ⟨m, h3, ht⟩ := bnd_some ht
      obtain ⟨h4, ht⟩ := lp1_some ht
      injection ht with ht
      subst ht
      obtain ⟨S1, S2, g1, _⟩ := Sat.pick (entC_at (φ := φ) h1) hsat
      obtain ⟨S3, S4, g2, _⟩ := Sat.pick (entT_at (φ := φ) h2) hsat
      obtain ⟨L, hL, hLo, g1⟩ := dnC g1
      obtain ⟨M, hM, g2⟩ := dnMapT g2
      have e1 : dnE φ (.cells kb x.1 x.2) = hvar L.b x.1 [dn φ stk, vmap M.b] := by
        have hb : Nat.beq L.o 0 = true := by rw [hLo]; rfl
        have hm : dn φ (.mp k) = vmap M.b := by
          unfold dn
          simp only [val, hM, Option.map_some]
          rfl
        simp only [dnE, hL, hb, cond_true, hx, enc, List.map_cons, List.map_nil, hm]
      have e2 : dnE φ (.mapT k y.1 y.2.1 y.2.2) = hmap M.b eTri vI m := by
        simp only [dnE, hM]
        exact triInts_hmap h3
      have i1 := entC_at (φ := φ) h1
      have i2 := entT_at (φ := φ) h2
      have hne : posn n kb ≠ posn n k := by
        intro e
        unfold entC eG at h1
        unfold entT eG at h2
        rw [e] at h1
        split at h1
        · rename_i q
          rw [q] at h2
          cases h2
        · cases h1
      rw [e1] at i1
      rw [e2] at i2
      obtain ⟨hf, hsel⟩ := sel2 i1 i2 hne
      refine ⟨L.b, M.b, hf, ?_, hsel, Nat.le_of_ble_eq_true h4⟩
      unfold dn
      simp only [val, hL, Option.map_some, hLo]
    · cases ht
  · cases ht
theorem slice_ok {P : Program} {f : FuncId} {args : List VP} {φ : Env} {h : List Ent} {n : Nat} {l : List Int} {r : AV × List Ent × Nat} (hr : sliceOf n h l = some r) (hf : Free φ n r.2.2)
    (hfn : Fn P f args (dnH φ h) fun rv h' => ∃ new, (∃ v, v.oneCell' = true ∧ (l = [] → v = .slice none 0 0) ∧ rv = vis v ∧ new = [hrow v 3 1 eint l]) ∧ h' = new ++ dnH φ h) :
    Fn P f args (dnH φ h) fun rv h' => ∃ φ', Ext φ φ' n r.2.2 ∧ VLe rv (dn φ' r.1) ∧ h' = dnH φ' r.2.1 := by
  intro w W S vs hv hsat hsub hbd
  refine (hfn w W S vs hv hsat hsub hbd).mono ?_
  rintro e w' ⟨u, rv, h', W', S', he, hu, ⟨new, ⟨v, h1, h2, rfl, rfl⟩, rfl⟩, hs, hrun⟩
  obtain ⟨T1, T2, t1, t2, t3, t4⟩ := hs
  match l, hr with
  | [], hr =>
    injection hr with hr
    subst hr
    exact ⟨u, _, dnH φ h, W', T2, he, hu, ⟨φ, Ext.refl _ _ _, fun w W z hz => dn_p.2 (by rw [show z = v from hz, h2 rfl]; rfl), rfl⟩, t2, hrun.less fun b hb => (t4 b).2 (.inr hb)⟩
  | x :: l, hr =>
    injection hr with hr
    subst hr
    rcases t1 with ⟨_, hl, _⟩ | ⟨g, o, c, cs, rfl, q2, q3, q4, q5, q6, q7, q8⟩
    · cases hl
    have hx := setE_ext ⟨g, o, c⟩ hf
    refine ⟨u, _, dnH (setE φ n ⟨g, o, c⟩) (.row n 3 1 ((x :: l).map fun x => [.v (.int .i64 x)]) :: h), W', S', he, hu, ⟨_, hx, fun w W z hz => dn_p.2 ?_, rfl⟩, ?_, hrun⟩
    · rw [show z = _ from hz]
      simp only [val, setE_at, Option.map_some]
      simp
    · refine ⟨T1, T2, dnRow_mk (setE_at _ _ _) ?_, Sat_le hx.le t2, t3, t4⟩
      rw [List.length_map]
      exact hrow_map (fun x _ => rfl) (.inr ⟨g, o, c, cs, rfl, q2, q3, q4, q5, q6, q7, q8⟩)
theorem sliceOf_n {n : Nat} {h : List Ent} {l : List Int} {r : AV × List Ent × Nat} (hr : sliceOf n h l = some r) : n ≤ r.2.2 := by
  match l, hr with
  | [], hr => injection hr with hr; subst hr; exact Nat.le_refl _
  | x :: l, hr => injection hr with hr; subst hr; exact Nat.le_succ _
theorem dn_int (φ : Env) (n : Int) : dn φ (.v (.int .i64 n)) = vint .i64 n := rfl
theorem primAll_ok (hsort : SortC PP 115) : CalOk PP (primAll 127) := by
  intro f args h n r hr
  unfold primAll at hr
  obtain ⟨h1, hr⟩ := lp1_some hr
  have := Nat.eq_of_beq_eq_true h1
  subst this
  split at hr
  · rename_i p kind view _
    obtain ⟨T, h2, hr⟩ := bnd_some hr
    refine ⟨by kernel_rfl, sliceOf_n hr, fun φ hf w W S vs hv hsat hsub hbd => ?_⟩
    obtain ⟨tb, mb, hfr, e1, e2, e3⟩ := tallyOf_ok h2 hsat
    refine slice_ok hr hf (fn_in (fn_post (c_All (pS := dn φ T.stk) (et := T.e) (tb := tb) (mb := mb) (kind := kind) (view := view) hsort e3) ?_) e2) w W S vs (by rw [← e1]; exact hv) hsat hsub hbd
    rintro r h' ⟨v, k1, k2, rfl, rfl⟩
    exact ⟨_, ⟨_, ⟨v, k1, k2, rfl, rfl⟩, rfl⟩, fun w W S h => ⟨S, h, fun _ h => h⟩⟩
  · cases hr
theorem primWho_ok (hsort : SortC PP 115) : CalOk PP (primWho 129) := by
  intro f args h n r hr
  unfold primWho at hr
  obtain ⟨h1, hr⟩ := lp1_some hr
  have := Nat.eq_of_beq_eq_true h1
  subst this
  split at hr
  · rename_i p kind view x _
    obtain ⟨T, h2, hr⟩ := bnd_some hr
    refine ⟨by kernel_rfl, sliceOf_n hr, fun φ hf w W S vs hv hsat hsub hbd => ?_⟩
    obtain ⟨tb, mb, hfr, e1, e2, e3⟩ := tallyOf_ok h2 hsat
    refine slice_ok hr hf (fn_in (fn_post (c_Who (pS := dn φ T.stk) (et := T.e) (tb := tb) (mb := mb) (kind := kind) (view := view) (val := x) hsort e3) ?_) e2) w W S vs (by rw [← e1]; exact hv) hsat hsub hbd
    rintro r h' ⟨v, k1, k2, rfl, rfl⟩
    exact ⟨_, ⟨_, ⟨v, k1, k2, rfl, rfl⟩, rfl⟩, fun w W S h => ⟨S, h, fun _ h => h⟩⟩
  · cases hr
theorem viewsL_nil {m : List (Tri × Int)} (h : viewsL m = []) : m = [] := by
  cases m with
  | nil => rfl
  | cons x m =>
    have : x.1.b ∈ viewsL (x :: m) := by unfold viewsL; rw [srtD_mem]; simp
    rw [h] at this
    cases this
theorem primViews_ok (hk : SortKeysC PP 87 159 3 3) : CalOk PP (primViews 124) := by
  intro f args h n r hr
  unfold primViews at hr
  obtain ⟨h1, hr⟩ := lp1_some hr
  have := Nat.eq_of_beq_eq_true h1
  subst this
  split at hr
  · rename_i p _
    obtain ⟨T, h2, hr⟩ := bnd_some hr
    obtain ⟨h3, hr⟩ := lp1_some hr
    refine ⟨by kernel_rfl, sliceOf_n hr, fun φ hf w W S vs hv hsat hsub hbd => ?_⟩
    obtain ⟨tb, mb, hfr, e1, e2, e3⟩ := tallyOf_ok h2 hsat
    refine slice_ok hr hf (fn_in (fn_post (c_views (pS := dn φ T.stk) (et := T.e) (tb := tb) (mb := mb) hk e3 (List.all_eq_true.1 h3)) ?_) e2) w W S vs (by rw [← e1]; exact hv) hsat hsub hbd
    rintro r h' ⟨v, k1, k2, rfl, rfl⟩
    exact ⟨_, ⟨_, ⟨v, k1, fun e => k2 (viewsL_nil e), rfl, rfl⟩, rfl⟩, fun w W S h => ⟨S, h, fun _ h => h⟩⟩
  · cases hr
theorem primAhead_ok (hk : SortKeysC PP 87 159 3 3) : CalOk PP (primAhead 97) := by
  intro f args h n r hr
  unfold primAhead at hr
  obtain ⟨h1, hr⟩ := lp1_some hr
  have := Nat.eq_of_beq_eq_true h1
  subst this
  split at hr
  · rename_i p view _
    obtain ⟨T, h2, hr⟩ := bnd_some hr
    obtain ⟨h3, hr⟩ := lp1_some hr
    injection hr with hr
    subst hr
    have h4 : ∀ kv ∈ T.m, okI64 kv.1.b = true ∧ kv.1.b ≤ view := fun kv hkv => by
      have := List.all_eq_true.1 h3 kv hkv
      simpa only [Bool.and_eq_true, decide_eq_true_eq] using this
    refine ⟨by kernel_rfl, Nat.le_refl _, fun φ hf w W S vs hv hsat hsub hbd => ?_⟩
    obtain ⟨tb, mb, hfr, e1, e2, e3⟩ := tallyOf_ok h2 hsat
    have := fn_in (Q := fun r new => r = vint .i64 view ∧ new = []) (fn_post (c_Ahead0 (pS := dn φ T.stk) (et := T.e) (tb := tb) (mb := mb) (view := view) hk e3 (fun kv h => (h4 kv h).1) (fun kv h => (h4 kv h).2)) (by
      rintro r h' ⟨rfl, rfl⟩
      exact ⟨_, ⟨[], ⟨rfl, rfl⟩, rfl⟩, fun w W S h => ⟨S, h, fun _ h => h⟩⟩)) e2
    refine (fn_post this ?_) w W S vs (by rw [← e1]; exact hv) hsat hsub hbd
    rintro r h' ⟨new, ⟨rfl, rfl⟩, rfl⟩
    exact ⟨_, ⟨φ, Ext.refl _ _ _, fun _ _ _ h => h, rfl⟩, fun w W S h => ⟨S, h, fun _ h => h⟩⟩
  · cases hr
theorem primSV0_ok (hsort : SortC PP 115) : CalOk PP (primSV0 87 139) := by
  intro f args h n r hr
  unfold primSV0 at hr
  obtain ⟨h1, hr'⟩ := lp1_some hr
  clear hr
  have := Nat.eq_of_beq_eq_true h1
  subst this
  split at hr'
  · rename_i fk kb
    obtain ⟨h2, hr⟩ := lp1_some hr'
    clear hr'
    have := Nat.eq_of_beq_eq_true h2
    subst this
    obtain ⟨x, h3, hr⟩ := bnd_some hr
    split at hr
    · rename_i k hx
      obtain ⟨m, h4, hr⟩ := bnd_some hr
      split at hr
      · rename_i hm
        injection hr with hr
        subst hr
        refine ⟨by kernel_rfl, Nat.le_refl _, fun φ hf w W S vs hv hsat hsub hbd => ?_⟩
        obtain ⟨S1, S2, g1, _⟩ := Sat.pick (entC_at (φ := φ) h3) hsat
        obtain ⟨S3, S4, g2, _⟩ := Sat.pick (entM_at (φ := φ) h4) hsat
        obtain ⟨L, hL, hLo, g1⟩ := dnC g1
        obtain ⟨M, hM, g2⟩ := dnMap g2
        have e1 : dnE φ (.cells kb x.1 x.2) = hvar L.b x.1 [vmap M.b] := by
          have hb : Nat.beq L.o 0 = true := by rw [hLo]; rfl
          have hm : dn φ (.mp k) = vmap M.b := by
            unfold dn
            simp only [val, hM, Option.map_some]
            rfl
          simp only [dnE, hL, hb, cond_true, hx, enc, List.map_cons, List.map_nil, hm]
        have e2 : dnE φ (.map k m.1 m.2.1 m.2.2) = hmap M.b eI (dn φ) [] := by
          simp only [dnE, hM, hm]
        have i1 := entC_at (φ := φ) h3
        have i2 := entM_at (φ := φ) h4
        have hne : posn n kb ≠ posn n k := by
          intro e
          unfold entC eG at h3
          unfold entM eG at h4
          rw [e] at h3
          split at h3
          · rename_i q
            rw [q] at h4
            cases h4
          · cases h3
        rw [e1] at i1
        rw [e2] at i2
        obtain ⟨hfr, hsel⟩ := sel2 i1 i2 hne
        have := fn_in (Q := fun r new => r = vis (.slice none 0 0) ∧ new = []) (fn_post (c_Sorted0 (c := L.b) (et := x.1) (mb := M.b) (encV := dn φ) hsort) (by
          rintro r h' ⟨rfl, rfl⟩
          exact ⟨_, ⟨[], ⟨rfl, rfl⟩, rfl⟩, fun w W S h => ⟨S, h, fun _ h => h⟩⟩)) hsel
        have hargs : [AV.fn 139 [] [.ptr kb 0]].map (dn φ) = [vfn 139 [] [.pointer (some ⟨L.b, 0, none⟩)]] := by
          simp only [List.map_cons, List.map_nil, dn, val, vals, hL, Option.map_some, hLo]
          rfl
        rw [hargs] at hv
        refine (fn_post this ?_) w W S vs hv hsat hsub hbd
        rintro r h' ⟨new, ⟨rfl, rfl⟩, rfl⟩
        exact ⟨_, ⟨φ, Ext.refl _ _ _, fun _ _ _ h => h, rfl⟩, fun w W S h => ⟨S, h, fun _ h => h⟩⟩
      · cases hr
    · cases hr
  · cases hr'
theorem orE_ok {P : Program} {p q : CAL} (hp : CalOk P p) (hq : CalOk P q) : CalOk P (orE p q) := by
  intro f args h n r hr
  unfold orE at hr
  split at hr
  · rename_i r' h1
    injection hr with hr
    subst hr
    exact hp f args h n _ h1
  · exact hq f args h n r hr
end Go.Proofs.Ytkcpejbabbbjpaa
