/- A part of the proof: contracts over a program of the model. -/
import Derived.Test.YtagkniimpekhjaaGreatX12
import Derived.Test.YtagkniimpekhjaaGreatX0P
import Derived.Shelf.SlIterI.Nil
set_option linter.unusedVariables false
set_option linter.unusedSectionVars false
set_option linter.unusedSimpArgs false
namespace Go.Proofs.YtagkniimpekhjaaGreat
open Go.RowKit Go.Maps Go.WideElems

/-! ### slices.Sorted(maps.Keys(m)), keys of the kind int -/
theorem leI_tr : ∀ a b c : Int, leI a b = true → leI b c = true → leI a c = true := fun a b c h1 h2 => by simp only [leI, decide_eq_true_eq] at *; exact Int.le_trans h1 h2
theorem leI_to : ∀ a b : Int, (leI a b || leI b a) = true := fun a b => by simp only [leI, Bool.or_eq_true, decide_eq_true_eq]; exact Int.le_total a b
theorem insI_perm (x : Int) : ∀ l : List Int, (insI x l).Perm (x :: l)
  | [] => .refl _
  | y :: l => by
    unfold insI
    split
    · exact .refl _
    · exact ((insI_perm x l).cons y).trans (.swap x y l)
theorem insI_sorted (x : Int) : ∀ l : List Int, l.Pairwise (fun a b => leI a b = true) → (insI x l).Pairwise (fun a b => leI a b = true)
  | [], _ => by simp [insI]
  | y :: l, h => by
    unfold insI
    have hy := List.pairwise_cons.1 h
    split
    · rename_i hxy
      refine List.pairwise_cons.2 ⟨fun b hb => ?_, h⟩
      rcases List.mem_cons.1 hb with rfl | hb
      · simpa [leI] using hxy
      · exact leI_tr _ _ _ (by simpa [leI] using hxy) (hy.1 b hb)
    · rename_i hxy
      refine List.pairwise_cons.2 ⟨fun b hb => ?_, insI_sorted x l hy.2⟩
      rcases List.mem_cons.1 ((insI_perm x l).mem_iff.1 hb) with rfl | hb
      · simp only [leI, decide_eq_true_eq]; omega
      · exact hy.1 b hb
theorem srtI_perm : ∀ l : List Int, (srtI l).Perm l
  | [] => .refl _
  | x :: l => (insI_perm x _).trans ((srtI_perm l).cons x)
theorem srtI_sorted : ∀ l : List Int, (srtI l).Pairwise (fun a b => leI a b = true)
  | [] => .nil
  | x :: l => insI_sorted x _ (srtI_sorted l)
theorem srtI_eq {ss l : List Int} (h : ss.Perm l) : ss.mergeSort leI = srtI l := by
  refine List.Perm.eq_of_pairwise (le := fun a b => leI a b = true) (fun a b _ _ h1 h2 => ?_) (List.pairwise_mergeSort leI_tr leI_to ss) (srtI_sorted l) (((List.mergeSort_perm ss leI).trans h).trans (srtI_perm l).symm)
  simp only [leI, decide_eq_true_eq] at h1 h2
  exact Int.le_antisymm h1 h2
theorem srtI_len (l : List Int) : (srtI l).length = l.length := (srtI_perm l).length_eq

/-- what the kit has of slices.Sorted over maps.Keys -/
def SortKeysC (P : Program) (fs fk : FuncId) (kt te : TypeId) : Prop :=
  ∀ (b nn : Nat) (D0 : DataW Unit) (R : Value → Option (DataW Unit × List MemPlace)) (w : World) (Bm : Nat), Bm < w.heap.size → w.cell? ⟨Bm, 0, none⟩ = some (.map (some b)) → w.ownsMap P kt R b nn D0 → Maps.size D0 ≤ maxLen → Maps.size D0 * 8 ≤ 140737488355328 →
    Calls P fs #[.func (.func fk) #[] #[.pointer (some ⟨Bm, 0, none⟩)]] w fun e w' => ∃ (v : Value) (ss : List Int), e = .returned v ∧ ss.Perm (intKeys D0) ∧
      w'.ownsRow w.heap.size te 1 v ss.length ((ss.mergeSort leI).map encZ) ∧ (v = .slice none 0 0 ↔ ss = []) ∧ Below w.heap.size w w'

theorem born_stamped {ν : Type} {w : World} {W : WS} {encV : ν → VP} : ∀ {es : List MapEntry} {m : List (Int × ν)} {c : Nat}, Born c es → (∀ e ∈ es, e.born < c) ∧ (es.map (·.born)).Nodup
  | [], m, c, _ => ⟨by simp, by simp⟩
  | e :: es, m, c, ⟨h1, h2, h3⟩ => by
    obtain ⟨k1, k2⟩ := born_stamped (w := w) (W := W) (encV := encV) (m := m) h3
    refine ⟨fun x hx => ?_, ?_⟩
    · rcases List.mem_cons.1 hx with rfl | hx
      · exact h1
      · exact k1 x hx
    · rw [List.map_cons, List.nodup_cons]
      refine ⟨fun hm => ?_, k2⟩
      obtain ⟨x, hx, he⟩ := List.mem_map.1 hm
      have := h2 x hx
      omega
theorem eI_nodup {l : List Int} (h : l.Nodup) : (l.map eI).Nodup := by
  refine List.pairwise_map.2 (h.imp fun hne e => hne ?_)
  simpa [eI] using e
/-- my map is one of the kit's -/
theorem owns_of_hmap {P : Program} {kt : TypeId} {ν : Type} {w : World} {W : WS} {S : Nat → Prop} {b : Nat} {encV : ν → VP} {m : List (Int × ν)} (hkt : P.underlying kt = some (.int .i64)) (hwf : ∀ x ∈ m, (Lit.int .i64 x.1).wf = true) (hlen : m.length ≤ 1000000)
    (h : (hmap b eI encV m).p w W S) : ∃ D0 : DataW Unit, w.ownsMap P kt (fun _ => some (.nil, [])) b m.length D0 ∧ (intKeys D0).Perm (m.map (·.1)) ∧ Maps.size D0 = m.length := by
  obtain ⟨⟨es, c, h1, h2, h3, h4, h5⟩, _⟩ := h
  have hl := h2.len
  have hk := h2.keys
  have hrd : ∀ x ∈ es.toList, ∃ i, (Lit.int .i64 i).wf = true ∧ i ∈ m.map (·.1) ∧ x.key = eI i := by
    intro x hx
    have : x.key ∈ es.toList.map (·.key) := List.mem_map.2 ⟨x, hx, rfl⟩
    rw [hk] at this
    obtain ⟨i, hi, he⟩ := List.mem_map.1 this
    obtain ⟨y, hy, rfl⟩ := List.mem_map.1 hi
    exact ⟨y.1, hwf y hy, hi, he.symm⟩
  have hrdx : ∀ x ∈ es.toList, ∃ i, x.key = eI i ∧ rd P kt (fun _ => some ((.nil : DataW Unit), [])) x = some (.int .i64 i, .nil) := by
    intro x hx
    obtain ⟨i, hi, _, he⟩ := hrd x hx
    refine ⟨i, he, ?_⟩
    unfold rd
    rw [he]
    simp [eI, Go.keyOf, hkt, mapKey, hi]
  have hstamp := born_stamped (w := w) (W := W) (encV := encV) (m := m) h3
  have hmaps : (es.toList.map (WideElems.rg P kt (fun _ => some ((.nil : DataW Unit), [])))).map (fun p => Go.intOf p.1) = m.map (·.1) := by
    have : ∀ (es : List MapEntry) (ks : List Int), (∀ x ∈ es, ∃ i, x.key = eI i ∧ rd P kt (fun _ => some ((.nil : DataW Unit), [])) x = some (.int .i64 i, .nil)) → es.map (·.key) = ks.map eI → (es.map (WideElems.rg P kt (fun _ => some ((.nil : DataW Unit), [])))).map (fun p => Go.intOf p.1) = ks := by
      intro es
      induction es with
      | nil =>
        intro ks _ hks
        cases ks with
        | nil => rfl
        | cons k ks => simp at hks
      | cons e es ih =>
        intro ks hrd hks
        cases ks with
        | nil => simp at hks
        | cons k ks =>
          simp only [List.map_cons, List.cons.injEq] at hks ⊢
          obtain ⟨i, he, hr⟩ := hrd e (List.mem_cons_self ..)
          refine ⟨?_, ih ks (fun x hx => hrd x (List.mem_cons_of_mem _ hx)) hks.2⟩
          rw [WideElems.rg_of hr]
          rw [he] at hks
          have := hks.1
          simp [eI] at this
          simp [Go.intOf, this]
    exact this _ _ hrdx hk
  refine ⟨_, ⟨es, c, h1, ⟨?_, ⟨hstamp.1, hstamp.2, ?_⟩, fun x hx => ?_⟩, ?_, rfl⟩, ?_, ?_⟩
  · have : es.size = m.length := by simpa using hl
    unfold maxLen
    omega
  · rw [hk]
    exact eI_nodup h5
  · obtain ⟨i, _, hr⟩ := hrdx x hx
    exact ⟨_, hr⟩
  · have : es.size = m.length := by simpa using hl
    omega
  · show ((((es.toList.map (WideElems.rg P kt _)).foldr DataW.insert []).map fun p => Go.intOf p.1)).Perm _
    rw [← hmaps]
    exact (WideShapes.sorted_perm _).map _
  · show (((es.toList.map (WideElems.rg P kt _)).foldr DataW.insert [])).length = _
    rw [(WideShapes.sorted_perm _).length_eq, List.length_map, hl]

theorem hrow_map {α β : Type} {v : Value} {e sz : Nat} {enc : α → List VP} {enc' : β → List VP} {f : β → α} {l : List β} {w : World} {W : WS} {S : Nat → Prop} (he : ∀ x ∈ l, enc (f x) = enc' x) (h : (hrow v e sz enc' l).p w W S) : (hrow v e sz enc (l.map f)).p w W S := by
  rcases h with ⟨h1, h2, h3⟩ | ⟨g, o, c, cs, h1, h2, h3, h4, h5, h6, h7, h8⟩
  · exact .inl ⟨h1, by rw [h2]; rfl, h3⟩
  · refine .inr ⟨g, o, c, cs, by rw [List.length_map]; exact h1, by rw [List.length_map]; exact h2, h3, h4, by rw [List.length_map]; exact h5, by rw [List.length_map]; exact h6, fun i hi => ?_, h8⟩
    rw [List.length_map] at hi
    rw [List.getElem_map, he _ (List.getElem_mem hi)]
    exact h7 i hi
theorem below_run {w w' : World} {W : WS} {S : Nat → Prop} (h : Below w.heap.size w w') (g : Nat) (hg : w.heap.size ≤ g) (hg' : g < w'.heap.size) (hsub : ∀ b, S b → W b) (hbd : ∀ b, W b → b < w.heap.size) : Run w W S w' (fun b => W b ∨ b = g) (fun b => S b ∨ b = g) :=
  ⟨h.os, h.tape, h.output, h.size, fun b hb _ => h.block b hb, fun b hb _ => ⟨fun h => h.elim id (fun h => by omega), .inl⟩, fun b hb h => h.elim id (fun h => by omega), fun b hb => hb.elim .inl (fun h => .inr (by omega)), fun b hb => hb.imp (hsub b) id, fun b hb => hb.elim (fun h1 => Nat.lt_of_lt_of_le (hbd b h1) h.size) (fun h => by omega)⟩
theorem below_run0 {w w' : World} {W : WS} {S : Nat → Prop} (h : Below w.heap.size w w') (hsub : ∀ b, S b → W b) (hbd : ∀ b, W b → b < w.heap.size) : Run w W S w' W S :=
  ⟨h.os, h.tape, h.output, h.size, fun b hb _ => h.block b hb, fun b hb _ => Iff.rfl, fun b hb h => h, fun b hb => .inl hb, hsub, fun b hb => Nat.lt_of_lt_of_le (hbd b hb) h.size⟩
def eint1 (x : Int) : List VP := [vint .i64 x]
/-- a row of the kit's, one of mine -/
theorem hrow_of_owns {w : World} {W : WS} {base g te n cap : Nat} {xs : List Int} (h : w.ownsRow base te 1 (.slice (some ⟨g, 0, none⟩) n cap) n (xs.map encZ)) (hl : n * 2 ≤ 9223372036854775807) : (hrow (.slice (some ⟨g, 0, none⟩) xs.length cap) te 1 eint1 xs).p w W (fun b => b = g) ∧ base ≤ g := by
  obtain ⟨h1, h2 | ⟨g', cap', cur, h2, h3, h4, h5, h6, h7, h8⟩⟩ := h
  · exact nomatch h2.1
  · injection h2 with e1 e2 e3
    injection e1 with e1
    injection e1 with e1
    subst e1 e3
    rw [List.length_map, Nat.mul_one] at h1
    rw [Nat.mul_one] at h7 h8
    refine ⟨.inr ⟨g, 0, cap, cur, rfl, by omega, h4, by omega, fun u hu => ?_, by omega, fun i hi => ⟨rfl, ?_⟩, fun x => Iff.rfl⟩, h3⟩
    · rw [List.drop_zero, Nat.mul_one, h1, h8] at hu
      obtain ⟨x, _, rfl⟩ := List.mem_map.1 hu
      rfl
    · have hi' : cur.toList[i]? = some (encZ xs[i]) := by
        have : (cur.toList.take n)[i]? = some (encZ xs[i]) := by rw [h8]; simp [hi]
        rw [List.getElem?_take] at this
        rw [if_pos (by omega)] at this
        exact this
      rw [Nat.zero_add, Nat.mul_one]
      obtain ⟨hlt, hx⟩ := List.getElem?_eq_some_iff.1 hi'
      rw [List.drop_eq_getElem_cons hlt, hx]
      exact ⟨rfl, trivial⟩
theorem sortKeys_w {P : Program} {fs fk kt te tm b0 mb : Nat} {ν : Type} {encV : ν → VP} {m : List (Int × ν)} {h : List HP} (hkt : P.underlying kt = some (.int .i64)) (hk : SortKeysC P fs fk kt te) (hwf : ∀ x ∈ m, (Lit.int .i64 x.1).wf = true) (hlen : m.length ≤ 1000000)
    {w : World} {W : WS} {S S1 S2 : Nat → Prop} (hv1 : (hvar b0 tm [vmap mb]).p w W S1) (hm1 : (hmap mb eI encV m).p w W S2) (hsat : Sat w W h S) (hsub : ∀ b, S b → W b) (hbd : ∀ b, W b → b < w.heap.size) :
    Calls P fs #[.func (.func fk) #[] #[.pointer (some ⟨b0, 0, none⟩)]] w fun e w' => ∃ v r h' W' S', e = .returned v ∧ r.p w' W' v ∧
      ((m = [] ∧ r = vis (.slice none 0 0) ∧ h' = h) ∨
      (m ≠ [] ∧ ∃ g c, r = vis (.slice (some ⟨g, 0, none⟩) m.length c) ∧ h' = hrow (.slice (some ⟨g, 0, none⟩) m.length c) te 1 eint1 (srtI (m.map (·.1))) :: h)) ∧ Sat w' W' h' S' ∧ Run w W S w' W' S' := by
  have hsat0 := hsat
  obtain ⟨⟨cs, c1, c2, c3⟩, c4⟩ := hv1
  have hcell : w.cell? ⟨b0, 0, none⟩ = some (.map (some mb)) := by
    rw [cell_at c1]
    match cs, c2 with
    | ⟨[u]⟩, ⟨h, _⟩ => rw [show u = _ from h]; rfl
  obtain ⟨D0, ho, hp, hsz⟩ := owns_of_hmap hkt hwf hlen hm1
  refine (hk mb m.length D0 _ w b0 (Array.getElem?_eq_some_iff.1 c1).1 hcell ho (by unfold maxLen; omega) (by omega)).mono ?_
  rintro e w' ⟨v, ss, rfl, hss, hrow, hnil, hb⟩
  have hperm := hss.trans hp
  have hl : ss.length = m.length := by rw [hperm.length_eq, List.length_map]
  have hev : Evo w W w' W := ⟨hb.size, fun b hb' _ => hb.block b hb', fun b _ h => h⟩
  have hsat' : Sat w' W h S := hsat0.st hev fun b hb' => hb.block b (hbd b (hsub b hb'))
  rw [srtI_eq hperm] at hrow
  by_cases hm : m = []
  · have : ss = [] := List.eq_nil_of_length_eq_zero (by rw [hl, hm]; rfl)
    rw [hnil.2 this]
    exact ⟨_, vis (.slice none 0 0), _, W, S, rfl, rfl, .inl ⟨hm, rfl, rfl⟩, hsat', below_run0 hb hsub hbd⟩
  · have hne : ss ≠ [] := fun h => hm (List.eq_nil_of_length_eq_zero (by rw [← hl, h]; rfl))
    obtain ⟨g, cap, rfl⟩ : ∃ g cap, v = .slice (some ⟨g, 0, none⟩) m.length cap := by
      obtain ⟨_, ⟨h2, _⟩ | ⟨g, cap, cur, h2, _⟩⟩ := hrow
      · exact (hne (hnil.1 h2)).elim
      · exact ⟨g, cap, by rw [← hl]; exact h2⟩
    rw [hl] at hrow
    have hsl : (srtI (m.map (·.1))).length = m.length := by rw [srtI_len, List.length_map]
    obtain ⟨k1, k2⟩ := hrow_of_owns (W := fun b => W b ∨ b = g) hrow (by omega)
    rw [hsl] at k1
    have hg' : g < w'.heap.size := by
      rcases k1 with ⟨k, _⟩ | ⟨_, _, _, _, k, _, h3, _⟩
      · exact nomatch k
      · injection k with e1
        injection e1 with e1
        injection e1 with e1
        subst e1
        exact (Array.getElem?_eq_some_iff.1 h3).1
    have hr := below_run hb g k2 hg' hsub hbd
    have hev2 : Evo w W w' (fun b => W b ∨ b = g) := hr.evo hsub
    refine ⟨_, _, _, _, _, rfl, rfl, .inr ⟨hm, g, cap, rfl, rfl⟩, ?_, hr⟩
    refine ⟨fun b => b = g, S, k1, hsat0.st hev2 fun b hb' => hb.block b (hbd b (hsub b hb')), fun b hb1 hb2 => ?_, fun b => by rw [or_comm]⟩
    have := hbd b (hsub b hb2)
    omega
theorem sortKeys_fn {P : Program} {fs fk kt te tm b0 mb : Nat} {ν : Type} {encV : ν → VP} {m : List (Int × ν)} (hkt : P.underlying kt = some (.int .i64)) (hk : SortKeysC P fs fk kt te) (hwf : ∀ x ∈ m, (Lit.int .i64 x.1).wf = true) (hlen : m.length ≤ 1000000) :
    Fn P fs [vis (.func (.func fk) #[] #[.pointer (some ⟨b0, 0, none⟩)])] [hvar b0 tm [vmap mb], hmap mb eI encV m] fun r h' =>
      (m = [] ∧ r = vis (.slice none 0 0) ∧ h' = [hvar b0 tm [vmap mb], hmap mb eI encV m]) ∨
      (m ≠ [] ∧ ∃ g c, r = vis (.slice (some ⟨g, 0, none⟩) m.length c) ∧ h' = [hrow (.slice (some ⟨g, 0, none⟩) m.length c) te 1 eint1 (srtI (m.map (·.1))), hvar b0 tm [vmap mb], hmap mb eI encV m]) := by
  intro w W S vs hv hsat hsub hbd
  obtain ⟨v, rfl, hv1⟩ : ∃ v, vs = [v] ∧ v = .func (.func fk) #[] #[.pointer (some ⟨b0, 0, none⟩)] := by
    match vs, hv with
    | [v], ⟨h, _⟩ => exact ⟨v, rfl, h⟩
  subst hv1
  have hsat0 := hsat
  obtain ⟨S1, S2, hv1, ⟨S3, S4, hm1, hn, hd2, hS2⟩, hd1, hS1⟩ := hsat
  exact sortKeys_w hkt hk hwf hlen hv1 hm1 hsat0 hsub hbd
end Go.Proofs.YtagkniimpekhjaaGreat

set_option linter.unusedVariables false
set_option linter.unusedSectionVars false
set_option linter.unusedSimpArgs false
namespace Go.Proofs.YtagkniimpekhjaaGreat
open Go.RowKit Go.Maps

theorem okI64_wf {x : Int} (h : okI64 x = true) : (Lit.int .i64 x).wf = true := by
  unfold okI64 at h
  simp only [Bool.and_eq_true, decide_eq_true_eq] at h
  have h1 := h.1
  have h2 := h.2
  simp only [Lit.wf, Bool.and_eq_true, decide_eq_true_eq]
  exact ⟨h1, h2⟩
theorem primSK_ok {P : Program} {fs e : Nat} {fks : List Nat} (hgo : isGo P fs = true) (hkt : P.underlying e = some (.int .i64)) (hk : ∀ fk ∈ fks, SortKeysC P fs fk e e) : CalOk P (primSK fs e fks) := by
  intro f args h n r hr
  unfold primSK at hr
  obtain ⟨h1, hr'⟩ := lp1_some hr
  have := Nat.eq_of_beq_eq_true h1
  clear hr
  subst this
  clear h1
  rename _ = some r => hr
  split at hr
  · rename_i fk kb
    obtain ⟨h2, hr⟩ := lp1_some hr
    obtain ⟨x, h3, hr⟩ := bnd_some hr
    split at hr
    · rename_i k hx
      obtain ⟨m, h4, hr⟩ := bnd_some hr
      obtain ⟨h5, hr⟩ := lp1_some hr
      simp only [Bool.and_eq_true, List.all_eq_true] at h5
      obtain ⟨h5, h6⟩ := h5
      have h6 := Nat.le_of_ble_eq_true h6
      have hfk : fk ∈ fks := by
        obtain ⟨y, hy, he⟩ := List.any_eq_true.1 h2
        rw [Nat.eq_of_beq_eq_true he]
        exact hy
      have hn : n ≤ r.2.2 := by
        split at hr <;> (injection hr with hr; subst hr; simp)
      refine ⟨hgo, hn, fun φ hf w W S vs hv hsat hsub hbd => ?_⟩
      obtain ⟨v, rfl, hv1⟩ : ∃ v, vs = [v] ∧ val φ (.fn fk [] [.ptr kb 0]) = some v := by
        match vs, hv with
        | [v], ⟨h, _⟩ => exact ⟨v, rfl, dn_p.1 h⟩
      obtain ⟨S1, S2, g1, _, _, _⟩ := Sat.pick (entC_at (φ := φ) h3) hsat
      obtain ⟨S3, S4, g2, _, _, _⟩ := Sat.pick (entM_at (φ := φ) h4) hsat
      obtain ⟨L, hL, hLo, g1⟩ := dnC g1
      obtain ⟨M, hM, g2⟩ := dnMap g2
      rw [hx] at g1
      have g1 : (hvar L.b x.1 [vmap M.b]).p w W S1 := by
        obtain ⟨⟨cs, c1, c2, c3⟩, c4⟩ := g1
        refine ⟨⟨cs, c1, ?_, c3⟩, c4⟩
        match cs, c2 with
        | ⟨[u]⟩, ⟨h, _⟩ =>
          have := dn_p.1 h
          simp only [val, hM, Option.map_some, Option.some.injEq] at this
          exact ⟨this.symm, trivial⟩
      have hvv : v = .func (.func fk) #[] #[.pointer (some ⟨L.b, 0, none⟩)] := by
        simp only [val, vals, hL, Option.map_some, hLo, Option.some.injEq] at hv1
        exact hv1.symm
      subst hvv
      refine (sortKeys_w hkt (hk fk hfk) (fun y hy => okI64_wf (h5 y hy)) h6 g1 g2 hsat hsub hbd).mono ?_
      rintro ee w' ⟨v', rv, h', W', S', k1, k2, k3, k4, k5⟩
      rcases k3 with ⟨hm, rfl, rfl⟩ | ⟨hm, g, c, rfl, rfl⟩
      · rw [hm] at hr
        injection hr with hr
        subst hr
        exact ⟨v', _, _, W', S', k1, k2, ⟨φ, Ext.refl _ _ _, fun _ _ _ h => h, rfl⟩, k4, k5⟩
      · have hr' : r = (.sl n 1 0 m.2.2.length, .row n e 1 ((srtI (m.2.2.map (·.1))).map fun x => [.v (.int .i64 x)]) :: h, n + 1) := by
          split at hr
          · rename_i hm'; exact (hm hm').elim
          · injection hr with hr; exact hr.symm
        subst hr'
        have hx := setE_ext ⟨g, 0, c⟩ hf
        refine ⟨v', _, dnH (setE φ n ⟨g, 0, c⟩) (.row n e 1 ((srtI (m.2.2.map (·.1))).map fun x => [.v (.int .i64 x)]) :: h), W', S', k1, k2, ⟨_, hx, fun w W v hv => dn_p.2 ?_, rfl⟩, ?_, k5⟩
        · rw [show v = _ from hv]
          simp only [val, setE_at, Option.map_some]
          simp
        · obtain ⟨T1, T2, t1, t2, t3, t4⟩ := k4
          refine ⟨T1, T2, dnRow_mk (setE_at _ _ _) ?_, Sat_le hx.le t2, t3, t4⟩
          have : ((srtI (m.2.2.map (·.1))).map fun x => [AV.v (.int .i64 x)]).length = m.2.2.length := by rw [List.length_map, srtI_len, List.length_map]
          rw [this]
          exact hrow_map (fun x _ => rfl) t1
    · cases hr
  · cases hr
end Go.Proofs.YtagkniimpekhjaaGreat
