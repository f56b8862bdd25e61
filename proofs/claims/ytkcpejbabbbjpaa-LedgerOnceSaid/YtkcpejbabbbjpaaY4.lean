/- A part of the proof: contracts over a program of the model. -/
import Derived.Test.YtkcpejbabbbjpaaY3
set_option linter.unusedVariables false
set_option linter.unusedSectionVars false
set_option linter.unusedSimpArgs false
namespace Go.Proofs.Ytkcpejbabbbjpaa
open Go.RowKit

section
variable {P : Program} {fz : Nat} {B : Bs} {φ : Env} {a : Act} {w : World} {W : WS} {S : Nat → Prop} {cal : CAL} {base : RG} {l : List Oper} {D : DS} {φ0 : Env} {n0 : Nat}
theorem getD_set {listed : Array Bool} {i j : Nat} (hi : i < listed.size) : (listed.setIfInBounds i true).getD j false = if j = i then true else listed.getD j false := by
  by_cases h : j = i
  · subst h
    rw [if_pos rfl]
    simp [Array.getD_eq_getD_getElem?, hi]
  · rw [if_neg h, Array.getD_eq_getD_getElem?, Array.getElem?_setIfInBounds_ne (fun e => h e.symm), ← Array.getD_eq_getD_getElem?]
theorem ah_listed {t : Nat} {sn : List Ent × Nat} {listed : Array Bool} (hi : InvD fz B base l D φ0 n0 t φ sn listed a w W S) {i : Nat} {o : Oper} (ho : l[i]? = some o) (hd : ∀ k ∈ depsOf o, listed.getD k false = true) : ∀ j ∈ ahOf (ahGo l []) i, listed.getD j false = true := by
  intro j hj
  unfold ahOf at hj
  rw [lget_eq] at hj
  cases ha : (ahGo l [])[i]? with
  | none => rw [ha] at hj; cases hj
  | some js =>
    rw [ha] at hj
    refine ahGo_ok (l := l) (Lst := fun j => listed.getD j false = true) (fun j o hj ho k hk => hi.down j k o hj ho hk) (fun j hj => ?_) (os := l) (pre := []) (acc := []) rfl rfl (fun i js o h => by simp at h) i js o ha ho hd j hj
    rcases Nat.lt_or_ge j l.length with h | h
    · exact h
    · have : listed.size ≤ j := by rw [hi.size]; exact h
      simp [Array.getD_eq_getD_getElem?, Array.getElem?_eq_none this] at hj
theorem rngL_mem {j : Nat} : ∀ {m i : Nat}, j ∈ rngL i m → j < i + m
  | 0, i, h => by cases h
  | m + 1, i, h => by
    rcases List.mem_cons.1 h with rfl | h
    · omega
    · have := rngL_mem h; omega
theorem InvD.next {t t' : Nat} {φ' : Env} {sn sn' : List Ent × Nat} {listed : Array Bool} {a' : Act} {w' : World} {W' : WS} {S' : Nat → Prop} {i : Nat} {o : Oper} (hi : InvD fz B base l D φ0 n0 t φ sn listed a w W S) (ho : l[i]? = some o) (hd : ∀ k ∈ depsOf o, listed.getD k false = true)
    (hx : Ext φ0 φ' n0 sn'.2) (hsn : D.sn[t']? = some sn') (hst : Tel fz B φ' ⟨base, sn'.1, sn'.2⟩ a' w' W' S')
    (hf : ∀ (j d : Nat) (av : AV), (listed.setIfInBounds i true).getD j false = true → (l[j]?).bind (·.dst) = some d → D.rs[j]? = some (some av) → ∃ v, a'.tmps[d]? = some v ∧ val φ' av = some v) (hps : ∀ k j, D.hp[k]? = some j → ((listed.setIfInBounds i true).getD j false = true ↔ k < t')) (ht : t' ≤ D.hp.length) :
    InvD fz B base l D φ0 n0 t' φ' sn' (listed.setIfInBounds i true) a' w' W' S' := by
  have hil : i < listed.size := by rw [hi.size]; exact (List.getElem?_eq_some_iff.1 ho).1
  refine ⟨hst, hsn, hx, hf, by rw [Array.size_setIfInBounds]; exact hi.size, fun j k o' hj hoj hk => ?_, hps, ht⟩
  rw [getD_set hil] at hj ⊢
  by_cases hki : k = i
  · rw [if_pos hki]
  · rw [if_neg hki]
    by_cases hji : j = i
    · subst hji
      rw [ho] at hoj
      injection hoj with hoj
      subst hoj
      exact hd k hk
    · rw [if_neg hji] at hj
      exact hi.down j k o' hj hoj hk
theorem wpAny_D {K : KP} (hcal : CalOk P cal) {s : XS} {snl : List Ent × Nat} (hHS : HS P cal fz base (ahGo l []) l (s.heap, s.n) l.length D) (hnd : noDup (dstL l) = true) (hbase : ∀ d ∈ dstL l, gR base d = none) (hbk : bkOk 0 l = true)
    (hchk : dchk P cal fz l.toArray base (ahGo l []) D 0 l = true) (hsnl : D.sn[D.hp.length]? = some snl) (hmono : ∀ (k : Nat) (sn : List Ent × Nat), D.sn[k]? = some sn → s.n ≤ sn.2 ∧ sn.2 ≤ snl.2) (hf0 : Free φ0 s.n snl.2)
    (k : ∀ φ', Ext φ0 φ' s.n snl.2 → K .normal (dnR φ' (mkRegs l.toArray base D.rs (rngL 0 l.length))) (dnH φ' snl.1)) :
    ∀ (fuel : Nat) (listed : Array Bool) t φ sn a w W S, left listed ≤ fuel → InvD fz B base l D φ0 s.n t φ sn listed a w W S → wpAny P .any l.toArray (QK fz B K) fuel listed a w := by
  have hback : ∀ (i : Nat) (o : Oper), l[i]? = some o → ∀ k ∈ deps o, k < i := fun i o ho k hk => by have := bkOk_spec hbk i o ho k hk; omega
  have hall : ∀ (listed : Array Bool) t φ sn a w W S, InvD fz B base l D φ0 s.n t φ sn listed a w W S → (∀ i, i < l.length → listed.getD i false = true) → QK fz B K .normal a w := by
    intro listed t φ sn a w W S hi hz
    have ht : t = D.hp.length := by
      rcases Nat.lt_or_eq_of_le hi.tle with h | h
      · exfalso
        have hj : D.hp[t]? = some D.hp[t] := List.getElem?_eq_getElem h
        have hjl := hHS.lt t _ hj
        have := (hi.hps t _ hj).1 (hz _ hjl)
        omega
      · exact h
    subst ht
    have hsn := hi.snat
    rw [hsnl] at hsn
    injection hsn with hsn
    subst hsn
    have hT := mkRegs_tel hi D.rs.length (rngL 0 l.length) (fun j hj => hz j (by have := rngL_mem hj; omega))
    rw [List.take_length] at hT
    exact ⟨nofun, nofun, _, _, W, S, hT, k φ hi.ext⟩
  intro fuel
  induction fuel with
  | zero =>
    intro listed t φ sn a w W S hl hi
    have hz := left_zero (show left listed = 0 by omega)
    refine ⟨?_, hall listed t φ sn a w W S hi (fun i hlt => hz i (by rw [hi.size]; exact hlt))⟩
    cases hr : Region.ready .any l.toArray listed with
    | nil => rfl
    | cons x xs =>
      exfalso
      obtain ⟨o, ho, h1, _⟩ := mem_rdy (l := l) (listed := listed) (i := x) (by rw [hr]; exact List.mem_cons_self ..)
      have hlt : x < listed.size := by rw [hi.size]; exact (List.getElem?_eq_some_iff.1 ho).1
      have := hz x hlt
      simp [Array.getD_eq_getD_getElem?, hlt] at h1 this
      rw [h1] at this
      cases this
  | succ fuel ih =>
    intro listed t φ sn a w W S hl hi
    refine ⟨fun hr => hall listed t φ sn a w W S hi (ready_none hi.size hback hr), fun i hir => ?_⟩
    obtain ⟨o, ho, h1, h2⟩ := mem_rdy hir
    have h2 : ∀ k ∈ depsOf o, listed.getD k false = true := h2
    have hls := left_set h1
    have hil : i < listed.size := by rw [hi.size]; exact (List.getElem?_eq_some_iff.1 ho).1
    have hnl : listed.getD i false = false := by
      simp [Array.getD_eq_getD_getElem?, hil] at h1 ⊢
      exact h1
    have hah := ah_listed hi ho h2
    cases hR : isR o.op with
    | true =>
      have hlo : loOf (ahOf (ahGo l []) i) 0 D.hp 0 ≤ t := loOf_le (fun m j hm hh => by
        have := (hi.hps m j hm).1 (hah j (has_mem.1 hh))
        omega) (Nat.zero_le _)
      have hhi : t ≤ hiOf (ahGo l []) i 0 D.hp := hiOf_ge (by have := hi.tle; omega) (fun m j hm hh => by
        rcases Nat.lt_or_ge m t with h | h
        · exfalso
          have hj := (hi.hps m j hm).2 h
          have hjl := hHS.lt m j hm
          have hoj : l[j]? = some l[j] := List.getElem?_eq_getElem hjl
          have := ah_listed hi hoj (fun k hk => hi.down j k _ hj hoj hk) i (has_mem.1 hh)
          rw [hnl] at this
          cases this
        · omega)
      obtain ⟨s1, hop, hres⟩ := dchk1_ok (dchk_ok (pre := []) rfl hchk i o (Nat.zero_le _) ho hR) t hlo (by omega) sn hi.snat
      obtain ⟨p1, p2⟩ := opE_pure hR hop
      have p1 : s1.heap = sn.1 := p1
      have p2 : s1.n = sn.2 := p2
      refine InvD.step hnd hbase hi ho hah (opE_ok hcal hop) (fun av hav => ?_) (fun k h3 h4 => by rw [p2] at h4; omega) (fun φ' a' w' W' S' hx hT hf => ?_)
      · rw [hres, lget_eq, hav]; rfl
      · rw [p2] at hx
        rw [p1, p2] at hT
        refine ih _ t φ' sn a' w' W' S' (by omega) (InvD.next hi ho h2 ?_ hi.snat hT hf (fun k j hk => ?_) hi.tle)
        · exact ⟨hi.ext.le.trans hx.le, fun k hk => by rw [hx.out k (by omega)]; exact hi.ext.out k hk⟩
        · rw [getD_set hil]
          have hji : j ≠ i := fun e => by
            subst e
            have := hHS.notR k j o hk ho
            rw [hR] at this
            cases this
          rw [if_neg hji]
          exact hi.hps k j hk
    | false =>
      obtain ⟨kk, hkk⟩ := hHS.cov i o (by rw [← hi.size]; exact hil) ho hR
      have ht1 : t ≤ kk := by
        rcases Nat.lt_or_ge kk t with h | h
        · have := (hi.hps kk i hkk).2 h
          rw [hnl] at this
          cases this
        · exact h
      have hsnk : ∃ x, D.sn[kk]? = some x := by
        have := (List.getElem?_eq_some_iff.1 hkk).1
        exact ⟨_, List.getElem?_eq_getElem (by rw [hHS.snl]; omega)⟩
      obtain ⟨snk, hsnk⟩ := hsnk
      obtain ⟨hahd, s1, hop, hs1, hr1⟩ := hHS.h kk i o snk hkk ho hsnk
      have ht2 : kk ≤ t := by
        rcases Nat.lt_or_ge t kk with h | h
        · exfalso
          have hlt := (List.getElem?_eq_some_iff.1 hkk).1
          have hj : D.hp[t]? = some (D.hp[t]'(by omega)) := List.getElem?_eq_getElem (by omega)
          have := (hi.hps t _ hj).1 (hah _ (has_mem.1 (hahd t _ h hj)))
          omega
        · exact h
      have hte : t = kk := by omega
      subst hte
      have := hi.snat
      rw [hsnk] at this
      injection this with this
      subst this
      have hStep := opE_ok hcal hop
      have hn1 : snk.2 ≤ s1.n := hStep.1
      have hn2 := (hmono _ _ hs1).2
      have hn0 := (hmono _ _ hsnk).1
      simp only at hn2
      refine InvD.step hnd hbase hi ho hah hStep (fun av hav => ?_) (fun k h3 h4 => ?_) (fun φ' a' w' W' S' hx hT hf => ?_)
      · rw [hr1] at hav; injection hav
      · rw [hi.ext.out k (.inr h3)]
        exact hf0 k (by omega) (by omega)
      · have hlt := (List.getElem?_eq_some_iff.1 hkk).1
        refine ih _ (t + 1) φ' (s1.heap, s1.n) a' w' W' S' (by omega) (InvD.next hi ho h2 ?_ hs1 hT hf (fun k j hk => ?_) (by omega))
        · exact ⟨hi.ext.le.trans hx.le, fun k hk => by
            show φ' k = φ0 k
            have hk : k < s.n ∨ s1.n ≤ k := hk
            rw [hx.out k (by omega)]
            exact hi.ext.out k (by omega)⟩
        · rw [getD_set hil]
          by_cases hji : j = i
          · subst hji
            rw [if_pos rfl]
            have := hHS.inj k t j hk hkk
            subst this
            simp
          · rw [if_neg hji, hi.hps k j hk]
            have : k ≠ t := fun e => by
              subst e
              rw [hkk] at hk
              injection hk with hk
              exact hji hk.symm
            omega
end
end Go.Proofs.Ytkcpejbabbbjpaa
