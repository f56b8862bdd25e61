/- A part of the proof: contracts over a program of the model. -/
import Derived.Test.YtkcpejbabbbjpaaY4
set_option linter.unusedVariables false
set_option linter.unusedSectionVars false
set_option linter.unusedSimpArgs false
namespace Go.Proofs.Ytkcpejbabbbjpaa
open Go.RowKit

section
variable {P : Program} {fz : Nat} {cal : CAL}
theorem HS.mono {base : RG} {l : List Oper} {D : DS} {T : List (List Nat)} {sn0 : List Ent × Nat} (hcal : CalOk P cal) (hHS : HS P cal fz base T l sn0 l.length D) : ∀ (d k : Nat) (sn sn' : List Ent × Nat), D.sn[k]? = some sn → D.sn[k + d]? = some sn' → sn.2 ≤ sn'.2
  | 0, k, sn, sn', h1, h2 => by
    rw [Nat.add_zero, h1] at h2
    injection h2 with h2
    rw [h2]
    exact Nat.le_refl _
  | d + 1, k, sn, sn', h1, h2 => by
    have hlt := (List.getElem?_eq_some_iff.1 h2).1
    rw [hHS.snl] at hlt
    have hj : D.hp[k + d]? = some (D.hp[k + d]'(by omega)) := List.getElem?_eq_getElem (by omega)
    have hjl := hHS.lt _ _ hj
    have hsn : D.sn[k + d]? = some (D.sn[k + d]'(by rw [hHS.snl]; omega)) := List.getElem?_eq_getElem (by rw [hHS.snl]; omega)
    obtain ⟨_, s1, hop, hs1, _⟩ := hHS.h _ _ _ _ hj (List.getElem?_eq_getElem hjl) hsn
    have h3 := (opE_ok hcal hop).1
    have h4 := HS.mono hcal hHS d k sn _ h1 hsn
    rw [← Nat.add_assoc, hs1] at h2
    injection h2 with h2
    rw [← h2]
    exact Nat.le_trans h4 h3
theorem draw_ok (hcal : CalOk P cal) {ops : Array Oper} {s s' : XS} (h : drawE P cal fz ops s = some s') (id : Nat) : Good fz P (.region id ops true) s .normal s' := by
  obtain ⟨l, rfl⟩ : ∃ l : List Oper, ops = l.toArray := ⟨ops.toList, by rw [Array.toArray_toList]⟩
  unfold drawE at h
  have e : l.toArray.toList = l := by simp
  simp only [e] at h
  obtain ⟨hc, h⟩ := lp1_some h
  simp only [Bool.and_eq_true] at hc
  obtain ⟨⟨hm, hnd⟩, hbk⟩ := hc
  obtain ⟨D, h1, h⟩ := bnd_some h
  obtain ⟨hchk, h⟩ := lp1_some h
  obtain ⟨snl, h2, h⟩ := bnd_some h
  injection h with h
  subst h
  rw [lget_eq] at h2
  have hHS : HS P cal fz (dropR (dstL l) s.regs) (ahGo l []) l (s.heap, s.n) l.length D := by
    refine dgo_HS (pre := []) rfl ⟨rfl, rfl, rfl, fun k j h => by simp at h, fun j o h => by simp at h, fun k j o h => by simp at h, fun k k' j h => by simp at h, fun k j o sn h => by simp at h⟩ h1
  have hmono : ∀ (k : Nat) (sn : List Ent × Nat), D.sn[k]? = some sn → s.n ≤ sn.2 ∧ sn.2 ≤ snl.2 := by
    intro k sn hk
    have hlt := (List.getElem?_eq_some_iff.1 hk).1
    rw [hHS.snl] at hlt
    refine ⟨HS.mono hcal hHS k 0 (s.heap, s.n) sn hHS.zero (by rw [Nat.zero_add]; exact hk), HS.mono hcal hHS (D.hp.length - k) k sn snl hk ?_⟩
    rw [show k + (D.hp.length - k) = D.hp.length by omega]
    exact h2
  have hbase : ∀ d ∈ dstL l, gR (dropR (dstL l) s.regs) d = none := by
    intro d hd
    rw [gR_dropR, has_mem.2 hd]
    rfl
  refine ⟨(hmono _ _ h2).1, fun φ0 hf B K k a w W S hs => ?_⟩
  refine wp_region_any hm ?_
  rw [show l.toArray.size = l.length from by simp]
  have hr := Run.drew hs.run.sub hs.run.bound
  have hev := hr.evo hs.run.sub
  refine wpAny_D hcal hHS hnd hbase hbk hchk h2 hmono hf k l.length _ 0 φ0 (s.heap, s.n) _ _ W S (by rw [left_start]; exact Nat.le_refl _) ⟨⟨hs.tmps, hs.defers, fun d p hd => ?_, hs.sat.st hev (fun _ _ => rfl), hs.run.trans hr⟩, hHS.zero, Ext.refl _ _ _, fun j d av hj => ?_, by simp, fun j k o hj => ?_, fun k j hk => ?_, Nat.zero_le _⟩
  · rw [rg_dnR] at hd
    obtain ⟨av, hav, rfl⟩ := Option.map_eq_some_iff.1 hd
    have hav : gR (dropR (dstL l) s.regs) d = some av := hav
    rw [gR_dropR] at hav
    cases hb : has (dstL l) d with
    | true => rw [hb] at hav; cases hav
    | false =>
      rw [hb] at hav
      have hav : gR s.regs d = some av := hav
      obtain ⟨v, hv, hp⟩ := hs.regs d (dn φ0 av) (by rw [rg_dnR, hav]; rfl)
      exact ⟨v, hv, VP.st _ hev hp⟩
  · simp [Array.getD_eq_getD_getElem?, Array.getElem?_replicate] at hj
    split at hj <;> simp at hj
  · simp [Array.getD_eq_getD_getElem?, Array.getElem?_replicate] at hj
    split at hj <;> simp at hj
  · constructor
    · intro hj
      simp [Array.getD_eq_getD_getElem?, Array.getElem?_replicate] at hj
      split at hj <;> simp at hj
    · intro hj
      omega
end
end Go.Proofs.Ytkcpejbabbbjpaa
