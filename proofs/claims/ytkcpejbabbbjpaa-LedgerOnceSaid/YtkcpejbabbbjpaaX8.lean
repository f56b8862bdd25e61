/- A part of the proof: contracts over a program of the model. -/
import Derived.Test.YtkcpejbabbbjpaaX7
set_option linter.unusedVariables false
set_option linter.unusedSectionVars false
set_option linter.unusedSimpArgs false
namespace Go.Proofs.Ytkcpejbabbbjpaa
open Go.RowKit

section
variable {P : Program} {fz : Nat} {B : Bs} {φ : Env} {s : XS} {a : Act} {w : World} {W : WS} {S : Nat → Prop}
/-- cells over a row's elements -/
theorem row_fill {α : Type} {enc : α → List VP} {e sz : Nat} {l l2 : List α} {g o c hi : Nat} {S1 : Nat → Prop} {news : List Value} (hr : (hrow (.slice (some ⟨g, o, none⟩) l.length c) e sz enc l).p w W S1) (hsub : ∀ b, S1 b → W b) (hbd : ∀ b, W b → b < w.heap.size) (hfit : hi + l2.length ≤ l.length)
    (n1 : news.length = l2.length * sz) (n2 : ∀ u ∈ news, u.oneCell' = true) (n4 : ∀ i (hi : i < l2.length), (enc l2[i]).length = sz ∧ VPs w W (enc l2[i]) ((news.drop (i * sz)).take sz)) :
    ∃ w', (storeCells ⟨g, o + hi * sz, none⟩ news).run P w = .ok () w' ∧ (hrow (.slice (some ⟨g, o, none⟩) l.length c) e sz enc (l.take hi ++ l2 ++ l.drop (hi + l2.length))).p w' W S1 ∧ Run w W S1 w' W S1 := by
  rcases hr with ⟨h0, _⟩ | ⟨g', o', c', cs, h0, hlc, hh, hcs, hone, hbnd, hel, hS⟩
  · cases h0
  injection h0 with q1 q2 q3
  injection q1 with q1
  injection q1 with q4 q5
  subst q4 q5 q3
  have hg : S1 g := (hS g).2 rfl
  have hm1 : (hi + l2.length) * sz ≤ l.length * sz := Nat.mul_le_mul_right _ hfit
  have hm2 : l.length * sz ≤ c * sz := Nat.mul_le_mul_right _ hlc
  rw [Nat.add_mul] at hm1
  obtain ⟨w', cs', hr, hb', hsz', hcs', e1, e2, e3, e4, e5⟩ := run_storeCells (P := P) (b := g) (e := e) news 0 (o + hi * sz) w cs hh n2 (by rw [n1]; omega)
  have hrun : Run w W S1 w' W S1 := ⟨e1, e2, e3, by omega, fun k hk hn => e5 k (fun e => hn (e ▸ hg)), fun _ _ _ => Iff.rfl, fun _ _ h => h, fun _ h => .inl h, hsub, fun k hk => by rw [e4]; exact hbd k hk⟩
  have hev := hrun.evo hsub
  have hL : (l.take hi ++ l2 ++ l.drop (hi + l2.length)).length = l.length := by
    rw [List.length_append, List.length_append, List.length_take, List.length_drop]
    omega
  have hcl : cs'.toList = cs.toList.take (o + hi * sz) ++ news ++ cs.toList.drop (o + hi * sz + news.length) := by
    apply List.ext_getElem?
    intro j
    rw [Array.getElem?_toList, hcs' j, Nat.add_zero]
    have hlen : (cs.toList.take (o + hi * sz)).length = o + hi * sz := by rw [List.length_take, Array.length_toList (xs := cs)]; omega
    by_cases h1 : j < o + hi * sz
    · rw [if_neg (by omega), List.append_assoc, List.getElem?_append_left (by omega), List.getElem?_take, if_pos h1, Array.getElem?_toList]
    · by_cases h2 : j < o + hi * sz + news.length
      · rw [if_pos (by omega), List.getElem?_append_left (by rw [List.length_append, hlen]; omega), List.getElem?_append_right (by omega), hlen]
      · rw [if_neg (by omega), List.getElem?_append_right (by rw [List.length_append, hlen]; omega), List.length_append, hlen, List.getElem?_drop, Array.getElem?_toList]
        congr 1
        omega
  refine ⟨w', hr, .inr ⟨g, o, c, cs', by rw [hL], by rw [hL]; exact hlc, hb', by rw [hsz']; exact hcs, ?_, by rw [hL]; exact hbnd, fun i hi' => ?_, hS⟩, hrun⟩
  · intro u hu
    rw [hcl] at hu
    rw [hL] at hu
    obtain ⟨j, hj, hu⟩ := mem_seg.1 hu
    have hll : (cs.toList.take (o + hi * sz)).length = o + hi * sz := by rw [List.length_take, Array.length_toList (xs := cs)]; omega
    by_cases h1 : j < hi * sz
    · rw [List.append_assoc, List.getElem?_append_left (by omega), List.getElem?_take, if_pos (by omega)] at hu
      exact hone u (mem_seg.2 ⟨j, hj, hu⟩)
    · by_cases h2 : j < hi * sz + news.length
      · rw [List.getElem?_append_left (by rw [List.length_append, hll]; omega), List.getElem?_append_right (by omega)] at hu
        exact n2 u (List.mem_of_getElem? hu)
      · rw [List.getElem?_append_right (by rw [List.length_append, hll]; omega), List.length_append, hll, List.getElem?_drop] at hu
        refine hone u (mem_seg.2 ⟨j, hj, ?_⟩)
        rw [← hu]
        congr 1
        omega
  · have hi2' : i < l.length := by rw [← hL]; exact hi'
    rw [hcl]
    have hll : (cs.toList.take (o + hi * sz)).length = o + hi * sz := by rw [List.length_take, Array.length_toList (xs := cs)]; omega
    by_cases hlt : i < hi
    · have hge : (l.take hi ++ l2 ++ l.drop (hi + l2.length))[i]'hi' = l[i] := by
        have h9 : (l.take hi ++ l2 ++ l.drop (hi + l2.length))[i]? = l[i]? := by rw [List.append_assoc, List.getElem?_append_left (by rw [List.length_take]; omega), List.getElem?_take, if_pos hlt]
        rw [List.getElem?_eq_getElem hi', List.getElem?_eq_getElem hi2'] at h9
        exact Option.some.inj h9
      rw [hge]
      obtain ⟨p1, p2⟩ := hel i hi2'
      refine ⟨p1, ?_⟩
      have hb : i * sz + sz ≤ hi * sz := by rw [← Nat.succ_mul]; exact Nat.mul_le_mul_right _ hlt
      rw [List.append_assoc, seg_app (by omega)]
      have : (List.drop (o + i * sz) (List.take (o + hi * sz) cs.toList)).take sz = (List.drop (o + i * sz) cs.toList).take sz := by
        rw [List.drop_take, List.take_take]
        congr 1
        omega
      rw [this]
      exact p2.st hev
    · by_cases hlt2 : i < hi + l2.length
      · have hge : (l.take hi ++ l2 ++ l.drop (hi + l2.length))[i]'hi' = l2[i - hi]'(by omega) := by
          have hmin : min hi l.length = hi := by omega
          have h9 : (l.take hi ++ l2 ++ l.drop (hi + l2.length))[i]? = l2[i - hi]? := by rw [List.getElem?_append_left (by rw [List.length_append, List.length_take]; omega), List.getElem?_append_right (by rw [List.length_take]; omega), List.length_take, hmin]
          rw [List.getElem?_eq_getElem hi', List.getElem?_eq_getElem (show i - hi < l2.length by omega)] at h9
          exact Option.some.inj h9
        rw [hge]
        obtain ⟨p1, p2⟩ := n4 (i - hi) (by omega)
        refine ⟨p1, ?_⟩
        have hb : (i - hi) * sz + sz ≤ news.length := by rw [n1, ← Nat.succ_mul]; exact Nat.mul_le_mul_right _ (by omega)
        have hi2 : o + i * sz = (cs.toList.take (o + hi * sz)).length + (i - hi) * sz := by rw [hll, Nat.add_assoc, ← Nat.add_mul]; congr 2; omega
        rw [hi2, List.append_assoc, seg_app2, seg_app hb]
        exact p2.st hev
      · have hge : (l.take hi ++ l2 ++ l.drop (hi + l2.length))[i]'hi' = l[i] := by
          have hmin : min hi l.length = hi := by omega
          have h9 : (l.take hi ++ l2 ++ l.drop (hi + l2.length))[i]? = l[i]? := by
            rw [List.getElem?_append_right (by rw [List.length_append, List.length_take]; omega), List.getElem?_drop, List.length_append, List.length_take, hmin]
            congr 1
            omega
          rw [List.getElem?_eq_getElem hi', List.getElem?_eq_getElem hi2'] at h9
          exact Option.some.inj h9
        rw [hge]
        obtain ⟨p1, p2⟩ := hel i hi2'
        refine ⟨p1, ?_⟩
        have hi2 : o + i * sz = (cs.toList.take (o + hi * sz) ++ news).length + (i - (hi + l2.length)) * sz := by
          rw [List.length_append, hll, n1, Nat.add_assoc, Nat.add_assoc, ← Nat.add_mul, ← Nat.add_mul]
          congr 2
          omega
        rw [hi2, seg_app2, List.drop_drop, n1]
        have : o + hi * sz + l2.length * sz + (i - (hi + l2.length)) * sz = o + i * sz := by
          rw [Nat.add_assoc, Nat.add_assoc, ← Nat.add_mul, ← Nat.add_mul]
          congr 2
          omega
        rw [this]
        exact p2.st hev
/-- the cells of a part of a row -/
theorem row_part {α : Type} {enc : α → List VP} {e sz : Nat} {l : List α} {g o c lo hi : Nat} {S1 : Nat → Prop} (hr : (hrow (.slice (some ⟨g, o, none⟩) l.length c) e sz enc l).p w W S1) (h1 : lo ≤ hi) (h2 : hi ≤ l.length) (c2 : Nat) :
    ∃ news : List Value, news.length = (hi - lo) * sz ∧ (∀ u ∈ news, u.oneCell' = true) ∧ (∀ w' : World, w'.heap = w.heap → (Builtin.firstCells sz (hi - lo) (.slice (some ⟨g, o + lo * sz, none⟩) (hi - lo) c2)).run P w' = .ok news.toArray w') ∧
      ∀ i (hi' : i < (cutL l lo hi).length), (enc (cutL l lo hi)[i]).length = sz ∧ VPs w W (enc (cutL l lo hi)[i]) ((news.drop (i * sz)).take sz) := by
  rcases hr with ⟨h0, _⟩ | ⟨g', o', c', cs, h0, hlc, hh, hcs, hone, hbnd, hel, hS⟩
  · cases h0
  injection h0 with q1 q2 q3
  injection q1 with q1
  injection q1 with q4 q5
  subst q4 q5 q3
  have hm1 : hi * sz ≤ l.length * sz := Nat.mul_le_mul_right _ h2
  have hm2 : l.length * sz ≤ c * sz := Nat.mul_le_mul_right _ hlc
  have hm3 : lo * sz + (hi - lo) * sz = hi * sz := by rw [← Nat.add_mul]; congr 1; omega
  have hol : ((cs.toList.drop (o + lo * sz)).take ((hi - lo) * sz)).length = (hi - lo) * sz := by
    rw [List.length_take, List.length_drop, Array.length_toList (xs := cs)]
    omega
  refine ⟨(cs.toList.drop (o + lo * sz)).take ((hi - lo) * sz), hol, fun u hu => hone u (by
    obtain ⟨j, hj1, hj2⟩ := mem_seg.1 hu
    exact mem_seg.2 ⟨lo * sz + j, by omega, by rw [← Nat.add_assoc]; exact hj2⟩), fun w' hw => ?_, fun i hi' => ?_⟩
  · simp only [Builtin.firstCells, loadCells]
    have := run_loadCells (P := P) (w := w') (a := ⟨g, o + lo * sz, none⟩) ((cs.toList.drop (o + lo * sz)).take ((hi - lo) * sz)) 0 #[] (fun j u hj => ?_)
    · rw [hol] at this
      rw [this]
      simp
    · rw [add_pl, cell_at (by rw [hw]; exact hh), Nat.zero_add]
      rw [List.getElem?_take] at hj
      split at hj
      · rw [List.getElem?_drop] at hj
        simpa using hj
      · cases hj
  · have hcl : (cutL l lo hi).length = hi - lo := by unfold cutL; rw [List.length_drop, List.length_take]; omega
    have hi2' : i < hi - lo := by rw [← hcl]; exact hi'
    have hge : (cutL l lo hi)[i]'hi' = l[lo + i]'(by omega) := by
      have h9 : (cutL l lo hi)[i]? = l[lo + i]? := by unfold cutL; rw [List.getElem?_drop, List.getElem?_take, if_pos (by omega)]
      rw [List.getElem?_eq_getElem hi', List.getElem?_eq_getElem (show lo + i < l.length by omega)] at h9
      exact Option.some.inj h9
    rw [hge]
    obtain ⟨p1, p2⟩ := hel (lo + i) (by omega)
    refine ⟨p1, ?_⟩
    have hb : i * sz + sz ≤ (hi - lo) * sz := by rw [← Nat.succ_mul]; exact Nat.mul_le_mul_right _ hi2'
    have : (List.drop (i * sz) ((cs.toList.drop (o + lo * sz)).take ((hi - lo) * sz))).take sz = (List.drop (o + (lo + i) * sz) cs.toList).take sz := by
      rw [List.drop_take, List.take_take, List.drop_drop, Nat.add_mul]
      congr 1
      · omega
      · congr 1; omega
    rw [this]
    exact p2
end
end Go.Proofs.Ytkcpejbabbbjpaa
