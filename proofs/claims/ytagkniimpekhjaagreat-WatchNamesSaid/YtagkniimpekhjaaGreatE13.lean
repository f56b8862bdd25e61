/- A part of the proof: contracts over a program of the model. -/
import Derived.Test.YtagkniimpekhjaaGreatX9
set_option linter.unusedVariables false
set_option linter.unusedSectionVars false
namespace Go.Proofs.YtagkniimpekhjaaGreat
open Go.RowKit

section
variable {P : Program} {fz : Nat} {B : Bs} {K : KP} {ops : Array Oper} {rest : List Oper} {σ : Regs} {h : List HP} {d : Nat} {ty : TypeId} {pos : String} {af : Array Edge} {g : Option (Nat × Bool)} {α : Type} {sz bytes : Nat} {zs : List Value} {enc : α → List VP} {l l2 : List α} {t e : TypeId}
/-- a part of a row, the row staying as it is -/
def cutV (sz : Nat) (lo hi : Nat) : Value → Value
  | .slice (some ⟨g, o, r⟩) n c => .slice (some ⟨g, o + lo * sz, r⟩) (hi - lo) (c - lo)
  | v => v
theorem cutv {x : Operand} {lo hi : Option Operand} {t e : TypeId} {l' h' j : Nat} {k1 k2 : IntKind} {v : Value} (ht : tSl P t e sz = true) (hj : h[j]? = some (hrow v e sz enc l)) (h1 : l' ≤ h') (h2 : h' ≤ l.length) (h3 : l' < l.length) (kk : EvL P fz B K ops rest ((d, vis (cutV sz l' h' v)) :: σ) h) (hx : og σ x = some (vis v) := by rfl)
    (hlo : BdR σ k1 0 l' lo := by rfl) (hhi : BdR σ k2 l.length h' hi := by rfl) (hd : Nat.ble (d + 1) fz = true := by rfl) (hg : Gk ops σ g := by first | exact gk0 | exact gk1 rfl rfl rfl (by assumption)) :
    EvL P fz B K ops (⟨some d, .slice t x lo hi none, ty, pos, af, g⟩ :: rest) σ h :=
  opp hd hg (fun a w W S hs => by
    have hxv : a.eval x = v := hs.eval hx
    have hlo' : BdOk a k1 0 l' lo := by
      cases lo with
      | none => exact hlo
      | some y => exact hs.eval hlo
    have hhi' : BdOk a k2 l.length h' hi := by
      cases hi with
      | none => exact hhi
      | some y => exact hs.eval hhi
    obtain ⟨S1, S2, g1, g2, hdj, hS⟩ := Sat.pick hj hs.sat
    rcases g1 with ⟨rfl, rfl, hS1⟩ | ⟨g, o, c, cs, rfl, hlc, hh, hcs, hone, hbnd, hel, hS1⟩
    · simp at h3
    · refine ⟨_, ex_cut ht rfl hxv hlo' hhi' h1 (by omega), ?_⟩
      rw [if_neg (by omega), Option.map_some, add_pl]
      rfl) kk
theorem ix2 {x y : Operand} {t e : TypeId} {k : IntKind} {i : Nat} (ht : tSl P t e sz = true) (kk : ∀ hi : i < l.length, EvL P fz B K ops rest ((d, vro (enc (l[i]'hi))) :: σ) h) (hx : og σ x = some (vsl sz enc l) := by rfl) (hy : og σ y = some (vint k (i : Int)) := by rfl) (hi : i < l.length := by omega) (hd : Nat.ble (d + 1) fz = true := by rfl) (hg : Gk ops σ g := by first | exact gk0 | exact gk1 rfl rfl rfl (by assumption)) :
    EvL P fz B K ops (⟨some d, .indexAddr t x y, ty, pos, af, g⟩ :: rest) σ h := ix ht hi (kk hi) hx hy hd hg
theorem ix3 {x y : Operand} {t e : TypeId} {k : IntKind} {i : Nat} (ht : tSl P t e sz = true) (hx : og σ x = some (vsl sz enc l) := by rfl) (hy : og σ y = some (vint k (i : Int)) := by rfl) (hi : i < l.length := by omega) (kk : EvL P fz B K ops rest ((d, vro (enc (l[i]'hi))) :: σ) h) (hd : Nat.ble (d + 1) fz = true := by rfl) (hg : Gk ops σ g := by first | exact gk0 | exact gk1 rfl rfl rfl (by assumption)) :
    EvL P fz B K ops (⟨some d, .indexAddr t x y, ty, pos, af, g⟩ :: rest) σ h := ix ht hi kk hx hy hd hg
theorem ixw2 {x y : Operand} {v : Value} {j i : Nat} {k : IntKind} (ht : tSl P t e sz = true) (hj : h[j]? = some (hrow v e sz enc l)) (kk : i < l.length → EvL P fz B K ops rest ((d, velt v sz i 0) :: σ) h) (hx : og σ x = some (vis v) := by rfl) (hy : og σ y = some (vint k (i : Int)) := by rfl) (hi : i < l.length := by omega) (hd : Nat.ble (d + 1) fz = true := by rfl) (hg : Gk ops σ g := by first | exact gk0 | exact gk1 rfl rfl rfl (by assumption)) :
    EvL P fz B K ops (⟨some d, .indexAddr t x y, ty, pos, af, g⟩ :: rest) σ h := ixw ht hj hi (kk hi) hx hy hd hg
theorem ixw3 {x y : Operand} {v : Value} {j i : Nat} {k : IntKind} (ht : tSl P t e sz = true) (hj : h[j]? = some (hrow v e sz enc l)) (hx : og σ x = some (vis v) := by rfl) (hy : og σ y = some (vint k (i : Int)) := by rfl) (hi : i < l.length := by omega) (kk : EvL P fz B K ops rest ((d, velt v sz i 0) :: σ) h) (hd : Nat.ble (d + 1) fz = true := by rfl) (hg : Gk ops σ g := by first | exact gk0 | exact gk1 rfl rfl rfl (by assumption)) :
    EvL P fz B K ops (⟨some d, .indexAddr t x y, ty, pos, af, g⟩ :: rest) σ h := ixw ht hj hi kk hx hy hd hg
theorem lw12 {s : TypeId} {x : Operand} {v : Value} {p : VP} {j i o : Nat} (ht : tOne P s = true) (hj : h[j]? = some (hrow v e sz enc l)) (kk : EvL P fz B K ops rest ((d, p) :: σ) h) (hx : og σ x = some (velt v sz i o) := by rfl) (hi : i < l.length := by omega) (hp : (enc (l[i]'hi))[o]? = some p := by rfl) (hd : Nat.ble (d + 1) fz = true := by rfl) (hg : Gk ops σ g := by first | exact gk0 | exact gk1 rfl rfl rfl (by assumption)) :
    EvL P fz B K ops (⟨some d, .load s x, ty, pos, af, g⟩ :: rest) σ h := lw1 ht hj hi kk hx hp hd hg
theorem reint {k : IntKind} {a b : Int} (e : a = b) (kk : EvL P fz B K ops rest ((d, vint k b) :: σ) h) : EvL P fz B K ops rest ((d, vint k a) :: σ) h := e ▸ kk
theorem rep {p q : VP} (e : p = q) (kk : EvL P fz B K ops rest ((d, q) :: σ) h) : EvL P fz B K ops rest ((d, p) :: σ) h := e ▸ kk
/-- cap, len of nil; nil[:0] -/
theorem capn {x : Operand} {sz' : Nat} (ht : tSl P t e sz' = true) (kk : EvL P fz B K ops rest ((d, vint .i64 0) :: σ) h) (hx : og σ x = some (vis (.slice none 0 0)) := by rfl) (hd : Nat.ble (d + 1) fz = true := by rfl) (hg : Gk ops σ g := by first | exact gk0 | exact gk1 rfl rfl rfl (by assumption)) :
    EvL P fz B K ops (⟨some d, .call { callee := .builtin .cap, args := #[x], argTypes := #[t] }, ty, pos, af, g⟩ :: rest) σ h :=
  opp hd hg (fun a w W S hs => by
    have e1 : a.eval x = .slice none 0 0 := hs.eval hx
    refine ⟨.int .i64 0, ?_, rfl⟩
    unfold execOp
    simp only [resolve, invoke, builtin, Builtin.cap_, List.map_toArray, List.map_cons, List.map_nil, e1, Sem.run_bind, Sem.run_pure, Result.andThen_ok, List.getElem?_toArray, List.getElem?_cons_zero, run_underlying (tSl_parts ht).1, goInt]
    rfl) kk
theorem lenn {x : Operand} {sz' : Nat} (ht : tSl P t e sz' = true) (kk : EvL P fz B K ops rest ((d, vint .i64 0) :: σ) h) (hx : og σ x = some (vis (.slice none 0 0)) := by rfl) (hd : Nat.ble (d + 1) fz = true := by rfl) (hg : Gk ops σ g := by first | exact gk0 | exact gk1 rfl rfl rfl (by assumption)) :
    EvL P fz B K ops (⟨some d, .call { callee := .builtin .len, args := #[x], argTypes := #[t] }, ty, pos, af, g⟩ :: rest) σ h :=
  opp hd hg (fun a w W S hs => ⟨.int .i64 0, ex_len rfl (tSl_parts ht).1 (hs.eval hx), rfl⟩) kk
theorem cutn {x y : Operand} {sz' : Nat} (ht : tSl P t e sz' = true) (kk : EvL P fz B K ops rest ((d, vis (.slice none 0 0)) :: σ) h) (hx : og σ x = some (vis (.slice none 0 0)) := by rfl) (hy : og σ y = some (vint .i64 0) := by rfl) (hd : Nat.ble (d + 1) fz = true := by rfl) (hg : Gk ops σ g := by first | exact gk0 | exact gk1 rfl rfl rfl (by assumption)) :
    EvL P fz B K ops (⟨some d, .slice t x none (some y) none, ty, pos, af, g⟩ :: rest) σ h :=
  opp hd hg (fun a w W S hs => ⟨_, ex_cut (k1 := .i64) (k2 := .i64) (l' := 0) (h' := 0) ht rfl (hs.eval hx) rfl (hs.eval hy) (Nat.le_refl _) (Nat.le_refl _), rfl⟩) kk
/-- clear(s[lo:hi]) -/
theorem clrw {x : Operand} {lo hi j : Nat} {v : Value} {z : α} (ht : tRow P t e sz bytes zs) (hz : enc z = visL zs) (hsz : 0 < sz) (hj : h[j]? = some (hrow v e sz enc l)) (h1 : lo ≤ hi) (h2 : hi ≤ l.length) (h3 : lo < l.length) (kk : EvL P fz B K ops rest σ (h.set j (hrow v e sz enc (l.take lo ++ List.replicate (hi - lo) z ++ l.drop hi)))) (hx : og σ x = some (vis (cutV sz lo hi v)) := by rfl) (hg : Gk ops σ g := by first | exact gk0 | exact gk1 rfl rfl rfl (by assumption)) :
    EvL P fz B K ops (⟨none, .call { callee := .builtin .clear, args := #[x], argTypes := #[t] }, ty, pos, af, g⟩ :: rest) σ h :=
  opu hg (fun a w W S hs => by
    obtain ⟨hu, info, zv, hi', hsize, hby, hzv, hzs, hz1, hzl⟩ := ht
    have hzsz : zv.cells.size = sz := by rw [← Array.length_toList, hzs, hzl]
    have hxv : a.eval x = cutV sz lo hi v := hs.eval hx
    obtain ⟨S1, S2, q1, q2, hdj, hS⟩ := Sat.pick hj hs.sat
    obtain ⟨g, o, c, hv⟩ : ∃ g o c, v = .slice (some ⟨g, o, none⟩) l.length c := by
      rcases q1 with ⟨rfl, rfl, hS1⟩ | ⟨g, o, c, cs, rfl, _⟩
      · simp at h3
      · exact ⟨g, o, c, rfl⟩
    subst hv
    obtain ⟨w', hst, hrow', hrun⟩ := row_fill (P := P) (hi := lo) (l2 := List.replicate (hi - lo) z) (news := (Builtin.zeroCells zv.cells (hi - lo)).toList) q1 (fun b hb => hs.run.sub b ((hS b).2 (.inl hb))) hs.run.bound (by rw [List.length_replicate]; omega) (by rw [zc_len, hzsz, List.length_replicate]) (zeroCells_one (by rw [hzs]; exact hz1)) (fun j hj => by
      rw [List.length_replicate] at hj
      rw [List.getElem_replicate, hz, ← hzsz, zc_part zv.cells _ _ hj (by omega), hzsz]
      have hvl : (visL zs).length = sz := by rw [← hzl]; exact ((VPs.visL (w := w) (W := W) zs).length).symm
      refine ⟨hvl, ?_⟩
      rw [hzs]
      exact VPs.visL zs)
    rw [List.length_replicate] at hrow'
    rw [show lo + (hi - lo) = hi by omega] at hrow'
    have hlen : (l.take lo ++ List.replicate (hi - lo) z ++ l.drop hi).length = l.length := by
      rw [List.length_append, List.length_append, List.length_take, List.length_drop, List.length_replicate]
      omega
    have hlt := q2.lt
    obtain ⟨hr2, hd2⟩ := Run.framed (T := S2) (S := S) hrun hlt hdj hS hs.run.sub
    have hev := hr2.evo hs.run.sub
    refine ⟨w', W, _, .inr ⟨.tuple #[], ?_⟩, Sat.put hj hrow' (q2.st hev (fun b hb => hrun.keep b (hlt b hb) (fun hc => hdj b hc hb))) hd2, hr2⟩
    · unfold execOp
      simp only [resolve, invoke, builtin, Builtin.clear_, List.map_toArray, List.map_cons, List.map_nil, hxv, cutV, Sem.run_bind, Sem.run_pure, Result.andThen_ok, List.getElem?_toArray, List.getElem?_cons_zero, run_underlying hu]
      cases hq : hi - lo with
      | zero =>
        rw [hq] at hst
        have h0 : (Builtin.zeroCells zv.cells 0).toList = [] := by simp [Builtin.zeroCells]
        rw [h0] at hst
        have : w' = w := by
          simp only [storeCells, Sem.run_pure] at hst
          injection hst with _ hst
          exact hst.symm
        subst this
        rfl
      | succ n =>
        rw [hq] at hst
        simp only [Sem.run_bind, zeroValue, run_tinfo hi', hzv, Result.andThen_ok, Sem.run_pure]
        rw [hst]
        rfl) kk
/-- append(nil, make(.., m)...) -/
theorem appz {x y : Operand} {t' : TypeId} {kn : IntKind} {m : Nat} {z : α} (ht : tRow P t e sz bytes zs) (hz : enc z = visL zs) (hkn : P.underlying t' = some (.int kn)) (hm : 0 < m) (hsz : 0 < sz) (hbn : m * bytes ≤ 140737488355328) (hbn2 : m * (sz + 1) ≤ 9223372036854775807) (kk : ∀ v', v'.oneCell' = true → EvL P fz B K ops rest ((d, vis v') :: σ) (hrow v' e sz enc (List.replicate m z) :: h))
    (hx : og σ x = some (vis (.slice none 0 0)) := by rfl) (hy : og σ y = some (vint kn (m : Int)) := by rfl) (hd : Nat.ble (d + 1) fz = true := by rfl) (hg : Gk ops σ g := by first | exact gk0 | exact gk1 rfl rfl rfl (by assumption)) :
    EvL P fz B K ops (⟨some d, .call { callee := .builtin .append, args := #[x, y], argTypes := #[t, t'] }, ty, pos, af, g⟩ :: rest) σ h :=
  opx hd hg fun a w W S hs => by
    obtain ⟨hu, info, zv, hi, hsize, hby, hzv, hzs, hz1, hzl⟩ := ht
    have hzsz : zv.cells.size = sz := by rw [← Array.length_toList, hzs, hzl]
    have hm1 : m ≤ m * (sz + 1) := Nat.le_mul_of_pos_right _ (by omega)
    have hrun := Lib.run_append_nil_zeros (P := P) w t t' ty e info zv kn kn hu hkn hi hzv m (by omega) (by omega) (by omega) (by rw [hby]; omega)
    have hnc : m ≤ grownCap w m 0 e := by
      unfold grownCap Question.cut
      exact Nat.le_add_right _ _
    generalize grownCap w m 0 e = nc at hrun hnc
    have hsp : m * sz + (Builtin.zeroCells zv.cells (nc - m)).toList.length = nc * sz := by
      rw [zc_len, hzsz, ← Nat.add_mul]
      congr 1
      omega
    obtain ⟨W', S1', r1, r2⟩ := row_new (w := w) (W := W) (S1 := fun _ => False) (w.drawn + 1) (l := []) (l2 := List.replicate m z) (enc := enc) (e := e) (sz := sz) (olds := []) (news := (Builtin.zeroCells zv.cells m).toList) (sp := (Builtin.zeroCells zv.cells (nc - m)).toList) (nc := nc) (fun _ h => h.elim) hs.run.bound (by simp) (by rw [zc_len, hzsz, List.length_replicate]) (by rw [List.length_replicate, List.length_nil, Nat.zero_add]; exact hsp) (by rw [List.length_replicate, List.length_nil, Nat.zero_add]; exact hnc) (by rw [List.length_replicate, List.length_nil, Nat.zero_add]; omega) (by simp) (zeroCells_one (by rw [hzs]; exact hz1)) (zeroCells_one (by rw [hzs]; exact hz1)) (fun i hi => by simp at hi) (fun j hj => by
      rw [List.length_replicate] at hj
      rw [List.getElem_replicate, hz, ← hzsz, zc_part zv.cells _ _ hj (by omega), hzsz]
      have hvl : (visL zs).length = sz := by rw [← hzl]; exact ((VPs.visL (w := w) (W := W) zs).length).symm
      refine ⟨hvl, ?_⟩
      rw [hzs]
      exact VPs.visL zs)
    rw [List.nil_append, List.length_replicate, List.length_nil, Nat.zero_add] at r1
    obtain ⟨hr2, hd2⟩ := Run.framed (T := S) (S := S) r2 hs.sat.lt (fun _ h => h.elim) (fun b => by simp) hs.run.sub
    have hev := hr2.evo hs.run.sub
    refine ⟨vis (.slice (some ⟨w.heap.size, 0, none⟩) m nc), hrow (.slice (some ⟨w.heap.size, 0, none⟩) m nc) e sz enc (List.replicate m z) :: h, .slice (some ⟨w.heap.size, 0, none⟩) m nc, _, W', _, ?_, rfl, ⟨S1', S, r1, hs.sat.st hev (fun b hb => r2.keep b (hs.sat.lt b hb) (fun h => h)), hd2, fun _ => Iff.rfl⟩, hr2, kk _ rfl⟩
    refine ex_append2 rfl (hs.eval hx) (hs.eval hy) ?_
    rw [hrun]
    have hA : ([] : List Value).toArray ++ (Builtin.zeroCells zv.cells m).toList.toArray ++ (Builtin.zeroCells zv.cells (nc - m)).toList.toArray = Builtin.zeroCells zv.cells m ++ Builtin.zeroCells zv.cells (nc - m) := by simp
    rw [hA]
    rfl
end
end Go.Proofs.YtagkniimpekhjaaGreat
