/- A part of the proof: contracts over a program of the model. -/
import Derived.Test.YtkcpejbabbbjpaaX2
set_option linter.unusedVariables false
set_option linter.unusedSectionVars false
set_option linter.unusedSimpArgs false
namespace Go.Proofs.Ytkcpejbabbbjpaa
open Go.RowKit

section
variable {P : Program} {fz : Nat} {B : Bs} {φ : Env} {s : XS} {a : Act} {w : World} {W : WS} {S : Nat → Prop}
theorem binI_ok {op : BinOp} {k : IntKind} {m n : Int} {u : Value} (t : TypeId) (h : binI op k m n = some u) (hs : isSh op = false) : (binOp op t (.int k m) (.int k n)).run P w = .ok u w := by
  obtain ⟨c1, c2, c3, c4, c5, c6⟩ := r_cmp P w t k m n
  obtain ⟨d1, d2, d3⟩ := r_ar P w t k m n
  cases op <;> simp only [binI, isSh] at h hs <;> first
    | (injection h with h; subst h; assumption)
    | cases hs
    | cases h
    | skip
  · cases hn : n == 0 with
    | true => rw [hn] at h; cases h
    | false =>
      rw [hn] at h
      injection h with h
      subst h
      have : n ≠ 0 := by simpa using hn
      simp [binOp, Op.intDiv, this]
  · cases hn : n == 0 with
    | true => rw [hn] at h; cases h
    | false =>
      rw [hn] at h
      injection h with h
      subst h
      have : n ≠ 0 := by simpa using hn
      simp [binOp, Op.intDiv, this]
  all_goals first | (cases h; done) | (injection h with h; subst h; simp [binOp, Op.intBits])
theorem shI_ok {op : BinOp} {k k' : IntKind} {m n : Int} {u : Value} (h : shI op k m n = some u) : (Op.shift op k m k' n).run P w = .ok u w ∧ (op = .shl ∨ op = .shr) := by
  unfold shI at h
  split at h
  · obtain ⟨h1, h2⟩ := lp1_some h
    injection h2 with h2
    subst h2
    have : ¬ n < 0 := by have := of_decide_eq_true h1; omega
    exact ⟨by simp [Op.shift, this], .inl rfl⟩
  · obtain ⟨h1, h2⟩ := lp1_some h
    injection h2 with h2
    subst h2
    have : ¬ n < 0 := by have := of_decide_eq_true h1; omega
    exact ⟨by simp [Op.shift, this], .inr rfl⟩
  · cases h
theorem elemT_eq {t : TypeId} {e : Nat} (h : elemT P t = some e) : P.underlying t = some (.slice e) := by
  unfold elemT at h
  split at h
  · rename_i u
    injection h with h
    rw [u, h]
  · cases h
theorem ok_bin {op : BinOp} {t t' : TypeId} {x y : Operand} {o : Oper} {r : AV × List Ent × Nat} (ho : o.op = .binOp op t x y t') (h : valE P s (.binOp op t x y t') = some r) : OkV P fz B s r.1 r.2.1 r.2.2 (fun a => execOp a.eval o) := by
  simp only [valE] at h
  obtain ⟨av, h1, h⟩ := bnd_some h
  obtain ⟨bv, h2, h⟩ := bnd_some h
  refine keep_ok h fun cv h3 φ a w W S hs => ?_
  obtain ⟨u, h4, h5⟩ := bnd_some h3
  injection h5 with h5
  subst h5
  have e1 := oE_val hs h1
  have e2 := oE_val hs h2
  refine ⟨u, ?_, rfl⟩
  unfold binA at h4
  split at h4
  · rename_i k m k' n i1 i2
    rw [asI_eq i1] at e1
    rw [asI_eq i2] at e2
    injection e1 with e1
    injection e2 with e2
    cases hsh : isSh op with
    | true =>
      rw [hsh] at h4
      obtain ⟨g1, g2⟩ := shI_ok (P := P) (w := w) (k' := k') h4
      exact run_binS ho g2 e1.symm e2.symm g1
    | false =>
      rw [hsh] at h4
      simp only [cond_false] at h4
      cases hk : decide (k = k') with
      | false => rw [hk] at h4; cases h4
      | true =>
        rw [hk] at h4
        have := of_decide_eq_true hk
        subst this
        exact run_binI ho e1.symm e2.symm (binI_ok t h4 hsh)
  · unfold nilS at h4
    obtain ⟨e, ht, h4⟩ := bnd_some h4
    obtain ⟨hn, h4⟩ := lp1_some h4
    have ht := elemT_eq ht
    have hy : y = .const (.slice none 0 0) := by
      unfold isNilC at hn
      split at hn
      · rfl
      · cases hn
    subst hy
    have key : ∀ (A : Option Addr) (n c : Nat), a.eval x = .slice A n c → ∀ (op : BinOp) (b : Bool), (op = .eql ∧ b = A.isNone) ∨ (op = .neq ∧ b = !A.isNone) → ∀ o : Oper, o.op = .binOp op t x (.const (.slice none 0 0)) t' → (execOp a.eval o).run P w = .ok (.value (.bool b)) w := by
      intro A n c h1 op b hb o ho
      have h6 : a.eval (.const (.slice none 0 0)) = .slice none 0 0 := rfl
      have h8 : (Op.equal t (.slice A n c) (.slice none 0 0)).run P w = .ok A.isNone w := by
        simp only [Op.equal, Op.maxDepth]
        unfold Op.equalIn
        simp only [Sem.run_bind, run_underlying ht, Result.andThen_ok]
        cases A with
        | none => rfl
        | some ad => rfl
      unfold execOp
      simp only [ho, h1, h6]
      rcases hb with ⟨rfl, rfl⟩ | ⟨rfl, rfl⟩
      · have : eqGuard .eql t x (.const (.slice none 0 0)) (.slice A n c) (.slice none 0 0) = pure () := rfl
        rw [this]
        simp only [pure_bind, Sem.run_bind]
        have h7 : (binOp .eql t (.slice A n c) (.slice none 0 0)).run P w = .ok (.bool A.isNone) w := by
          simp only [binOp, Sem.run_bind, h8, Result.andThen_ok, Sem.run_pure]
        rw [h7]
        rfl
      · have : eqGuard .neq t x (.const (.slice none 0 0)) (.slice A n c) (.slice none 0 0) = pure () := rfl
        rw [this]
        simp only [pure_bind, Sem.run_bind]
        have h7 : (binOp .neq t (.slice A n c) (.slice none 0 0)).run P w = .ok (.bool (!A.isNone)) w := by
          simp only [binOp, Sem.run_bind, h8, Result.andThen_ok, Sem.run_pure]
        rw [h7]
        rfl
    split at h4
    · simp only [val, Option.map_eq_some_iff] at e1
      obtain ⟨L, _, e1⟩ := e1
      split at h4
      · injection h4 with h4
        subst h4
        exact key _ _ _ e1.symm _ _ (.inl ⟨rfl, rfl⟩) o ho
      · injection h4 with h4
        subst h4
        exact key _ _ _ e1.symm _ _ (.inr ⟨rfl, rfl⟩) o ho
      · cases h4
    · injection e1 with e1
      split at h4
      · injection h4 with h4
        subst h4
        exact key _ _ _ e1.symm _ _ (.inl ⟨rfl, rfl⟩) o ho
      · injection h4 with h4
        subst h4
        exact key _ _ _ e1.symm _ _ (.inr ⟨rfl, rfl⟩) o ho
      · cases h4
    · cases h4
theorem ok_move {x : Operand} {o : Oper} {r : AV × List Ent × Nat} (ho : o.op = .move x ∨ o.op = .assign x) (h : keep s (oE s.regs x) = some r) : OkV P fz B s r.1 r.2.1 r.2.2 (fun a => execOp a.eval o) := by
  refine keep_ok h fun cv h3 φ a w W S hs => ⟨_, ?_, oE_val hs h3⟩
  rcases ho with ho | ho <;> (unfold execOp; rw [ho]; rfl)
theorem ok_pick {c x y : Operand} {o : Oper} {r : AV × List Ent × Nat} (ho : o.op = .pick c x y) (h : valE P s (.pick c x y) = some r) : OkV P fz B s r.1 r.2.1 r.2.2 (fun a => execOp a.eval o) := by
  simp only [valE] at h
  obtain ⟨av, h1, h⟩ := bnd_some h
  obtain ⟨b, h2, h⟩ := bnd_some h
  rw [asB_eq h2] at h1
  cases b with
  | true =>
    refine keep_ok h fun cv h3 φ a w W S hs => ⟨_, ?_, oE_val hs h3⟩
    have e1 := oE_val hs h1
    injection e1 with e1
    simp [execOp, ho, ← e1, asBool]
  | false =>
    refine keep_ok h fun cv h3 φ a w W S hs => ⟨_, ?_, oE_val hs h3⟩
    have e1 := oE_val hs h1
    injection e1 with e1
    simp [execOp, ho, ← e1, asBool]
theorem ok_load {t : TypeId} {x : Operand} {o : Oper} {r : AV × List Ent × Nat} (ho : o.op = .load t x) (h : valE P s (.load t x) = some r) : OkV P fz B s r.1 r.2.1 r.2.2 (fun a => execOp a.eval o) := by
  simp only [valE] at h
  obtain ⟨av, h1, h⟩ := bnd_some h
  refine keep_ok h fun cv h3 φ a w W S hs => ?_
  obtain ⟨ad, u, h4, h5, h6⟩ := loadE_ok hs h3 (oE_val hs h1)
  exact ⟨u, ex_load ho h4 h5, h6⟩
theorem offE_ok {t : TypeId} {f : Nat} {p av : AV} {v : Value} {x : Operand} {o : Oper} (ho : o.op = .fieldAddr t x f) (e : offE P t f p = some av) (hv : val φ p = some (a.eval x)) : ∃ u, (execOp a.eval o).run P w = .ok (.value u) w ∧ val φ av = some u := by
  have key : ∀ (b o' off : Nat), tFld P t f off = true → a.eval x = .pointer (some ⟨b, o', none⟩) → (execOp a.eval o).run P w = .ok (.value (.pointer (some ⟨b, o' + off, none⟩))) w := by
    intro b o' off ht h1
    unfold tFld at ht
    split at ht
    · rename_i fs hu
      split at ht
      · rename_i fd hfd
        split at ht
        · rename_i i hi
          simp only [Bool.and_eq_true, Bool.not_eq_true'] at ht
          have e1 := Nat.eq_of_beq_eq_true ht.1
          have e2 : i.size ≠ 0 := fun he => by rw [he] at ht; simp at ht
          subst e1
          unfold execOp
          simp only [ho, Instr.fieldAt, Sem.run_bind, run_underlying hu, Result.andThen_ok, hfd, h1, Instr.sureAddr, Sem.run_pure, fieldPlace, run_size hi, e2, if_false, add_pl]
        · cases ht
      · cases ht
    · cases ht
  unfold offE at e
  split at e
  · rename_i k o'
    obtain ⟨off, h1, h2⟩ := bnd_some e
    obtain ⟨h3, h4⟩ := lp1_some h2
    injection h4 with h4
    subst h4
    simp only [val, Option.map_eq_some_iff] at hv ⊢
    obtain ⟨L, hL, hv⟩ := hv
    exact ⟨_, key _ _ _ h3 hv.symm, L, hL, by rw [Nat.add_assoc]⟩
  · rename_i k sz i o'
    obtain ⟨off, h1, h2⟩ := bnd_some e
    obtain ⟨h3, h4⟩ := lp1_some h2
    injection h4 with h4
    subst h4
    simp only [val, Option.map_eq_some_iff] at hv ⊢
    obtain ⟨L, hL, hv⟩ := hv
    exact ⟨_, key _ _ _ h3 hv.symm, L, hL, by rw [Nat.add_assoc, Nat.add_assoc]⟩
  · cases e
theorem ok_fieldAddr {t : TypeId} {x : Operand} {f : Nat} {o : Oper} {r : AV × List Ent × Nat} (ho : o.op = .fieldAddr t x f) (h : valE P s (.fieldAddr t x f) = some r) : OkV P fz B s r.1 r.2.1 r.2.2 (fun a => execOp a.eval o) := by
  simp only [valE] at h
  obtain ⟨av, h1, h⟩ := bnd_some h
  exact keep_ok h fun cv h3 φ a w W S hs => offE_ok (v := a.eval x) ho h3 (oE_val hs h1)
theorem ok_nilCheck {x : Operand} {o : Oper} {r : AV × List Ent × Nat} (ho : o.op = .nilCheck x) (h : valE P s (.nilCheck x) = some r) : OkV P fz B s r.1 r.2.1 r.2.2 (fun a => execOp a.eval o) := by
  simp only [valE] at h
  obtain ⟨av, h1, h⟩ := bnd_some h
  refine keep_ok h fun cv h3 φ a w W S hs => ?_
  have e1 := oE_val hs h1
  unfold nck at h3
  split at h3
  · injection h3 with h3
    subst h3
    refine ⟨a.eval x, ?_, e1⟩
    simp only [val, Option.map_eq_some_iff] at e1
    obtain ⟨L, _, e1⟩ := e1
    unfold execOp
    simp [ho, ← e1]
  · injection h3 with h3
    subst h3
    refine ⟨a.eval x, ?_, e1⟩
    simp only [val, Option.map_eq_some_iff] at e1
    obtain ⟨L, _, e1⟩ := e1
    unfold execOp
    simp [ho, ← e1]
  · cases h3
theorem ok_un {op : UnOp} {t : TypeId} {x : Operand} {o : Oper} {r : AV × List Ent × Nat} (ho : o.op = .unOp op t x) (h : valE P s (.unOp op t x) = some r) : OkV P fz B s r.1 r.2.1 r.2.2 (fun a => execOp a.eval o) := by
  simp only [valE] at h
  split at h
  · obtain ⟨av, h1, h⟩ := bnd_some h
    obtain ⟨b, h2, h⟩ := bnd_some h
    rw [asB_eq h2] at h1
    refine keep_ok h fun cv h3 φ a w W S hs => ?_
    injection h3 with h3
    subst h3
    have e1 := oE_val hs h1
    injection e1 with e1
    exact ⟨.bool (!b), by simp [execOp, ho, ← e1, Op.unary], rfl⟩
  · obtain ⟨av, h1, h⟩ := bnd_some h
    obtain ⟨b, h2, h⟩ := bnd_some h
    rw [asI_eq h2] at h1
    refine keep_ok h fun cv h3 φ a w W S hs => ?_
    injection h3 with h3
    subst h3
    have e1 := oE_val hs h1
    injection e1 with e1
    exact ⟨_, by simp [execOp, ho, ← e1, Op.unary, Op.intArith], rfl⟩
  · cases h
theorem ok_cvt {t u : TypeId} {x : Operand} {o : Oper} {r : AV × List Ent × Nat} (ho : o.op = .convert t u x) (h : valE P s (.convert t u x) = some r) : OkV P fz B s r.1 r.2.1 r.2.2 (fun a => execOp a.eval o) := by
  simp only [valE] at h
  obtain ⟨av, h1, h⟩ := bnd_some h
  refine keep_ok h fun cv h3 φ a w W S hs => ?_
  have e1 := oE_val hs h1
  unfold cvtE at h3
  obtain ⟨y, h4, h5⟩ := bnd_some h3
  rw [asI_eq h4] at e1
  injection e1 with e1
  split at h5
  · rename_i k k' u1 u2
    obtain ⟨h6, h7⟩ := lp1_some h5
    have := of_decide_eq_true h6
    subst this
    injection h7 with h7
    subst h7
    refine ⟨_, ?_, rfl⟩
    unfold execOp
    simp only [ho, convert, ← e1, Sem.run_bind, run_underlying u1, run_underlying u2, Result.andThen_ok, Conv.intToInt, Sem.run_pure]
  · cases h5
theorem ok_ext {x : Operand} {i : Nat} {o : Oper} {r : AV × List Ent × Nat} (ho : o.op = .extract x i) (h : valE P s (.extract x i) = some r) : OkV P fz B s r.1 r.2.1 r.2.2 (fun a => execOp a.eval o) := by
  simp only [valE] at h
  obtain ⟨av, h1, h⟩ := bnd_some h
  obtain ⟨l, h2, h⟩ := bnd_some h
  rw [asT_eq h2] at h1
  refine keep_ok h fun cv h3 φ a w W S hs => ?_
  have e1 := oE_val hs h1
  simp only [val, Option.map_eq_some_iff] at e1
  obtain ⟨vs, e2, e1⟩ := e1
  rw [lget_eq] at h3
  obtain ⟨u, hu, hpu⟩ := ((vals_vps (w := w) (W := W)).2 e2).get (i := i) (p := dn φ cv) (by rw [List.getElem?_map, h3]; rfl)
  refine ⟨u, ?_, dn_p.1 hpu⟩
  have hv' : vs.toArray[i]? = some u := by simpa using hu
  unfold execOp
  simp [ho, ← e1, Instr.extract, hv']
theorem ok_mkfn {f : FuncId} {xs ys : Array Operand} {o : Oper} {r : AV × List Ent × Nat} (ho : o.op = .makeFunc (.func f) xs ys) (h : valE P s (.makeFunc (.func f) xs ys) = some r) : OkV P fz B s r.1 r.2.1 r.2.2 (fun a => execOp a.eval o) := by
  simp only [valE] at h
  obtain ⟨us, h1, h⟩ := bnd_some h
  obtain ⟨ws, h2, h⟩ := bnd_some h
  refine keep_ok h fun cv h3 φ a w W S hs => ?_
  injection h3 with h3
  subst h3
  have e1 := oEs_val hs h1
  have e2 := oEs_val hs h2
  refine ⟨.func (.func f) (xs.toList.map a.eval).toArray (ys.toList.map a.eval).toArray, ?_, by simp only [val, e1, e2]⟩
  unfold execOp
  have e3 : Array.map a.eval xs = (xs.toList.map a.eval).toArray := by rw [← List.map_toArray, Array.toArray_toList]
  have e4 : Array.map a.eval ys = (ys.toList.map a.eval).toArray := by rw [← List.map_toArray, Array.toArray_toList]
  simp only [ho, Instr.makeFunc, e3, e4, Sem.run_bind, Sem.run_pure, Result.andThen_ok]
/-- a new block of cells -/
theorem new_cells {e : TypeId} {cs : List AV} {us : Array Value} (hs : Tel fz B φ s a w W S) (hf : Free φ s.n (s.n + 1)) (hv : vals φ cs = some us.toList) (h1 : ∀ u ∈ us.toList, u.oneCell' = true) :
    Ext φ (setE φ s.n ⟨w.heap.size, 0, 0⟩) s.n (s.n + 1) ∧ val (setE φ s.n ⟨w.heap.size, 0, 0⟩) (.ptr s.n 0) = some (.pointer (some ⟨w.heap.size, 0, none⟩)) ∧
    Sat { w with heap := w.heap.push (.cells us e) } (fun b => W b ∨ b = w.heap.size) (dnH (setE φ s.n ⟨w.heap.size, 0, 0⟩) (.cells s.n e cs :: s.heap)) (fun b => b = w.heap.size ∨ S b) := by
  have hx := setE_ext ⟨w.heap.size, 0, 0⟩ hf
  refine ⟨hx, by simp only [val, setE_at, Option.map_some, Nat.add_zero], ?_⟩
  have hn := new_var (ps := enc (setE φ s.n ⟨w.heap.size, 0, 0⟩) cs) (e := e) (cs := us) hs.sat hs.run.sub hs.run.bound (vals_vps.2 (vals_le hx.le hv)) h1
  obtain ⟨S1, S2, k1, k2, k3⟩ := hn
  refine ⟨S1, S2, dnC_mk (setE_at _ _ _) rfl k1, Sat_le hx.le k2, k3⟩
theorem zers_ok {t : TypeId} {z : List AV} (h : zers P t = some z) : ∃ i v, P.info? t = some i ∧ i.zero = some v ∧ (∀ φ, vals φ z = some v.cells.toList) ∧ ∀ u ∈ v.cells.toList, u.oneCell' = true := by
  unfold zers tZero at h
  obtain ⟨l, h1, h2⟩ := bnd_some h
  obtain ⟨h3, h4⟩ := lp1_some h2
  injection h4 with h4
  subst h4
  obtain ⟨v, h5, h6⟩ := Option.map_eq_some_iff.1 h1
  obtain ⟨i, h7, h8⟩ := Option.bind_eq_some_iff.1 h5
  subst h6
  refine ⟨i, v, h7, h8, fun φ => ?_, fun u hu => List.all_eq_true.1 h3 u hu⟩
  generalize v.cells.toList = l
  induction l with
  | nil => rfl
  | cons x l ih => simp only [List.map_cons, vals, val, ih]
theorem ok_alloc {e : TypeId} {o : Oper} {r : AV × List Ent × Nat} (ho : o.op = .alloc e) (h : valE P s (.alloc e) = some r) : OkV P fz B s r.1 r.2.1 r.2.2 (fun a => execOp a.eval o) := by
  simp only [valE] at h
  obtain ⟨z, h1, h⟩ := bnd_some h
  injection h with h
  subst h
  obtain ⟨i, v, k1, k2, k3, k4⟩ := zers_ok h1
  refine ⟨Nat.le_succ _, fun φ hf a w W S hs => ?_⟩
  obtain ⟨g1, g2, g3⟩ := new_cells (e := e) hs hf (k3 φ) k4
  refine ⟨_, _, _, _, _, g1, ?_, g2, g3, Run.new hs.run.sub hs.run.bound _⟩
  unfold execOp
  simp only [ho, Instr.alloc, zeroValue, Sem.run_bind, run_tinfo k1, Result.andThen_ok, k2, Sem.run_pure, newVar, newRow, newObj]
  rfl
theorem ok_box {e : TypeId} {x : Operand} {o : Oper} {r : AV × List Ent × Nat} (ho : o.op = .box e x) (h : valE P s (.box e x) = some r) : OkV P fz B s r.1 r.2.1 r.2.2 (fun a => execOp a.eval o) := by
  simp only [valE] at h
  obtain ⟨av, h1, h⟩ := bnd_some h
  obtain ⟨h2, h⟩ := lp1_some h
  injection h with h
  subst h
  refine ⟨Nat.le_succ _, fun φ hf a w W S hs => ?_⟩
  obtain ⟨q1, q2⟩ := flat_val h2 (oE_val hs h1)
  obtain ⟨g1, g2, g3⟩ := new_cells (e := e) hs hf q1 q2
  exact ⟨_, _, _, _, _, g1, ex_box ho rfl, g2, g3, Run.new hs.run.sub hs.run.bound _⟩
end
end Go.Proofs.Ytkcpejbabbbjpaa
