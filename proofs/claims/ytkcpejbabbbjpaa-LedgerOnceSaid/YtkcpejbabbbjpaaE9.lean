/- A part of the proof: contracts over a program of the model. -/
import Derived.Test.YtkcpejbabbbjpaaE8
set_option linter.unusedVariables false
namespace Go.Proofs.Ytkcpejbabbbjpaa
open Go.RowKit
section
variable {P : Program} {fz : Nat} {B : Bs} {K : KP} {ops : Array Oper} {rest : List Oper} {σ : Regs} {h : List HP} {d : Nat} {ty : TypeId} {pos : String} {af : Array Edge} {g : Option (Nat × Bool)} {α : Type} {sz bytes : Nat} {zs : List Value} {enc : α → List VP} {l l2 : List α} {t e : TypeId}

/-! ### stores into a row of one's own -/
theorem row_store {w : World} {W : WS} {S1 : Nat → Prop} {v : Value} (hr : (hrow v e sz enc l).p w W S1) (hsub : ∀ b, S1 b → W b) (hbd : ∀ b, W b → b < w.heap.size) {i o : Nat} {qs : List VP} {us : List Value} {x : α} (hi : i < l.length) (hq : VPs w W qs us) (h1 : ∀ u ∈ us, u.oneCell' = true) (ho : o + qs.length ≤ sz) (hx : enc x = spl (enc (l[i]'hi)) o qs) :
    ∃ w', (storeCells ((sAddr v).add (i * sz + o)) us).run P w = .ok () w' ∧ (hrow v e sz enc (l.set i x)).p w' W S1 ∧ Run w W S1 w' W S1 := by
  rcases hr with ⟨rfl, rfl, hS⟩ | ⟨g, o', c, cs, rfl, hlc, hh, hcs, hone, hbnd, hel, hS⟩
  · simp at hi
  · have hg : S1 g := (hS g).2 rfl
    have hql := hq.length
    have hic : i * sz + sz ≤ c * sz := by rw [← Nat.succ_mul]; exact Nat.mul_le_mul_right _ (by omega)
    obtain ⟨w', cs', hr, hb', hsz', hcs', e1, e2, e3, e4, e5⟩ := run_storeCells (P := P) (b := g) (e := e) us 0 (o' + (i * sz + o)) w cs hh h1 (by omega)
    have hrun : Run w W S1 w' W S1 := ⟨e1, e2, e3, by omega, fun k hk hn => e5 k (fun e => hn (e ▸ hg)), fun _ _ _ => Iff.rfl, fun _ _ h => h, fun _ h => .inl h, hsub, fun k hk => by rw [e4]; exact hbd k hk⟩
    have hev := hrun.evo hsub
    refine ⟨w', by rw [show sAddr (.slice (some ⟨g, o', none⟩) l.length c) = ⟨g, o', none⟩ from rfl, add_pl]; exact hr, .inr ⟨g, o', c, cs', by rw [List.length_set], by rw [List.length_set]; exact hlc, hb', by rw [hsz']; exact hcs, ?_, by rw [List.length_set]; exact hbnd, fun j hj => ?_, hS⟩, hrun⟩
    · intro u hu
      rw [List.length_set] at hu
      obtain ⟨j, hjl, hju⟩ := mem_seg.1 hu
      have hj' : cs'[o' + j]? = some u := by
        rw [← Array.getElem?_toList, hju]
      rw [hcs' (o' + j)] at hj'
      split at hj'
      · exact h1 u (List.mem_of_getElem? hj')
      · rw [← Array.getElem?_toList] at hj'
        exact hone u (mem_seg.2 ⟨j, hjl, hj'⟩)
    · rw [List.length_set] at hj
      have hseg : ∀ k, k < sz → ((cs'.toList.drop (o' + j * sz)).take sz)[k]? = if i = j ∧ o ≤ k ∧ k < o + us.length then us[k - o]? else ((cs.toList.drop (o' + j * sz)).take sz)[k]? := by
        intro k hk
        rw [List.getElem?_take, if_pos hk, List.getElem?_drop, Array.getElem?_toList (xs := cs'), hcs', Nat.add_zero, List.getElem?_take, if_pos hk, List.getElem?_drop, Array.getElem?_toList (xs := cs)]
        by_cases hij : i = j
        · subst hij
          by_cases hok : o ≤ k ∧ k < o + us.length
          · rw [if_pos (⟨by omega, by omega⟩ : o' + (i * sz + o) ≤ o' + i * sz + k ∧ o' + i * sz + k < o' + (i * sz + o) + us.length), if_pos ⟨rfl, hok⟩]
            have : o' + i * sz + k - (o' + (i * sz + o)) = k - o := by omega
            rw [this]
          · rw [if_neg (fun h : o' + (i * sz + o) ≤ o' + i * sz + k ∧ o' + i * sz + k < o' + (i * sz + o) + us.length => hok ⟨by omega, by omega⟩), if_neg (fun h => hok h.2)]
        · rw [if_neg (fun h : i = j ∧ o ≤ k ∧ k < o + us.length => hij h.1), if_neg]
          rintro ⟨h2, h3⟩
          apply hij
          rcases Nat.lt_trichotomy i j with hlt | rfl | hlt
          · have := Nat.mul_le_mul_right sz (show i + 1 ≤ j from hlt)
            rw [Nat.succ_mul] at this
            omega
          · rfl
          · have := Nat.mul_le_mul_right sz (show j + 1 ≤ i from hlt)
            rw [Nat.succ_mul] at this
            omega
      have hlen : ((cs'.toList.drop (o' + j * sz)).take sz).length = sz := by
        have := Nat.mul_le_mul_right sz (show j + 1 ≤ c by omega)
        rw [Nat.succ_mul] at this
        rw [List.length_take, List.length_drop, Array.length_toList (xs := cs'), hsz']
        omega
      by_cases hij : i = j
      · subst hij
        rw [List.getElem_set_self]
        obtain ⟨q1, q2⟩ := hel i hi
        obtain ⟨vs', p1, p2, p3⟩ := VPs.spl o hq q2
        refine ⟨by rw [hx, spl_length, q1], ?_⟩
        have hvs : (cs'.toList.drop (o' + i * sz)).take sz = vs' := by
          have hl2 := q2.length
          rw [q1] at hl2
          apply List.ext_getElem?
          intro k
          by_cases hk : k < sz
          · rw [hseg k hk, p3 k (by omega)]
            simp
          · rw [List.getElem?_eq_none (by omega), List.getElem?_eq_none (by omega)]
        rw [hvs, hx]
        exact p2.st hev
      · rw [List.getElem_set_ne hij]
        obtain ⟨q1, q2⟩ := hel j hj
        refine ⟨q1, ?_⟩
        have hvs : (cs'.toList.drop (o' + j * sz)).take sz = (cs.toList.drop (o' + j * sz)).take sz := by
          have hl2 := q2.length
          rw [q1] at hl2
          apply List.ext_getElem?
          intro k
          by_cases hk : k < sz
          · rw [hseg k hk, if_neg (fun h => hij h.1)]
          · rw [List.getElem?_eq_none (by omega), List.getElem?_eq_none (by omega)]
        rw [hvs]
        exact q2.st hev
/-- one cell of element i is written: it is x then -/
theorem sw1 {s : TypeId} {a b : Operand} {v : Value} {p : VP} {j i o : Nat} (x : α) (ht : tOne P s = true) (hj : h[j]? = some (hrow v e sz enc l)) (hi : i < l.length) (hp : One p) (ho : Nat.ble (o + 1) sz = true) (hx : enc x = (enc (l[i]'hi)).set o p) (kk : EvL P fz B K ops rest σ (h.set j (hrow v e sz enc (l.set i x)))) (ha : og σ a = some (velt v sz i o) := by rfl) (hb : og σ b = some p := by rfl) (hg : Gk ops σ g := by first | exact gk0 | exact gk1 rfl rfl rfl (by assumption)) :
    EvL P fz B K ops (⟨none, .store s a b, ty, pos, af, g⟩ :: rest) σ h :=
  opu hg (fun ac w W S hs => by
    have hpv := hs.eval hb
    have h1 := hp _ _ _ hpv
    obtain ⟨_, info, _, hinf, _, h4⟩ := tOne_parts ht
    have hc := cells_one h1
    have hbd := hs.run.bound
    obtain ⟨S1, S2, g1, g2, hd, hS⟩ := Sat.pick hj hs.sat
    obtain ⟨w', hr, hrow', hrun⟩ := row_store (P := P) (qs := [p]) (us := [ac.eval b]) g1 (fun b hb => hs.run.sub b ((hS b).2 (.inl hb))) hbd hi ⟨hpv, trivial⟩ (fun u hu => by simp only [List.mem_singleton] at hu; rw [hu]; exact h1) (Nat.le_of_ble_eq_true ho) hx
    have hlt := g2.lt
    obtain ⟨hr2, hd2⟩ := Run.framed (T := S2) (S := S) hrun hlt hd hS hs.run.sub
    have hev := hr2.evo hs.run.sub
    exact ⟨w', W, _, .inl (ex_store rfl (hs.eval ha) rfl hinf (by rw [hc, h4]; rfl) (by rw [hc]; exact hr)), Sat.put hj hrow' (g2.st hev (fun b hb => hrun.keep b (hlt b hb) (fun hc => hd b hc hb))) hd2, hr2⟩) kk
theorem spl_all : ∀ (qs pre ps : List VP), ps.length = qs.length → spl (pre ++ ps) pre.length qs = pre ++ qs
  | [], pre, ps, h => by rw [List.eq_nil_of_length_eq_zero h]; rfl
  | q :: qs, pre, [], h => by simp at h
  | q :: qs, pre, p :: ps, h => by
    unfold spl
    rw [List.set_append_right _ _ (Nat.le_refl _), Nat.sub_self, List.set_cons_zero]
    have := spl_all qs (pre ++ [q]) ps (by simpa using h)
    simp only [List.length_append, List.length_singleton, List.append_assoc, List.singleton_append] at this
    exact this
/-- a whole element -/
theorem swA {s : TypeId} {n : Nat} {a b : Operand} {v : Value} {j i : Nat} {qs : List VP} (x : α) (ht : tAgg P s n = true) (hj : h[j]? = some (hrow v e n enc l)) (hi : i < l.length) (hx : enc x = qs) (hq : Nat.beq qs.length n = true) (hl : (enc (l[i]'hi)).length = n) (kk : EvL P fz B K ops rest σ (h.set j (hrow v e n enc (l.set i x)))) (ha : og σ a = some (velt v n i 0) := by rfl) (hb : og σ b = some (vagg qs) := by rfl) (hg : Gk ops σ g := by first | exact gk0 | exact gk1 rfl rfl rfl (by assumption)) :
    EvL P fz B K ops (⟨none, .store s a b, ty, pos, af, g⟩ :: rest) σ h :=
  opu hg (fun ac w W S hs => by
    obtain ⟨cs, e1, e2, e3⟩ : ∃ cs : Array Value, ac.eval b = .agg cs ∧ VPs w W qs cs.toList ∧ ∀ u ∈ cs.toList, u.oneCell' = true := hs.eval hb
    obtain ⟨_, info, _, hinf, _, h4⟩ := tAgg_parts ht
    have hq' := Nat.eq_of_beq_eq_true hq
    have hbd := hs.run.bound
    obtain ⟨S1, S2, g1, g2, hd, hS⟩ := Sat.pick hj hs.sat
    obtain ⟨w', hr, hrow', hrun⟩ := row_store (P := P) (o := 0) (x := x) g1 (fun b hb => hs.run.sub b ((hS b).2 (.inl hb))) hbd hi e2 e3 (by omega) (by
      have := spl_all qs [] (enc (l[i]'hi)) (by omega)
      simp only [List.nil_append, List.length_nil] at this
      rw [hx, this])
    have hlt := g2.lt
    obtain ⟨hr2, hd2⟩ := Run.framed (T := S2) (S := S) hrun hlt hd hS hs.run.sub
    have hev := hr2.evo hs.run.sub
    exact ⟨w', W, _, .inl (ex_store rfl (hs.eval ha) e1 hinf (by rw [h4, ← hq', ← e2.length]; rfl) hr), Sat.put hj hrow' (g2.st hev (fun b hb => hrun.keep b (hlt b hb) (fun hc => hd b hc hb))) hd2, hr2⟩) kk

/-! ### s[lo:hi] of a row of one's own: the row is that from then on -/
theorem cutw {x : Operand} {lo hi : Option Operand} {t e : TypeId} {l' h' j : Nat} {k1 k2 : IntKind} {v : Value} (ht : tSl P t e sz = true) (hj : h[j]? = some (hrow v e sz enc l)) (h1 : l' ≤ h') (h2 : h' ≤ l.length) (kk : ∀ v', v'.oneCell' = true → EvL P fz B K ops rest ((d, vis v') :: σ) (h.set j (hrow v' e sz enc ((l.take h').drop l')))) (hx : og σ x = some (vis v) := by rfl)
    (hlo : BdR σ k1 0 l' lo := by rfl) (hhi : BdR σ k2 l.length h' hi := by rfl) (hd : Nat.ble (d + 1) fz = true := by rfl) (hg : Gk ops σ g := by first | exact gk0 | exact gk1 rfl rfl rfl (by assumption)) :
    EvL P fz B K ops (⟨some d, .slice t x lo hi none, ty, pos, af, g⟩ :: rest) σ h :=
  opx hd hg fun a w W S hs => by
    have hxv : a.eval x = v := hs.eval hx
    have hlo' : BdOk a k1 0 l' lo := by
      cases lo with
      | none => exact hlo
      | some y => exact hs.eval hlo
    have hhi' : BdOk a k2 l.length h' hi := by
      cases hi with
      | none => exact hhi
      | some y => exact hs.eval hhi
    have hbd := hs.run.bound
    have hll : ((l.take h').drop l').length = h' - l' := by rw [List.length_drop, List.length_take]; omega
    obtain ⟨S1, S2, g1, g2, hdj, hS⟩ := Sat.pick hj hs.sat
    have hcongr : ∀ b, ((S1 b ∨ S2 b) ↔ S b) := fun b => (hS b).symm
    rcases g1 with ⟨rfl, rfl, hS1⟩ | ⟨g, o, c, cs, rfl, hlc, hh, hcs, hone, hbnd, hel, hS1⟩
    · have e1 : h' = 0 := by simpa using h2
      subst e1
      have e2 : l' = 0 := by omega
      subst e2
      refine ⟨vis (.slice none 0 0), h.set j (hrow (.slice none 0 0) e sz enc []), _, w, W, S, ex_cut (n := 0) ht rfl hxv hlo' hhi' (Nat.le_refl _) (Nat.le_refl _), rfl, (Sat.put (y := hrow (.slice none 0 0) e sz enc []) hj (Or.inl ⟨rfl, rfl, hS1⟩) g2 hdj).congr hcongr, Run.refl hs.run.sub hbd, kk _ rfl⟩
    · obtain ⟨o2, he, ho2⟩ : ∃ o2, (if c = l' then some (⟨g, o, none⟩ : Addr) else (some (⟨g, o, none⟩ : Addr)).map (·.add (l' * sz))) = some ⟨g, o2, none⟩ ∧ (l' < h' → o2 = o + l' * sz) ∧ o2 + (c - l') * sz ≤ cs.size := by
        by_cases hc : c = l'
        · exact ⟨o, by rw [if_pos hc], fun hlt => by omega, by rw [hc, Nat.sub_self]; omega⟩
        · refine ⟨o + l' * sz, by rw [if_neg hc, Option.map_some, add_pl], fun _ => rfl, ?_⟩
          rw [Nat.add_assoc, ← Nat.add_mul]
          have : l' + (c - l') = c := by omega
          rw [this]
          exact hcs
      refine ⟨vis (.slice (some ⟨g, o2, none⟩) (h' - l') (c - l')), h.set j (hrow (.slice (some ⟨g, o2, none⟩) (h' - l') (c - l')) e sz enc ((l.take h').drop l')), _, w, W, S, by rw [← he]; exact ex_cut ht rfl hxv hlo' hhi' h1 (by omega), rfl, (Sat.put (y := hrow (.slice (some ⟨g, o2, none⟩) (h' - l') (c - l')) e sz enc ((l.take h').drop l')) hj (Or.inr ⟨g, o2, c - l', cs, by rw [hll], by rw [hll]; omega, hh, ho2.2, fun u hu => (by
        rw [hll] at hu
        obtain ⟨j, hj1, hj2⟩ := mem_seg.1 hu
        rcases Nat.lt_or_ge l' h' with hlt | hge
        · rw [ho2.1 hlt, Nat.add_assoc] at hj2
          refine hone u (mem_seg.2 ⟨l' * sz + j, ?_, hj2⟩)
          have h8 : h' * sz ≤ l.length * sz := Nat.mul_le_mul_right _ h2
          have h9 : l' * sz + (h' - l') * sz = h' * sz := by rw [← Nat.add_mul]; congr 1; omega
          omega
        · rw [show h' - l' = 0 by omega, Nat.zero_mul] at hj1; omega), by rw [hll]; exact Nat.le_trans (Nat.mul_le_mul_right _ (by omega)) hbnd, fun i hi => ?_, hS1⟩) g2 hdj).congr hcongr, Run.refl hs.run.sub hbd, kk _ rfl⟩
      rw [hll] at hi
      obtain ⟨q1, q2⟩ := hel (l' + i) (by omega)
      have : ((l.take h').drop l')[i]'(by rw [hll]; omega) = l[l' + i]'(by omega) := by
        rw [List.getElem_drop, List.getElem_take]
      have ho3 := ho2.1 (by omega)
      have h5 : o2 + i * sz = o + (l' + i) * sz := by rw [ho3, Nat.add_assoc, ← Nat.add_mul]
      rw [this, h5]
      exact ⟨q1, q2⟩

/-! ### make([]T, n) -/
theorem mk {x y : Operand} {n : Nat} {z : α} (ht : tRow P t e sz bytes zs) (hz : enc z = visL zs) (hsz : 0 < sz) (hsm : n * bytes ≤ 281474976710656) (hsm2 : n * (sz + 1) ≤ 9223372036854775807) (kk : ∀ v, v.oneCell' = true → EvL P fz B K ops rest ((d, vis v) :: σ) (hrow v e sz enc (List.replicate n z) :: h)) (hx : og σ x = some (vint .i64 (n : Int)) := by rfl) (hy : og σ y = some (vint .i64 (n : Int)) := by rfl) (hd : Nat.ble (d + 1) fz = true := by rfl) (hg : Gk ops σ g := by first | exact gk0 | exact gk1 rfl rfl rfl (by assumption)) :
    EvL P fz B K ops (⟨some d, .makeSlice t x y, ty, pos, af, g⟩ :: rest) σ h :=
  opx hd hg fun a w W S hs => by
    obtain ⟨hu, info, zv, hi, hsize, hby, hzv, hzs, hz1, hzl⟩ := ht
    have hxv : a.eval x = .int .i64 n := hs.eval hx
    have hyv : a.eval y = .int .i64 n := hs.eval hy
    have hn63 : n ≤ 9223372036854775807 := Nat.le_trans (Nat.le_mul_of_pos_right _ (by omega)) hsm2
    have hw : IntKind.i64.wrap (n : Int) = n := wrapI (by omega) (by omega)
    have hr := Run.new hs.run.sub hs.run.bound (.cells ((Array.range (n * sz)).map (fun i => zv.cells[i % zv.cells.size]!)) e)
    have hev := hr.evo hs.run.sub
    have hzsz : zv.cells.size = sz := by rw [← Array.length_toList, hzs, hzl]
    have hrun : (execOp a.eval ⟨some d, .makeSlice t x y, ty, pos, af, g⟩).run P w = .ok (.value (.slice (some ⟨w.heap.size, 0, none⟩) n n)) { w with heap := w.heap.push (.cells ((Array.range (n * sz)).map (fun i => zv.cells[i % zv.cells.size]!)) e) } := by
      have c1 : ¬ ((n : Int) < 0 ∨ (bytes : Int) * (n : Int) > 2 ^ 48) := by
        rintro (h | h)
        · omega
        · have : (2 : Int) ^ 48 = 281474976710656 := rfl
          rw [this, Int.mul_comm] at h
          have h2 : ((n * bytes : Nat) : Int) > 281474976710656 := by rw [Int.natCast_mul]; exact h
          omega
      unfold execOp
      simp only [Instr.makeSlice, hxv, hyv, asInt, asIntOf, Sem.run_bind, run_underlying hu, Result.andThen_ok, Sem.run_pure, run_tinfo hi, hby, hw]
      have c2 : (decide ((n : Int) < 0) || decide ((bytes : Int) * (n : Int) > 2 ^ 48)) = false := by simpa using c1
      simp only [c2, Bool.false_or]
      rw [if_neg (by simp)]
      simp only [Sem.run_bind, wp_mark, Result.andThen_ok, run_size hi, hsize, Int.toNat_natCast]
      by_cases h0 : n * sz = 0
      · simp only [h0, if_true, Sem.run_bind, Sem.run_pure, Result.andThen_ok, newRow, newObj]
        have hr0 : Array.range 0 = #[] := rfl
        simp only [hr0, Array.map_empty]
        rfl
      · simp only [h0, if_false, Sem.run_bind, zeroValue, run_tinfo hi, hzv, Sem.run_pure, Result.andThen_ok, newRow, newObj]
        rfl
    refine ⟨_, _, _, _, _, _, hrun, rfl, ?_, hr, kk _ rfl⟩
    refine ⟨fun b => b = w.heap.size, S, .inr ⟨w.heap.size, 0, n, _, by rw [List.length_replicate], by rw [List.length_replicate]; exact Nat.le_refl _, new_at w _, by simp, ?_, by rw [List.length_replicate]; exact hsm2, fun i hi => ?_, fun _ => Iff.rfl⟩, hs.sat.st hev (fun b hb => by have := hs.sat.lt b hb; simp [Array.getElem?_push, Nat.ne_of_lt this]), fun b hb hS => by have := hs.sat.lt b hS; omega, fun _ => Iff.rfl⟩
    · intro u hu
      have hu := List.mem_of_mem_drop (List.mem_of_mem_take hu)
      simp only [Array.toList_map, List.mem_map] at hu
      obtain ⟨i, _, rfl⟩ := hu
      have hlt : i % zv.cells.size < zv.cells.size := Nat.mod_lt _ (by omega)
      rw [getElem!_pos zv.cells _ hlt]
      exact hz1 _ (by rw [← hzs]; simp)
    · rw [List.getElem_replicate, hz]
      rw [List.length_replicate] at hi
      have hvl : (visL zs).length = sz := by rw [← hzl]; exact ((VPs.visL (w := w) (W := W) zs).length).symm
      refine ⟨hvl, ?_⟩
      have : (List.drop (0 + i * sz) ((Array.range (n * sz)).map (fun i => zv.cells[i % zv.cells.size]!)).toList).take sz = zs := by
        have hin : i * sz + sz ≤ n * sz := by rw [← Nat.succ_mul]; exact Nat.mul_le_mul_right _ hi
        apply List.ext_getElem?
        intro k
        by_cases hk : k < sz
        · rw [List.getElem?_take, if_pos hk, List.getElem?_drop, Array.getElem?_toList]
          have h3 : 0 + i * sz + k < n * sz := by omega
          simp only [Array.getElem?_map, Array.getElem?_range, h3, if_true, Option.map_some]
          rw [hzsz, Nat.zero_add, Nat.add_comm (i * sz), Nat.add_mul_mod_self_right, Nat.mod_eq_of_lt hk, getElem!_pos zv.cells k (by omega)]
          have h4 : zs[k]? = zv.cells.toList[k]? := by rw [hzs]
          rw [h4]
          simp [hzsz, hk]
        · rw [List.getElem?_eq_none (by rw [List.length_take]; omega), List.getElem?_eq_none (by omega)]
      rw [this]
      exact VPs.visL zs
end
end Go.Proofs.Ytkcpejbabbbjpaa
