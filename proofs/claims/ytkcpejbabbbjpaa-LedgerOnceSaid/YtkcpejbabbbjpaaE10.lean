/- A part of the proof: contracts over a program of the model. -/
import Derived.Test.YtkcpejbabbbjpaaE9
set_option linter.unusedVariables false
set_option linter.unusedSectionVars false
set_option linter.unusedSimpArgs false
namespace Go.Proofs.Ytkcpejbabbbjpaa
open Go.RowKit

/-! ### maps of one's own -/
section model
variable {κ ν : Type} [DecidableEq κ]
def mget : List (κ × ν) → κ → Option ν
  | [], _ => none
  | (k', v) :: m, k => if k' = k then some v else mget m k
def mset : List (κ × ν) → κ → ν → List (κ × ν)
  | [], k, v => [(k, v)]
  | (k', v') :: m, k, v => if k' = k then (k, v) :: m else (k', v') :: mset m k v
def midx : List (κ × ν) → κ → Option Nat
  | [], _ => none
  | (k', _) :: m, k => if k' = k then some 0 else (midx m k).map (· + 1)
end model
def vmap (b : Nat) : VP := vis (.map (some b))
/-- entries -/
def EntOk {κ ν : Type} (w : World) (W : WS) (encK : κ → Value) (encV : ν → VP) : List MapEntry → List (κ × ν) → Prop
  | [], [] => True
  | e :: es, (k, v) :: m => e.key = encK k ∧ (encV v).p w W e.val ∧ EntOk w W encK encV es m
  | _, _ => False
/-- the entries' births rise, and are below the clock -/
def Born (clock : Nat) : List MapEntry → Prop
  | [] => True
  | e :: es => e.born < clock ∧ (∀ e' ∈ es, e.born < e'.born) ∧ Born clock es
theorem EntOk.st {κ ν : Type} {w w' : World} {W W' : WS} {encK : κ → Value} {encV : ν → VP} (he : Evo w W w' W') : ∀ {es : List MapEntry} {m : List (κ × ν)}, EntOk w W encK encV es m → EntOk w' W' encK encV es m
  | [], [], _ => trivial
  | _ :: _, (_, _) :: _, ⟨h1, h2, h3⟩ => ⟨h1, VP.st _ he h2, EntOk.st he h3⟩
  | [], _ :: _, h => h.elim
  | _ :: _, [], h => h.elim
def hmap {κ ν : Type} (b : Nat) (encK : κ → Value) (encV : ν → VP) (m : List (κ × ν)) : HP where
  p := fun w W S => (∃ (es : Array MapEntry) (clock : Nat), w.heap[b]? = some (.map es clock) ∧ EntOk w W encK encV es.toList m ∧ Born clock es.toList ∧ m.length ≤ 9223372036854775807 ∧ (m.map (·.1)).Nodup) ∧ ∀ x, S x ↔ x = b
  st := by
    rintro w W w' W' S he hk ⟨⟨es, c, h1, h2, h3, h4, h5⟩, hS⟩
    exact ⟨⟨es, c, by rw [hk b ((hS b).2 rfl)]; exact h1, h2.st he, h3, h4, h5⟩, hS⟩
  lt := by
    rintro w W S ⟨⟨es, c, h1, _⟩, hS⟩ x hx
    have := (hS x).1 hx
    subst this
    exact (Array.getElem?_eq_some_iff.1 h1).1
/-- What the model's search for a key of this type does. -/
structure KeyOk {κ : Type} [DecidableEq κ] (P : Program) (kt : TypeId) (encK : κ → Value) : Prop where
  ck : ∀ b k w, (Instr.checkKey b 10000 kt (encK k)).run P w = .ok () w
  find : ∀ (ks : List κ) (es : List MapEntry) (k : κ) w, es.map (·.key) = ks.map encK → (Instr.findKey kt (encK k) es).run P w = .ok ((ks.findIdx? (fun k' => decide (k' = k))).bind fun i => (es[i]?).map fun e => (i, e.val)) w
  bits : ∀ k, Instr.sameBits 10000 (encK k) (encK k) = true
theorem findNow_spec {κ : Type} [DecidableEq κ] {kd : TypeDesc} {encK : κ → Value} (hs : ∀ k k', Instr.sameNow kd (encK k) (encK k') = some (decide (k' = k))) (k : κ) : ∀ (ks : List κ) (es : List MapEntry) (i : Nat), es.map (·.key) = ks.map encK →
    Instr.findNow kd (encK k) es i = some ((ks.findIdx? (fun k' => decide (k' = k))).bind fun j => (es[j]?).map fun e => (j + i, e.val))
  | [], [], i, _ => rfl
  | k' :: ks, e :: es, i, h => by
    simp only [List.map_cons, List.cons.injEq] at h
    unfold Instr.findNow
    rw [h.1, hs]
    by_cases hk : k' = k
    · simp [hk, List.findIdx?_cons]
    · simp only [hk, decide_false]
      rw [findNow_spec hs k ks es (i + 1) h.2]
      simp only [List.findIdx?_cons, hk, decide_false, Bool.false_eq_true, if_false]
      cases ks.findIdx? (fun k' => decide (k' = k)) with
      | none => rfl
      | some j => simp [Nat.add_assoc, Nat.add_comm 1 i]
  | [], _ :: _, _, h => by simp at h
  | _ :: _, [], _, h => by simp at h
def eI (n : Int) : Value := .int .i64 n
theorem keyInt {P : Program} {kt : TypeId} (h : P.underlying kt = some (.int .i64)) : KeyOk P kt eI where
  ck := fun b k w => by
    unfold Instr.checkKey
    simp only [Sem.run_bind, run_underlying h, Result.andThen_ok, eI]
    rfl
  find := fun ks es k w hk => by
    unfold Instr.findKey
    simp only [Sem.run_bind, run_underlying h, Result.andThen_ok]
    rw [findNow_spec (kd := .int .i64) (fun k k' => by simp only [eI, Instr.sameNow, if_true]; congr 1; by_cases h : k' = k <;> simp [h]; exact fun h2 => h h2.symm) k ks es 0 hk]
    simp
  bits := fun k => by simp [eI, Instr.sameBits]
theorem ba_beq (a b : ByteArray) : (a == b) = decide (a = b) := by
  rcases a with ⟨a⟩
  rcases b with ⟨b⟩
  show (a == b) = _
  by_cases h : a = b
  · simp [h]
  · simp [h]
def eS (s : List UInt8) : Value := .string ⟨s.toArray⟩
theorem keyStr {P : Program} {kt : TypeId} (h : P.underlying kt = some .string) : KeyOk P kt eS where
  ck := fun b k w => by
    unfold Instr.checkKey
    simp only [Sem.run_bind, run_underlying h, Result.andThen_ok, eS]
    rfl
  find := fun ks es k w hk => by
    unfold Instr.findKey
    simp only [Sem.run_bind, run_underlying h, Result.andThen_ok]
    rw [findNow_spec (kd := .string) (fun k k' => by
      simp only [eS, Instr.sameNow, ba_beq]
      congr 1
      rw [decide_eq_decide]
      constructor
      · intro h2
        injection h2 with h2
        have : k.toArray.toList = k'.toArray.toList := by rw [h2]
        simp at this
        exact this.symm
      · rintro rfl
        rfl) k ks es 0 hk]
    simp
  bits := fun k => by simp [eS, Instr.sameBits, ba_beq]

section
variable {κ ν : Type} [DecidableEq κ] {w : World} {W : WS} {encK : κ → Value} {encV : ν → VP}
theorem EntOk.keys : ∀ {es : List MapEntry} {m : List (κ × ν)}, EntOk w W encK encV es m → es.map (·.key) = (m.map (·.1)).map encK
  | [], [], _ => rfl
  | e :: es, (k, v) :: m, ⟨h1, _, h3⟩ => by simp only [List.map_cons, h1, EntOk.keys h3]
  | [], _ :: _, h => h.elim
  | _ :: _, [], h => h.elim
theorem EntOk.len : ∀ {es : List MapEntry} {m : List (κ × ν)}, EntOk w W encK encV es m → es.length = m.length
  | [], [], _ => rfl
  | e :: es, (k, v) :: m, ⟨h1, _, h3⟩ => congrArg (· + 1) (EntOk.len h3)
  | [], _ :: _, h => h.elim
  | _ :: _, [], h => h.elim
theorem EntOk.get : ∀ {es : List MapEntry} {m : List (κ × ν)} (k : κ), EntOk w W encK encV es m →
    match (((m.map (·.1)).findIdx? (fun k' => decide (k' = k))).bind fun i => (es[i]?).map fun e => (i, e.val)), mget m k with
    | some (i, u), some v => (encV v).p w W u ∧ (es[i]?).map (·.key) = some (encK k)
    | none, none => True
    | _, _ => False
  | [], [], k, _ => trivial
  | e :: es, (k', v) :: m, k, ⟨h1, h2, h3⟩ => by
    simp only [List.map_cons, List.findIdx?_cons, mget]
    by_cases hk : k' = k
    · subst hk
      simp [h2, h1]
    · have ih := EntOk.get k h3
      simp only [hk, decide_false, Bool.false_eq_true, if_false]
      cases hf : (m.map (·.1)).findIdx? (fun k' => decide (k' = k)) with
      | none =>
        rw [hf] at ih
        simp only [Option.bind_none] at ih
        simp only [Option.map_none, Option.bind_none]
        cases hg : mget m k with
        | none => trivial
        | some v => rw [hg] at ih; exact ih.elim
      | some i =>
        rw [hf] at ih
        simp only [Option.bind_some] at ih
        simp only [Option.map_some, Option.bind_some, List.getElem?_cons_succ]
        cases he : es[i]? with
        | none =>
          rw [he] at ih
          simp only [Option.map_none] at ih ⊢
          cases hg : mget m k with
          | none => trivial
          | some v => rw [hg] at ih; exact ih.elim
        | some e' =>
          rw [he] at ih
          simp only [Option.map_some] at ih ⊢
          cases hg : mget m k with
          | none => rw [hg] at ih; exact ih.elim
          | some v =>
            rw [hg] at ih
            simp only [List.getElem?_cons_succ, he, Option.map_some] at ih ⊢
            exact ih
  | [], _ :: _, _, h => h.elim
  | _ :: _, [], _, h => h.elim
theorem mget_none {m : List (κ × ν)} {k : κ} (h : mget m k = none) : ∀ v, (k, v) ∉ m := by
  induction m with
  | nil => simp
  | cons e m ih =>
    obtain ⟨k', v'⟩ := e
    simp only [mget] at h
    split at h
    · cases h
    · rename_i hne
      intro v hv
      rcases List.mem_cons.1 hv with hv | hv
      · injection hv with h1; exact hne h1.symm
      · exact ih h v hv
theorem mset_keys {m : List (κ × ν)} {k : κ} {v : ν} : (mset m k v).map (·.1) = if mget m k = none then m.map (·.1) ++ [k] else m.map (·.1) := by
  induction m with
  | nil => rfl
  | cons e m ih =>
    obtain ⟨k', v'⟩ := e
    simp only [mset, mget]
    by_cases hk : k' = k
    · simp [hk]
    · simp only [hk, if_false, List.map_cons, ih]
      split <;> simp
theorem mget_mem {m : List (κ × ν)} {k : κ} : mget m k = none ↔ k ∉ m.map (·.1) := by
  induction m with
  | nil => simp [mget]
  | cons e m ih =>
    obtain ⟨k', v'⟩ := e
    simp only [mget, List.map_cons, List.mem_cons, not_or]
    by_cases hk : k' = k
    · simp [hk]
    · simp only [hk, if_false, ih]
      constructor
      · exact fun h => ⟨fun h2 => hk h2.symm, h⟩
      · exact fun h => h.2
theorem mset_nodup {m : List (κ × ν)} {k : κ} {v : ν} (h : (m.map (·.1)).Nodup) : ((mset m k v).map (·.1)).Nodup := by
  rw [mset_keys]
  split
  · rename_i hn
    rw [mget_mem] at hn
    rw [List.nodup_append]
    exact ⟨h, by simp, fun a ha b hb => by simp only [List.mem_singleton] at hb; subst hb; exact fun he => hn (he ▸ ha)⟩
  · exact h
theorem EntOk.setE : ∀ {es : List MapEntry} {m : List (κ × ν)} {k : κ} {v : ν} {u : Value} {i : Nat}, EntOk w W encK encV es m → (m.map (·.1)).findIdx? (fun k' => decide (k' = k)) = some i → (encV v).p w W u →
    EntOk w W encK encV (es.modify i fun e => { e with key := encK k, val := u }) (mset m k v)
  | e :: es, (k', v') :: m, k, v, u, i, ⟨h1, h2, h3⟩, hi, hv => by
    simp only [List.map_cons, List.findIdx?_cons] at hi
    simp only [mset]
    by_cases hk : k' = k
    · subst hk
      simp only [decide_true, if_true, Option.some.injEq] at hi
      subst hi
      simp only [if_true, List.modify_zero_cons]
      exact ⟨rfl, hv, h3⟩
    · simp only [hk, decide_false, Bool.false_eq_true, if_false, Option.map_eq_some_iff] at hi
      obtain ⟨j, hj, rfl⟩ := hi
      simp only [hk, if_false, List.modify_succ_cons]
      exact ⟨h1, h2, EntOk.setE h3 hj hv⟩
  | [], [], k, v, u, i, _, hi, _ => by simp at hi
  | [], _ :: _, _, _, _, _, h, _, _ => h.elim
  | _ :: _, [], _, _, _, _, h, _, _ => h.elim
theorem EntOk.push : ∀ {es : List MapEntry} {m : List (κ × ν)} {k : κ} {v : ν} {e : MapEntry}, EntOk w W encK encV es m → mget m k = none → e.key = encK k → (encV v).p w W e.val → EntOk w W encK encV (es ++ [e]) (mset m k v)
  | [], [], k, v, e, _, _, h1, h2 => ⟨h1, h2, trivial⟩
  | e' :: es, (k', v') :: m, k, v, e, ⟨h1, h2, h3⟩, hn, hk, hv => by
    simp only [mget] at hn
    simp only [mset]
    split at hn
    · cases hn
    · rename_i hne
      simp only [hne, if_false, List.cons_append]
      exact ⟨h1, h2, EntOk.push h3 hn hk hv⟩
  | [], _ :: _, _, _, _, h, _, _, _ => h.elim
  | _ :: _, [], _, _, _, h, _, _, _ => h.elim
theorem Born.modify {c : Nat} {f : MapEntry → MapEntry} (hf : ∀ e, (f e).born = e.born) : ∀ {es : List MapEntry} {i : Nat}, Born c es → Born c (es.modify i f)
  | [], i, h => by simpa using h
  | e :: es, 0, ⟨h1, h2, h3⟩ => by
    rw [List.modify_zero_cons]
    exact ⟨by rw [hf]; exact h1, fun e' he' => by rw [hf]; exact h2 e' he', h3⟩
  | e :: es, i + 1, ⟨h1, h2, h3⟩ => by
    rw [List.modify_succ_cons]
    refine ⟨h1, fun e' he' => ?_, Born.modify hf h3⟩
    obtain ⟨j, hj, rfl⟩ := List.getElem_of_mem he'
    rw [List.getElem_modify]
    have hj' : j < es.length := by rwa [List.length_modify] at hj
    split
    · rw [hf]; exact h2 _ (List.getElem_mem hj')
    · exact h2 _ (List.getElem_mem hj')
theorem Born.push {c : Nat} {e : MapEntry} (he : e.born = c) : ∀ {es : List MapEntry}, Born c es → Born (c + 1) (es ++ [e])
  | [], _ => ⟨by omega, by simp, trivial⟩
  | e' :: es, ⟨h1, h2, h3⟩ => by
    refine ⟨by omega, fun x hx => ?_, Born.push he h3⟩
    rcases List.mem_append.1 hx with hx | hx
    · exact h2 x hx
    · simp only [List.mem_singleton] at hx; subst hx; omega
end

section
variable {P : Program} {fz : Nat} {B : Bs} {K : KP} {ops : Array Oper} {rest : List Oper} {σ : Regs} {h : List HP} {d : Nat} {ty : TypeId} {pos : String} {af : Array Edge} {g : Option (Nat × Bool)} {κ ν : Type} [DecidableEq κ] {encK : κ → Value} {encV : ν → VP} {m : List (κ × ν)} {t kt vt : TypeId}

def tMap (P : Program) (t kt vt : TypeId) : Bool := match P.underlying t with
  | some (.map k v) => Nat.beq k kt && Nat.beq v vt
  | _ => false
theorem tMap_parts (h : tMap P t kt vt = true) : P.underlying t = some (.map kt vt) := by
  unfold tMap at h
  split at h
  · rename_i k v hu
    simp only [Bool.and_eq_true] at h
    rw [hu, Nat.eq_of_beq_eq_true h.1, Nat.eq_of_beq_eq_true h.2]
  · cases h
theorem run_getMap {w : World} {b : Nat} {es : Array MapEntry} {c : Nat} (h : w.heap[b]? = some (.map es c)) : (getObj b).run P w = .ok (.map es c) w := by
  simp [getObj, Sem.run, h]
/-- a new map -/
theorem mkmap (encK : κ → Value) (encV : ν → VP) (kk : ∀ b, EvL P fz B K ops rest ((d, vmap b) :: σ) (hmap b encK encV [] :: h)) (hd : Nat.ble (d + 1) fz = true := by rfl) (hg : Gk ops σ g := by first | exact gk0 | exact gk1 rfl rfl rfl (by assumption)) :
    EvL P fz B K ops (⟨some d, .makeMap t none, ty, pos, af, g⟩ :: rest) σ h :=
  opx hd hg fun a w W S hs => by
    have hr := Run.new hs.run.sub hs.run.bound (.map #[] 0)
    have hev := hr.evo hs.run.sub
    refine ⟨vmap w.heap.size, _, _, _, _, _, ?_, rfl, ?_, hr, kk w.heap.size⟩
    · unfold execOp
      simp only [Instr.makeMap, Option.map_none, newObj, Sem.run_bind, Sem.run_pure]
      rfl
    · exact ⟨fun b => b = w.heap.size, S, ⟨⟨#[], 0, new_at w _, trivial, trivial, by simp, by simp⟩, fun _ => Iff.rfl⟩, hs.sat.st hev (fun b hb => by have := hs.sat.lt b hb; simp [Array.getElem?_push, Nat.ne_of_lt this]), fun b hb hS => by have := hs.sat.lt b hS; omega, fun _ => Iff.rfl⟩
theorem run_lookup {w : World} {W : WS} {b : Nat} {S1 : Nat → Prop} {k : κ} {ok : Bool} {z : Value} {d0 : ν} (ht : tMap P t kt vt = true) (hk : KeyOk P kt encK) (hm : (hmap b encK encV m).p w W S1) (hz : (P.info? vt).bind (·.zero) = some z) (hd0 : ∀ w W, (encV d0).p w W z) :
    ∃ u, (Instr.lookup t (.map (some b)) (encK k) ok).run P w = .ok (if ok then .tuple #[u, .bool (mget m k).isSome] else u) w ∧ (encV ((mget m k).getD d0)).p w W u := by
  obtain ⟨⟨es, c, h1, h2, h3, h4, h5⟩, _⟩ := hm
  have hget := h2.get k
  have hfind := hk.find (m.map (·.1)) es.toList k w h2.keys
  obtain ⟨i, hi, hiz⟩ := Option.bind_eq_some_iff.1 hz
  have hzr : (zeroValue vt).run P w = .ok z w := by
    simp only [zeroValue, Sem.run_bind, run_tinfo hi, Result.andThen_ok, hiz, Sem.run_pure]
  unfold Instr.lookup
  simp only [Sem.run_bind, run_underlying (tMap_parts ht), Result.andThen_ok, run_getMap h1, Sem.run_pure, hk.ck, hfind]
  cases hf : ((m.map (·.1)).findIdx? (fun k' => decide (k' = k))).bind fun i => (es.toList[i]?).map fun e => (i, e.val) with
  | none =>
    rw [hf] at hget
    cases hg : mget m k with
    | some v => rw [hg] at hget; exact hget.elim
    | none =>
      refine ⟨z, ?_, hd0 w W⟩
      simp only [Sem.run_bind, hzr, Result.andThen_ok, Sem.run_pure]
      cases ok <;> rfl
  | some iu =>
    obtain ⟨i, u⟩ := iu
    rw [hf] at hget
    cases hg : mget m k with
    | none => rw [hg] at hget; exact hget.elim
    | some v =>
      rw [hg] at hget
      refine ⟨u, ?_, hget.1⟩
      simp only [Sem.run_bind, Result.andThen_ok, Sem.run_pure]
      cases ok <;> rfl
/-- m[k] -/
theorem lk {x y : Operand} {b j : Nat} {z : Value} (k : κ) (d0 : ν) (ht : tMap P t kt vt = true) (hk : KeyOk P kt encK) (hj : h[j]? = some (hmap b encK encV m)) (hz : (P.info? vt).bind (·.zero) = some z) (hd0 : ∀ w W, (encV d0).p w W z) (kk : EvL P fz B K ops rest ((d, encV ((mget m k).getD d0)) :: σ) h) (hx : og σ x = some (vmap b) := by rfl) (hy : og σ y = some (vis (encK k)) := by rfl) (hd : Nat.ble (d + 1) fz = true := by rfl) (hg : Gk ops σ g := by first | exact gk0 | exact gk1 rfl rfl rfl (by assumption)) :
    EvL P fz B K ops (⟨some d, .lookup t x y false, ty, pos, af, g⟩ :: rest) σ h :=
  opp hd hg (fun a w W S hs => by
    obtain ⟨S1, S2, h1, _⟩ := Sat.pick hj hs.sat
    obtain ⟨u, hr, hu⟩ := run_lookup (k := k) (ok := false) ht hk h1 hz hd0
    refine ⟨u, ?_, hu⟩
    have e1 : a.eval x = .map (some b) := hs.eval hx
    have e2 : a.eval y = encK k := hs.eval hy
    unfold execOp
    simp only [e1, e2, Sem.run_bind, hr, Result.andThen_ok, Sem.run_pure]
    rfl) kk
/-- v, ok := m[k] -/
theorem lko {x y : Operand} {b j : Nat} {z : Value} (k : κ) (d0 : ν) (ht : tMap P t kt vt = true) (hk : KeyOk P kt encK) (hj : h[j]? = some (hmap b encK encV m)) (hz : (P.info? vt).bind (·.zero) = some z) (hd0 : ∀ w W, (encV d0).p w W z) (kk : EvL P fz B K ops rest ((d, vtup [encV ((mget m k).getD d0), vbool (mget m k).isSome]) :: σ) h) (hx : og σ x = some (vmap b) := by rfl) (hy : og σ y = some (vis (encK k)) := by rfl) (hd : Nat.ble (d + 1) fz = true := by rfl) (hg : Gk ops σ g := by first | exact gk0 | exact gk1 rfl rfl rfl (by assumption)) :
    EvL P fz B K ops (⟨some d, .lookup t x y true, ty, pos, af, g⟩ :: rest) σ h :=
  opp hd hg (fun a w W S hs => by
    obtain ⟨S1, S2, h1, _⟩ := Sat.pick hj hs.sat
    obtain ⟨u, hr, hu⟩ := run_lookup (k := k) (ok := true) ht hk h1 hz hd0
    refine ⟨.tuple #[u, .bool (mget m k).isSome], ?_, #[u, .bool (mget m k).isSome], rfl, hu, rfl, trivial⟩
    have e1 : a.eval x = .map (some b) := hs.eval hx
    have e2 : a.eval y = encK k := hs.eval hy
    unfold execOp
    simp only [e1, e2, Sem.run_bind, hr, Result.andThen_ok, Sem.run_pure]
    rfl) kk
/-- m[k] = v -/
theorem mst {x y z : Operand} {b j : Nat} (k : κ) (v : ν) (ht : tMap P t kt vt = true) (hk : KeyOk P kt encK) (hj : h[j]? = some (hmap b encK encV m)) (hlen : m.length < 9223372036854775807) (kk : EvL P fz B K ops rest σ (h.set j (hmap b encK encV (mset m k v)))) (hx : og σ x = some (vmap b) := by rfl) (hy : og σ y = some (vis (encK k)) := by rfl) (hzv : og σ z = some (encV v) := by rfl) (hg : Gk ops σ g := by first | exact gk0 | exact gk1 rfl rfl rfl (by assumption)) :
    EvL P fz B K ops (⟨none, .mapUpdate t x y z, ty, pos, af, g⟩ :: rest) σ h :=
  opu hg (fun a w W S hs => by
    have hbd := hs.run.bound
    have e1 : a.eval x = .map (some b) := hs.eval hx
    have e2 : a.eval y = encK k := hs.eval hy
    have hv := hs.eval hzv
    have key : ∀ S1, (hmap b encK encV m).p w W S1 → (∀ b, S1 b → W b) → ∃ w', (Instr.mapUpdate t (.map (some b)) (encK k) (a.eval z)).run P w = .ok () w' ∧ (hmap b encK encV (mset m k v)).p w' W S1 ∧ Run w W S1 w' W S1 := by
      rintro S1 ⟨⟨es, c, h1, h2, h3, h4, h5⟩, hS1⟩ hsub
      have hbS : S1 b := (hS1 b).2 rfl
      have hget := h2.get k
      have hfind := hk.find (m.map (·.1)) es.toList k w h2.keys
      have hset : ∀ (es' : Array MapEntry) (c' : Nat), (setObj b (.map es' c')).run P w = .ok () { w with heap := w.heap.setIfInBounds b (.map es' c') } := by
        intro es' c'
        simp [setObj, Sem.run, h1]
      have hrun : ∀ (es' : Array MapEntry) (c' : Nat), Run w W S1 { w with heap := w.heap.setIfInBounds b (.map es' c') } W S1 := fun es' c' =>
        ⟨rfl, rfl, rfl, by simp, fun x hl hn => by
          have : b ≠ x := fun e => hn (e ▸ hbS)
          simp [Array.getElem?_setIfInBounds_ne this], fun _ _ _ => Iff.rfl, fun _ _ h => h, fun _ h => .inl h, hsub, fun x hx => by simpa using hbd x hx⟩
      have hat : ∀ (es' : Array MapEntry) (c' : Nat), ({ w with heap := w.heap.setIfInBounds b (.map es' c') } : World).heap[b]? = some (.map es' c') := by
        intro es' c'
        have := (Array.getElem?_eq_some_iff.1 h1).1
        simp [this]
      have hml : (mset m k v).length ≤ 9223372036854775807 := by
        have := congrArg List.length (mset_keys (m := m) (k := k) (v := v))
        rw [List.length_map] at this
        split at this
        · rw [List.length_append, List.length_map, List.length_singleton] at this; omega
        · rw [List.length_map] at this; omega
      have hnd := mset_nodup (k := k) (v := v) h5
      unfold Instr.mapUpdate
      simp only [Sem.run_bind, run_underlying (tMap_parts ht), Result.andThen_ok, run_getMap h1, hk.ck, hfind]
      cases hf : ((m.map (·.1)).findIdx? (fun k' => decide (k' = k))).bind fun i => (es.toList[i]?).map fun e => (i, e.val) with
      | none =>
        rw [hf] at hget
        have hg : mget m k = none := by
          cases hg : mget m k with
          | some v => rw [hg] at hget; exact hget.elim
          | none => rfl
        have hev := (hrun (es.push { key := encK k, val := a.eval z, born := c }) (c + 1)).evo hsub
        refine ⟨{ w with heap := w.heap.setIfInBounds b (.map (es.push { key := encK k, val := a.eval z, born := c }) (c + 1)) }, by simp only [hset], ⟨⟨_, _, hat _ _, ?_, ?_, hml, hnd⟩, hS1⟩, hrun _ _⟩
        · rw [Array.toList_push]
          exact (h2.push hg rfl hv).st hev
        · rw [Array.toList_push]
          exact Born.push (e := { key := encK k, val := a.eval z, born := c }) rfl h3
      | some iu =>
        obtain ⟨i, u⟩ := iu
        rw [hf] at hget
        cases hg : mget m k with
        | none => rw [hg] at hget; exact hget.elim
        | some v0 =>
          rw [hg] at hget
          have hi : (m.map (·.1)).findIdx? (fun k' => decide (k' = k)) = some i := by
            obtain ⟨i', hi', he⟩ := Option.bind_eq_some_iff.1 hf
            obtain ⟨e, _, he2⟩ := Option.map_eq_some_iff.1 he
            injection he2 with h6
            rw [← h6]
            exact hi'
          have hkey : ((es[i]?).map (·.key)).getD (encK k) = encK k := by
            have := hget.2
            rw [Array.getElem?_toList] at this
            rw [this]
            rfl
          have hstay : (Instr.keyThatStays (((es[i]?).map (·.key)).getD (encK k)) (encK k)).run P w = .ok (encK k) w := by
            rw [hkey]
            unfold Instr.keyThatStays
            rw [hk.bits]
            rfl
          have hev := (hrun (es.modify i fun e => { e with key := encK k, val := a.eval z }) c).evo hsub
          refine ⟨{ w with heap := w.heap.setIfInBounds b (.map (es.modify i fun e => { e with key := encK k, val := a.eval z }) c) }, by simp only [Sem.run_bind, hstay, Result.andThen_ok, hset], ⟨⟨_, _, hat _ _, ?_, ?_, hml, hnd⟩, hS1⟩, hrun _ _⟩
          · rw [Array.toList_modify]
            exact (h2.setE hi hv).st hev
          · rw [Array.toList_modify]
            exact Born.modify (f := fun e => { e with key := encK k, val := a.eval z }) (fun _ => rfl) h3
    obtain ⟨S1, S2, g1, g2, hd, hS⟩ := Sat.pick hj hs.sat
    obtain ⟨w', hr, hm', hrun⟩ := key S1 g1 (fun b hb => hs.run.sub b ((hS b).2 (.inl hb)))
    have hlt := g2.lt
    obtain ⟨hr2, hd2⟩ := Run.framed (T := S2) (S := S) hrun hlt hd hS hs.run.sub
    have hev := hr2.evo hs.run.sub
    refine ⟨w', W, _, .inl ?_, Sat.put hj hm' (g2.st hev (fun b hb => hrun.keep b (hlt b hb) (fun hc => hd b hc hb))) hd2, hr2⟩
    unfold execOp
    simp only [e1, e2, Sem.run_bind, hr, Result.andThen_ok, Sem.run_pure]) kk
theorem mln {x : Operand} {b j : Nat} (ht : tMap P t kt vt = true) (hj : h[j]? = some (hmap b encK encV m)) (kk : m.length ≤ 9223372036854775807 → EvL P fz B K ops rest ((d, vint .i64 (m.length : Int)) :: σ) h) (hx : og σ x = some (vmap b) := by rfl) (hd : Nat.ble (d + 1) fz = true := by rfl) (hg : Gk ops σ g := by first | exact gk0 | exact gk1 rfl rfl rfl (by assumption)) :
    EvL P fz B K ops (⟨some d, .call { callee := .builtin .len, args := #[x], argTypes := #[t] }, ty, pos, af, g⟩ :: rest) σ h :=
  opx hd hg fun a w W S hs => by
    have e1 : a.eval x = .map (some b) := hs.eval hx
    obtain ⟨S1, S2, ⟨⟨es, c, h1, h2, h3, h4, h5⟩, hS1⟩, _⟩ := Sat.pick hj hs.sat
    refine ⟨vint .i64 (m.length : Int), h, .int .i64 m.length, w, W, S, ?_, rfl, hs.sat, Run.refl hs.run.sub hs.run.bound, kk h4⟩
    have hl := h2.len
    rw [Array.length_toList] at hl
    unfold execOp
    simp only [resolve, invoke, builtin, Builtin.len_, List.map_toArray, List.map_cons, List.map_nil, e1, Sem.run_bind, Sem.run_pure, Result.andThen_ok, List.getElem?_toArray, List.getElem?_cons_zero, run_underlying (tMap_parts ht), goInt, run_getMap h1, hl]
end
end Go.Proofs.Ytkcpejbabbbjpaa
