/- A part of the proof: contracts over a program of the model. -/
import Derived.Test.YtagkniimpekhjaaGreatE13
import Derived.Test.YtagkniimpekhjaaGreatE14
import Derived.Maps.RangeRun
set_option linter.unusedVariables false
set_option linter.unusedSectionVars false
set_option linter.unusedSimpArgs false
namespace Go.Proofs.YtagkniimpekhjaaGreat
open Go.RowKit

/-! ### ranges over a map of one's own -/
theorem Born.nodup {c : Nat} : ∀ {es : List MapEntry}, Born c es → (es.map (·.born)).Nodup
  | [], _ => by simp
  | e :: es, ⟨h1, h2, h3⟩ => by
    rw [List.map_cons, List.nodup_cons]
    refine ⟨fun hm => ?_, Born.nodup h3⟩
    obtain ⟨x, hx, he⟩ := List.mem_map.1 hm
    have := h2 x hx
    omega
theorem Born.lt {c : Nat} : ∀ {es : List MapEntry}, Born c es → ∀ e ∈ es, e.born < c
  | e :: es, ⟨h1, h2, h3⟩, x, hx => by
    rcases List.mem_cons.1 hx with rfl | hx
    · exact h1
    · exact Born.lt h3 x hx
section
variable {κ ν : Type} {w : World} {W : WS} {encK : κ → Value} {encV : ν → VP}
theorem EntOk.at_ : ∀ {es : List MapEntry} {m : List (κ × ν)}, EntOk w W encK encV es m → ∀ (i : Nat) (hi : i < m.length) (hi' : i < es.length), (es[i]'hi').key = encK (m[i]'hi).1 ∧ (encV (m[i]'hi).2).p w W (es[i]'hi').val
  | [], [], _, i, hi, _ => by simp at hi
  | e :: es, (k, v) :: m, ⟨h1, h2, h3⟩, 0, _, _ => ⟨h1, h2⟩
  | e :: es, (k, v) :: m, ⟨h1, h2, h3⟩, i + 1, hi, hi' => EntOk.at_ h3 i (by simpa using hi) (by simpa using hi')
  | [], _ :: _, h, _, _, _ => h.elim
  | _ :: _, [], h, _, _, _ => h.elim
theorem EntOk.erase : ∀ {es : List MapEntry} {m : List (κ × ν)} (i : Nat), EntOk w W encK encV es m → EntOk w W encK encV (es.eraseIdx i) (m.eraseIdx i)
  | [], [], _, _ => by simp [EntOk]
  | e :: es, (k, v) :: m, 0, ⟨h1, h2, h3⟩ => h3
  | e :: es, (k, v) :: m, i + 1, ⟨h1, h2, h3⟩ => ⟨h1, h2, EntOk.erase i h3⟩
  | [], _ :: _, _, h => h.elim
  | _ :: _, [], _, h => h.elim
end
theorem filter_ne_erase : ∀ (l : List MapEntry) (i : Nat) (hi : i < l.length), (l.map (·.born)).Nodup → l.filter (fun e => !(e.born == l[i].born)) = l.eraseIdx i
  | e :: l, 0, _, hn => by
    rw [List.map_cons, List.nodup_cons] at hn
    simp only [List.getElem_cons_zero, List.eraseIdx_cons_zero]
    rw [List.filter_cons]
    simp only [beq_self_eq_true, Bool.not_true, Bool.false_eq_true, if_false]
    refine List.filter_eq_self.2 fun x hx => ?_
    have : x.born ≠ e.born := fun h => hn.1 (h ▸ List.mem_map.2 ⟨x, hx, rfl⟩)
    simpa using this
  | e :: l, i + 1, hi, hn => by
    rw [List.map_cons, List.nodup_cons] at hn
    have hi' : i < l.length := by simpa using hi
    simp only [List.getElem_cons_succ, List.eraseIdx_cons_succ]
    rw [List.filter_cons]
    have : e.born ≠ l[i].born := fun h => hn.1 (h ▸ List.mem_map.2 ⟨l[i], List.getElem_mem hi', rfl⟩)
    have : (!(e.born == l[i].born)) = true := by simpa using this
    rw [this, if_pos rfl, filter_ne_erase l i hi' hn.2]
/-- a map, and a range over it: what is left, and which came last -/
def hmapI {κ ν : Type} (b ib : Nat) (encK : κ → Value) (encV : ν → VP) (m left : List (κ × ν)) (last : Option (κ × ν)) : HP where
  p := fun w W S => (∃ (es : Array MapEntry) (clock : Nat) (seen : Array Nat), w.heap[b]? = some (.map es clock) ∧ w.heap[ib]? = some (.mapIter (some b) clock seen clock) ∧ EntOk w W encK encV es.toList m ∧ Born clock es.toList ∧ m.length ≤ 9223372036854775807 ∧ (m.map (·.1)).Nodup ∧ EntOk w W encK encV (leftOf es seen).toList left ∧ (∀ kv, last = some kv → ∃ e ∈ es.toList, ∃ seen' : Array Nat, seen = seen'.push e.born ∧ e.key = encK kv.1 ∧ (encV kv.2).p w W e.val)) ∧ b ≠ ib ∧ ∀ x, S x ↔ (x = b ∨ x = ib)
  st := by
    rintro w W w' W' S he hk ⟨⟨es, c, seen, h1, h2, h3, h4, h5, h6, h7, h8⟩, hne, hS⟩
    refine ⟨⟨es, c, seen, by rw [hk b ((hS b).2 (.inl rfl))]; exact h1, by rw [hk ib ((hS ib).2 (.inr rfl))]; exact h2, h3.st he, h4, h5, h6, h7.st he, fun kv hkv => ?_⟩, hne, hS⟩
    obtain ⟨e, g1, s, g2, g3, g4⟩ := h8 kv hkv
    exact ⟨e, g1, s, g2, g3, (encV kv.2).st he g4⟩
  lt := by
    rintro w W S ⟨⟨es, c, seen, h1, h2, _⟩, hne, hS⟩ x hx
    rcases (hS x).1 hx with rfl | rfl
    · exact (Array.getElem?_eq_some_iff.1 h1).1
    · exact (Array.getElem?_eq_some_iff.1 h2).1

section
variable {P : Program} {fz : Nat} {B : Bs} {K : KP} {ops : Array Oper} {rest : List Oper} {σ : Regs} {h : List HP} {d : Nat} {ty : TypeId} {pos : String} {af : Array Edge} {g : Option (Nat × Bool)} {t : TypeId} {κ ν : Type} [DecidableEq κ] {encK : κ → Value} {encV : ν → VP} {m left : List (κ × ν)} {last : Option (κ × ν)} {kt vt : TypeId}
theorem rngm {x : Operand} {b j : Nat} (ht : tMap P t kt vt = true) (hj : h[j]? = some (hmap b encK encV m)) (kk : ∀ ib, EvL P fz B K ops rest ((d, vptr ib 0) :: σ) (h.set j (hmapI b ib encK encV m m none))) (hx : og σ x = some (vmap b) := by rfl) (hd : Nat.ble (d + 1) fz = true := by rfl) (hg : Gk ops σ g := by first | exact gk0 | exact gk1 rfl rfl rfl (by assumption)) :
    EvL P fz B K ops (⟨some d, .range t x, ty, pos, af, g⟩ :: rest) σ h :=
  opx hd hg fun a w W S hs => by
    have hxv : a.eval x = .map (some b) := hs.eval hx
    obtain ⟨S1, S2, ⟨⟨es, c, h1, h2, h3, h4, h5⟩, hS1⟩, q2, hdj, hS⟩ := Sat.pick hj hs.sat
    have hr := Run.new hs.run.sub hs.run.bound (.mapIter (some b) c #[] c)
    have hev := hr.evo hs.run.sub
    have hb : b < w.heap.size := (Array.getElem?_eq_some_iff.1 h1).1
    have hb1 : S1 b := (hS1 b).2 rfl
    have hkeep : ∀ k, k < w.heap.size → ({ w with heap := w.heap.push (.mapIter (some b) c #[] c) } : World).heap[k]? = w.heap[k]? := fun k hk => by simp [Array.getElem?_push, Nat.ne_of_lt hk]
    refine ⟨vptr w.heap.size 0, _, .pointer (some ⟨w.heap.size, 0, none⟩), _, _, fun k => (S1 k ∨ k = w.heap.size) ∨ S2 k, ?_, rfl, Sat.put (y := hmapI b w.heap.size encK encV m m none) hj ?_ (q2.st hev fun k hk => hkeep k (hs.sat.lt k ((hS k).2 (.inr hk)))) ?_, hr.less (fun k hk => ?_), kk w.heap.size⟩
    · unfold execOp
      simp only [Instr.range, hxv, Sem.run_bind, run_underlying (tMap_parts ht), Result.andThen_ok, run_getMap h1, Sem.run_pure, newObj]
      rfl
    · refine ⟨⟨es, c, #[], by rw [hkeep b hb]; exact h1, new_at w _, h2.st hev, h3, h4, h5, ?_, fun kv hkv => by cases hkv⟩, by omega, fun k => ⟨fun hk => hk.imp (hS1 k).1 id, fun hk => hk.imp (hS1 k).2 id⟩⟩
      have : (leftOf es #[]).toList = es.toList := by simp [leftOf]
      rw [this]
      exact h2.st hev
    · rintro k (hk | hk) hk2
      · exact hdj k hk hk2
      · have := hs.sat.lt k ((hS k).2 (.inr hk2))
        omega
    · rcases hk with (hk | hk) | hk
      · exact .inr ((hS k).2 (.inl hk))
      · exact .inl hk
      · exact .inr ((hS k).2 (.inr hk))
theorem nxtm {x : Operand} {b ib j : Nat} (hj : h[j]? = some (hmapI b ib encK encV m left last)) (k0 : left = [] → EvL P fz B K ops rest ((d, vtup [vbool false]) :: σ) h) (k1 : ∀ (i : Nat) (hi : i < left.length), EvL P fz B K ops rest ((d, vtup [vbool true, vis (encK left[i].1), encV left[i].2]) :: σ) (h.set j (hmapI b ib encK encV m (left.eraseIdx i) (some left[i])))) (hx : og σ x = some (vptr ib 0) := by rfl) (hd : Nat.ble (d + 1) fz = true := by rfl) (hg : Gk ops σ g := by first | exact gk0 | exact gk1 rfl rfl rfl (by assumption)) :
    EvL P fz B K ops (⟨some d, .next x false, ty, pos, af, g⟩ :: rest) σ h :=
  opx hd hg fun a w W S hs => by
    have hxv : a.eval x = .pointer (some ⟨ib, 0, none⟩) := hs.eval hx
    obtain ⟨S1, S2, hm, q2, hdj, hS⟩ := Sat.pick hj hs.sat
    have hm0 := hm
    obtain ⟨⟨es, c, seen, h1, h2, h3, h4, h5, h6, h7, h8⟩, hne, hS1⟩ := hm
    rcases run_next_at (P := P) w ty ib b c c seen es c h2 h1 (h4.lt) (Nat.le_refl _) with ⟨hz, hr⟩ | ⟨e, he, w1, hw1, hr⟩
    · have hl : left = [] := by
        have := h7.len
        rw [Array.length_toList, hz] at this
        exact List.eq_nil_of_length_eq_zero this.symm
      refine ⟨vtup [vbool false], h, .tuple #[.bool false], w, W, S, ?_, ⟨#[.bool false], rfl, rfl, trivial⟩, hs.sat, Run.refl hs.run.sub hs.run.bound, k0 hl⟩
      unfold execOp
      simp only [hxv, hr, Sem.run_bind, Result.andThen_ok, Sem.run_pure]
    · obtain ⟨i, hi, hei⟩ := List.getElem_of_mem he
      have hil : i < left.length := by rw [← h7.len]; exact hi
      obtain ⟨e1, e2⟩ := h7.at_ i hil hi
      rw [hei] at e1 e2
      have hib : ib < w.heap.size := (Array.getElem?_eq_some_iff.1 h2).1
      have hw1h : w1.heap = w.heap := by rcases hw1 with rfl | rfl <;> rfl
      have hrun : Run w W S (Go.ChangeMaps.setBlock w1 ib (.mapIter (some b) c (seen.push e.born) c)) W S := by
        have hSib : S ib := (hS ib).2 (.inl ((hS1 ib).2 (.inr rfl)))
        refine ⟨by rcases hw1 with rfl | rfl <;> rfl, by rcases hw1 with rfl | rfl <;> rfl, by rcases hw1 with rfl | rfl <;> rfl, by simp [Go.ChangeMaps.setBlock, hw1h], fun k hk hkS => ?_, fun _ _ _ => Iff.rfl, fun _ _ h => h, fun _ h => .inl h, hs.run.sub, fun k hk => by simp [Go.ChangeMaps.setBlock, hw1h]; exact hs.run.bound k hk⟩
        have : ib ≠ k := fun e => hkS (e ▸ hSib)
        simp [Go.ChangeMaps.setBlock, hw1h, Array.getElem?_setIfInBounds_ne this]
      have hev := hrun.evo hs.run.sub
      have hkeep : ∀ k, k ≠ ib → (Go.ChangeMaps.setBlock w1 ib (.mapIter (some b) c (seen.push e.born) c)).heap[k]? = w.heap[k]? := fun k hk => by
        simp [Go.ChangeMaps.setBlock, hw1h, Array.getElem?_setIfInBounds_ne (fun e => hk e.symm)]
      refine ⟨_, _, .tuple #[.bool true, e.key, e.val], _, W, S, ?_, ?_, ?_, hrun, k1 i hil⟩
      · unfold execOp
        simp only [hxv, hr, Sem.run_bind, Result.andThen_ok, Sem.run_pure]
      · exact ⟨#[.bool true, e.key, e.val], rfl, rfl, e1, VP.st _ hev e2, trivial⟩
      · refine (Sat.put (y := hmapI b ib encK encV m (left.eraseIdx i) (some left[i])) (S1 := S1) hj ?_ (q2.st hev fun k hk => hkeep k (fun e => hdj k ((hS1 k).2 (.inr e)) hk)) hdj).congr (fun k => (hS k).symm)
        refine ⟨⟨es, c, seen.push e.born, by rw [hkeep b hne]; exact h1, by simp [Go.ChangeMaps.setBlock, hw1h, hib], h3.st hev, h4, h5, h6, ?_, fun kv hkv => ?_⟩, hne, hS1⟩
        · have : (leftOf es (seen.push e.born)).toList = (leftOf es seen).toList.eraseIdx i := by
            have hnd : ((leftOf es seen).toList.map (·.born)).Nodup := by
              have := h4.nodup
              unfold leftOf
              rw [Array.toList_filter]
              exact (List.filter_sublist.map _).nodup this
            rw [← filter_ne_erase _ i hi hnd, hei]
            unfold leftOf
            rw [Array.toList_filter, Array.toList_filter, List.filter_filter]
            congr 1
            funext x
            simp [Array.contains_push, Bool.not_or, Bool.and_comm, eq_comm]
            congr 2
            by_cases hx : x.born = e.born
            · simp [hx]
            · have : ¬ e.born = x.born := fun h => hx h.symm
              simp [hx, this]
          rw [this]
          exact EntOk.erase i (h7.st hev)
        · cases hkv
          have hmem : e ∈ es.toList := by
            have := he
            unfold leftOf at this
            rw [Array.toList_filter] at this
            exact (List.mem_filter.1 this).1
          exact ⟨e, hmem, seen, rfl, e1, VP.st _ hev e2⟩
theorem entm {x : Operand} {b ib j : Nat} {kv : κ × ν} (hj : h[j]? = some (hmapI b ib encK encV m left (some kv))) (kk : EvL P fz B K ops rest ((d, vtup [vis (encK kv.1), encV kv.2]) :: σ) h) (hx : og σ x = some (vptr ib 0) := by rfl) (hd : Nat.ble (d + 1) fz = true := by rfl) (hg : Gk ops σ g := by first | exact gk0 | exact gk1 rfl rfl rfl (by assumption)) :
    EvL P fz B K ops (⟨some d, .entry x, ty, pos, af, g⟩ :: rest) σ h :=
  opp hd hg (fun a w W S hs => by
    have hxv : a.eval x = .pointer (some ⟨ib, 0, none⟩) := hs.eval hx
    obtain ⟨S1, S2, ⟨⟨es, c, seen, h1, h2, h3, h4, h5, h6, h7, h8⟩, hne, hS1⟩, q2, hdj, hS⟩ := Sat.pick hj hs.sat
    obtain ⟨e, g1, s', g2, g3, g4⟩ := h8 kv rfl
    subst g2
    refine ⟨.tuple #[e.key, e.val], ?_, #[e.key, e.val], rfl, g3, g4, trivial⟩
    unfold execOp
    simp only [hxv, run_entry_at (P := P) w ib b c s' es c e h2 h1 g1 h4.nodup, Sem.run_bind, Result.andThen_ok, Sem.run_pure]) kk
/-- the range is over: the map alone -/
theorem endm {b ib j : Nat} (hj : h[j]? = some (hmapI b ib encK encV m left last)) : ∀ {w : World} {W : WS} {S : Nat → Prop}, Sat w W h S → ∃ S', Sat w W (h.set j (hmap b encK encV m)) S' ∧ ∀ x, S' x → S x := by
  intro w W S hsat
  obtain ⟨S1, S2, ⟨⟨es, c, seen, h1, h2, h3, h4, h5, h6, h7, h8⟩, hne, hS1⟩, q2, hdj, hS⟩ := Sat.pick hj hsat
  refine ⟨_, Sat.put (y := hmap b encK encV m) (S1 := fun x => x = b) hj ⟨⟨es, c, h1, h3, h4, h5, h6⟩, fun _ => Iff.rfl⟩ q2 (fun x hx hx2 => hdj x ((hS1 x).2 (.inl hx)) hx2), ?_⟩
  rintro x (hx | hx)
  · exact (hS x).2 (.inl ((hS1 x).2 (.inl hx)))
  · exact (hS x).2 (.inr hx)
theorem endmC {c : Code} {b ib : Nat} (j : Nat) (hj : h[j]? = some (hmapI b ib encK encV m left last)) (kk : EvC P fz B K c σ (h.set j (hmap b encK encV m))) : EvC P fz B K c σ h :=
  fun a w W S hs => by
    obtain ⟨S', h1, h2⟩ := endm hj hs.sat
    exact kk a w W S' ⟨hs.tmps, hs.defers, hs.regs, h1, hs.run.less h2⟩
end
end Go.Proofs.YtagkniimpekhjaaGreat
