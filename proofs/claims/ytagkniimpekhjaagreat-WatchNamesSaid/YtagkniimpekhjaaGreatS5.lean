/- A part of the proof: contracts over a program of the model. -/
import Derived.Test.YtagkniimpekhjaaGreatS3
import Derived.Test.YtagkniimpekhjaaGreatE15
import Derived.Sort.OwnSortedInts
set_option linter.unusedVariables false
set_option linter.unusedSectionVars false
set_option linter.unusedSimpArgs false
namespace Go.Proofs.YtagkniimpekhjaaGreat
open Go.RowKit Go.Sort

/-! ### slices.Sort over a row of ints of one's own -/
def SortC (P : Program) (fs : FuncId) : Prop :=
  (∀ (blk off cap : Nat) (zs : List Int) (w : World), Holds (Value.int .i64) w blk off zs.toArray → blk < w.heap.size → zs.length < 4611686018427387904 →
    Calls P fs #[.slice (some ⟨blk, off, none⟩) zs.length cap] w fun e w' => e = .returned (.tuple #[]) ∧ ∃ n os, w' = grow (putRow (Value.int .i64) (Sort.ahead w n) blk off (zs.mergeSort fun x y => decide (x ≤ y)).toArray) os) ∧
  (∀ (p : Option Addr) (cap : Nat) (w : World), Calls P fs #[.slice p 0 cap] w fun e w' => e = .returned (.tuple #[]) ∧ w' = w)
theorem heap_sorted {w : World} {g o n : Nat} {os : Array Obj} {cur : Array Value} {e : TypeId} {fr : Nat × Nat} (d : Array Int) (hb : w.heap[g]? = some (.cells cur e fr)) :
    (grow (putRow (Value.int .i64) (Sort.ahead w n) g o d) os).heap[g]? = some (.cells (putCells (Value.int .i64) o d cur) e fr) := by
  have hg : g < w.heap.size := (Array.getElem?_eq_some_iff.1 hb).1
  rw [heap_grow_old _ _ (by simpa using hg)]
  simp [putRow, mapBlock, Sort.ahead, Array.getElem?_modify, hb, onCells]
theorem sorted_run {w : World} {W : WS} {S : Nat → Prop} {g o n : Nat} {os : Array Obj} (d : Array Int) (hg : S g) (hsub : ∀ b, S b → W b) (hbd : ∀ b, W b → b < w.heap.size) : Run w W S (grow (putRow (Value.int .i64) (Sort.ahead w n) g o d) os) W S := by
  refine ⟨rfl, rfl, rfl, by simp, fun k hk hn => ?_, fun _ _ _ => Iff.rfl, fun _ _ h => h, fun _ h => .inl h, hsub, fun k hk => ?_⟩
  · rw [heap_grow_old _ _ (by simpa using hk)]
    have : g ≠ k := fun e => hn (e ▸ hg)
    simp [putRow, mapBlock, Sort.ahead, Array.getElem?_modify, this]
  · have := hbd k hk
    simp
    omega
theorem sort_fn {P : Program} {fs te : Nat} {v : Value} {l : List Int} (hs : SortC P fs) : Fn P fs [vis v] [hrow v te 1 eint l] fun r h' => r = vtup [] ∧ h' = [hrow v te 1 eint (srtI l)] := by
  intro w W S vs hv hsat hsub hbd
  obtain ⟨u, rfl, hu⟩ : ∃ u, vs = [u] ∧ u = v := by
    match vs, hv with
    | [u], ⟨h, _⟩ => exact ⟨u, rfl, h⟩
  subst hu
  obtain ⟨S1, S2, hrow, h2, hd, hS⟩ := hsat
  have hS2 : ∀ b, S b ↔ S1 b := fun b => ⟨fun h => ((hS b).1 h).resolve_right (h2 b), fun h => (hS b).2 (.inl h)⟩
  have hSS : S = S1 := funext fun b => propext (hS2 b)
  subst hSS
  rcases hrow with ⟨rfl, rfl, h3⟩ | ⟨g, o, c, cs, rfl, h3, h4, h5, h6, h7, h8, h9⟩
  · refine (hs.2 none 0 w).mono ?_
    rintro e w' ⟨rfl, rfl⟩
    exact ⟨_, vtup [], _, W, S, rfl, ⟨#[], rfl, trivial⟩, ⟨rfl, rfl⟩, ⟨S, S2, .inl ⟨rfl, rfl, h3⟩, h2, hd, hS⟩, Run.refl hsub hbd⟩
  · have hg : g < w.heap.size := (Array.getElem?_eq_some_iff.1 h4).1
    have hcell : ∀ j (hj : j < l.length), cs[o + j]? = some (.int .i64 l[j]) := by
      intro j hj
      have := (h8 j hj).2
      rw [Nat.mul_one] at this
      cases hx : cs.toList.drop (o + j) with
      | nil => rw [hx] at this; exact this.elim
      | cons x xs =>
        rw [hx] at this
        have hxe : x = .int .i64 l[j] := this.1
        have h0 : (cs.toList.drop (o + j))[0]? = some x := by rw [hx]; rfl
        rw [List.getElem?_drop, Nat.add_zero, Array.getElem?_toList] at h0
        rw [h0, hxe]
    have hH : Holds (Value.int .i64) w g o l.toArray := by
      intro j hj
      have hj' : j < l.length := by simpa using hj
      refine ⟨?_, froz_at h4 _⟩
      rw [cell_at h4, hcell j hj']
      simp [hj']
    refine (hs.1 g o c l w hH hg (by omega)).mono ?_
    rintro e w' ⟨rfl, n, os, rfl⟩
    rw [srtI_eq (List.Perm.refl l)]
    have hsl : (srtI l).length = l.length := srtI_len l
    have hr : Run w W S (grow (putRow (Value.int .i64) (Sort.ahead w n) g o (srtI l).toArray) os) W S := sorted_run _ ((h9 g).2 rfl) hsub hbd
    refine ⟨_, vtup [], _, W, S, rfl, ⟨#[], rfl, trivial⟩, ⟨rfl, rfl⟩, ⟨S, S2, ?_, h2, hd, hS⟩, hr⟩
    have hpc : ∀ j, (putCells (Value.int .i64) o (srtI l).toArray cs)[j]? = if o ≤ j ∧ j < o + l.length then (srtI l)[j - o]?.map (Value.int .i64) else cs[j]? := by
      intro j
      unfold putCells
      rw [Array.getElem?_mapIdx]
      by_cases hj : o ≤ j ∧ j < o + l.length
      · have hlt : j < cs.size := by omega
        rw [if_pos hj]
        have hlt2 : j - o < (srtI l).length := by omega
        simp [hlt, hsl, hj.1, hj.2]
        rw [List.getElem?_eq_getElem hlt2]
        rfl
      · rw [if_neg hj]
        cases hc : cs[j]? with
        | none => rfl
        | some x =>
          simp only [Option.map_some]
          rw [if_neg (by simpa [hsl] using hj)]
    refine .inr ⟨g, o, c, _, by rw [hsl], by rw [hsl]; exact h3, heap_sorted _ h4, by simpa [putCells] using h5, fun u hu => ?_, by rw [hsl]; exact h7, fun i hi => ⟨rfl, ?_⟩, h9⟩
    · rw [hsl] at hu
      obtain ⟨j, hj, hu⟩ := mem_seg.1 hu
      rw [Array.getElem?_toList, hpc, if_pos (by omega)] at hu
      obtain ⟨x, _, rfl⟩ := Option.map_eq_some_iff.1 hu
      rfl
    · rw [hsl] at hi
      have h0 := hpc (o + i)
      rw [if_pos (by omega), show o + i - o = i by omega, List.getElem?_eq_getElem (by omega), Option.map_some] at h0
      rw [Nat.mul_one]
      rw [← Array.getElem?_toList] at h0
      obtain ⟨hlt, hx⟩ := List.getElem?_eq_some_iff.1 h0
      rw [List.drop_eq_getElem_cons hlt, hx]
      exact ⟨rfl, trivial⟩
end Go.Proofs.YtagkniimpekhjaaGreat
