/- The plain law of the ledger's lists: each number where it comes first. -/
import Derived.Test.YtagkniimpekhjaaGreatM0
import Derived.Test.YtagkniimpekhjaaGreatS3
set_option linter.unusedVariables false
set_option linter.unusedSimpArgs false
namespace Go.Proofs.YtagkniimpekhjaaGreat
def stp (acc : List Int) (x : Int) : List Int := if acc.contains x then acc else acc ++ [x]
def ddf (acc l : List Int) : List Int := l.foldl stp acc
def dd (l : List Int) : List Int := ddf [] l
def metM (l : List Int) : List (Int × Unit) := l.map fun x => (x, ())
theorem mget_met (l : List Int) (x : Int) : (mget (metM l) x).isSome = l.contains x := by
  induction l with
  | nil => rfl
  | cons y l ih =>
    simp only [metM, List.map_cons, mget, List.contains_cons] at ih ⊢
    by_cases h : y = x
    · subst h; simp
    · rw [if_neg h, ih]
      have : (x == y) = false := by simpa using fun e => h e.symm
      rw [this, Bool.false_or]
theorem mset_met (l : List Int) (x : Int) : mset (metM l) x () = metM (stp l x) := by
  unfold stp
  by_cases h : l.contains x = true
  · rw [if_pos h]
    induction l with
    | nil => simp at h
    | cons y l ih =>
      simp only [metM, List.map_cons, mset]
      by_cases h2 : y = x
      · rw [if_pos h2, h2]
      · rw [if_neg h2]
        have : l.contains x = true := by
          rw [List.contains_cons] at h
          have : (x == y) = false := by simpa using fun e => h2 e.symm
          rwa [this, Bool.false_or] at h
        have := ih this
        unfold metM at this
        rw [this]
  · rw [if_neg h]
    have : mget (metM l) x = none := by
      have := mget_met l x
      rw [Bool.not_eq_true] at h
      rw [h] at this
      simpa using this
    rw [mset_new this]
    simp [metM]
theorem stp_no {acc : List Int} {x : Int} (h : acc.contains x = false) : stp acc x = acc ++ [x] := by unfold stp; rw [if_neg (by rw [h]; simp)]
theorem stp_yes {acc : List Int} {x : Int} (h : acc.contains x = true) : stp acc x = acc := by unfold stp; rw [if_pos h]
theorem ddf_snoc (acc l : List Int) (x : Int) : ddf acc (l ++ [x]) = stp (ddf acc l) x := by simp [ddf]
theorem dd_snoc (l : List Int) (x : Int) : dd (l ++ [x]) = stp (dd l) x := ddf_snoc [] l x
theorem ddf_app (acc l m : List Int) : ddf acc (l ++ m) = ddf (ddf acc l) m := by simp [ddf]
theorem take_succ' {l : List Int} {i : Nat} (h : i < l.length) : l.take (i + 1) = l.take i ++ [l[i]] := by rw [List.take_succ_eq_append_getElem h]
theorem dd_take {l : List Int} {i : Nat} (h : i < l.length) : dd (l.take (i + 1)) = stp (dd (l.take i)) l[i] := by rw [take_succ' h, dd_snoc]
theorem stp_len (acc : List Int) (x : Int) : (stp acc x).length ≤ acc.length + 1 := by
  unfold stp; split
  · omega
  · rw [List.length_append]; simp
theorem ddf_len : ∀ (l acc : List Int), (ddf acc l).length ≤ acc.length + l.length
  | [], acc => by simp [ddf]
  | x :: l, acc => by
    have h1 := ddf_len l (stp acc x)
    have h2 := stp_len acc x
    show (ddf (stp acc x) l).length ≤ _
    simp only [List.length_cons]
    omega
theorem dd_len (l : List Int) : (dd l).length ≤ l.length := by have := ddf_len l []; simpa [dd] using this
/-- the row while the doubled ones are taken out: what is kept, what is passed, what is to come -/
structure Dl (l : List Int) (j : Nat) (row : List Int) : Prop where
  le : j ≤ l.length
  len : row.length = l.length
  front : row.take (dd (l.take j)).length = dd (l.take j)
  back : row.drop j = l.drop j
theorem Dl.lt {l : List Int} {j : Nat} {row : List Int} (h : Dl l j row) : (dd (l.take j)).length ≤ j := by
  have h1 := dd_len (l.take j)
  have := h.le
  rw [List.length_take] at h1
  omega
theorem Dl.at_ {l : List Int} {j : Nat} {row : List Int} (h : Dl l j row) (hj : j < l.length) : row[j]'(by rw [h.len]; exact hj) = l[j] := by
  have h1 : (row.drop j)[0]? = (l.drop j)[0]? := by rw [h.back]
  rw [List.getElem?_drop, List.getElem?_drop] at h1
  have := h.len
  simpa [hj, this] using h1
theorem Dl.drop_ {l : List Int} {j : Nat} {row : List Int} (h : Dl l j row) (hj : j < l.length) (hc : (dd (l.take j)).contains l[j] = true) : Dl l (j + 1) row := by
  have h1 : dd (l.take (j + 1)) = dd (l.take j) := by rw [dd_take hj, stp_yes hc]
  refine ⟨hj, h.len, by rw [h1]; exact h.front, ?_⟩
  have := congrArg (List.drop 1) h.back
  simpa [List.drop_drop] using this
theorem Dl.keep_ {l : List Int} {j : Nat} {row : List Int} (h : Dl l j row) (hj : j < l.length) (hc : (dd (l.take j)).contains l[j] = false) : Dl l (j + 1) (row.set (dd (l.take j)).length l[j]) := by
  have h1 : dd (l.take (j + 1)) = dd (l.take j) ++ [l[j]] := by rw [dd_take hj, stp_no hc]
  have h2 := h.lt
  have h3 := h.len
  refine ⟨hj, by rw [List.length_set]; exact h.len, ?_, ?_⟩
  · rw [h1, List.length_append, List.length_singleton]
    have hlt : (dd (l.take j)).length < (row.set (dd (l.take j)).length l[j]).length := by rw [List.length_set]; omega
    rw [List.take_succ_eq_append_getElem hlt, List.getElem_set_self, List.take_set, h.front]
    congr 1
    exact List.set_eq_of_length_le (by omega)
  · have := congrArg (List.drop 1) h.back
    rw [List.drop_set_of_lt (by omega)]
    simpa [List.drop_drop] using this
theorem Dl.end_ {l row : List Int} (h : Dl l l.length row) : row.take (dd l).length = dd l := by
  have := h.front
  rwa [List.take_length] at this
theorem Dl.start {l : List Int} {i : Nat} (hi : i < l.length) (h : ∀ k, k ≤ i → dd (l.take k) = l.take k) (hc : (l.take i).contains l[i] = true) : Dl l (i + 1) l := by
  have h1 : dd (l.take (i + 1)) = l.take i := by rw [dd_take hi, h i (Nat.le_refl _), stp_yes hc]
  refine ⟨hi, rfl, ?_, rfl⟩
  rw [h1, List.length_take]
  congr 1
  omega
theorem dd_all {l : List Int} (h : ∀ k, k ≤ l.length → dd (l.take k) = l.take k) : dd l = l := by
  have := h l.length (Nat.le_refl _)
  rwa [List.take_length] at this
theorem dd_step_len {l : List Int} {j : Nat} (hj : j < l.length) : (dd (l.take (j + 1))).length ≤ (dd (l.take j)).length + 1 := by
  rw [dd_take hj]
  exact stp_len _ _
theorem dd_keep {l : List Int} {j : Nat} (hj : j < l.length) (hc : (dd (l.take j)).contains l[j] = false) : (dd (l.take (j + 1))).length = (dd (l.take j)).length + 1 := by
  rw [dd_take hj, stp_no hc, List.length_append]; rfl
theorem dd_drop {l : List Int} {j : Nat} (hj : j < l.length) (hc : (dd (l.take j)).contains l[j] = true) : (dd (l.take (j + 1))).length = (dd (l.take j)).length := by
  rw [dd_take hj, stp_yes hc]
theorem cut_fill {α : Type} (row ys zs : List α) {a : Nat} (h : a ≤ row.length) : (((row.take a ++ ys ++ zs).take a).drop 0) = row.take a := by
  rw [List.drop_zero, List.append_assoc, List.take_left' (by rw [List.length_take]; omega)]
theorem take_flat {ls : List (List Int)} {i : Nat} (h : i < ls.length) : (ls.take (i + 1)).flatten = (ls.take i).flatten ++ ls[i] := by
  rw [List.take_succ_eq_append_getElem h, List.flatten_append]
  show _ ++ (ls[i] ++ []) = _
  rw [List.append_nil]
theorem take_flat_len {ls : List (List Int)} {i : Nat} (h : i < ls.length) : (ls.take (i + 1)).flatten.length = (ls.take i).flatten.length + ls[i].length := by rw [take_flat h, List.length_append]
theorem flat_le (ls : List (List Int)) (i : Nat) : (ls.take i).flatten.length ≤ ls.flatten.length := by
  have : ls.flatten.length = (ls.take i).flatten.length + (ls.drop i).flatten.length := by rw [← List.length_append, ← List.flatten_append, List.take_append_drop]
  omega
theorem beq_no_len {a b : List Int} (h : (a.length : Int) ≠ b.length) : (a == b) = false := by
  rw [beq_eq_false_iff_ne]
  rintro rfl
  exact h rfl
theorem beq_no_at {a b : List Int} {i : Nat} (h1 : i < a.length) (h2 : i < b.length) (h : ¬ a[i] = b[i]) : (a == b) = false := by
  rw [beq_eq_false_iff_ne]
  rintro rfl
  exact h rfl
theorem beq_yes {a b : List Int} (hl : (a.length : Int) = b.length) (h : ∀ j (h : j < a.length) (h2 : j < b.length), a[j] = b[j]) : (a == b) = true := by
  rw [beq_iff_eq]
  exact List.ext_getElem (by omega) h
theorem ddf_nodup : ∀ (l acc : List Int), acc.Nodup → (ddf acc l).Nodup
  | [], acc, h => h
  | x :: l, acc, h => by
    refine ddf_nodup l (stp acc x) ?_
    unfold stp
    split
    · exact h
    · rename_i hc
      rw [List.nodup_append]
      refine ⟨h, by simp, fun a ha b hb => ?_⟩
      simp at hb
      subst hb
      rintro rfl
      exact hc (by simpa using ha)
theorem ddf_mem {x : Int} : ∀ (l acc : List Int), x ∈ ddf acc l ↔ x ∈ acc ∨ x ∈ l
  | [], acc => by simp [ddf]
  | y :: l, acc => by
    show x ∈ ddf (stp acc y) l ↔ _
    rw [ddf_mem l]
    unfold stp
    split
    · rename_i hc
      have hc : y ∈ acc := by simpa using hc
      simp only [List.mem_cons]
      constructor
      · rintro (h | h)
        · exact .inl h
        · exact .inr (.inr h)
      · rintro (h | rfl | h)
        · exact .inl h
        · exact .inl hc
        · exact .inr h
    · simp [or_assoc]
theorem ddf_in : ∀ (l acc : List Int), (∀ x ∈ l, x ∈ acc) → ddf acc l = acc
  | [], acc, _ => rfl
  | x :: l, acc, h => by
    show ddf (stp acc x) l = acc
    rw [stp_yes (by simpa using h x (List.mem_cons_self ..))]
    exact ddf_in l acc fun y hy => h y (List.mem_cons_of_mem _ hy)
theorem ddf_new : ∀ (l acc : List Int), (∀ x ∈ l, x ∉ acc) → l.Nodup → ddf acc l = acc ++ l
  | [], acc, _, _ => by simp [ddf]
  | x :: l, acc, h, hn => by
    show ddf (stp acc x) l = _
    have hx := h x (List.mem_cons_self ..)
    rw [stp_no (by simpa using hx)]
    have hn := List.nodup_cons.1 hn
    rw [ddf_new l (acc ++ [x]) (fun y hy hm => ?_) hn.2, List.append_assoc]; rfl
    rcases List.mem_append.1 hm with hm | hm
    · exact h y (List.mem_cons_of_mem _ hy) hm
    · simp at hm; subst hm; exact hn.1 hy
theorem dd_nodup (l : List Int) : (dd l).Nodup := ddf_nodup l [] List.nodup_nil
theorem dd_mem {x : Int} (l : List Int) : x ∈ dd l ↔ x ∈ l := by rw [dd, ddf_mem]; simp
theorem dd_of_nodup {l : List Int} (h : l.Nodup) : dd l = l := by rw [dd, ddf_new l [] (by simp) h]; rfl
theorem dd_dd (l : List Int) : dd (dd l) = dd l := dd_of_nodup (dd_nodup l)
/-- cleaning what is cleaned changes nothing: ddf over any accumulator -/
theorem ddf_dd : ∀ (l acc : List Int), ddf acc (dd l) = ddf acc l := by
  intro l
  have key : ∀ (l : List Int) (s acc : List Int), ddf acc (ddf s l) = ddf (ddf acc s) l := by
    intro l
    induction l with
    | nil => intro s acc; rfl
    | cons x l ih =>
      intro s acc
      show ddf acc (ddf (stp s x) l) = ddf (stp (ddf acc s) x) l
      rw [ih]
      congr 1
      by_cases h : s.contains x = true
      · rw [stp_yes h, stp_yes (by
          have : x ∈ ddf acc s := (ddf_mem s acc).2 (.inr (by simpa using h))
          simpa using this)]
      · rw [stp_no (by simpa using h), ddf_snoc]
  intro acc
  exact key l [] acc
theorem dd_parts (a b : List Int) : dd (dd a ++ dd b) = dd (a ++ b) := by
  show ddf [] (dd a ++ dd b) = ddf [] (a ++ b)
  rw [ddf_app, ddf_app, ddf_dd b]
  congr 1
  exact dd_dd a
theorem ddf_pre : ∀ (l acc : List Int), acc <+: ddf acc l
  | [], acc => List.prefix_rfl
  | x :: l, acc => by
    refine List.IsPrefix.trans ?_ (ddf_pre l (stp acc x))
    unfold stp
    split
    · exact List.prefix_rfl
    · exact List.prefix_append _ _
theorem dd_pre (a b : List Int) : dd a <+: dd (a ++ b) := by
  show dd a <+: ddf [] (a ++ b)
  rw [ddf_app]
  exact ddf_pre b _
theorem dd_count {x : Int} {l : List Int} (h : x ∈ l) : (dd l).count x = 1 := by rw [(dd_nodup l).count, if_pos ((dd_mem l).2 h)]
theorem count_take {l : List Int} {x : Int} {j : Nat} (h : j < l.length) : (l.take (j + 1)).count x = (l.take j).count x + (if l[j] = x then 1 else 0) := by
  rw [take_succ' h, List.count_append, List.count_singleton]
  congr 1
  by_cases h : l[j] = x <;> simp [h]
theorem count_take_le {l : List Int} {x : Int} (j : Nat) : (l.take j).count x ≤ l.length := by
  have h1 := List.count_le_length (a := x) (l := l.take j)
  rw [List.length_take] at h1
  omega
theorem flat1 (a : List Int) : [a].flatten = a := by simp
theorem flat2 (a b : List Int) : [a, b].flatten = a ++ b := by simp
theorem beg_pre {a b : List Int} (h : a <+: b) : (decide (a.length ≤ b.length) && (a == b.take a.length)) = true := by
  rw [Bool.and_eq_true, decide_eq_true_eq, beq_iff_eq]
  exact ⟨h.length_le, (List.prefix_iff_eq_take.1 h)⟩
theorem count_take_j {l : List Int} {x : Int} (j : Nat) : (l.take j).count x ≤ j := by
  have h1 := List.count_le_length (a := x) (l := l.take j)
  rw [List.length_take] at h1
  omega
end Go.Proofs.YtagkniimpekhjaaGreat

set_option linter.unusedVariables false
set_option linter.unusedSimpArgs false
namespace Go.Proofs.YtagkniimpekhjaaGreat
def cs1 (acc : List Int) (x : Int) : List Int := if acc.getLast? = some x then acc else acc ++ [x]
def cc (l : List Int) : List Int := l.foldl cs1 []
theorem cc_snoc (l : List Int) (x : Int) : cc (l ++ [x]) = cs1 (cc l) x := by simp [cc]
theorem cc_take {l : List Int} {i : Nat} (h : i < l.length) : cc (l.take (i + 1)) = cs1 (cc (l.take i)) l[i] := by rw [take_succ' h, cc_snoc]
theorem cs1_last (acc : List Int) (x : Int) : (cs1 acc x).getLast? = some x := by
  unfold cs1; split
  · assumption
  · simp
theorem cc_last {l : List Int} {i : Nat} (h : i < l.length) : (cc (l.take (i + 1))).getLast? = some l[i] := by rw [cc_take h]; exact cs1_last _ _
theorem cc_step {l : List Int} {i : Nat} (h0 : 0 < i) (h : i < l.length) : cc (l.take (i + 1)) = if l[i] = l[i - 1] then cc (l.take i) else cc (l.take i) ++ [l[i]] := by
  have h1 := cc_last (l := l) (i := i - 1) (by omega)
  rw [show i - 1 + 1 = i by omega] at h1
  rw [cc_take h]
  unfold cs1
  rw [h1]
  simp only [Option.some.injEq, eq_comm]
theorem cc_one {l : List Int} (h : 0 < l.length) : cc (l.take 1) = l.take 1 := by
  have := cc_take (l := l) (i := 0) h
  rw [this, List.take_succ_eq_append_getElem h]
  rfl
theorem cc_short {l : List Int} (h : l.length < 2) : cc l = l := by
  match l, h with
  | [], _ => rfl
  | [x], _ => rfl
structure Cl (l : List Int) (j : Nat) (row : List Int) : Prop where
  le : j ≤ l.length
  len : row.length = l.length
  lt : (cc (l.take j)).length < j
  front : row.take (cc (l.take j)).length = cc (l.take j)
  back : row.drop (cc (l.take j)).length = l.drop (cc (l.take j)).length
theorem Cl.at_ {l : List Int} {j : Nat} {row : List Int} (h : Cl l j row) {i : Nat} (h1 : (cc (l.take j)).length ≤ i) (h2 : i < l.length) : row[i]'(by rw [h.len]; exact h2) = l[i] := by
  have h3 : (row.drop (cc (l.take j)).length)[i - (cc (l.take j)).length]? = (l.drop (cc (l.take j)).length)[i - (cc (l.take j)).length]? := by rw [h.back]
  rw [List.getElem?_drop, List.getElem?_drop] at h3
  have := h.len
  rw [show (cc (l.take j)).length + (i - (cc (l.take j)).length) = i by omega] at h3
  simpa [h2, this] using h3
theorem Cl.start {l : List Int} {k : Nat} (h0 : 0 < k) (hk : k < l.length) (hc : cc (l.take k) = l.take k) (he : l[k] = l[k - 1]) : Cl l (k + 1) l ∧ (cc (l.take (k + 1))).length = k := by
  have h1 : cc (l.take (k + 1)) = l.take k := by rw [cc_step h0 hk, if_pos he, hc]
  have h2 : (cc (l.take (k + 1))).length = k := by rw [h1, List.length_take]; omega
  refine ⟨⟨by omega, rfl, by omega, ?_, rfl⟩, h2⟩
  rw [h2, h1]
theorem Cl.same {l : List Int} {j : Nat} {row : List Int} (h : Cl l j row) (hj : j < l.length) (he : l[j] = l[j - 1]) : Cl l (j + 1) row ∧ (cc (l.take (j + 1))).length = (cc (l.take j)).length := by
  have := h.lt
  have h1 : cc (l.take (j + 1)) = cc (l.take j) := by rw [cc_step (by omega) hj, if_pos he]
  rw [h1]
  exact ⟨⟨by omega, h.len, by rw [h1]; omega, by rw [h1]; exact h.front, by rw [h1]; exact h.back⟩, rfl⟩
theorem Cl.new {l : List Int} {j : Nat} {row : List Int} (h : Cl l j row) (hj : j < l.length) (he : ¬ l[j] = l[j - 1]) : Cl l (j + 1) (row.set (cc (l.take j)).length l[j]) ∧ (cc (l.take (j + 1))).length = (cc (l.take j)).length + 1 := by
  have := h.lt
  have h3 := h.len
  have h1 : cc (l.take (j + 1)) = cc (l.take j) ++ [l[j]] := by rw [cc_step (by omega) hj, if_neg he]
  have h2 : (cc (l.take (j + 1))).length = (cc (l.take j)).length + 1 := by rw [h1, List.length_append]; rfl
  refine ⟨⟨by omega, by rw [List.length_set]; exact h.len, by omega, ?_, ?_⟩, h2⟩
  · rw [h2, h1]
    have hlt : (cc (l.take j)).length < (row.set (cc (l.take j)).length l[j]).length := by rw [List.length_set]; omega
    rw [List.take_succ_eq_append_getElem hlt, List.getElem_set_self, List.take_set, h.front]
    congr 1
    exact List.set_eq_of_length_le (by omega)
  · rw [h2, List.drop_set_of_lt (by omega)]
    have := congrArg (List.drop 1) h.back
    simpa [List.drop_drop] using this
theorem Cl.end_ {l row : List Int} (h : Cl l l.length row) : row.take (cc l).length = cc l := by
  have := h.front
  rwa [List.take_length] at this
theorem cc_all {l : List Int} (h : cc (l.take l.length) = l.take l.length) : cc l = l := by rwa [List.take_length] at h
/-- sorted, each once -/
def srtD (l : List Int) : List Int := srtI (dd l)
theorem strict_unique : ∀ {l m : List Int}, l.Pairwise (· < ·) → m.Pairwise (· < ·) → (∀ x, x ∈ l ↔ x ∈ m) → l = m := by
  intro l m hl hm h
  refine List.Perm.eq_of_pairwise (le := fun a b => a ≤ b) (fun a b _ _ h1 h2 => Int.le_antisymm h1 h2) (hl.imp (fun h => Int.le_of_lt h)) (hm.imp (fun h => Int.le_of_lt h)) ?_
  exact (List.perm_ext_iff_of_nodup (hl.imp (fun h => Int.ne_of_lt h)) (hm.imp (fun h => Int.ne_of_lt h))).2 h
theorem srtD_strict (l : List Int) : (srtD l).Pairwise (· < ·) := by
  have h1 := srtI_sorted (dd l)
  have h2 : (srtI (dd l)).Nodup := (srtI_perm (dd l)).nodup_iff.2 (dd_nodup l)
  refine (h1.and h2).imp ?_
  rintro a b ⟨h, hne⟩
  simp only [leI, decide_eq_true_eq] at h
  omega
theorem srtD_mem {x : Int} (l : List Int) : x ∈ srtD l ↔ x ∈ l := by rw [srtD, (srtI_perm _).mem_iff, dd_mem]
theorem cc_strict : ∀ (l acc : List Int), l.Pairwise (· ≤ ·) → acc.Pairwise (· < ·) → (∀ a ∈ acc, ∀ b ∈ l, a ≤ b) → (l.foldl cs1 acc).Pairwise (· < ·) ∧ ∀ x, x ∈ l.foldl cs1 acc ↔ x ∈ acc ∨ x ∈ l
  | [], acc, _, h, _ => ⟨h, by simp⟩
  | y :: l, acc, hl, ha, hab => by
    have hl' := List.pairwise_cons.1 hl
    have hle : ∀ a ∈ acc, a ≤ y := fun a h => hab a h y (List.mem_cons_self ..)
    by_cases hc : acc.getLast? = some y
    · have hs : cs1 acc y = acc := by unfold cs1; rw [if_pos hc]
      have hy : y ∈ acc := List.mem_of_getLast? hc
      obtain ⟨h1, h2⟩ := cc_strict l acc hl'.2 ha (fun a h b hb => hab a h b (List.mem_cons_of_mem _ hb))
      simp only [List.foldl_cons, hs]
      refine ⟨h1, fun x => ?_⟩
      rw [h2, List.mem_cons]
      constructor
      · rintro (h | h)
        · exact .inl h
        · exact .inr (.inr h)
      · rintro (h | rfl | h)
        · exact .inl h
        · exact .inl hy
        · exact .inr h
    · have hs : cs1 acc y = acc ++ [y] := by unfold cs1; rw [if_neg hc]
      have hlt : ∀ a ∈ acc, a < y := by
        intro a h
        have h1 := hle a h
        rcases Int.lt_or_eq_of_le h1 with h2 | h2
        · exact h2
        · subst h2
          exfalso
          -- a is in acc, the greatest: it is the last
          cases hg : acc.getLast? with
          | none => rw [List.getLast?_eq_none_iff] at hg; subst hg; simp at h
          | some z =>
            have hz : z ≠ a := fun e => hc (by rw [hg, e])
            obtain ⟨pre, hpre⟩ := List.getLast?_eq_some_iff.1 hg
            subst hpre
            have hza := hle z (by simp)
            rcases List.mem_append.1 h with hm | hm
            · have := (List.pairwise_append.1 ha).2.2 a hm z (by simp)
              omega
            · simp at hm; exact hz hm.symm
      obtain ⟨h1, h2⟩ := cc_strict l (acc ++ [y]) hl'.2 (List.pairwise_append.2 ⟨ha, by simp, fun a h b hb => by simp at hb; subst hb; exact hlt a h⟩) (fun a h b hb => by
        rcases List.mem_append.1 h with h | h
        · exact hab a h b (List.mem_cons_of_mem _ hb)
        · simp at h; subst h; exact hl'.1 b hb)
      simp only [List.foldl_cons, hs]
      refine ⟨h1, fun x => ?_⟩
      rw [h2, List.mem_append, List.mem_cons]
      simp [or_assoc]
theorem cc_srt {l m : List Int} (h : ∀ x, x ∈ l ↔ x ∈ m) : cc (srtI l) = srtD m := by
  obtain ⟨h1, h2⟩ := cc_strict (srtI l) [] ((srtI_sorted l).imp (fun h => by simpa [leI] using h)) .nil (by simp)
  refine strict_unique h1 (srtD_strict m) fun x => ?_
  show x ∈ (srtI l).foldl cs1 [] ↔ _
  rw [h2, srtD_mem, ← h, (srtI_perm l).mem_iff]
  simp
end Go.Proofs.YtagkniimpekhjaaGreat
