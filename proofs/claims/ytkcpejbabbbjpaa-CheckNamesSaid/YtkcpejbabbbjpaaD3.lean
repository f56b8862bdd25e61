/- A part of the proof: contracts over a program of the model. -/
import Derived.Test.YtkcpejbabbbjpaaD2
import Derived.Test.YtkcpejbabbbjpaaE21
import Derived.Test.YtkcpejbabbbjpaaProg
set_option linter.unusedVariables false
set_option linter.unusedSimpArgs false
namespace Go.Proofs.Ytkcpejbabbbjpaa
open Go.RowKit
theorem G123 : isGo PP 123 = true := by kernel_rfl
theorem G124 : isGo PP 124 = true := by kernel_rfl
theorem G125 : isGo PP 125 = true := by kernel_rfl
theorem G142 : isGo PP 142 = true := by kernel_rfl
theorem G143 : isGo PP 143 = true := by kernel_rfl
theorem G145 : isGo PP 145 = true := by kernel_rfl
theorem G146 : isGo PP 146 = true := by kernel_rfl
theorem G87 : isGo PP 87 = true := by kernel_rfl
theorem M181 : tMap PP 181 3 4 = true := by kernel_rfl
theorem T22 : tOne PP 22 = true := by kernel_rfl
theorem T72 : tOne PP 72 = true := by kernel_rfl
theorem Z3 : zOk PP 3 [.int .i64 0] := zOk_mk (by kernel_rfl) rfl
theorem c_All {tb et mb : Nat} {pS : VP} {m : List (Tri × Int)} {kind view : Int} (hsort : SortC PP 115) (hm : m.length ≤ 1000000) : Fn PP 127 [vptr tb 0, vint .i64 kind, vint .i64 view] [hvar tb et [pS, vmap mb], hmap mb eTri vI m] fun r h' => ∃ v, v.oneCell' = true ∧ (whoL (fun b _ => b.a == kind && b.b == view) m = [] → v = .slice none 0 0) ∧ r = vis v ∧ h' = [hrow v 3 1 eint (whoL (fun b _ => b.a == kind && b.b == view) m), hvar tb et [pS, vmap mb], hmap mb eTri vI m] := by
  refine Fn.body Try.func127 rfl Try.ntmps127 rfl fun B => ?_
  refine seq ?_
  refine region ?_
  refine box1 (one_vis rfl) (fun b1 => ?_)
  refine box1 (one_vis rfl) (fun b2 => ?_)
  refine asg ?_
  refine done ?_
  refine nxt ?_
  refine seq ?_
  refine region ?_
  refine mv ?_
  refine mkfn [] [.pointer (some ⟨b1, 0, none⟩), .pointer (some ⟨b2, 0, none⟩)] ?_
  refine packL (.cons 1 rfl (.cons 0 rfl (.nil))) ?_
  refine call (c_who (ws := [.pointer (some ⟨b1, 0, none⟩), .pointer (some ⟨b2, 0, none⟩)]) (p := fun b _ => b.a == kind && b.b == view) hsort hm G145 (fun b x => fn_all c_All1)) G125 (.cons 1 rfl (.cons 1 rfl (.cons 0 rfl (.nil)))) (fun r h' hp => ?_)
  obtain ⟨v, hv, hv0, rfl, rfl⟩ := hp
  refine asg ?_
  refine done ?_
  refine nxt ?_
  refine ret ?_
  exact ⟨_, _, _, .cons (.tmp rfl) .nil, .cons 0 rfl (.cons 0 rfl (.cons 0 rfl (.nil))), v, hv, hv0, rfl, rfl⟩

theorem c_Who {tb et mb : Nat} {pS : VP} {m : List (Tri × Int)} {kind view val : Int} (hsort : SortC PP 115) (hm : m.length ≤ 1000000) : Fn PP 129 [vptr tb 0, vint .i64 kind, vint .i64 view, vint .i64 val] [hvar tb et [pS, vmap mb], hmap mb eTri vI m] fun r h' => ∃ v, v.oneCell' = true ∧ (whoL (fun b x => b.a == kind && b.b == view && x == val) m = [] → v = .slice none 0 0) ∧ r = vis v ∧ h' = [hrow v 3 1 eint (whoL (fun b x => b.a == kind && b.b == view && x == val) m), hvar tb et [pS, vmap mb], hmap mb eTri vI m] := by
  refine Fn.body Try.func129 rfl Try.ntmps129 rfl fun B => ?_
  refine seq ?_
  refine region ?_
  refine box1 (one_vis rfl) (fun b1 => ?_)
  refine box1 (one_vis rfl) (fun b2 => ?_)
  refine box1 (one_vis rfl) (fun b3 => ?_)
  refine asg ?_
  refine done ?_
  refine nxt ?_
  refine seq ?_
  refine region ?_
  refine mv ?_
  refine mkfn [] [.pointer (some ⟨b1, 0, none⟩), .pointer (some ⟨b2, 0, none⟩), .pointer (some ⟨b3, 0, none⟩)] ?_
  refine packL (.cons 2 rfl (.cons 1 rfl (.cons 0 rfl (.nil)))) ?_
  refine call (c_who (ws := [.pointer (some ⟨b1, 0, none⟩), .pointer (some ⟨b2, 0, none⟩), .pointer (some ⟨b3, 0, none⟩)]) (p := fun b x => b.a == kind && b.b == view && x == val) hsort hm G146 (fun b x => fn_all c_Who1)) G125 (.cons 1 rfl (.cons 1 rfl (.cons 0 rfl (.nil)))) (fun r h' hp => ?_)
  obtain ⟨v, hv, hv0, rfl, rfl⟩ := hp
  refine asg ?_
  refine done ?_
  refine nxt ?_
  refine ret ?_
  exact ⟨_, _, _, .cons (.tmp rfl) .nil, .cons 0 rfl (.cons 0 rfl (.cons 0 rfl (.nil))), v, hv, hv0, rfl, rfl⟩

theorem c_Keys {sb : Nat} : Fn PP 143 [vmap sb] [] fun r h' => ∃ b, r = vfn 159 [] [.pointer (some ⟨b, 0, none⟩)] ∧ h' = [hvar b 181 [vmap sb]] := by
  refine Fn.body Try.func143 rfl Try.ntmps143 rfl fun B => ?_
  refine seq ?_
  refine region ?_
  refine box1 (one_vis rfl) (fun b1 => ?_)
  refine asg ?_
  refine done ?_
  refine nxt ?_
  refine seq ?_
  refine region ?_
  refine mkfn [] [.pointer (some ⟨b1, 0, none⟩)] ?_
  refine asg ?_
  refine done ?_
  refine nxt ?_
  refine ret ?_
  exact ⟨_, _, _, .cons (.tmp rfl) .nil, .cons 0 rfl .nil, _, rfl, rfl⟩

def vB (b : Bool) : VP := vbool b
structure VwI (m left : List (Tri × Int)) (seen : List (Int × Bool)) : Prop where
  mem : ∀ y, (y ∈ seen.map (·.1) ∨ ∃ kv ∈ left, kv.1.b = y) ↔ y ∈ m.map (·.1.b)
  len : seen.length + left.length ≤ m.length
  nd : (seen.map (·.1)).Nodup
theorem VwI.start (m : List (Tri × Int)) : VwI m m [] := ⟨fun y => by simp, by simp, .nil⟩
theorem VwI.step {m left : List (Tri × Int)} {seen : List (Int × Bool)} (h : VwI m left seen) {i : Nat} (hi : i < left.length) : VwI m (left.eraseIdx i) (mset seen left[i].1.b true) := by
  have hl := congrArg List.length (mset_keys (m := seen) (k := left[i].1.b) (v := true))
  refine ⟨fun y => ?_, ?_, mset_nodup h.nd⟩
  · rw [← h.mem y, mset_keys]
    have hk : y ∈ (if mget seen left[i].1.b = none then seen.map (·.1) ++ [left[i].1.b] else seen.map (·.1)) ↔ y ∈ seen.map (·.1) ∨ y = left[i].1.b := by
      split
      · simp
      · rename_i hn
        rw [mget_mem] at hn
        constructor
        · exact .inl
        · rintro (h | rfl)
          · exact h
          · exact Classical.not_not.1 hn
    rw [hk]
    constructor
    · rintro ((hm | rfl) | ⟨kv, hk, h1⟩)
      · exact .inl hm
      · exact .inr ⟨left[i], List.getElem_mem hi, rfl⟩
      · exact .inr ⟨kv, (mem_erase left i hi kv).2 (.inr hk), h1⟩
    · rintro (hm | ⟨kv, hk, h1⟩)
      · exact .inl (.inl hm)
      · rcases (mem_erase left i hi kv).1 hk with rfl | hk
        · exact .inl (.inr h1.symm)
        · exact .inr ⟨kv, hk, h1⟩
  · have := h.len
    rw [List.length_eraseIdx_of_lt hi]
    rw [List.length_map] at hl
    split at hl
    · rw [List.length_append, List.length_map, List.length_singleton] at hl; omega
    · rw [List.length_map] at hl; omega
theorem VwI.end_ {m : List (Tri × Int)} {seen : List (Int × Bool)} (h : VwI m [] seen) : srtI (seen.map (·.1)) = viewsL m := by
  refine strict_unique ?_ (srtD_strict _) fun x => ?_
  · have h1 := srtI_sorted (seen.map (·.1))
    have h2 : (srtI (seen.map (·.1))).Nodup := (srtI_perm _).nodup_iff.2 h.nd
    refine (h1.and h2).imp ?_
    rintro a b ⟨h, hne⟩
    simp only [leI, decide_eq_true_eq] at h
    omega
  · unfold viewsL
    rw [(srtI_perm _).mem_iff, srtD_mem, ← h.mem x]
    simp
/-- slices.Sorted(maps.Keys(m)), as one row -/
theorem sortKeys_row {P : Program} {fs fk kt te tm b0 mb : Nat} {ν : Type} {encV : ν → VP} {m : List (Int × ν)} (hkt : P.underlying kt = some (.int .i64)) (hk : SortKeysC P fs fk kt te) (hwf : ∀ x ∈ m, (Lit.int .i64 x.1).wf = true) (hlen : m.length ≤ 1000000) :
    Fn P fs [vfn fk [] [.pointer (some ⟨b0, 0, none⟩)]] [hvar b0 tm [vmap mb], hmap mb eI encV m] fun r h' => ∃ v, v.oneCell' = true ∧ (m = [] → v = .slice none 0 0) ∧ r = vis v ∧ h' = [hrow v te 1 eint (srtI (m.map (·.1))), hvar b0 tm [vmap mb], hmap mb eI encV m] := by
  intro w W S vs hv hsat hsub hbd
  refine (sortKeys_fn hkt hk hwf hlen w W S vs hv hsat hsub hbd).mono ?_
  rintro e w' ⟨v, r, h', W', S', he, hr, hp, hs, hrun⟩
  rcases hp with ⟨rfl, rfl, rfl⟩ | ⟨hm, g, c, rfl, rfl⟩
  · exact ⟨v, _, _, W', S', he, hr, ⟨_, rfl, fun _ => rfl, rfl, rfl⟩, Sat.cons0 (.inl ⟨rfl, rfl, fun _ h => h⟩) hs, hrun⟩
  · exact ⟨v, _, _, W', S', he, hr, ⟨_, rfl, fun h => (hm h).elim, rfl, rfl⟩, hs, hrun⟩

theorem c_views {tb et mb : Nat} {pS : VP} {m : List (Tri × Int)} (hk : SortKeysC PP 87 159 3 3) (hm : m.length ≤ 1000000) (hok : ∀ kv ∈ m, okI64 kv.1.b = true) : Fn PP 124 [vptr tb 0] [hvar tb et [pS, vmap mb], hmap mb eTri vI m] fun r h' => ∃ v, v.oneCell' = true ∧ (m = [] → v = .slice none 0 0) ∧ r = vis v ∧ h' = [hrow v 3 1 eint (viewsL m), hvar tb et [pS, vmap mb], hmap mb eTri vI m] := by
  refine Fn.body Try.func124 rfl Try.ntmps124 rfl fun B => ?_
  refine seq ?_
  refine region ?_
  refine asg ?_
  refine done ?_
  refine nxt ?_
  refine seq ?_
  refine region ?_
  refine mkmap eI vB (fun sb => ?_)
  refine asg ?_
  refine done ?_
  refine nxt ?_
  refine seq ?_
  refine seq ?_
  refine region ?_
  refine mv ?_
  refine nilck ?_
  refine fa F139_1 ?_
  refine ld1 (j := 1) T137 rfl ?_
  refine rngm (j := 2) M137 rfl (fun ib => ?_)
  refine done ?_
  refine nxt ?_
  refine block ?_
  refine lp (ι := List (Tri × Int) × Option (Tri × Int) × List (Int × Bool)) (fun x => VwI m x.1 x.2.2) (fun x => [(10, vptr ib 0), (3, vmap sb)]) (fun x => [hmap sb eI vB x.2.2, hvar tb et [pS, vmap mb], hmapI mb ib eTri vI m x.1 x.2.1]) (fun x => x.1.length) (m, none, []) (VwI.start m) ⟨rfl, rfl, trivial⟩ (rfl) (fun x hI => ?_)
  have hW := hI
  have hlen0 := hW.len
  refine seq ?_
  refine region ?_
  refine nxtm (j := 2) rfl (fun hl1 => ?_) (fun i2 hi3 => ?_)
  · skip
    refine ext ?_
    refine done ?_
    refine nxt ?_
    refine seq ?_
    refine cond (fun h4 => ?_) (fun h4 => ?_)
    · cases h4
    · skip
      refine exit ?_
      refine kt ?_
      refine kq ?_
      refine kbx ?_
      refine nxt ?_
      refine seq ?_
      refine endmC 2 rfl ?_
      have hlen := hW.len
      have hW0 : VwI m [] x.2.2 := hl1 ▸ hW
      have hwf : ∀ y ∈ x.2.2, (Lit.int .i64 y.1).wf = true := fun y hy => by
        have h1 := (hW0.mem y.1).1 (.inl (List.mem_map.2 ⟨y, hy, rfl⟩))
        obtain ⟨kv, hk, he⟩ := List.mem_map.1 h1
        rw [← he]
        exact okI64_wf (hok kv hk)
      refine region ?_
      refine mv ?_
      refine call c_Keys G143 .nil (fun r h' hp => ?_)
      obtain ⟨kb, rfl, rfl⟩ := hp
      refine call (sortKeys_row (by kernel_rfl) hk hwf (by omega)) G87 (.cons 0 rfl (.cons 0 rfl (.nil))) (fun r h' hp => ?_)
      obtain ⟨v, hv, hv0, rfl, rfl⟩ := hp
      refine asg ?_
      refine done ?_
      refine nxt ?_
      refine ret ?_
      refine ⟨_, _, _, .cons (.tmp rfl) .nil, .cons 0 rfl (.cons 2 rfl (.cons 2 rfl (.nil))), v, hv, ?_, rfl, ?_⟩
      · intro e; refine hv0 ?_; have h1 := hlen; rw [e] at h1; simp at h1; exact h1.1
      · rw [hW0.end_]
  · skip
    refine ext ?_
    refine done ?_
    refine nxt ?_
    refine seq ?_
    refine cond (fun h5 => ?_) (fun h5 => ?_)
    · skip
      refine skip ?_
      refine nxt ?_
      refine block ?_
      refine seq ?_
      refine region ?_
      refine entm (j := 2) rfl ?_
      refine ext ?_
      refine alloc Z175 (fun b6 => ?_)
      refine regw 14 (tri_agg _) ?_
      refine stA (j := 0) T175 rfl ?_
      refine done ?_
      refine nxt ?_
      refine region ?_
      refine mv ?_
      refine fa F175_1 ?_
      refine ld1 (j := 0) T3 rfl ?_
      refine mst (j := 1) _ true M181 (keyInt (by kernel_rfl)) rfl (by omega) ?_
      refine done ?_
      refine kbn ?_
      refine lpe (x.1.eraseIdx i2, some x.1[i2], mset x.2.2 x.1[i2].1.b true) (hW.step hi3) (by dsimp only; rw [List.length_eraseIdx_of_lt (by assumption)]; omega) ⟨rfl, rfl, trivial⟩ (.cons 1 rfl (.cons 1 rfl (.cons 1 rfl (.nil)))) (rfl)
    · cases h5

def bwd (l : List Int) : List (Int × Nat) := l.zipIdx.reverse
def pxB (x : Int × Nat) : List VP := [vint .i64 (x.2 : Int), vint .i64 x.1]
theorem bwd_len (l : List Int) : (bwd l).length = l.length := by simp [bwd]
theorem bwd_at {l : List Int} {i : Nat} (h : i < l.length) : (bwd l)[i]? = some (l[l.length - 1 - i]'(by omega), l.length - 1 - i) := by
  unfold bwd
  rw [List.getElem?_reverse (by simpa using h)]
  simp only [List.length_zipIdx, List.getElem?_zipIdx, Nat.zero_add]
  rw [List.getElem?_eq_getElem (by omega)]
  rfl
theorem bwd_mem {l : List Int} {x : Int × Nat} {i : Nat} (h : (bwd l)[i]? = some x) : x.1 ∈ l := by
  have := List.mem_of_getElem? h
  unfold bwd at this
  rw [List.mem_reverse] at this
  obtain ⟨_, _, h2⟩ := List.mem_zipIdx this
  rw [h2]
  exact List.getElem_mem _

theorem c_Backward {v : Value} (hv : v.oneCell' = true) : Fn PP 123 [vis v] [] fun r h' => ∃ b, r = vfn 142 [] [.pointer (some ⟨b, 0, none⟩)] ∧ h' = [hvar b 22 [vis v]] := by
  refine Fn.body Try.func123 rfl Try.ntmps123 rfl fun B => ?_
  refine seq ?_
  refine region ?_
  refine box1 (one_vis hv) (fun b1 => ?_)
  refine asg ?_
  refine done ?_
  refine nxt ?_
  refine seq ?_
  refine region ?_
  refine mkfn [] [.pointer (some ⟨b1, 0, none⟩)] ?_
  refine asg ?_
  refine done ?_
  refine nxt ?_
  refine ret ?_
  exact ⟨_, _, _, .cons (.tmp rfl) .nil, .cons 0 rfl .nil, _, rfl, rfl⟩

theorem c_Back1 {v : Value} {c y : Nat} {l : List Int} {J : Nat → HP} {Jx : HP} (hv : v.oneCell' = true) (hl : l.length ≤ 1000000) (hr : Rounds PP y pxB J Jx (bwd l)) : Fn PP 142 [vyield y, vptr c 0] [J 0, hvar c 22 [vis v], hrow v 3 1 eint l] fun _ h' => h' = [J (bwd l).length, hvar c 22 [vis v], hrow v 3 1 eint l] ∨ h' = [Jx, hvar c 22 [vis v], hrow v 3 1 eint l] := by
  refine Fn.body Try.func142 rfl Try.ntmps142 rfl fun B => ?_
  refine seq ?_
  refine region ?_
  refine ld1 (j := 1) T22 rfl ?_
  refine lnw (j := 2) S22 rfl (fun h1 => ?_)
  refine sub ?_
  refine asg ?_
  refine done ?_
  refine nxt ?_
  refine block ?_
  refine lp (ι := Nat) (fun i => i ≤ l.length) (fun i => [(3, vint .i64 ((l.length : Int) - 1 - i)), (0, vyield y), (1, vptr c 0)]) (fun i => [J i, hvar c 22 [vis v], hrow v 3 1 eint l]) (fun i => l.length - i) 0 (Nat.zero_le _) ⟨(congrArg (fun z : Int => some (vint .i64 z)) (by omega)), rfl, rfl, trivial⟩ (rfl) (fun i hI => ?_)
  refine seq ?_
  refine seq ?_
  refine region ?_
  refine mv ?_
  refine geq ?_
  refine done ?_
  refine nxt ?_
  refine cond (fun h2 => ?_) (fun h2 => ?_)
  · have h2k := h2
    try simp at h2
    refine skip ?_
    refine nxt ?_
    refine seq ?_
    refine block ?_
    refine seq ?_
    refine region ?_
    refine mv ?_
    refine mv ?_
    refine reint (b := ((l.length - 1 - i : Nat) : Int)) (by omega) ?_
    refine ld1 (j := 1) T22 rfl ?_
    refine mv ?_
    refine reint (b := ((l.length - 1 - i : Nat) : Int)) (by omega) ?_
    refine ixw2 (j := 2) S22 rfl (fun hi3 => ?_)
    refine lw12 (j := 2) T3 rfl ?_
    refine callyB (i := i) (x := (l[l.length - 1 - i]'(by omega), l.length - 1 - i)) (j := 0) hr (bwd_at (by omega)) rfl (fun bb => ?_)
    refine not_ ?_
    refine done ?_
    refine nxt ?_
    refine cond (fun h4 => ?_) (fun h4 => ?_)
    · have h4k := h4
      try simp at h4
      refine ret ?_
      refine kbr ?_
      refine kt ?_
      refine kq ?_
      refine kbr ?_
      have hbb : bb = false := by simpa using h4k
      subst hbb
      exact ⟨_, _, _, .nil, .cons 0 rfl (.cons 0 rfl (.cons 0 rfl (.nil))), .inr rfl⟩
    · have h4k := h4
      try simp at h4
      refine skip ?_
      refine kbn ?_
      refine nxt ?_
      refine region ?_
      refine mv ?_
      refine sub ?_
      refine asg ?_
      refine done ?_
      have hbb : bb = true := by simpa using h4k
      subst hbb
      refine lpe (i + 1) (by omega) (by omega) ⟨(congrArg (fun z : Int => some (vint .i64 z)) (by omega)), rfl, rfl, trivial⟩ (.cons 0 rfl (.cons 0 rfl (.cons 0 rfl (.nil)))) (rfl)
  · have h2k := h2
    try simp at h2
    refine exit ?_
    refine kt ?_
    refine kq ?_
    refine kbx ?_
    exact ⟨_, _, _, .nil, .cons 0 rfl (.cons 0 rfl (.cons 0 rfl (.nil))), .inl (by rw [bwd_len, show l.length = i by omega])⟩

theorem it_Back {v : Value} {c : Nat} {l : List Int} (hv : v.oneCell' = true) (hl : l.length ≤ 1000000) : IterFn PP 142 [.pointer (some ⟨c, 0, none⟩)] [hvar c 22 [vis v], hrow v 3 1 eint l] [hvar c 22 [vis v], hrow v 3 1 eint l] pxB (bwd l) :=
  fun y J Jx hr => c_Back1 hv hl hr
theorem views_le {m : List (Tri × Int)} {view x : Int} (hv : ∀ kv ∈ m, kv.1.b ≤ view) (h : x ∈ viewsL m) : x ≤ view := by
  unfold viewsL at h
  rw [srtD_mem] at h
  obtain ⟨kv, hk, rfl⟩ := List.mem_map.1 h
  exact hv kv hk
theorem dd_le (l : List Int) : (dd l).length ≤ l.length := dd_len l
theorem viewsL_len (m : List (Tri × Int)) : (viewsL m).length ≤ m.length := by
  unfold viewsL srtD
  rw [srtI_len]
  have := dd_le (m.map (·.1.b))
  rwa [List.length_map] at this

theorem c_Ahead0 {tb et mb : Nat} {pS : VP} {m : List (Tri × Int)} {view : Int} (hk : SortKeysC PP 87 159 3 3) (hm : m.length ≤ 1000000) (hok : ∀ kv ∈ m, okI64 kv.1.b = true) (hvw : ∀ kv ∈ m, kv.1.b ≤ view) : Fn PP 97 [vptr tb 0, vint .i64 view] [hvar tb et [pS, vmap mb], hmap mb eTri vI m] fun r h' => r = vint .i64 view ∧ h' = [hvar tb et [pS, vmap mb], hmap mb eTri vI m] := by
  refine Fn.bodyF Try.func97 rfl Try.ntmps97 rfl fun B hro => ?_
  refine seqF ?_
  refine evf (fun B => ?_)
  refine region ?_
  refine box1 (one_vis rfl) (fun b1 => ?_)
  refine box1 (one_vis rfl) (fun b2 => ?_)
  refine alloc Z3 (fun b3 => ?_)
  refine done ?_
  refine nxtF ?_
  refine seqF ?_
  refine seqF ?_
  refine evf (fun B => ?_)
  refine region ?_
  refine ld1 (j := 2) T72 rfl ?_
  refine call (c_views hk hm hok) G124 (.cons 3 rfl (.cons 3 rfl (.nil))) (fun r h' hp => ?_)
  obtain ⟨v, hv, hv0, rfl, rfl⟩ := hp
  refine call (c_Backward hv) G123 .nil (fun r h' hp => ?_)
  obtain ⟨c, rfl, rfl⟩ := hp
  refine done ?_
  refine nxtF ?_
  refine blockF ?_
  refine rangeF0 hro (it_Back hv (Nat.le_trans (viewsL_len m) hm)) G142  (fun _ _ => False) (.cons 0 rfl (.cons 0 rfl (.nil))) (fun _ => rfl) (fun i x hi B => ?_) ?_ ?_
  · skip
    have hle : x.1 ≤ view := views_le hvw (bwd_mem hi)
    have hnot : decide (view < x.1) ≠ true := by simp; omega
    refine region ?_
    refine alloc Z3 (fun b4 => ?_)
    refine st1 (j := 0) T3 rfl (one_vis rfl) ?_
    refine done ?_
    refine fun B => ?_
    refine block ?_
    refine seq ?_
    apply drw [some _, some _, some _, some _, none, none, none, none, none, none, none, none, some _] MIX
    refine .cons (fun B => ?_) ?_
    · skip
      refine ld1 (j := 0) T3 rfl ?_
      refine done ?_
      exact kfct rfl rfl
    refine .cons (fun B => ?_) ?_
    · skip
      refine ld1 (j := 4) T3 rfl ?_
      refine done ?_
      exact kfct rfl rfl
    refine .cons (fun B => ?_) ?_
    · skip
      refine gtr ?_
      refine done ?_
      exact kfct rfl rfl
    refine .cons (fun B => ?_) ?_
    · skip
      refine mv ?_
      refine done ?_
      exact kfct rfl rfl
    refine .cons (fun B => ?_) ?_
    · skip
      refine skp hnot ?_
      refine done ?_
      exact kfct0 rfl
    refine .cons (fun B => ?_) ?_
    · skip
      refine skp hnot ?_
      refine done ?_
      exact kfct0 rfl
    refine .cons (fun B => ?_) ?_
    · skip
      refine skp hnot ?_
      refine done ?_
      exact kfct0 rfl
    refine .cons (fun B => ?_) ?_
    · skip
      refine skp hnot ?_
      refine done ?_
      exact kfct0 rfl
    refine .cons (fun B => ?_) ?_
    · skip
      refine skp hnot ?_
      refine done ?_
      exact kfct0 rfl
    refine .cons (fun B => ?_) ?_
    · skip
      refine skp hnot ?_
      refine done ?_
      exact kfct0 rfl
    refine .cons (fun B => ?_) ?_
    · skip
      refine skp hnot ?_
      refine done ?_
      exact kfct0 rfl
    refine .cons (fun B => ?_) ?_
    · skip
      refine skp hnot ?_
      refine done ?_
      exact kfct0 rfl
    refine .cons (fun B => ?_) ?_
    · skip
      refine pickF (b := decide (view < x.1)) (by simpa using hnot) ?_
      refine done ?_
      exact kfct rfl rfl
    exact .nil
    refine nxt ?_
    refine cond (fun h18 => ?_) (fun h18 => ?_)
    · simp at h18
    · have h18k := h18
      try simp at h18
      refine skip ?_
      refine kbn ?_
      exact ⟨_, .cons 1 rfl (.cons 1 rfl (.cons 1 rfl (.cons 1 rfl (.cons 1 rfl (.nil)))))⟩
  · skip
    refine kbn ?_
    refine nxtF ?_
    refine evf (fun B => ?_)
    refine seq ?_
    refine region ?_
    refine ld1 (j := 3) T3 rfl ?_
    refine st1 (j := 2) T3 rfl (one_vis rfl) ?_
    refine done ?_
    refine nxt ?_
    refine ret ?_
    exact ⟨_, _, _, .cons (.cell1 rfl T3 (j := 2) rfl rfl) (.nil), .cons 0 rfl (.cons 0 rfl (.nil)), rfl, rfl⟩
  · exact fun _ _ h => h.elim

end Go.Proofs.Ytkcpejbabbbjpaa
