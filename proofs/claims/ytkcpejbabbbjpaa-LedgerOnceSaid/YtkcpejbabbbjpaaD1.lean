/- A part of the proof: contracts over a program of the model. -/
import Derived.Test.YtkcpejbabbbjpaaE13
import Derived.Test.YtkcpejbabbbjpaaM0
import Derived.Test.YtkcpejbabbbjpaaL0
import Derived.Test.YtkcpejbabbbjpaaK2
import Derived.Test.YtkcpejbabbbjpaaProg
set_option linter.unusedVariables false
set_option linter.unusedSimpArgs false
namespace Go.Proofs.Ytkcpejbabbbjpaa
open Go.RowKit
noncomputable abbrev PP := Try.prog
theorem G26 : isGo PP 26 = true := by kernel_rfl
theorem G27 : isGo PP 27 = true := by kernel_rfl
theorem G28 : isGo PP 28 = true := by kernel_rfl
theorem G29 : isGo PP 29 = true := by kernel_rfl
theorem G3 : isGo PP 3 = true := by kernel_rfl
theorem G47 : isGo PP 47 = true := by kernel_rfl
theorem G48 : isGo PP 48 = true := by kernel_rfl
theorem G7 : isGo PP 7 = true := by kernel_rfl
theorem G8 : isGo PP 8 = true := by kernel_rfl
theorem G9 : isGo PP 9 = true := by kernel_rfl
theorem M56 : tMap PP 56 3 95 = true := by kernel_rfl
theorem MIX : PP.follows .mixedOrders = true := by kernel_rfl
theorem P95 : tPlaces PP 95 = some [] := by kernel_rfl
theorem R22 : tRow PP 22 3 1 8 [.int .i64 0] := tRow_mk (by kernel_rfl) (by kernel_rfl)
theorem R54 : tRow PP 54 22 1 24 [.slice none 0 0] := tRow_mk (by kernel_rfl) (by kernel_rfl)
theorem S22 : tSl PP 22 3 1 = true := by kernel_rfl
theorem S54 : tSl PP 54 22 1 = true := by kernel_rfl
theorem T22 : tOne PP 22 = true := by kernel_rfl
theorem T3 : tOne PP 3 = true := by kernel_rfl
theorem T56 : tOne PP 56 = true := by kernel_rfl
theorem T95 : tAgg PP 95 0 = true := by kernel_rfl
theorem U3 : PP.underlying 3 = some (.int .i64) := by kernel_rfl
theorem V95 : (PP.info? 95).bind (·.zero) = some (.agg #[]) := by kernel_rfl
theorem Z56 : zOk PP 56 [.map none] := zOk_mk (by kernel_rfl) rfl
theorem Z95 : zOk PP 95 [] := zOk_mk (by kernel_rfl) rfl
def eU (_ : Unit) : VP := vagg []

theorem c_add {mb : Nat} {m : List (Int × Unit)} {x : Int} (hm : m.length ≤ 1000000) : Fn PP 29 [vmap mb, vint .i64 x] [hmap mb eI eU m] fun r h' => r = vbool (!(mget m x).isSome) ∧ h' = [hmap mb eI eU (mset m x ())] := by
  refine Fn.body Try.func29 rfl Try.ntmps29 rfl fun B => ?_
  refine seq ?_
  refine region ?_
  refine asg ?_
  refine done ?_
  refine nxt ?_
  refine seq ?_
  refine region ?_
  refine mv ?_
  refine mv ?_
  refine lko (j := 0) _ () M56 (keyInt (by kernel_rfl)) rfl V95 (fun _ _ => ⟨#[], rfl, trivial, by simp⟩) ?_
  refine mv ?_
  refine ext ?_
  refine ext ?_
  refine alloc Z95 (fun b1 => ?_)
  refine stA (j := 0) T95 rfl ?_
  refine asg ?_
  refine done ?_
  refine nxt ?_
  refine seq ?_
  refine region ?_
  refine mv ?_
  refine mv ?_
  refine blds (xs := []) P95 Z95 (.nil) ?_
  refine mst (j := 1) _ () M56 (keyInt (by kernel_rfl)) rfl (by omega) ?_
  refine done ?_
  refine nxt ?_
  refine seq ?_
  refine region ?_
  refine mv ?_
  refine not_ ?_
  refine asg ?_
  refine done ?_
  refine nxt ?_
  refine ret ?_
  exact ⟨_, _, _, .cons (.tmp rfl) .nil, .cons 1 rfl (.nil), rfl, rfl⟩

theorem c_Clean1 {cb mb : Nat} {m : List (Int × Unit)} {x : Int} (hm : m.length ≤ 1000000) : Fn PP 28 [vint .i64 x, vptr cb 0] [hvar cb 56 [vmap mb], hmap mb eI eU m] fun r h' => r = vbool (mget m x).isSome ∧ h' = [hvar cb 56 [vmap mb], hmap mb eI eU (mset m x ())] := by
  refine Fn.body Try.func28 rfl Try.ntmps28 rfl fun B => ?_
  refine seq ?_
  refine region ?_
  refine asg ?_
  refine done ?_
  refine nxt ?_
  refine seq ?_
  refine region ?_
  refine ld1 (j := 0) T56 rfl ?_
  refine mv ?_
  refine call (c_add (x := x) hm) G29 (.cons 1 rfl .nil) (fun r h' hp => ?_)
  obtain ⟨rfl, rfl⟩ := hp
  refine not_ ?_
  refine asg ?_
  refine done ?_
  refine nxt ?_
  refine ret ?_
  exact ⟨_, _, _, .cons (.tmp rfl) .nil, .cons 1 rfl (.cons 0 rfl .nil), by simp [rOne], rfl⟩

theorem c_IndexFunc {v : Value} {l : List Int} {cb mb : Nat} (hv : v.oneCell' = true) (hl : l.length ≤ 1000000) : Fn PP 47 [vis v, vfn 28 [] [.pointer (some ⟨cb, 0, none⟩)]] [hrow v 3 1 eint l, hvar cb 56 [vmap mb], hmap mb eI eU []] fun r h' => ∃ (i : Nat) (ri : Int), i ≤ l.length ∧ (∀ k, k ≤ i → dd (l.take k) = l.take k) ∧ r = vint .i64 ri ∧ h' = [hrow v 3 1 eint l, hvar cb 56 [vmap mb], hmap mb eI eU (metM (l.take i))] ∧ ((i = l.length ∧ ri = -1) ∨ ∃ h : i < l.length, ri = i ∧ (l.take i).contains l[i] = true) := by
  refine Fn.body Try.func47 rfl Try.ntmps47 rfl fun B => ?_
  refine seq ?_
  refine region ?_
  refine asg ?_
  refine done ?_
  refine nxt ?_
  refine seq ?_
  refine seq ?_
  refine region ?_
  refine mv ?_
  refine lnw (j := 0) S22 rfl (fun h1 => ?_)
  refine mv ?_
  refine done ?_
  refine nxt ?_
  refine block ?_
  refine lp (ι := Nat) (fun i => i ≤ l.length ∧ ∀ k, k ≤ i → dd (l.take k) = l.take k) (fun i => [(6, vis v), (7, vint .i64 (l.length : Int)), (8, vint .i64 (i : Int)), (0, vis v), (1, vfn 28 [] [.pointer (some ⟨cb, 0, none⟩)])]) (fun i => [hrow v 3 1 eint l, hvar cb 56 [vmap mb], hmap mb eI eU (metM (l.take i))]) (fun i => l.length - i) 0 (⟨Nat.zero_le _, fun k hk => by rw [Nat.le_zero.1 hk]; rfl⟩) ⟨rfl, rfl, rfl, rfl, rfl, trivial⟩ (rfl) (fun i hI => ?_)
  obtain ⟨hi, hdd⟩ := hI
  refine seq ?_
  refine region ?_
  refine lss ?_
  refine done ?_
  refine nxt ?_
  refine seq ?_
  refine cond (fun h2 => ?_) (fun h2 => ?_)
  · have h2k := h2
    try simp at h2
    refine skip ?_
    refine nxt ?_
    refine seq ?_
    refine block ?_
    refine seq ?_
    refine region ?_
    refine mv ?_
    refine asg ?_
    refine done ?_
    refine nxt ?_
    refine seq ?_
    refine region ?_
    refine mv ?_
    refine mv ?_
    refine mv ?_
    refine ixw2 (j := 0) S22 rfl (fun hi3 => ?_)
    refine lw12 (j := 0) T3 rfl ?_
    refine callv (us := []) (ws := [.pointer (some ⟨cb, 0, none⟩)]) (ps := [vint .i64 (l[i]'(by omega))]) (c_Clean1 (m := metM (l.take i)) (by rw [metM, List.length_map, List.length_take]; omega)) G28 (.cons 1 rfl (.cons 1 rfl (.nil))) (fun r h' hp => ?_)
    obtain ⟨rfl, rfl⟩ := hp
    refine done ?_
    refine nxt ?_
    refine cond (fun h4 => ?_) (fun h4 => ?_)
    · have h4k := h4
      try simp at h4
      refine seq ?_
      refine region ?_
      refine mv ?_
      refine asg ?_
      refine done ?_
      refine nxt ?_
      refine ret ?_
      refine kbr ?_
      refine kt ?_
      refine kq ?_
      refine kbr ?_
      refine kt ?_
      refine ⟨_, _, _, .cons (.tmp rfl) .nil, .cons 2 rfl (.cons 0 rfl (.cons 0 rfl (.nil))), i, i, by omega, hdd, rfl, by rw [mset_met, stp_yes (by rw [← mget_met]; assumption)], .inr ⟨by omega, rfl, by rw [← mget_met]; assumption⟩⟩
    · have h4k := h4
      try simp at h4
      refine skip ?_
      refine kbn ?_
      refine nxt ?_
      refine region ?_
      refine add ?_
      refine mv ?_
      refine done ?_
      refine lpe (i + 1) (⟨by omega, fun k hk => (Nat.lt_or_eq_of_le hk).elim (fun h => hdd k (by omega)) (fun h => by subst h; rw [dd_take (by omega), hdd i (Nat.le_refl _), stp_no (by rw [← mget_met]; assumption), take_succ' (by omega)])⟩) (by omega) ⟨rfl, rfl, rfl, rfl, rfl, trivial⟩ (.cons 2 rfl (.cons 0 rfl (.cons 0 rfl (.nil)))) (by rw [mset_met, stp_no (by rw [← mget_met]; assumption), ← take_succ' (by omega)])
  · have h2k := h2
    try simp at h2
    refine exit ?_
    refine kt ?_
    refine kq ?_
    refine kbx ?_
    refine nxt ?_
    refine seq ?_
    refine region ?_
    refine asg ?_
    refine done ?_
    refine nxt ?_
    refine ret ?_
    refine ⟨_, _, _, .cons (.tmp rfl) .nil, .cons 0 rfl (.cons 0 rfl (.cons 0 rfl (.nil))), l.length, -1, Nat.le_refl _, fun k hk => hdd k (by omega), rfl, by rw [show i = l.length by omega], .inl ⟨rfl, rfl⟩⟩

theorem c_DeleteFunc {v : Value} {l : List Int} {cb mb : Nat} (hv : v.oneCell' = true) (hl : l.length ≤ 1000000) : Fn PP 26 [vis v, vfn 28 [] [.pointer (some ⟨cb, 0, none⟩)]] [hrow v 3 1 eint l, hvar cb 56 [vmap mb], hmap mb eI eU []] fun r h' => ∃ v, v.oneCell' = true ∧ r = vis v ∧ h' = [hrow v 3 1 eint (dd l)] := by
  refine Fn.body Try.func26 rfl Try.ntmps26 rfl fun B => ?_
  refine seq ?_
  refine region ?_
  refine asg ?_
  refine done ?_
  refine nxt ?_
  refine seq ?_
  refine region ?_
  refine mv ?_
  refine mv ?_
  refine call (c_IndexFunc (cb := cb) (mb := mb) hv hl) G47 (.cons 0 rfl (.cons 0 rfl (.cons 0 rfl (.nil)))) (fun r h' hp => ?_)
  obtain ⟨i, ri, hi, hdd, rfl, rfl, hor⟩ := hp
  refine asg ?_
  refine done ?_
  refine nxt ?_
  refine seq ?_
  refine seq ?_
  refine region ?_
  refine mv ?_
  refine eql ?_
  refine done ?_
  refine nxt ?_
  refine cond (fun h1 => ?_) (fun h1 => ?_)
  · have h1k := h1
    try simp at h1
    refine seq ?_
    refine region ?_
    refine mv ?_
    refine asg ?_
    refine done ?_
    refine nxt ?_
    refine ret ?_
    refine kt ?_
    refine ⟨_, _, _, .cons (.tmp rfl) .nil, .cons 0 rfl (.nil), v, hv, rfl, ?_⟩
    rw [dd_all (fun k hk => hdd k (by omega))]
  · have h1k := h1
    try simp at h1
    refine skip ?_
    refine nxt ?_
    refine seq ?_
    refine seq ?_
    refine region ?_
    obtain ⟨hlt, rfl, hc⟩ := hor.resolve_left (fun hh => by omega)
    have hdi : (dd (l.take (i + 1))).length = i := by rw [dd_drop hlt (by rw [hdd i (Nat.le_refl _)]; exact hc), hdd i (Nat.le_refl _), List.length_take]; omega
    refine mv ?_
    refine add ?_
    refine asg ?_
    refine done ?_
    refine nxt ?_
    refine block ?_
    refine lp (ι := Nat × List Int) (fun x => Dl l x.1 x.2 ∧ (dd (l.take x.1)).length < x.1) (fun x => [(5, vint .i64 ((dd (l.take x.1)).length : Int)), (6, vint .i64 (x.1 : Int)), (0, vis v), (1, vfn 28 [] [.pointer (some ⟨cb, 0, none⟩)])]) (fun x => [hrow v 3 1 eint x.2, hvar cb 56 [vmap mb], hmap mb eI eU (metM (dd (l.take x.1)))]) (fun x => l.length - x.1) (i + 1, l) (⟨Dl.start hlt hdd hc, by dsimp only; omega⟩) ⟨by dsimp only; rw [hdi]; rfl, rfl, rfl, rfl, trivial⟩ (by dsimp only; rw [dd_take hlt, hdd i (Nat.le_refl _), stp_yes hc]; rfl) (fun x hI => ?_)
    obtain ⟨hD, hlj⟩ := hI
    have hlen := hD.len
    have hle := hD.le
    refine seq ?_
    refine seq ?_
    refine region ?_
    refine mv ?_
    refine mv ?_
    refine lnw (j := 0) S22 rfl (fun h2 => ?_)
    refine lss ?_
    refine done ?_
    refine nxt ?_
    refine cond (fun h3 => ?_) (fun h3 => ?_)
    · have h3k := h3
      try simp at h3
      refine skip ?_
      refine nxt ?_
      refine seq ?_
      refine block ?_
      refine seq ?_
      refine region ?_
      refine mv ?_
      refine mv ?_
      refine ixw2 (j := 0) S22 rfl (fun hi4 => ?_)
      refine lw12 (j := 0) T3 rfl ?_
      refine asg ?_
      refine done ?_
      refine nxt ?_
      refine seq ?_
      refine region ?_
      refine mv ?_
      refine mv ?_
      refine callv (us := []) (ws := [.pointer (some ⟨cb, 0, none⟩)]) (ps := [vint .i64 (x.2[x.1]'(by omega))]) (c_Clean1 (m := metM (dd (l.take x.1))) (by have := hD.lt; have := hD.le; rw [metM, List.length_map]; omega)) G28 (.cons 1 rfl (.cons 1 rfl (.nil))) (fun r h' hp => ?_)
      obtain ⟨rfl, rfl⟩ := hp
      have hat : x.2[x.1]'(by omega) = l[x.1]'(by omega) := hD.at_ (by omega)
      refine not_ ?_
      refine done ?_
      refine nxt ?_
      refine cond (fun h5 => ?_) (fun h5 => ?_)
      · have h5k := h5
        try simp at h5
        refine seq ?_
        refine region ?_
        have hcf : (dd (l.take x.1)).contains (l[x.1]'(by omega)) = false := by rw [← mget_met, ← hat]; simpa using h5k
        refine mv ?_
        refine mv ?_
        refine mv ?_
        refine ixw (j := 2) (i := (dd (l.take x.1)).length) S22 rfl (by omega) ?_
        refine sw1 (j := 2) (i := (dd (l.take x.1)).length) (x.2[x.1]'(by omega)) T3 rfl (by omega) (one_vis rfl) rfl rfl ?_
        refine done ?_
        refine nxt ?_
        refine region ?_
        refine mv ?_
        refine add ?_
        refine asg ?_
        refine done ?_
        refine kbn ?_
        refine nxt ?_
        refine region ?_
        refine mv ?_
        refine add ?_
        refine asg ?_
        refine done ?_
        refine lpe (x.1 + 1, x.2.set (dd (l.take x.1)).length (x.2[x.1]'(by omega))) (⟨by rw [hat]; exact hD.keep_ (by omega) hcf, by have := dd_step_len (l := l) (j := x.1) (by omega); dsimp only; omega⟩) (by dsimp only; omega) ⟨by dsimp only; rw [dd_keep (by omega) hcf]; rfl, rfl, rfl, rfl, trivial⟩ (.cons 2 rfl (.cons 0 rfl (.cons 0 rfl (.nil)))) (by dsimp only; rw [mset_met, hat, dd_take (by omega)])
      · have h5k := h5
        try simp at h5
        refine skip ?_
        refine kbn ?_
        refine nxt ?_
        refine region ?_
        have hct : (dd (l.take x.1)).contains (l[x.1]'(by omega)) = true := by rw [← mget_met, ← hat]; simpa using h5k
        refine mv ?_
        refine add ?_
        refine asg ?_
        refine done ?_
        refine lpe (x.1 + 1, x.2) (⟨hD.drop_ (by omega) hct, by dsimp only; rw [dd_drop (by omega) hct]; omega⟩) (by dsimp only; omega) ⟨by dsimp only; rw [dd_drop (by omega) hct]; rfl, rfl, rfl, rfl, trivial⟩ (.cons 2 rfl (.cons 0 rfl (.cons 0 rfl (.nil)))) (by dsimp only; rw [mset_met, hat, dd_take (by omega)])
    · have h3k := h3
      try simp at h3
      refine exit ?_
      refine kt ?_
      refine kq ?_
      refine kbx ?_
      refine nxt ?_
      refine seq ?_
      refine region ?_
      refine mv ?_
      refine mv ?_
      refine cutv (j := 0) (l' := (dd (l.take x.1)).length) (h' := x.2.length) (k2 := .i64) S22 rfl (by omega) (Nat.le_refl _) (by omega) ?_
      refine clrw (j := 0) (lo := (dd (l.take x.1)).length) (hi := x.2.length) (z := (0 : Int)) R22 rfl (by omega) rfl (by omega) (Nat.le_refl _) (by omega) ?_
      refine done ?_
      refine nxt ?_
      refine seq ?_
      refine region ?_
      refine mv ?_
      refine mv ?_
      refine cutw (j := 0) (l' := 0) (h' := (dd (l.take x.1)).length) (k1 := .i64) S22 rfl (by omega) (by simp only [List.length_append, List.length_take, List.length_replicate, List.length_drop]; omega) (fun v2 ov2 => ?_)
      refine asg ?_
      refine done ?_
      refine nxt ?_
      refine ret ?_
      refine ⟨_, _, _, .cons (.tmp rfl) .nil, .cons 0 rfl (.nil), v2, ov2, rfl, ?_⟩
      rw [cut_fill _ _ _ (by omega), show x.1 = l.length by omega, List.take_length, (show Dl l l.length x.2 from (show x.1 = l.length by omega) ▸ hD).end_]

theorem c_Grow {n : Nat} (hn : n ≤ 1000000) : Fn PP 48 [vis (.slice none 0 0), vint .i64 (n : Int)] [] fun r h' => ∃ v, v.oneCell' = true ∧ r = vis v ∧ h' = [hrow v 3 1 eint []] := by
  refine Fn.body Try.func48 rfl Try.ntmps48 rfl fun B => ?_
  refine nilrowC 3 1 eint ?_
  refine seq ?_
  refine region ?_
  refine asg ?_
  refine done ?_
  refine nxt ?_
  refine seq ?_
  refine seq ?_
  refine region ?_
  refine mv ?_
  refine lss ?_
  refine done ?_
  refine nxt ?_
  refine cond (fun h1 => ?_) (fun h1 => ?_)
  · have h1k := h1
    try simp at h1
    exfalso; omega
  · have h1k := h1
    try simp at h1
    refine skip ?_
    refine nxt ?_
    refine seq ?_
    refine seq ?_
    refine region ?_
    refine mv ?_
    refine mv ?_
    refine capn S22 ?_
    refine mv ?_
    refine lenn S22 ?_
    refine sub ?_
    refine sub ?_
    refine reint (b := (n : Int)) (by omega) ?_
    refine asg ?_
    refine done ?_
    refine nxt ?_
    refine seq ?_
    refine region ?_
    refine mv ?_
    refine gtr ?_
    refine done ?_
    refine nxt ?_
    refine cond (fun h3 => ?_) (fun h3 => ?_)
    · have h3k := h3
      try simp at h3
      refine region ?_
      refine mv ?_
      refine mv ?_
      refine capn S22 ?_
      refine cutn S22 ?_
      refine mv ?_
      refine appz (m := n) (z := (0 : Int)) (enc := eint) R22 rfl U3 (by omega) (by omega) (by omega) (by omega) (fun v ov => ?_)
      refine mv ?_
      refine lenn S22 ?_
      refine cutw (j := 0) (l' := 0) (h' := 0) (k1 := .i64) S22 rfl (by omega) (by omega) (fun v2 ov2 => ?_)
      refine asg ?_
      refine done ?_
      refine nxt ?_
      refine seq ?_
      refine region ?_
      refine mv ?_
      refine asg ?_
      refine done ?_
      refine nxt ?_
      refine ret ?_
      refine ⟨_, _, _, .cons (.tmp rfl) .nil, .cons 0 rfl (.nil), v2, ov2, rfl, by simp⟩
    · have h3k := h3
      try simp at h3
      refine skip ?_
      refine nxt ?_
      refine seq ?_
      refine region ?_
      refine mv ?_
      refine asg ?_
      refine done ?_
      refine nxt ?_
      refine ret ?_
      refine ⟨_, _, _, .cons (.tmp rfl) .nil, .cons 0 rfl .nil, .slice none 0 0, rfl, rfl, rfl⟩

theorem c_Concat {ls : List (List Int)} (hls : ls.flatten.length ≤ 1000000) : Fn PP 27 [vsl 1 eInts ls] [] fun r h' => ∃ v, v.oneCell' = true ∧ r = vis v ∧ h' = [hrow v 3 1 eint ls.flatten] := by
  refine Fn.body Try.func27 rfl Try.ntmps27 rfl fun B => ?_
  refine seq ?_
  refine region ?_
  refine asg ?_
  refine done ?_
  refine nxt ?_
  refine seq ?_
  refine region ?_
  refine asg ?_
  refine done ?_
  refine nxt ?_
  refine seq ?_
  refine seq ?_
  refine region ?_
  refine mv ?_
  refine ln S54 (fun h1 => ?_)
  refine mv ?_
  refine done ?_
  refine nxt ?_
  refine block ?_
  refine lp (ι := Nat) (fun i => i ≤ ls.length) (fun i => [(9, vsl 1 eInts ls), (10, vint .i64 (ls.length : Int)), (11, vint .i64 (i : Int)), (3, vint .i64 ((ls.take i).flatten.length : Int)), (0, vsl 1 eInts ls)]) (fun i => []) (fun i => ls.length - i) 0 (Nat.zero_le _) ⟨rfl, rfl, rfl, rfl, rfl, trivial⟩ (rfl) (fun i hI => ?_)
  refine seq ?_
  refine region ?_
  refine lss ?_
  refine done ?_
  refine nxt ?_
  refine seq ?_
  refine cond (fun h2 => ?_) (fun h2 => ?_)
  · have h2k := h2
    try simp at h2
    refine skip ?_
    refine nxt ?_
    refine seq ?_
    refine block ?_
    refine seq ?_
    refine region ?_
    refine ix2 S54 (fun hi3 => ?_)
    refine lr1 T22 ?_
    refine asg ?_
    refine done ?_
    refine nxt ?_
    refine seq ?_
    refine region ?_
    refine mv ?_
    refine mv ?_
    have e1 := take_flat_len (ls := ls) (i := i) (by omega)
    have e2 := flat_le ls (i + 1)
    refine ln S22 (fun h4 => ?_)
    refine add ?_
    refine asg ?_
    refine done ?_
    refine nxt ?_
    refine seq ?_
    refine region ?_
    refine mv ?_
    refine lss ?_
    refine done ?_
    refine nxt ?_
    refine cond (fun h5 => ?_) (fun h5 => ?_)
    · have h5k := h5
      try simp at h5
      exfalso; omega
    · have h5k := h5
      try simp at h5
      refine skip ?_
      refine kbn ?_
      refine nxt ?_
      refine region ?_
      refine add ?_
      refine mv ?_
      refine done ?_
      refine lpe (i + 1) (by omega) (by omega) ⟨rfl, rfl, rfl, (congrArg (fun z : Int => some (vint .i64 z)) (by omega)), rfl, trivial⟩ (.nil) (rfl)
  · have h2k := h2
    try simp at h2
    refine exit ?_
    refine kt ?_
    refine kq ?_
    refine kbx ?_
    refine nxt ?_
    refine seq ?_
    refine region ?_
    refine mv ?_
    have e3 := flat_le ls i
    refine call (c_Grow (n := (ls.take i).flatten.length) (by omega)) G48 .nil (fun r h' hp => ?_)
    obtain ⟨v, ov, rfl, rfl⟩ := hp
    refine asg ?_
    refine done ?_
    refine nxt ?_
    refine seq ?_
    refine seq ?_
    refine region ?_
    refine mv ?_
    refine ln S54 (fun h6 => ?_)
    refine mv ?_
    refine done ?_
    refine nxt ?_
    refine block ?_
    refine lp (ι := Nat × Value) (fun x => x.1 ≤ ls.length ∧ x.2.oneCell' = true) (fun x => [(25, vsl 1 eInts ls), (26, vint .i64 (ls.length : Int)), (27, vint .i64 (x.1 : Int)), (6, vis x.2), (0, vsl 1 eInts ls)]) (fun x => [hrow x.2 3 1 eint (ls.take x.1).flatten]) (fun x => ls.length - x.1) (0, v) (⟨Nat.zero_le _, ov⟩) ⟨rfl, rfl, rfl, rfl, rfl, trivial⟩ (rfl) (fun x hI => ?_)
    obtain ⟨hi, hv⟩ := hI
    refine seq ?_
    refine region ?_
    refine lss ?_
    refine done ?_
    refine nxt ?_
    refine seq ?_
    refine cond (fun h7 => ?_) (fun h7 => ?_)
    · have h7k := h7
      try simp at h7
      refine skip ?_
      refine nxt ?_
      refine seq ?_
      refine block ?_
      refine seq ?_
      refine region ?_
      refine ix2 S54 (fun hi8 => ?_)
      refine lr1 T22 ?_
      refine asg ?_
      refine done ?_
      refine nxt ?_
      refine region ?_
      refine mv ?_
      have e1 := take_flat_len (ls := ls) (i := x.1) (by omega)
      have e2 := flat_le ls (x.1 + 1)
      refine mv ?_
      refine app (j := 0) R22 rfl (fun v9 ov9 => ?_) ?_ ?_
      rotate_left
      · omega
      · omega
      refine asg ?_
      refine done ?_
      refine kbn ?_
      refine nxt ?_
      refine region ?_
      refine add ?_
      refine mv ?_
      refine done ?_
      refine lpe (x.1 + 1, v9) (⟨by dsimp only; omega, ov9⟩) (by dsimp only; omega) ⟨rfl, rfl, rfl, rfl, rfl, trivial⟩ (.cons 0 rfl (.nil)) (by dsimp only; rw [take_flat (by omega)])
    · have h7k := h7
      try simp at h7
      refine exit ?_
      refine kt ?_
      refine kq ?_
      refine kbx ?_
      refine nxt ?_
      refine seq ?_
      refine region ?_
      refine mv ?_
      refine asg ?_
      refine done ?_
      refine nxt ?_
      refine ret ?_
      refine ⟨_, _, _, .cons (.tmp rfl) .nil, .cons 0 rfl (.nil), x.2, hv, rfl, by rw [List.take_of_length_le (by omega)]⟩

theorem c_Clean {ls : List (List Int)} (hls : ls.flatten.length ≤ 1000000) : PFn PP 7 [vsl 1 eInts ls] (vints (dd ls.flatten)) := by
  refine ⟨G7, Fn.body Try.func7 rfl Try.ntmps7 rfl fun B => ?_⟩
  refine seq ?_
  refine region ?_
  refine asg ?_
  refine done ?_
  refine nxt ?_
  refine seq ?_
  refine region ?_
  refine mkmap eI eU (fun b1 => ?_)
  refine alloc Z56 (fun b2 => ?_)
  refine st1 (j := 0) T56 rfl (one_vis rfl) ?_
  refine done ?_
  refine nxt ?_
  refine seq ?_
  refine region ?_
  refine mv ?_
  refine call (c_Concat hls) G27 .nil (fun r h' hp => ?_)
  obtain ⟨v, ov, rfl, rfl⟩ := hp
  refine mkfn [] [.pointer (some ⟨b2, 0, none⟩)] ?_
  refine call (c_DeleteFunc (cb := b2) (mb := b1) ov (by exact hls)) G26 (.cons 0 rfl (.cons 0 rfl (.cons 0 rfl (.nil)))) (fun r h' hp => ?_)
  obtain ⟨v, ov, rfl, rfl⟩ := hp
  refine frz 0 rfl ?_
  refine rper 8 0 rfl ?_
  refine asg ?_
  refine done ?_
  refine nxt ?_
  refine ret ?_
  refine ⟨_, _, _, .cons (.tmp rfl) (.nil), .nil, ?_, rfl⟩
  rfl

theorem c_SameInts {a b : List Int} : PFn PP 8 [vints a, vints b] (vbool (a == b)) := by
  refine ⟨G8, Fn.body Try.func8 rfl Try.ntmps8 rfl fun B => ?_⟩
  refine seq ?_
  refine region ?_
  refine asg ?_
  refine done ?_
  refine nxt ?_
  refine seq ?_
  refine seq ?_
  refine region ?_
  refine mv ?_
  refine ln S22 (fun h1 => ?_)
  refine mv ?_
  refine ln S22 (fun h2 => ?_)
  refine neq ?_
  refine done ?_
  refine nxt ?_
  refine cond (fun h3 => ?_) (fun h3 => ?_)
  · have h3k := h3
    try simp at h3
    refine seq ?_
    refine region ?_
    refine asg ?_
    refine done ?_
    refine nxt ?_
    refine ret ?_
    refine kt ?_
    refine ⟨_, _, _, .cons (.tmp rfl) (.nil), .nil, ?_, rfl⟩
    first | exact rb (beq_no_len (by assumption)).symm | exact rb (beq_no_at (by omega) (by omega) (by assumption)).symm | exact rb (beq_yes (by omega) (fun j h h2 => hsame j (by omega) h h2)).symm
  · have h3k := h3
    try simp at h3
    refine skip ?_
    refine nxt ?_
    refine seq ?_
    refine seq ?_
    refine region ?_
    refine mv ?_
    refine ln S22 (fun h4 => ?_)
    refine mv ?_
    refine done ?_
    refine nxt ?_
    refine block ?_
    refine lp (ι := Nat) (fun i => i ≤ a.length ∧ ∀ j (hj : j < i) (h : j < a.length) (h2 : j < b.length), a[j] = b[j]) (fun i => [(11, vints a), (12, vint .i64 (a.length : Int)), (13, vint .i64 (i : Int)), (0, vints a), (1, vints b)]) (fun i => []) (fun i => a.length - i) 0 (⟨Nat.zero_le _, fun j hj => by omega⟩) ⟨rfl, rfl, rfl, rfl, rfl, trivial⟩ (rfl) (fun i hI => ?_)
    obtain ⟨hi, hsame⟩ := hI
    refine seq ?_
    refine region ?_
    refine lss ?_
    refine done ?_
    refine nxt ?_
    refine seq ?_
    refine cond (fun h5 => ?_) (fun h5 => ?_)
    · have h5k := h5
      try simp at h5
      refine skip ?_
      refine nxt ?_
      refine seq ?_
      refine block ?_
      refine seq ?_
      refine region ?_
      refine mv ?_
      refine asg ?_
      refine done ?_
      refine nxt ?_
      refine seq ?_
      apply drw [some _, some _, some _, some _, some _, some _, some _, some _, some _] MIX
      refine .cons (fun B => ?_) ?_
      · skip
        refine mv ?_
        refine done ?_
        exact kfct rfl rfl
      refine .cons (fun B => ?_) ?_
      · skip
        refine mv ?_
        refine done ?_
        exact kfct rfl rfl
      refine .cons (fun B => ?_) ?_
      · skip
        refine ix3 S22 (kk := ?_)
        refine done ?_
        exact kfct rfl rfl
      refine .cons (fun B => ?_) ?_
      · skip
        refine lr1 T3 ?_
        refine done ?_
        exact kfct rfl rfl
      refine .cons (fun B => ?_) ?_
      · skip
        refine mv ?_
        refine done ?_
        exact kfct rfl rfl
      refine .cons (fun B => ?_) ?_
      · skip
        refine mv ?_
        refine done ?_
        exact kfct rfl rfl
      refine .cons (fun B => ?_) ?_
      · skip
        refine ix3 S22 (kk := ?_)
        refine done ?_
        exact kfct rfl rfl
      refine .cons (fun B => ?_) ?_
      · skip
        refine lr1 T3 ?_
        refine done ?_
        exact kfct rfl rfl
      refine .cons (fun B => ?_) ?_
      · skip
        refine neq ?_
        refine done ?_
        exact kfct rfl rfl
      exact .nil
      refine nxt ?_
      refine cond (fun h15 => ?_) (fun h15 => ?_)
      · have h15k := h15
        try simp at h15
        refine seq ?_
        refine region ?_
        refine asg ?_
        refine done ?_
        refine nxt ?_
        refine ret ?_
        refine kbr ?_
        refine kt ?_
        refine kq ?_
        refine kbr ?_
        refine kt ?_
        refine ⟨_, _, _, .cons (.tmp rfl) (.nil), .nil, ?_, rfl⟩
        first | exact rb (beq_no_len (by assumption)).symm | exact rb (beq_no_at (by omega) (by omega) (by assumption)).symm | exact rb (beq_yes (by omega) (fun j h h2 => hsame j (by omega) h h2)).symm
      · have h15k := h15
        try simp at h15
        refine skip ?_
        refine kbn ?_
        refine nxt ?_
        refine region ?_
        refine add ?_
        refine mv ?_
        refine done ?_
        refine lpe (i + 1) (⟨by omega, fun j hj h h2 => (Nat.lt_or_eq_of_le (Nat.le_of_lt_succ hj)).elim (fun h3 => hsame j h3 h h2) (fun h3 => by subst h3; assumption)⟩) (by omega) ⟨rfl, rfl, rfl, rfl, rfl, trivial⟩ (.nil) (rfl)
    · have h5k := h5
      try simp at h5
      refine exit ?_
      refine kt ?_
      refine kq ?_
      refine kbx ?_
      refine nxt ?_
      refine seq ?_
      refine region ?_
      refine asg ?_
      refine done ?_
      refine nxt ?_
      refine ret ?_
      refine ⟨_, _, _, .cons (.tmp rfl) (.nil), .nil, ?_, rfl⟩
      first | exact rb (beq_no_len (by assumption)).symm | exact rb (beq_no_at (by omega) (by omega) (by assumption)).symm | exact rb (beq_yes (by omega) (fun j h h2 => hsame j (by omega) h h2)).symm

theorem c_begins {a b : List Int} : PFn PP 9 [vints a, vints b] (vbool (decide (a.length ≤ b.length) && (a == b.take a.length))) := by
  refine ⟨G9, Fn.body Try.func9 rfl Try.ntmps9 rfl fun B => ?_⟩
  refine seq ?_
  refine region ?_
  refine asg ?_
  refine done ?_
  refine nxt ?_
  refine seq ?_
  refine region ?_
  refine mv ?_
  refine ln S22 (fun h1 => ?_)
  refine mv ?_
  refine ln S22 (fun h2 => ?_)
  refine leq ?_
  refine mv ?_
  refine an6 5 ?_
  constructor
  constructor
  · intro h3 B
    have h3n := h3
    try simp at h3n
    refine mv ?_
    refine mv ?_
    refine mv ?_
    refine ln S22 (fun h4 => ?_)
    refine cutr (l' := 0) (h' := a.length) (k1 := .i64) S22 (Nat.zero_le _) (by omega) ?_
    refine cp c_SameInts ?_
    refine done ?_
    exact kan rfl rfl
  refine asg ?_
  refine done ?_
  refine nxt ?_
  refine ret ?_
  refine ⟨_, _, _, .cons (.tmp rfl) (.nil), .nil, ?_, rfl⟩
  exact rb (by simp)

theorem c_LedgerOnce {a b : List Int} : PFn PP 3 [vints a, vints b] (vbool true) := by
  refine ⟨G3, Fn.body Try.func3 rfl Try.ntmps3 rfl fun B => ?_⟩
  refine seq ?_
  refine region ?_
  refine asg ?_
  refine done ?_
  refine nxt ?_
  refine seq ?_
  refine seq ?_
  refine region ?_
  refine cp alive17 ?_
  refine not_ ?_
  refine done ?_
  refine nxt ?_
  refine cond (fun h1 => ?_) (fun h1 => ?_)
  · simp at h1
  · have h1k := h1
    try simp at h1
    refine skip ?_
    refine nxt ?_
    refine seq ?_
    refine seq ?_
    refine region ?_
    refine mv ?_
    refine ln S22 (fun h2 => ?_)
    refine gtr ?_
    refine mv ?_
    refine orr3 3 ?_
    constructor
    constructor
    · intro h3 B
      have h3n := h3
      try simp at h3n
      refine mv ?_
      refine ln S22 (fun h4 => ?_)
      refine gtr ?_
      refine done ?_
      exact kan rfl rfl
    refine done ?_
    refine nxt ?_
    refine cond (fun h5 => ?_) (fun h5 => ?_)
    · have h5k := h5
      try simp at h5
      refine seq ?_
      refine region ?_
      refine asg ?_
      refine done ?_
      refine nxt ?_
      refine ret ?_
      refine kt ?_
      refine ⟨_, _, _, .cons (.tmp rfl) (.nil), .nil, ?_, rfl⟩
      rfl
    · have h5k := h5
      try simp at h5
      refine skip ?_
      refine nxt ?_
      refine seq ?_
      refine region ?_
      refine mv ?_
      refine mv ?_
      refine litI (xs := [.tmp 21, .tmp 22]) [_, _] eInts R54 (.cons (cel1 one_vsl) (.cons (cel1 one_vsl) (.nil))) ?_
      refine cp (c_Clean ?_) ?_
      · (simp only [flat1, flat2, List.length_append]; have := dd_len [a, b].flatten; have := dd_len [a].flatten; have := dd_len [b].flatten; simp only [flat1, flat2, List.length_append] at *; omega)
      refine asg ?_
      refine done ?_
      refine nxt ?_
      refine seq ?_
      refine seq ?_
      refine region ?_
      refine mv ?_
      refine litI (xs := [.tmp 25]) [_] eInts R54 (.cons (cel1 one_vsl) (.nil)) ?_
      refine cp (c_Clean ?_) ?_
      · (simp only [flat1, flat2, List.length_append]; have := dd_len [a, b].flatten; have := dd_len [a].flatten; have := dd_len [b].flatten; simp only [flat1, flat2, List.length_append] at *; omega)
      refine mv ?_
      refine cp c_SameInts ?_
      refine not_ ?_
      refine mv ?_
      refine orr11 6 ?_
      constructor
      constructor
      · intro h6 B
        have h6n := h6
        try simp at h6n
        refine mv ?_
        refine litI (xs := [.tmp 32]) [_] eInts R54 (.cons (cel1 one_vsl) (.nil)) ?_
        refine cp (c_Clean ?_) ?_
        · (simp only [flat1, flat2, List.length_append]; have := dd_len [a, b].flatten; have := dd_len [a].flatten; have := dd_len [b].flatten; simp only [flat1, flat2, List.length_append] at *; omega)
        refine mv ?_
        refine litI (xs := [.tmp 35]) [_] eInts R54 (.cons (cel1 one_vsl) (.nil)) ?_
        refine cp (c_Clean ?_) ?_
        · (simp only [flat1, flat2, List.length_append]; have := dd_len [a, b].flatten; have := dd_len [a].flatten; have := dd_len [b].flatten; simp only [flat1, flat2, List.length_append] at *; omega)
        refine litI (xs := [.tmp 34, .tmp 37]) [_, _] eInts R54 (.cons (cel1 one_vsl) (.cons (cel1 one_vsl) (.nil))) ?_
        refine cp (c_Clean ?_) ?_
        · (simp only [flat1, flat2, List.length_append]; have := dd_len [a, b].flatten; have := dd_len [a].flatten; have := dd_len [b].flatten; simp only [flat1, flat2, List.length_append] at *; omega)
        refine mv ?_
        refine cp c_SameInts ?_
        refine not_ ?_
        refine done ?_
        exact kan rfl rfl
      refine mv ?_
      refine orr6 19 ?_
      constructor
      constructor
      · intro h7 B
        have h7n := h7
        try simp at h7n
        refine mv ?_
        refine litI (xs := [.tmp 45]) [_] eInts R54 (.cons (cel1 one_vsl) (.nil)) ?_
        refine cp (c_Clean ?_) ?_
        · (simp only [flat1, flat2, List.length_append]; have := dd_len [a, b].flatten; have := dd_len [a].flatten; have := dd_len [b].flatten; simp only [flat1, flat2, List.length_append] at *; omega)
        refine mv ?_
        refine cp c_begins ?_
        refine not_ ?_
        refine done ?_
        exact kan rfl rfl
      refine done ?_
      refine nxt ?_
      refine cond (fun h8 => ?_) (fun h8 => ?_)
      · have h8k := h8
        try simp at h8
        refine seq ?_
        exfalso
        rw [flat1, flat2, flat1, flat1, flat2, dd_dd, dd_parts, beg_pre (dd_pre a b)] at h8k
        simp at h8k
      · have h8k := h8
        try simp at h8
        refine skip ?_
        refine nxt ?_
        refine seq ?_
        refine seq ?_
        refine region ?_
        refine litO (xs := []) [] eint R22 (.nil) (fun v9 ov9 => ?_)
        refine mv ?_
        refine app (j := 0) R22 rfl (fun v10 ov10 => ?_) ?_ ?_
        rotate_left
        · (simp only [List.length_append, List.length_nil]; omega)
        · (simp only [List.length_append, List.length_nil]; omega)
        refine mv ?_
        refine app (j := 0) R22 rfl (fun v11 ov11 => ?_) ?_ ?_
        rotate_left
        · (simp only [List.length_append, List.length_nil]; omega)
        · (simp only [List.length_append, List.length_nil]; omega)
        refine frz 0 rfl ?_
        refine rper 56 0 rfl ?_
        refine ln S22 (fun h12 => ?_)
        refine mv ?_
        refine done ?_
        refine nxt ?_
        refine block ?_
        refine dropC [] .nil ?_
        have hmem : ∀ x ∈ ([] ++ a ++ b), (dd [a, b].flatten).count x = 1 := fun x hx => dd_count (by rw [flat2]; simpa using hx)
        generalize [] ++ a ++ b = X at *
        generalize dd [a, b].flatten = D at *
        refine lp (ι := Nat) (fun i => i ≤ X.length) (fun i => [(56, vints X), (57, vint .i64 (X.length : Int)), (58, vint .i64 (i : Int)), (5, vints D)]) (fun i => []) (fun i => X.length - i) 0 (Nat.zero_le _) ⟨rfl, rfl, rfl, rfl, trivial⟩ (rfl) (fun i hI => ?_)
        refine seq ?_
        refine region ?_
        refine lss ?_
        refine done ?_
        refine nxt ?_
        refine seq ?_
        refine cond (fun h13 => ?_) (fun h13 => ?_)
        · have h13k := h13
          try simp at h13
          refine skip ?_
          refine nxt ?_
          refine seq ?_
          refine block ?_
          refine seq ?_
          refine region ?_
          refine ix2 S22 (fun hi14 => ?_)
          refine lr1 T3 ?_
          refine asg ?_
          refine done ?_
          refine nxt ?_
          refine seq ?_
          refine region ?_
          refine asg ?_
          refine done ?_
          refine nxt ?_
          refine seq ?_
          refine seq ?_
          refine region ?_
          refine mv ?_
          refine ln S22 (fun h15 => ?_)
          refine mv ?_
          refine done ?_
          refine nxt ?_
          refine block ?_
          refine lp (ι := Nat) (fun j => j ≤ D.length) (fun j => [(62, vints D), (63, vint .i64 (D.length : Int)), (64, vint .i64 (j : Int)), (8, vint .i64 ((D.take j).count (X[i]'(by omega)) : Int)), (7, vint .i64 (X[i]'(by omega))), (56, vints X), (57, vint .i64 (X.length : Int)), (58, vint .i64 (i : Int)), (5, vints D)]) (fun j => []) (fun j => D.length - j) 0 (Nat.zero_le _) ⟨rfl, rfl, rfl, rfl, rfl, rfl, rfl, rfl, rfl, trivial⟩ (rfl) (fun j hI => ?_)
          refine seq ?_
          refine region ?_
          refine lss ?_
          refine done ?_
          refine nxt ?_
          refine seq ?_
          refine cond (fun h16 => ?_) (fun h16 => ?_)
          · have h16k := h16
            try simp at h16
            refine skip ?_
            refine nxt ?_
            refine seq ?_
            refine block ?_
            refine seq ?_
            refine region ?_
            refine ix2 S22 (fun hi17 => ?_)
            refine lr1 T3 ?_
            refine asg ?_
            refine done ?_
            refine nxt ?_
            refine seq ?_
            refine region ?_
            refine mv ?_
            refine mv ?_
            refine eql ?_
            refine done ?_
            refine nxt ?_
            refine cond (fun h18 => ?_) (fun h18 => ?_)
            · have h18k := h18
              try simp at h18
              refine region ?_
              refine mv ?_
              have e0 := count_take_j (l := D) (x := (X[i]'(by omega))) j
              refine add ?_
              refine asg ?_
              refine done ?_
              refine kbn ?_
              refine nxt ?_
              refine region ?_
              refine add ?_
              refine mv ?_
              refine done ?_
              refine lpe (j + 1) (by omega) (by omega) ⟨rfl, rfl, rfl, (congrArg (fun z : Int => some (vint .i64 z)) (by have e := count_take (l := D) (x := (X[i]'(by omega))) (j := j) (by omega); split at e <;> omega)), rfl, rfl, rfl, rfl, rfl, trivial⟩ (.nil) (rfl)
            · have h18k := h18
              try simp at h18
              refine skip ?_
              refine kbn ?_
              refine nxt ?_
              refine region ?_
              refine add ?_
              refine mv ?_
              refine done ?_
              refine lpe (j + 1) (by omega) (by omega) ⟨rfl, rfl, rfl, (congrArg (fun z : Int => some (vint .i64 z)) (by have e := count_take (l := D) (x := (X[i]'(by omega))) (j := j) (by omega); split at e <;> omega)), rfl, rfl, rfl, rfl, rfl, trivial⟩ (.nil) (rfl)
          · have h16k := h16
            try simp at h16
            refine exit ?_
            refine kt ?_
            refine kq ?_
            refine kbx ?_
            refine nxt ?_
            refine seq ?_
            refine region ?_
            refine mv ?_
            refine neq ?_
            refine done ?_
            refine nxt ?_
            refine cond (fun h19 => ?_) (fun h19 => ?_)
            · have h19k := h19
              try simp at h19
              refine seq ?_
              exfalso
              have e1 : (D.take j) = D := List.take_of_length_le (by omega)
              have e2 : D.count (X[i]'(by omega)) = 1 := hmem _ (List.getElem_mem (l := X) (n := i) (by omega))
              rw [e1, e2] at h19k
              simp at h19k
            · have h19k := h19
              try simp at h19
              refine skip ?_
              refine kbn ?_
              refine nxt ?_
              refine region ?_
              refine add ?_
              refine mv ?_
              refine done ?_
              refine lpe (i + 1) (by omega) (by omega) ⟨rfl, rfl, rfl, rfl, trivial⟩ (.nil) (rfl)
        · have h13k := h13
          try simp at h13
          refine exit ?_
          refine kt ?_
          refine kq ?_
          refine kbx ?_
          refine nxt ?_
          refine seq ?_
          refine region ?_
          refine asg ?_
          refine done ?_
          refine nxt ?_
          refine ret ?_
          refine ⟨_, _, _, .cons (.tmp rfl) (.nil), .nil, ?_, rfl⟩
          rfl

end Go.Proofs.Ytkcpejbabbbjpaa
