/- A part of the proof: contracts over a program of the model. -/
import Derived.Test.YtkcpejbabbbjpaaE17
import Derived.Test.YtkcpejbabbbjpaaM0
import Derived.Test.YtkcpejbabbbjpaaX0Q
import Derived.Test.YtkcpejbabbbjpaaS5
import Derived.Test.YtkcpejbabbbjpaaProg
set_option linter.unusedVariables false
set_option linter.unusedSimpArgs false
namespace Go.Proofs.Ytkcpejbabbbjpaa
open Go.RowKit
noncomputable abbrev PP := Try.prog
theorem F139_1 : tFld PP 139 1 1 = true := by kernel_rfl
theorem F175_0 : tFld PP 175 0 0 = true := by kernel_rfl
theorem F175_1 : tFld PP 175 1 1 = true := by kernel_rfl
theorem F175_2 : tFld PP 175 2 2 = true := by kernel_rfl
theorem G115 : isGo PP 115 = true := by kernel_rfl
theorem G144 : isGo PP 144 = true := by kernel_rfl
theorem M137 : tMap PP 137 175 3 = true := by kernel_rfl
theorem MIX : PP.follows .mixedOrders = true := by kernel_rfl
theorem R22 : tRow PP 22 3 1 8 [.int .i64 0] := tRow_mk (by kernel_rfl) (by kernel_rfl)
theorem S22 : tSl PP 22 3 1 = true := by kernel_rfl
theorem T137 : tOne PP 137 = true := by kernel_rfl
theorem T175 : tAgg PP 175 3 = true := by kernel_rfl
theorem T3 : tOne PP 3 = true := by kernel_rfl
theorem Z175 : zOk PP 175 [.int .i64 0, .int .i64 0, .int .i64 0] := zOk_mk (by kernel_rfl) rfl
theorem c_Compact {v : Value} {l : List Int} (hv : v.oneCell' = true) (hl : l.length ≤ 1000000) : Fn PP 144 [vis v] [hrow v 3 1 eint  l] fun r h' => ∃ v2, v2.oneCell' = true ∧ (l = [] → v2 = v) ∧ r = vis v2 ∧ h' = [hrow v2 3 1 eint (cc l)] := by
  refine Fn.body Try.func144 rfl Try.ntmps144 rfl fun B => ?_
  refine seq ?_
  refine region ?_
  refine asg ?_
  refine done ?_
  refine nxt ?_
  refine seq ?_
  refine seq ?_
  refine region ?_
  refine mv ?_
  refine lnw (j := 0) S22 rfl (fun h1 => ?_)
  refine lss ?_
  refine done ?_
  refine nxt ?_
  refine cond (fun h2 => ?_) (fun h2 => ?_)
  · have h2k := h2
    try simp at h2
    refine seq ?_
    refine region ?_
    refine mv ?_
    refine asg ?_
    refine done ?_
    refine nxt ?_
    refine ret ?_
    refine kt ?_
    refine ⟨_, _, _, .cons (.tmp rfl) .nil, .cons 0 rfl .nil, v, hv, (fun _ => rfl), rfl, ?_⟩
    rw [cc_short (by omega)]
  · have h2k := h2
    try simp at h2
    refine skip ?_
    refine nxt ?_
    refine seq ?_
    refine seq ?_
    refine region ?_
    refine asg ?_
    refine done ?_
    refine nxt ?_
    refine block ?_
    refine lp (ι := Nat) (fun i => 1 ≤ i ∧ i ≤ l.length ∧ cc (l.take i) = l.take i) (fun i => [(3, vint .i64 (i : Int)), (0, vis v)]) (fun i => [hrow v 3 1 eint l]) (fun i => l.length - i) 1 (⟨Nat.le_refl _, by omega, cc_one (by omega)⟩) ⟨rfl, rfl, trivial⟩ (rfl) (fun i hI => ?_)
    obtain ⟨h1i, hi, hcc⟩ := hI
    refine seq ?_
    refine seq ?_
    refine region ?_
    refine mv ?_
    refine mv ?_
    refine lnw (j := 0) S22 rfl (fun h3 => ?_)
    refine lss ?_
    refine done ?_
    refine nxt ?_
    refine cond (fun h4 => ?_) (fun h4 => ?_)
    · have h4k := h4
      try simp at h4
      refine skip ?_
      refine nxt ?_
      refine seq ?_
      refine block ?_
      refine seq ?_
      apply drw [some _, some _, some _, some _, some _, some _, some _, some _, some _, some _] MIX
      refine .cons (fun B => ?_) ?_
      · skip
        refine mv ?_
        refine done ?_
        exact kfct rfl rfl
      refine .cons (fun B => ?_) ?_
      · skip
        refine mv ?_
        refine done ?_
        exact kfct rfl rfl
      refine .cons (fun B => ?_) ?_
      · skip
        refine ixw3 (j := 0) S22 rfl (kk := ?_)
        refine done ?_
        exact kfct rfl rfl
      refine .cons (fun B => ?_) ?_
      · skip
        refine lw12 (j := 0) T3 rfl ?_
        refine done ?_
        exact kfct rfl rfl
      refine .cons (fun B => ?_) ?_
      · skip
        refine mv ?_
        refine done ?_
        exact kfct rfl rfl
      refine .cons (fun B => ?_) ?_
      · skip
        refine mv ?_
        refine done ?_
        exact kfct rfl rfl
      refine .cons (fun B => ?_) ?_
      · skip
        refine sub ?_
        refine reint (b := ((i - 1 : Nat) : Int)) (by omega) ?_
        refine done ?_
        exact kfct rfl rfl
      refine .cons (fun B => ?_) ?_
      · skip
        refine ixw3 (j := 0) S22 rfl (kk := ?_)
        refine done ?_
        exact kfct rfl rfl
      refine .cons (fun B => ?_) ?_
      · skip
        refine lw12 (j := 0) T3 rfl ?_
        refine done ?_
        exact kfct rfl rfl
      refine .cons (fun B => ?_) ?_
      · skip
        refine eql ?_
        refine done ?_
        exact kfct rfl rfl
      exact .nil
      refine nxt ?_
      refine cond (fun h15 => ?_) (fun h15 => ?_)
      · have h15k := h15
        try simp at h15
        refine seq ?_
        refine region ?_
        refine mv ?_
        refine mv ?_
        have hst := Cl.start (l := l) (k := i) (by omega) (by omega) hcc (by assumption)
        have hst2 := hst.2
        refine cutv (j := 0) (l' := i) (h' := l.length) (k1 := .i64) (k2 := .i64) S22 rfl (by omega) (Nat.le_refl _) (by omega) ?_
        refine asg ?_
        refine done ?_
        refine nxt ?_
        refine seq ?_
        refine seq ?_
        refine region ?_
        refine asg ?_
        refine done ?_
        refine nxt ?_
        refine block ?_
        refine lp (ι := Nat × List Int) (fun x => i < x.1 ∧ Cl l x.1 x.2) (fun x => [(3, vint .i64 ((cc (l.take x.1)).length : Int)), (5, vint .i64 ((x.1 - i : Nat) : Int)), (4, vis (cutV 1 i l.length v)), (0, vis v)]) (fun x => [hrow v 3 1 eint x.2]) (fun x => l.length - x.1) (i + 1, l) (⟨by dsimp only; omega, hst.1⟩) ⟨(congrArg (fun z : Int => some (vint .i64 z)) (by dsimp only; omega)), (congrArg (fun z : Int => some (vint .i64 z)) (by dsimp only; omega)), rfl, rfl, trivial⟩ (rfl) (fun x hI => ?_)
        obtain ⟨hix, hC⟩ := hI
        have hlen := hC.len
        have hle := hC.le
        have hlt := hC.lt
        refine seq ?_
        refine seq ?_
        refine region ?_
        refine mv ?_
        refine mv ?_
        refine lncv (j := 0) S22 rfl (by omega) ?_
        refine lss ?_
        refine done ?_
        refine nxt ?_
        refine cond (fun h16 => ?_) (fun h16 => ?_)
        · have h16k := h16
          try simp at h16
          refine skip ?_
          refine nxt ?_
          refine seq ?_
          refine block ?_
          refine seq ?_
          apply drw [some _, some _, some _, some _, some _, some _, some _, some _, some _, some _] MIX
          refine .cons (fun B => ?_) ?_
          · skip
            refine mv ?_
            refine done ?_
            exact kfct rfl rfl
          refine .cons (fun B => ?_) ?_
          · skip
            refine mv ?_
            refine done ?_
            exact kfct rfl rfl
          refine .cons (fun B => ?_) ?_
          · skip
            refine ixcv (j := 0) (i := x.1 - i) S22 rfl (kk := ?_)
            refine done ?_
            exact kfct rfl rfl
          refine .cons (fun B => ?_) ?_
          · skip
            refine lw12 (j := 0) T3 rfl ?_
            refine done ?_
            exact kfct rfl rfl
          refine .cons (fun B => ?_) ?_
          · skip
            refine mv ?_
            refine done ?_
            exact kfct rfl rfl
          refine .cons (fun B => ?_) ?_
          · skip
            refine mv ?_
            refine done ?_
            exact kfct rfl rfl
          refine .cons (fun B => ?_) ?_
          · skip
            refine sub ?_
            refine reint (b := ((x.1 - i - 1 : Nat) : Int)) (by omega) ?_
            refine done ?_
            exact kfct rfl rfl
          refine .cons (fun B => ?_) ?_
          · skip
            refine ixcv (j := 0) (i := x.1 - i - 1) S22 rfl (kk := ?_)
            refine done ?_
            exact kfct rfl rfl
          refine .cons (fun B => ?_) ?_
          · skip
            refine lw12 (j := 0) T3 rfl ?_
            refine done ?_
            exact kfct rfl rfl
          refine .cons (fun B => ?_) ?_
          · skip
            refine neq ?_
            refine done ?_
            exact kfct rfl rfl
          exact .nil
          refine nxt ?_
          refine cond (fun h27 => ?_) (fun h27 => ?_)
          · have h27k := h27
            try simp at h27
            refine seq ?_
            refine region ?_
            have ea : x.2[i + (x.1 - i)]'(by omega) = l[x.1]'(by omega) := by simp only [show i + (x.1 - i) = x.1 by omega]; exact hC.at_ (by omega) (by omega)
            have eb : x.2[i + (x.1 - i - 1)]'(by omega) = l[x.1 - 1]'(by omega) := by simp only [show i + (x.1 - i - 1) = x.1 - 1 by omega]; exact hC.at_ (by omega) (by omega)
            have hne : ¬ l[x.1]'(by omega) = l[x.1 - 1]'(by omega) := by rw [← ea, ← eb]; assumption
            have hn1 := hC.new (by omega) hne
            have hn2 := hn1.2
            refine mv ?_
            refine mv ?_
            refine mv ?_
            refine mv ?_
            refine ixcv (j := 0) (i := x.1 - i) S22 rfl (kk := ?_)
            refine lw12 (j := 0) T3 rfl ?_
            refine ixw2 (j := 0) (i := (cc (l.take x.1)).length) S22 rfl (fun hk1 => ?_)
            refine sw1 (j := 0) (i := (cc (l.take x.1)).length) (x.2[i + (x.1 - i)]'(by omega)) T3 rfl (by omega) (one_vis rfl) rfl rfl ?_
            refine done ?_
            refine nxt ?_
            refine region ?_
            refine mv ?_
            refine add ?_
            refine asg ?_
            refine done ?_
            refine kbn ?_
            refine nxt ?_
            refine region ?_
            refine mv ?_
            refine add ?_
            refine asg ?_
            refine done ?_
            refine lpe (x.1 + 1, x.2.set (cc (l.take x.1)).length (x.2[i + (x.1 - i)]'(by omega))) (⟨by dsimp only; omega, by dsimp only; rw [ea]; exact hn1.1⟩) (by dsimp only; omega) ⟨(congrArg (fun z : Int => some (vint .i64 z)) (by dsimp only; omega)), (congrArg (fun z : Int => some (vint .i64 z)) (by dsimp only; omega)), rfl, rfl, trivial⟩ (.cons 0 rfl (.nil)) (rfl)
          · have h27k := h27
            try simp at h27
            refine skip ?_
            refine kbn ?_
            refine nxt ?_
            refine region ?_
            have ea : x.2[i + (x.1 - i)]'(by omega) = l[x.1]'(by omega) := by simp only [show i + (x.1 - i) = x.1 by omega]; exact hC.at_ (by omega) (by omega)
            have eb : x.2[i + (x.1 - i - 1)]'(by omega) = l[x.1 - 1]'(by omega) := by simp only [show i + (x.1 - i - 1) = x.1 - 1 by omega]; exact hC.at_ (by omega) (by omega)
            have heq : l[x.1]'(by omega) = l[x.1 - 1]'(by omega) := by rw [← ea, ← eb]; assumption
            have hs1 := hC.same (by omega) heq
            have hs2 := hs1.2
            refine mv ?_
            refine add ?_
            refine asg ?_
            refine done ?_
            refine lpe (x.1 + 1, x.2) (⟨by dsimp only; omega, hs1.1⟩) (by dsimp only; omega) ⟨(congrArg (fun z : Int => some (vint .i64 z)) (by dsimp only; omega)), (congrArg (fun z : Int => some (vint .i64 z)) (by dsimp only; omega)), rfl, rfl, trivial⟩ (.cons 0 rfl (.nil)) (rfl)
        · have h16k := h16
          try simp at h16
          refine exit ?_
          refine kt ?_
          refine kq ?_
          refine kbx ?_
          refine nxt ?_
          refine seq ?_
          refine region ?_
          refine mv ?_
          refine mv ?_
          refine cutv (j := 0) (l' := (cc (l.take x.1)).length) (h' := x.2.length) (k1 := .i64) (k2 := .i64) S22 rfl (by omega) (Nat.le_refl _) (by omega) ?_
          refine clrw (j := 0) (lo := (cc (l.take x.1)).length) (hi := x.2.length) (z := (0 : Int)) R22 rfl (by omega) rfl (by omega) (Nat.le_refl _) (by omega) ?_
          refine done ?_
          refine nxt ?_
          refine seq ?_
          refine region ?_
          refine mv ?_
          refine mv ?_
          refine cutw (j := 0) (l' := 0) (h' := (cc (l.take x.1)).length) (k1 := .i64) S22 rfl (by omega) (by simp only [List.length_append, List.length_take, List.length_replicate, List.length_drop]; omega) (fun v2 ov2 => ?_)
          refine asg ?_
          refine done ?_
          refine nxt ?_
          refine ret ?_
          refine kbr ?_
          refine kt ?_
          refine kq ?_
          refine kbr ?_
          refine kt ?_
          refine ⟨_, _, _, .cons (.tmp rfl) .nil, .cons 0 rfl .nil, v2, ov2, (fun e => absurd (congrArg List.length e) (by simp only [List.length_nil]; omega)), rfl, ?_⟩
          rw [cut_fill _ _ _ (by omega), show x.1 = l.length by omega, List.take_length, (show Cl l l.length x.2 from (show x.1 = l.length by omega) ▸ hC).end_]
      · have h15k := h15
        try simp at h15
        refine skip ?_
        refine kbn ?_
        refine nxt ?_
        refine region ?_
        refine mv ?_
        refine add ?_
        refine asg ?_
        refine done ?_
        refine lpe (i + 1) (⟨by omega, by omega, by rw [cc_step (by omega) (by omega), if_neg (by assumption), hcc, take_succ' (by omega)]⟩) (by omega) ⟨rfl, rfl, trivial⟩ (.cons 0 rfl (.nil)) (rfl)
    · have h4k := h4
      try simp at h4
      refine exit ?_
      refine kt ?_
      refine kq ?_
      refine kbx ?_
      refine nxt ?_
      refine seq ?_
      refine region ?_
      refine mv ?_
      refine asg ?_
      refine done ?_
      refine nxt ?_
      refine ret ?_
      refine ⟨_, _, _, .cons (.tmp rfl) .nil, .cons 0 rfl .nil, v, hv, (fun _ => rfl), rfl, ?_⟩
      rw [cc_all (show cc (l.take l.length) = l.take l.length from (show i = l.length by omega) ▸ hcc)]

theorem c_All1 {b : Tri} {x : Int} {c0 c1 : Nat} {kind view : Int} : Fn PP 145 [vagg [vint .i64 b.a, vint .i64 b.b, vint .i64 b.c], vint .i64 x, vptr c0 0, vptr c1 0] [hvar c0 3 [vint .i64 kind], hvar c1 3 [vint .i64 view]] fun r h' => r = vbool (b.a == kind && b.b == view) ∧ h' = [hvar c0 3 [vint .i64 kind], hvar c1 3 [vint .i64 view]] := by
  refine Fn.body Try.func145 rfl Try.ntmps145 rfl fun B => ?_
  refine seq ?_
  refine region ?_
  refine boxA (fun b1 => ?_)
  refine asg ?_
  refine done ?_
  refine nxt ?_
  refine seq ?_
  refine region ?_
  refine fa F175_0 ?_
  refine ld1 (j := 0) T3 rfl ?_
  refine ld1 (j := 1) T3 rfl ?_
  refine eql ?_
  refine mv ?_
  refine an4 4 ?_
  constructor
  constructor
  · intro h2 B
    have h2n := h2
    try simp at h2n
    refine fa F175_1 ?_
    refine ld1 (j := 0) T3 rfl ?_
    refine ld1 (j := 2) T3 rfl ?_
    refine eql ?_
    refine done ?_
    exact kan rfl rfl
  refine asg ?_
  refine done ?_
  refine nxt ?_
  refine ret ?_
  exact ⟨_, _, _, .cons (.tmp rfl) .nil, .cons 1 rfl (.cons 1 rfl (.nil)), rfl, rfl⟩

theorem c_Who1 {b : Tri} {x : Int} {c0 c1 c2 : Nat} {kind view val : Int} : Fn PP 146 [vagg [vint .i64 b.a, vint .i64 b.b, vint .i64 b.c], vint .i64 x, vptr c0 0, vptr c1 0, vptr c2 0] [hvar c0 3 [vint .i64 kind], hvar c1 3 [vint .i64 view], hvar c2 3 [vint .i64 val]] fun r h' => r = vbool (b.a == kind && b.b == view && x == val) ∧ h' = [hvar c0 3 [vint .i64 kind], hvar c1 3 [vint .i64 view], hvar c2 3 [vint .i64 val]] := by
  refine Fn.body Try.func146 rfl Try.ntmps146 rfl fun B => ?_
  refine seq ?_
  refine region ?_
  refine boxA (fun b1 => ?_)
  refine asg ?_
  refine done ?_
  refine nxt ?_
  refine seq ?_
  refine region ?_
  refine fa F175_0 ?_
  refine ld1 (j := 0) T3 rfl ?_
  refine ld1 (j := 1) T3 rfl ?_
  refine eql ?_
  refine mv ?_
  refine an4 4 ?_
  constructor
  constructor
  · intro h2 B
    have h2n := h2
    try simp at h2n
    refine fa F175_1 ?_
    refine ld1 (j := 0) T3 rfl ?_
    refine ld1 (j := 2) T3 rfl ?_
    refine eql ?_
    refine done ?_
    exact kan rfl rfl
  refine mv ?_
  refine an3 10 ?_
  constructor
  constructor
  · intro h3 B
    have h3n := h3
    try simp at h3n
    refine mv ?_
    refine ld1 (j := 3) T3 rfl ?_
    refine eql ?_
    refine done ?_
    exact kan rfl rfl
  refine asg ?_
  refine done ?_
  refine nxt ?_
  refine ret ?_
  exact ⟨_, _, _, .cons (.tmp rfl) .nil, .cons 1 rfl (.cons 1 rfl (.cons 1 rfl (.nil))), rfl, rfl⟩

theorem c_Ahead1 {b : Tri} {x : Int} {c0 : Nat} {view : Int} : Fn PP 126 [vagg [vint .i64 b.a, vint .i64 b.b, vint .i64 b.c], vint .i64 x, vptr c0 0] [hvar c0 3 [vint .i64 view]] fun r h' => r = vbool (decide (view ≤ b.b)) ∧ h' = [hvar c0 3 [vint .i64 view]] := by
  refine Fn.body Try.func126 rfl Try.ntmps126 rfl fun B => ?_
  refine seq ?_
  refine region ?_
  refine boxA (fun b1 => ?_)
  refine asg ?_
  refine done ?_
  refine nxt ?_
  refine seq ?_
  refine region ?_
  refine fa F175_1 ?_
  refine ld1 (j := 0) T3 rfl ?_
  refine ld1 (j := 1) T3 rfl ?_
  refine geq ?_
  refine asg ?_
  refine done ?_
  refine nxt ?_
  refine ret ?_
  exact ⟨_, _, _, .cons (.tmp rfl) .nil, .cons 1 rfl (.nil), rfl, rfl⟩

def vI (n : Int) : VP := vint .i64 n
structure WhoI (p : Tri → Int → Bool) (m left : List (Tri × Int)) (acc : List Int) : Prop where
  mem : ∀ y, (y ∈ acc ∨ ∃ kv ∈ left, p kv.1 kv.2 = true ∧ kv.1.c = y) ↔ y ∈ (m.filter fun kv => p kv.1 kv.2).map (·.1.c)
  len : acc.length + left.length ≤ m.length
theorem WhoI.start (p : Tri → Int → Bool) (m : List (Tri × Int)) : WhoI p m m [] := ⟨fun y => by simp [and_assoc], by simp⟩
theorem mem_erase {α : Type} : ∀ (l : List α) (i : Nat) (hi : i < l.length) (x : α), x ∈ l ↔ (x = l[i] ∨ x ∈ l.eraseIdx i)
  | a :: l, 0, _, x => by simp
  | a :: l, i + 1, hi, x => by
    have := mem_erase l i (by simpa using hi) x
    simp only [List.mem_cons, List.eraseIdx_cons_succ, List.getElem_cons_succ, this]
    constructor
    · rintro (h | h | h)
      · exact .inr (.inl h)
      · exact .inl h
      · exact .inr (.inr h)
    · rintro (h | h | h)
      · exact .inr (.inl h)
      · exact .inl h
      · exact .inr (.inr h)
theorem WhoI.yes {p : Tri → Int → Bool} {m left : List (Tri × Int)} {acc : List Int} (h : WhoI p m left acc) {i : Nat} (hi : i < left.length) (hp : p left[i].1 left[i].2 = true) : WhoI p m (left.eraseIdx i) (acc ++ [left[i].1.c]) := by
  refine ⟨fun y => ?_, by have := h.len; rw [List.length_append, List.length_eraseIdx_of_lt hi]; simp; omega⟩
  rw [← h.mem y]
  constructor
  · rintro (hm | ⟨kv, hk, h1, h2⟩)
    · rcases List.mem_append.1 hm with hm | hm
      · exact .inl hm
      · simp at hm; exact .inr ⟨left[i], List.getElem_mem hi, hp, hm.symm⟩
    · exact .inr ⟨kv, (mem_erase left i hi kv).2 (.inr hk), h1, h2⟩
  · rintro (hm | ⟨kv, hk, h1, h2⟩)
    · exact .inl (List.mem_append.2 (.inl hm))
    · rcases (mem_erase left i hi kv).1 hk with rfl | hk
      · exact .inl (List.mem_append.2 (.inr (by simp [h2])))
      · exact .inr ⟨kv, hk, h1, h2⟩
theorem WhoI.no {p : Tri → Int → Bool} {m left : List (Tri × Int)} {acc : List Int} (h : WhoI p m left acc) {i : Nat} (hi : i < left.length) (hp : p left[i].1 left[i].2 = false) : WhoI p m (left.eraseIdx i) acc := by
  refine ⟨fun y => ?_, by have := h.len; rw [List.length_eraseIdx_of_lt hi]; omega⟩
  rw [← h.mem y]
  constructor
  · rintro (hm | ⟨kv, hk, h1, h2⟩)
    · exact .inl hm
    · exact .inr ⟨kv, (mem_erase left i hi kv).2 (.inr hk), h1, h2⟩
  · rintro (hm | ⟨kv, hk, h1, h2⟩)
    · exact .inl hm
    · rcases (mem_erase left i hi kv).1 hk with rfl | hk
      · rw [hp] at h1; cases h1
      · exact .inr ⟨kv, hk, h1, h2⟩
theorem foldl_cs1_ne : ∀ (l acc : List Int), acc ≠ [] → l.foldl cs1 acc ≠ []
  | [], _, h => h
  | x :: l, acc, h => foldl_cs1_ne l _ (by unfold cs1; split <;> simp [h])
theorem cc_nil {l : List Int} (h : cc l = []) : l = [] := by
  match l with
  | [] => rfl
  | x :: l => exact (foldl_cs1_ne l _ (by unfold cs1; simp) h).elim
theorem srtI_nil {l : List Int} (h : srtI l = []) : l = [] := by
  have := srtI_len l
  rw [h] at this
  exact List.eq_nil_of_length_eq_zero this.symm
theorem WhoI.end_ {p : Tri → Int → Bool} {m : List (Tri × Int)} {acc : List Int} (h : WhoI p m [] acc) : cc (srtI acc) = whoL p m := cc_srt fun y => by rw [← h.mem y]; simp

theorem c_who {tb et mb : Nat} {pS : VP} {m : List (Tri × Int)} {F : FuncId} {ws : List Value} {X : HP} {p : Tri → Int → Bool} (hsort : SortC PP 115) (hm : m.length ≤ 1000000) (hgo : isGo PP F = true) (hF : ∀ (b : Tri) (x : Int), Fn PP F ([vagg [vint .i64 b.a, vint .i64 b.b, vint .i64 b.c], vint .i64 x] ++ visL ws) [X] fun r h' => r = vbool (p b x) ∧ h' = [X]) : Fn PP 125 [vptr tb 0, vfn F [] ws] [hvar tb et [pS, vmap mb], hmap mb eTri vI m, X] fun r h' => ∃ v, v.oneCell' = true ∧ (whoL p m = [] → v = .slice none 0 0) ∧ r = vis v ∧ h' = [hrow v 3 1 eint (whoL p m), hvar tb et [pS, vmap mb], hmap mb eTri vI m, X] := by
  refine Fn.body Try.func125 rfl Try.ntmps125 rfl fun B => ?_
  refine seq ?_
  refine region ?_
  refine asg ?_
  refine done ?_
  refine nxt ?_
  refine seq ?_
  refine region ?_
  refine nilrow 3 1 eint ?_
  refine asg ?_
  refine done ?_
  refine nxt ?_
  refine seq ?_
  refine seq ?_
  refine region ?_
  refine mv ?_
  refine nilck ?_
  refine fa F139_1 ?_
  refine ld1 (j := 1) T137 rfl ?_
  refine rngm (j := 2) M137 rfl (fun ib => ?_)
  refine done ?_
  refine nxt ?_
  refine block ?_
  refine lp (ι := List (Tri × Int) × Option (Tri × Int) × List Int × Value) (fun x => WhoI p m x.1 x.2.2.1 ∧ x.2.2.2.oneCell' = true ∧ (x.2.2.1 = [] → x.2.2.2 = .slice none 0 0)) (fun x => [(12, vptr ib 0), (5, vis x.2.2.2), (0, vptr tb 0), (1, vfn F [] ws)]) (fun x => [hrow x.2.2.2 3 1 eint x.2.2.1, hvar tb et [pS, vmap mb], hmapI mb ib eTri vI m x.1 x.2.1, X]) (fun x => x.1.length) (m, none, [], .slice none 0 0) (⟨WhoI.start p m, rfl, fun _ => rfl⟩) ⟨rfl, rfl, rfl, rfl, trivial⟩ (rfl) (fun x hI => ?_)
  obtain ⟨hW, hv, hv0⟩ := hI
  refine seq ?_
  refine region ?_
  refine nxtm (j := 2) rfl (fun hl2 => ?_) (fun i3 hi4 => ?_)
  · skip
    refine ext ?_
    refine done ?_
    refine nxt ?_
    refine seq ?_
    refine cond (fun h5 => ?_) (fun h5 => ?_)
    · cases h5
    · skip
      refine exit ?_
      refine kt ?_
      refine kq ?_
      refine kbx ?_
      refine nxt ?_
      refine seq ?_
      refine endmC 2 rfl ?_
      have hlen := hW.len
      refine region ?_
      refine mv ?_
      refine call (sort_fn hsort) G115 (.cons 0 rfl (.nil)) (fun r h' hp => ?_)
      obtain ⟨rfl, rfl⟩ := hp
      refine done ?_
      refine nxt ?_
      refine seq ?_
      refine region ?_
      refine mv ?_
      refine call (c_Compact hv (by rw [srtI_len]; omega)) G144 (.cons 0 rfl (.nil)) (fun r h' hp => ?_)
      obtain ⟨v2, ov2, on2, rfl, rfl⟩ := hp
      refine asg ?_
      refine done ?_
      refine nxt ?_
      refine ret ?_
      refine ⟨_, _, _, .cons (.tmp rfl) .nil, .cons 0 rfl (.cons 0 rfl (.cons 0 rfl (.cons 0 rfl (.nil)))), v2, ov2, ?_, rfl, ?_⟩
      · have hend := (show WhoI p m [] x.2.2.1 from hl2 ▸ hW).end_
        intro e; rw [← hend] at e; have e2 := srtI_nil (cc_nil e); rw [on2 (by rw [e2]; rfl)]; exact hv0 e2
      rw [(show WhoI p m [] x.2.2.1 from hl2 ▸ hW).end_]
  · skip
    refine ext ?_
    refine done ?_
    refine nxt ?_
    refine seq ?_
    refine cond (fun h6 => ?_) (fun h6 => ?_)
    · skip
      refine skip ?_
      refine nxt ?_
      refine block ?_
      refine seq ?_
      refine region ?_
      refine entm (j := 2) rfl ?_
      refine ext ?_
      refine ext ?_
      refine alloc Z175 (fun b7 => ?_)
      refine regw 16 (tri_agg _) ?_
      refine stA (j := 0) T175 rfl ?_
      refine asg ?_
      refine done ?_
      refine nxt ?_
      refine seq ?_
      refine region ?_
      refine mv ?_
      refine ldA (j := 0) T175 rfl ?_
      refine mv ?_
      refine callv (us := []) (ws := ws) (ps := [vagg [vint .i64 x.1[i3].1.a, vint .i64 x.1[i3].1.b, vint .i64 x.1[i3].1.c], vint .i64 x.1[i3].2]) (hF _ _) hgo (.cons 4 rfl (.nil)) (fun r h' hp => ?_)
      obtain ⟨rfl, rfl⟩ := hp
      refine done ?_
      refine nxt ?_
      refine cond (fun h8 => ?_) (fun h8 => ?_)
      · have h8k := h8
        try simp at h8
        refine region ?_
        refine mv ?_
        refine fa F175_2 ?_
        refine ld1 (j := 1) T3 rfl ?_
        refine litI (xs := [.tmp 24]) [_] eint R22 (.cons (cel1 (one_vis rfl)) (.nil)) ?_
        refine app (j := 2) R22 rfl (fun v9 ov9 => ?_) ?_ ?_
        rotate_left
        · (have := hW.len; simp only [List.length_singleton]; omega)
        · (have := hW.len; simp only [List.length_singleton]; omega)
        refine asg ?_
        refine done ?_
        refine kbn ?_
        refine lpe (x.1.eraseIdx i3, some x.1[i3], x.2.2.1 ++ [x.1[i3].1.c], v9) (⟨hW.yes hi4 (by assumption), ov9, fun e => absurd e (by simp)⟩) (by dsimp only; rw [List.length_eraseIdx_of_lt (by assumption)]; omega) ⟨rfl, rfl, rfl, rfl, trivial⟩ (.cons 2 rfl (.cons 2 rfl (.cons 2 rfl (.cons 0 rfl (.nil))))) (rfl)
      · have h8k := h8
        try simp at h8
        refine skip ?_
        refine kbn ?_
        refine lpe (x.1.eraseIdx i3, some x.1[i3], x.2.2.1, x.2.2.2) (⟨hW.no hi4 (by assumption), hv, hv0⟩) (by dsimp only; rw [List.length_eraseIdx_of_lt (by assumption)]; omega) ⟨rfl, rfl, rfl, rfl, trivial⟩ (.cons 2 rfl (.cons 2 rfl (.cons 2 rfl (.cons 0 rfl (.nil))))) (rfl)
    · cases h6

end Go.Proofs.Ytkcpejbabbbjpaa
