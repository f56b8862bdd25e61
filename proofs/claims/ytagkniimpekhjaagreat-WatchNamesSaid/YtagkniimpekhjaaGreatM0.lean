/- The program's and the document's things as plain data: no program, no memory. -/
import Derived.Test.YtagkniimpekhjaaGreatE12
set_option linter.unusedVariables false
namespace Go.Proofs.YtagkniimpekhjaaGreat
structure Tx where
  id : Int
  fee : Int
  deriving DecidableEq, Inhabited
structure Block where
  slot : Int
  miner : Int
  variant : Int
  parent : Int
  txs : List Tx
  deriving DecidableEq, Inhabited
def eTx (t : Tx) : List VP := [vint .i64 t.id, vint .i64 t.fee]
def vTx (t : Tx) : VP := vagg (eTx t)
abbrev vTxs (l : List Tx) : VP := vsl 2 eTx l
def eBlk (b : Block) : List VP := [vint .i64 b.slot, vint .i64 b.miner, vint .i64 b.variant, vint .i64 b.parent, vTxs b.txs]
def vBlk (b : Block) : VP := vagg (eBlk b)
abbrev vBlks (l : List Block) : VP := vsl 5 eBlk l
def eInts (l : List Int) : List VP := [vints l]

def Tx.right (t : Tx) : Bool := decide (1 ≤ t.id) && decide (t.id ≤ 1000000) && decide (0 ≤ t.fee) && decide (t.fee ≤ 1000)
/-- a number's groups of seven bits -/
def numB (n : Nat) : List Int := if h : n < 128 then [(n : Int)] else ((n % 128 + 128 : Nat) : Int) :: numB (n / 128)
termination_by n
def numsB : List Int → List Int
  | [] => []
  | n :: l => numB (n + 1).toNat ++ numsB l
def unlikeFrom : List Int → List Tx → Bool
  | _, [] => true
  | seen, t :: l => !(seen.contains t.id) && unlikeFrom (seen ++ [t.id]) l
def unlike (l : List Tx) : Bool := unlikeFrom [] l && decide (l.length ≤ 3)

theorem numB_len (n : Nat) (h : n < 18446744073709551616) : (numB n).length ≤ 10 := by
  have key : ∀ (d n : Nat), n < 128 ^ (d + 1) → (numB n).length ≤ d + 1 := by
    intro d
    induction d with
    | zero =>
      intro n h
      unfold numB
      rw [dif_pos (by simpa using h)]
      simp
    | succ d ih =>
      intro n h
      unfold numB
      split
      · simp
      · simp only [List.length_cons]
        have := ih (n / 128) (by rw [Nat.pow_succ] at h; omega)
        omega
  exact key 9 n (Nat.lt_of_lt_of_le h (by decide))
theorem u8_or (n : Nat) : ∀ (P : Program) (t : TypeId) w, (binOp .or t (.int .u8 (IntKind.u8.wrap (n : Int))) (.int .u8 128)).run P w = .ok (.int .u8 ((n % 128 + 128 : Nat) : Int)) w := by
  intro P t w
  have e : IntKind.u8.wrap (n : Int) = ((n % 256 : Nat) : Int) := by unfold IntKind.wrap; simp [IntKind.signed, IntKind.bits]
  rw [e]
  have h2 : n % 128 = (n % 256) % 128 := by omega
  rw [h2]
  have hlt : n % 256 < 256 := Nat.mod_lt _ (by omega)
  generalize n % 256 = m at hlt
  simp only [binOp, ne_eq, not_true, if_false, Op.intBits, IntKind.bits, Sem.run_pure]
  congr 2
  have key : ∀ m : Fin 256, IntKind.u8.wrap ((BitVec.ofInt 8 (m.val : Int) ||| BitVec.ofInt 8 128).toNat : Int) = ((m.val % 128 + 128 : Nat) : Int) := by decide +kernel
  exact key ⟨m, hlt⟩
theorem u64_shr7 (n : Nat) : ∀ (P : Program) w, (Op.shift .shr .u64 (n : Int) .u64 7).run P w = .ok (.int .u64 ((n / 128 : Nat) : Int)) w := by
  intro P w
  simp [Op.shift, IntKind.bits]
  exact Int.fdiv_eq_ediv_of_nonneg _ (by omega)
theorem numB_ge {n : Nat} (h : 128 ≤ n) : numB n = ((n % 128 + 128 : Nat) : Int) :: numB (n / 128) := by rw [numB, dif_neg (by omega)]
theorem numB_lt {n : Nat} (h : n < 128) : numB n = [(n : Int)] := by rw [numB, dif_pos h]
theorem u8_wrap_lt {n : Nat} (h : n < 256) : IntKind.u8.wrap (n : Int) = n := by
  exact wrapB (by omega) (by omega)

/-! lists -/
def idx {α : Type} (p : α → Bool) (l : List α) : Int := ((l.findIdx? p).map (fun n => (n : Int))).getD (-1)
theorem idx_at {α : Type} {p : α → Bool} {l : List α} {i : Nat} (hi : i < l.length) (h : ∀ j (hj : j < i), p (l[j]'(by omega)) = false) (hp : p (l[i]'hi) = true) : idx p l = i := by
  unfold idx
  rw [List.findIdx?_eq_some_iff_getElem.2 ⟨hi, hp, fun j hj => by simp [h j hj]⟩]
  rfl
theorem idx_no {α : Type} {p : α → Bool} {l : List α} (h : ∀ j (hj : j < l.length), p (l[j]'hj) = false) : idx p l = -1 := by
  unfold idx
  rw [List.findIdx?_eq_none_iff.2 (fun x hx => by obtain ⟨j, hj, rfl⟩ := List.getElem_of_mem hx; exact h j hj)]
  rfl
theorem idx_any {α : Type} (p : α → Bool) (l : List α) : decide (0 ≤ idx p l) = l.any p := by
  unfold idx
  cases h : l.findIdx? p with
  | none =>
    rw [List.findIdx?_eq_none_iff] at h
    have : l.any p = false := by rw [List.any_eq_false]; intro x hx; simp [h x hx]
    rw [this]; rfl
  | some i =>
    obtain ⟨hi, hp, _⟩ := List.findIdx?_eq_some_iff_getElem.1 h
    have : l.any p = true := List.any_eq_true.2 ⟨_, List.getElem_mem hi, hp⟩
    rw [this]
    simp
theorem contains_any (l : List Int) (x : Int) : l.contains x = l.any (fun y => x == y) := by
  induction l with
  | nil => rfl
  | cons y l ih => simp only [List.contains_cons, List.any_cons, ih]

/-- what has been met -/
def seenM (l : List Tx) : List (Int × Bool) := l.map fun t => (t.id, true)
theorem seen_get (l : List Tx) (k : Int) : (mget (seenM l) k).getD false = (l.map (·.id)).contains k := by
  induction l with
  | nil => rfl
  | cons t l ih =>
    simp only [seenM, List.map_cons, mget, List.contains_cons] at ih ⊢
    by_cases h : t.id = k
    · simp [h]
    · have h2 : (k == t.id) = false := by simpa using fun e => h e.symm
      simp only [h, if_false, h2, Bool.false_or]
      exact ih
theorem mset_new {κ ν : Type} [DecidableEq κ] {m : List (κ × ν)} {k : κ} {v : ν} (h : mget m k = none) : mset m k v = m ++ [(k, v)] := by
  induction m with
  | nil => rfl
  | cons e m ih =>
    obtain ⟨k', v'⟩ := e
    simp only [mget] at h
    split at h
    · cases h
    · rename_i hne
      simp only [mset, hne, if_false, ih h, List.cons_append]
theorem seen_set (l : List Tx) (t : Tx) (h : (mget (seenM l) t.id).getD false = false) : mset (seenM l) t.id true = seenM (l ++ [t]) := by
  have hn : mget (seenM l) t.id = none := by
    cases hg : mget (seenM l) t.id with
    | none => rfl
    | some b =>
      rw [hg] at h
      have : b = true := by
        clear h
        induction l with
        | nil => cases hg
        | cons u l ih =>
          simp only [seenM, List.map_cons, mget] at hg ih
          split at hg
          · injection hg with hg; exact hg.symm
          · exact ih hg
      subst this
      cases h
  rw [mset_new hn]
  simp [seenM]
theorem unlike_step {l : List Tx} {i : Nat} (hi : i < l.length) (h : unlikeFrom [] l = unlikeFrom ((l.take i).map (·.id)) (l.drop i)) :
    unlikeFrom [] l = (!((l.take i).map (·.id)).contains l[i].id && unlikeFrom ((l.take (i + 1)).map (·.id)) (l.drop (i + 1))) := by
  rw [h, List.drop_eq_getElem_cons hi]
  simp only [unlikeFrom]
  rw [List.take_succ_eq_append_getElem hi, List.map_append]
  rfl
theorem unlikeFrom_take (l : List Tx) : ∀ (i : Nat) (seen : List Int), (unlikeFrom seen l = true → unlikeFrom (seen ++ (l.take i).map (·.id)) (l.drop i) = true) := by
  induction l with
  | nil => intro i seen h; simp [unlikeFrom]
  | cons t l ih =>
    intro i seen h
    cases i with
    | zero => simpa using h
    | succ i =>
      simp only [unlikeFrom, Bool.and_eq_true] at h
      have := ih i _ h.2
      simpa [List.append_assoc] using this
end Go.Proofs.YtagkniimpekhjaaGreat
