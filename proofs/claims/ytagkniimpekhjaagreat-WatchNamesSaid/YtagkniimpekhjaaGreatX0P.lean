/- A part of the proof: contracts over a program of the model. -/
import Derived.Test.YtagkniimpekhjaaGreatE14
set_option linter.unusedVariables false
namespace Go.Proofs.YtagkniimpekhjaaGreat

/-! ### an evaluator for closed runs, over abstract values -/
inductive AV where
  | v (u : Value)
  | ptr (k o : Nat)
  | sl (k sz lo hi : Nat)
  | el (k sz i o : Nat)
  | mp (k : Nat)
  | ch (k : Nat)
  | agg (l : List AV)
  | tup (l : List AV)
  | fn (f : FuncId) (us ws : List AV)
  | un
  deriving Inhabited
inductive Ent where
  | cells (k e : Nat) (cs : List AV)
  | row (k e sz : Nat) (l : List (List AV))
  | map (k kt vt : Nat) (m : List (Int × AV))
  | mapT (k kt vt : Nat) (m : List (Tri × AV))
  | chan (k : Nat)
  | dead
  deriving Inhabited
abbrev RG := List (Nat × AV)
structure XS where
  regs : RG
  heap : List Ent
  n : Nat
  deriving Inhabited
def gR : RG → Nat → Option AV
  | [], _ => none
  | (d, p) :: σ, k => bif Nat.beq d k then some p else gR σ k
def pR (d : Nat) (a : AV) : RG → RG
  | [] => [(d, a)]
  | (e, b) :: σ => bif Nat.beq e d then (d, a) :: σ else (e, b) :: pR d a σ
def dR (d : Nat) : RG → RG
  | [] => []
  | (e, b) :: σ => bif Nat.beq e d then dR d σ else (e, b) :: dR d σ
def lget {α : Type} : List α → Nat → Option α
  | [], _ => none
  | x :: l, i => match i with
    | 0 => some x
    | i + 1 => lget l i
def lset {α : Type} (y : α) : List α → Nat → List α
  | [], _ => []
  | x :: l, i => match i with
    | 0 => y :: l
    | i + 1 => x :: lset y l i
def oE (σ : RG) : Operand → Option AV
  | .tmp t => gR σ t
  | .const v => some (.v v)
  | .global _ => none
  | .func f => some (.fn f [] [])
def oEs (σ : RG) : List Operand → Option (List AV)
  | [] => some []
  | x :: xs => match oE σ x with
    | none => none
    | some a => match oEs σ xs with
      | none => none
      | some as => some (a :: as)
def posn (n k : Nat) : Nat := n - 1 - k
def lp1 {α : Type} (b : Bool) (x : Option α) : Option α := bif b then x else none
def asI : AV → Option (IntKind × Int)
  | .v (.int k n) => some (k, n)
  | _ => none
def asB : AV → Option Bool
  | .v (.bool b) => some b
  | _ => none
def asT : AV → Option (List AV)
  | .tup l => some l
  | _ => none
def asA : AV → Option (List AV)
  | .agg l => some l
  | _ => none
def asM : AV → Option Nat
  | .mp k => some k
  | _ => none
def asTri : AV → Option Tri
  | .agg [.v (.int .i64 a), .v (.int .i64 b), .v (.int .i64 c)] => some ⟨a, b, c⟩
  | _ => none
def asNil : AV → Bool
  | .v (.slice none 0 0) => true
  | _ => false
/-- a value of one cell -/
def isOne : AV → Bool
  | .v u => u.oneCell'
  | .agg _ => false
  | .tup _ => false
  | .un => false
  | _ => true
def eG (h : List Ent) (n k : Nat) : Option Ent := lget h (posn n k)
def entC (h : List Ent) (n k : Nat) : Option (Nat × List AV) := match eG h n k with
  | some (.cells k' e cs) => lp1 (Nat.beq k' k) (some (e, cs))
  | _ => none
def entR (h : List Ent) (n k : Nat) : Option (Nat × Nat × List (List AV)) := match eG h n k with
  | some (.row k' e sz l) => lp1 (Nat.beq k' k) (some (e, sz, l))
  | _ => none
def entM (h : List Ent) (n k : Nat) : Option (Nat × Nat × List (Int × AV)) := match eG h n k with
  | some (.map k' kt vt m) => lp1 (Nat.beq k' k) (some (kt, vt, m))
  | _ => none
def entT (h : List Ent) (n k : Nat) : Option (Nat × Nat × List (Tri × AV)) := match eG h n k with
  | some (.mapT k' kt vt m) => lp1 (Nat.beq k' k) (some (kt, vt, m))
  | _ => none
def entH (h : List Ent) (n k : Nat) : Bool := match eG h n k with
  | some (.chan k') => Nat.beq k' k
  | _ => false
def isCh (P : Program) (t : TypeId) : Bool := match P.underlying t with
  | some (.chan _ _) => true
  | _ => false
def isStr (P : Program) (t : TypeId) : Bool := match P.underlying t with
  | some .string => true
  | _ => false
def chanOk (P : Program) (t : TypeId) (m : Int) : Bool := match P.underlying t with
  | some (.chan _ e) => (match P.info? e with
    | some i => decide (0 ≤ m) && decide (m ≤ 9223372036854775807) && decide ((i.bytes : Int) * m ≤ 281474976710544)
    | none => false)
  | _ => false
def strOf : Operand → Option (List UInt8)
  | .const (.string s) => some s.data.toList
  | _ => none
def eP (h : List Ent) (n k : Nat) (e : Ent) : List Ent := lset e h (posn n k)
def rS (s : XS) (d : Nat) (a : AV) : XS := ⟨pR d a s.regs, s.heap, s.n⟩
def spA (ps : List AV) (o : Nat) : List AV → List AV
  | [] => ps
  | q :: qs => spA (lset q ps o) (o + 1) qs
/-- 0: one cell; n + 1: n cells -/
def knd (P : Program) (t : TypeId) : Option Nat := bif tOne P t then some 0 else match P.info? t with
  | some i => bif tAgg P t i.size then some (i.size + 1) else none
  | none => none
def flat : AV → List AV
  | .agg l => l
  | a => [a]
def foff (P : Program) (t : TypeId) (f : Nat) : Option Nat := match P.underlying t with
  | some (.struct fs) => (fs[f]?).map (·.offset)
  | _ => none
def elemT (P : Program) (t : TypeId) : Option TypeId := match P.underlying t with
  | some (.slice e) => some e
  | _ => none
def zers (P : Program) (t : TypeId) : Option (List AV) := (tZero P t).bind fun l => lp1 (l.all fun u => u.oneCell') (some (l.map AV.v))
/-- the cells of a value, by its type's make -/
def takeT (P : Program) (t : TypeId) (cs : List AV) (o : Nat) : Option AV := match knd P t with
  | some 0 => lget cs o
  | some (n + 1) => lp1 (Nat.ble (o + n) cs.length) (some (.agg ((cs.drop o).take n)))
  | none => none
def mgetA {κ : Type} [DecidableEq κ] : List (κ × AV) → κ → Option AV
  | [], _ => none
  | (k, a) :: m, x => if k = x then some a else mgetA m x
def msetA {κ : Type} [DecidableEq κ] : List (κ × AV) → κ → AV → List (κ × AV)
  | [], x, y => [(x, y)]
  | (k, a) :: m, x, y => if k = x then (x, y) :: m else (k, a) :: msetA m x y
/-- a slice's row: number, element type, cells, elements, from, to -/
structure RW where
  k : Nat
  e : Nat
  sz : Nat
  l : List (List AV)
  lo : Nat
  hi : Nat
def rowOf (h : List Ent) (n : Nat) : AV → Option RW
  | .sl k z lo hi => (entR h n k).bind fun x => lp1 (Nat.beq z x.2.1 && Nat.ble lo hi && Nat.ble hi x.2.2.length && (Nat.beq lo 0 || Nat.blt lo x.2.2.length)) (some ⟨k, x.1, x.2.1, x.2.2, lo, hi⟩)
  | _ => none
def cutL {α : Type} (l : List α) (lo hi : Nat) : List α := (l.take hi).drop lo
def binI (op : BinOp) (k : IntKind) (m n : Int) : Option Value := match op with
  | .lss => some (.bool (decide (m < n)))
  | .leq => some (.bool (decide (m ≤ n)))
  | .gtr => some (.bool (decide (n < m)))
  | .geq => some (.bool (decide (n ≤ m)))
  | .eql => some (.bool (m == n))
  | .neq => some (.bool (m != n))
  | .add => some (.int k (k.wrap (m + n)))
  | .sub => some (.int k (k.wrap (m - n)))
  | .mul => some (.int k (k.wrap (m * n)))
  | .quo => bif n == 0 then none else some (.int k (k.wrap (m.tdiv n)))
  | .rem => bif n == 0 then none else some (.int k (m.tmod n))
  | .and => some (.int k (k.wrap (BitVec.ofInt k.bits m &&& BitVec.ofInt k.bits n).toNat))
  | .or => some (.int k (k.wrap (BitVec.ofInt k.bits m ||| BitVec.ofInt k.bits n).toNat))
  | .xor => some (.int k (k.wrap (BitVec.ofInt k.bits m ^^^ BitVec.ofInt k.bits n).toNat))
  | _ => none
def isSh : BinOp → Bool
  | .shl => true
  | .shr => true
  | _ => false
def shI (op : BinOp) (k : IntKind) (m n : Int) : Option Value := match op with
  | .shl => lp1 (decide (0 ≤ n)) (some (.int k (k.wrap (m * 2 ^ (min n.toNat k.bits)))))
  | .shr => lp1 (decide (0 ≤ n)) (some (.int k (m.fdiv (2 ^ (min n.toNat k.bits)))))
  | _ => none
def isNilC : Operand → Bool
  | .const (.slice none 0 0) => true
  | _ => false
/-- a slice held against nil -/
def nilS (P : Program) (t : TypeId) (op : BinOp) (a : AV) (y : Operand) : Option Value := (elemT P t).bind fun e => lp1 (isNilC y) (match a with
  | .sl _ _ _ _ => (match op with | .eql => some (.bool false) | .neq => some (.bool true) | _ => none)
  | .v (.slice none 0 0) => (match op with | .eql => some (.bool true) | .neq => some (.bool false) | _ => none)
  | _ => none)
def isPNil : Operand → Bool
  | .const (.pointer none) => true
  | _ => false
def eqB (op : BinOp) (b : Bool) : Option Value := match op with
  | .eql => some (.bool b)
  | .neq => some (.bool (!b))
  | _ => none
/-- a pointer held against nil -/
def nilP (P : Program) (t : TypeId) (op : BinOp) (a : AV) (y : Operand) : Option Value := match P.underlying t with
  | some (.pointer _) => lp1 (isPNil y) (match a with
    | .ptr _ _ => eqB op false
    | .el _ _ _ _ => eqB op false
    | .v (.pointer none) => eqB op true
    | _ => none)
  | _ => none
def binA (P : Program) (t : TypeId) (op : BinOp) (a b : AV) (y : Operand) : Option Value := match asI a, asI b with
  | some (k, m), some (k', n) => bif isSh op then shI op k m n else bif decide (k = k') then binI op k m n else none
  | _, _ => match nilP P t op a y with
    | some v => some v
    | none => nilS P t op a y
abbrev CAL := FuncId → List AV → List Ent → Nat → Option (AV × List Ent × Nat)
def bldA (pl : List (Nat × Nat)) (ps : List AV) : List (Nat × AV) → Option (List AV)
  | [] => some ps
  | (i, a) :: xs => (lget pl i).bind fun x => lp1 (Nat.beq (flat a).length x.2 && Nat.ble (x.1 + x.2) ps.length && (flat a).all isOne) (bldA pl (spA ps x.1 (flat a)) xs)
def prs (σ : RG) : List (Nat × Operand) → Option (List (Nat × AV))
  | [] => some []
  | (i, x) :: xs => (oE σ x).bind fun a => (prs σ xs).bind fun l => some ((i, a) :: l)
def seqn : Nat → List (Nat × Operand) → Bool
  | _, [] => true
  | i, (j, _) :: l => Nat.beq i j && seqn (i + 1) l
abbrev RES := Option (AV × List Ent × Nat)
/-- the element type, its cells, its bytes -/
def eInf (P : Program) (t : TypeId) : Option (Nat × Nat × Nat × List AV) := (elemT P t).bind fun e => (P.info? e).bind fun i => (zers P e).bind fun z => lp1 (Nat.beq z.length i.size) (some (e, i.size, i.bytes, z))
def okLen (m sz bytes : Nat) : Bool := Nat.ble (m * (sz + 1)) 16777216 && Nat.ble (m * bytes) 16777216
/-- append -/
def appE (P : Program) (s : XS) (t : TypeId) (x y : AV) : RES := (eInf P t).bind fun i =>
  (bif asNil y then some [] else (rowOf s.heap s.n y).bind fun r => lp1 (Nat.beq r.sz i.2.1 && Nat.beq r.e i.1) (some (cutL r.l r.lo r.hi))).bind fun news =>
  bif asNil x then (match news with
    | [] => some (x, s.heap, s.n)
    | news => lp1 (okLen news.length i.2.1 i.2.2.1) (some (.sl s.n i.2.1 0 news.length, .row s.n i.1 i.2.1 news :: s.heap, s.n + 1)))
  else (rowOf s.heap s.n x).bind fun r => lp1 (Nat.beq r.sz i.2.1 && Nat.beq r.e i.1 && okLen (r.l.length + news.length) i.2.1 i.2.2.1) (
    bif Nat.ble (r.hi + news.length) r.l.length then some (.sl r.k r.sz r.lo (r.hi + news.length), eP s.heap s.n r.k (.row r.k r.e r.sz (r.l.take r.hi ++ news ++ r.l.drop (r.hi + news.length))), s.n)
    else lp1 (Nat.beq r.hi r.l.length && Nat.beq r.lo 0) (some (.sl s.n r.sz 0 (r.hi + news.length), .row s.n r.e r.sz (r.l ++ news) :: eP s.heap s.n r.k .dead, s.n + 1)))
/-- append(x, make(.., m)..) -/
def isIntT (P : Program) (t : TypeId) : Bool := match P.underlying t with
  | some (.int _) => true
  | _ => false
def appZ (P : Program) (s : XS) (t t' : TypeId) (x : AV) (m : Int) : RES := (eInf P t).bind fun i =>
  lp1 (asNil x && decide (0 < m) && okLen m.toNat i.2.1 i.2.2.1 && isIntT P t' && Nat.blt 0 i.2.1) (some (.sl s.n i.2.1 0 m.toNat, .row s.n i.1 i.2.1 (List.replicate m.toNat i.2.2.2) :: s.heap, s.n + 1))
def lenA (P : Program) (t : TypeId) (h : List Ent) (n : Nat) (a : AV) : Option Nat := match a with
  | .v (.slice none 0 0) => (elemT P t).bind fun _ => some 0
  | .mp k => (entM h n k).bind fun x => lp1 (tMap P t x.1 x.2.1) (some x.2.2.length)
  | .ch k => lp1 (entH h n k && isCh P t) (some 0)
  | a => (elemT P t).bind fun _ => (rowOf h n a).bind fun r => some (r.hi - r.lo)
def intI (n : Nat) : AV := .v (.int .i64 n)
def keep (s : XS) (a : Option AV) : RES := a.bind fun a => some (a, s.heap, s.n)
def loadE (P : Program) (s : XS) (t : TypeId) : AV → Option AV
  | .ptr k o => (entC s.heap s.n k).bind fun x => takeT P t x.2 o
  | .el k sz i o => (entR s.heap s.n k).bind fun x => lp1 (Nat.beq sz x.2.1) ((lget x.2.2 i).bind fun cs => takeT P t cs o)
  | _ => none
def offE (P : Program) (t : TypeId) (f : Nat) : AV → Option AV
  | .ptr k o => (foff P t f).bind fun off => lp1 (tFld P t f off) (some (.ptr k (o + off)))
  | .el k sz i o => (foff P t f).bind fun off => lp1 (tFld P t f off) (some (.el k sz i (o + off)))
  | _ => none
def fldE (P : Program) (t : TypeId) (f : Nat) (l : List AV) : Option AV := (foff P t f).bind fun off => match tPart P t f off with
  | some none => lget l off
  | some (some n) => lp1 (Nat.ble (off + n) l.length) (some (.agg ((l.drop off).take n)))
  | none => none
def nck : AV → Option AV
  | .ptr k o => some (.ptr k o)
  | .el k sz i o => some (.el k sz i o)
  | _ => none
def cvtE (P : Program) (t u : TypeId) (a : AV) : Option AV := (asI a).bind fun x => match P.underlying t, P.underlying u with
  | some (.int k), some (.int k') => lp1 (decide (k = x.1)) (some (.v (.int k' (k'.wrap x.2))))
  | _, _ => none
def bnd (σ : RG) (d : Nat) : Option Operand → Option (IntKind × Nat)
  | none => some (.i64, d)
  | some x => (oE σ x).bind fun a => (asI a).bind fun y => lp1 (decide (0 ≤ y.2)) (some (y.1, y.2.toNat))
def cutE (P : Program) (s : XS) (t : TypeId) (a : AV) (lo hi : Option Operand) : Option AV :=
  bif asNil a then (elemT P t).bind fun e => (P.info? e).bind fun i => (bnd s.regs 0 lo).bind fun l => (bnd s.regs 0 hi).bind fun h => lp1 (Nat.beq l.2 0 && Nat.beq h.2 0) (some a)
  else (elemT P t).bind fun e => (rowOf s.heap s.n a).bind fun r => lp1 (Nat.beq r.e e && tSl P t e r.sz) ((bnd s.regs 0 lo).bind fun l => (bnd s.regs (r.hi - r.lo) hi).bind fun h =>
    lp1 (Nat.ble l.2 h.2 && Nat.ble (r.lo + h.2) r.l.length && (Nat.beq l.2 0 || Nat.blt (r.lo + l.2) r.l.length)) (some (.sl r.k r.sz (r.lo + l.2) (r.lo + h.2))))
def zav : Value → AV
  | .agg cs => .agg (cs.toList.map AV.v)
  | v => .v v
def lkE (P : Program) (s : XS) (t : TypeId) (k : Nat) (x : Int) (ok : Bool) : Option AV := (entM s.heap s.n k).bind fun m =>
  lp1 (tMap P t m.1 m.2.1 && isInt P m.1) (((P.info? m.2.1).bind (·.zero)).bind fun z =>
      match mgetA m.2.2 x with
      | some a => some (bif ok then .tup [a, .v (.bool true)] else a)
      | none => some (bif ok then .tup [zav z, .v (.bool false)] else zav z))
def lkT (P : Program) (s : XS) (t : TypeId) (k : Nat) (x : Tri) (ok : Bool) : Option AV := (entT s.heap s.n k).bind fun m =>
  lp1 (tMap P t m.1 m.2.1 && tTri P m.1) (((P.info? m.2.1).bind (·.zero)).bind fun z =>
      match mgetA m.2.2 x with
      | some a => some (bif ok then .tup [a, .v (.bool true)] else a)
      | none => some (bif ok then .tup [zav z, .v (.bool false)] else zav z))
/-- an operation that gives a value, calls of functions apart -/
def valE (P : Program) (s : XS) : Op → RES
  | .move x => keep s (oE s.regs x)
  | .assign x => keep s (oE s.regs x)
  | .pick c x y => (oE s.regs c).bind fun c => (asB c).bind fun b => bif b then keep s (oE s.regs x) else keep s (oE s.regs y)
  | .load t x => (oE s.regs x).bind fun a => keep s (loadE P s t a)
  | .fieldAddr t x f => (oE s.regs x).bind fun a => keep s (offE P t f a)
  | .field t x f => (oE s.regs x).bind fun a => (asA a).bind fun l => keep s (fldE P t f l)
  | .nilCheck x => (oE s.regs x).bind fun a => keep s (nck a)
  | .binOp op t x y _ => (oE s.regs x).bind fun a => (oE s.regs y).bind fun b => keep s ((binA P t op a b y).bind fun u => some (.v u))
  | .unOp op _ x => (match op with
    | .not => (oE s.regs x).bind fun a => (asB a).bind fun b => keep s (some (.v (.bool (!b))))
    | .neg => (oE s.regs x).bind fun a => (asI a).bind fun y => keep s (some (.v (.int y.1 (y.1.wrap (-y.2)))))
    | _ => none)
  | .convert t u x => (oE s.regs x).bind fun a => keep s (cvtE P t u a)
  | .extract x i => (oE s.regs x).bind fun a => (asT a).bind fun l => keep s (lget l i)
  | .alloc e => (zers P e).bind fun z => some (.ptr s.n 0, .cells s.n e z :: s.heap, s.n + 1)
  | .box e x => (oE s.regs x).bind fun a => lp1 ((flat a).all isOne) (some (.ptr s.n 0, .cells s.n e (flat a) :: s.heap, s.n + 1))
  | .build t xs => (tPlaces P t).bind fun pl => (zers P t).bind fun z => (prs s.regs xs.toList).bind fun l => (bldA pl z l).bind fun q => keep s (some (.agg q))
  | .buildSlice t n xs => (eInf P t).bind fun i => (prs s.regs xs.toList).bind fun l => lp1 (seqn 0 xs.toList && Nat.beq l.length n && okLen n i.2.1 i.2.2.1 && (l.all fun x => Nat.beq (flat x.2).length i.2.1 && (flat x.2).all isOne)) (some (.sl s.n i.2.1 0 n, .row s.n i.1 i.2.1 (l.map fun x => flat x.2) :: s.heap, s.n + 1))
  | .indexAddr t x y => (oE s.regs x).bind fun a => (oE s.regs y).bind fun b => (asI b).bind fun i => (rowOf s.heap s.n a).bind fun r => lp1 (tSl P t r.e r.sz && decide (0 ≤ i.2) && Nat.blt i.2.toNat (r.hi - r.lo)) (keep s (some (.el r.k r.sz (r.lo + i.2.toNat) 0)))
  | .slice t x lo hi none => (oE s.regs x).bind fun a => keep s (cutE P s t a lo hi)
  | .makeFunc (.func f) first cap => (oEs s.regs first.toList).bind fun us => (oEs s.regs cap.toList).bind fun ws => keep s (some (.fn f us ws))
  | .makeMap t none => (match P.underlying t with
    | some (.map kt vt) => some (.mp s.n, (bif tTri P kt then .mapT s.n kt vt [] else .map s.n kt vt []) :: s.heap, s.n + 1)
    | _ => none)
  | .makeChan t x => (oE s.regs x).bind fun a => (asI a).bind fun m => lp1 (chanOk P t m.2) (some (.ch s.n, .chan s.n :: s.heap, s.n + 1))
  | .makeSlice t x y => (oE s.regs x).bind fun a => (asI a).bind fun m => (oE s.regs y).bind fun b => (asI b).bind fun m' => (eInf P t).bind fun i =>
    lp1 (decide (m.1 = .i64) && decide (m'.1 = .i64) && decide (m.2 = m'.2) && decide (0 ≤ m.2) && okLen m.2.toNat i.2.1 i.2.2.1 && Nat.blt 0 i.2.1) (some (.sl s.n i.2.1 0 m.2.toNat, .row s.n i.1 i.2.1 (List.replicate m.2.toNat i.2.2.2) :: s.heap, s.n + 1))
  | .index t x y => (strOf x).bind fun l => (oE s.regs y).bind fun b => (asI b).bind fun m => lp1 (isStr P t && decide (0 ≤ m.2)) (keep s ((lget l m.2.toNat).bind fun c => some (.v (.int .u8 c.toNat))))
  | .lookup t x y ok => (oE s.regs x).bind fun a => (asM a).bind fun k => (oE s.regs y).bind fun b => match asTri b with
    | some x => keep s (lkT P s t k x ok)
    | none => (asI b).bind fun i => lp1 (decide (i.1 = .i64)) (keep s (lkE P s t k i.2 ok))
  | .call c => (match c.callee with
    | .builtin .len => (oEs s.regs c.args.toList).bind fun l => (match l, c.argTypes.toList with
      | [a], [t] => keep s ((lenA P t s.heap s.n a).bind fun n => some (intI n))
      | _, _ => none)
    | .builtin .cap => (oEs s.regs c.args.toList).bind fun l => (match l, c.argTypes.toList with
      | [a], [t] => (elemT P t).bind fun _ => lp1 (asNil a) (keep s (some (intI 0)))
      | _, _ => none)
    | .builtin .append => (oEs s.regs c.args.toList).bind fun l => (match l, c.argTypes.toList with
      | [a, b], [t, t'] => (match asI b with
        | some (_, m) => appZ P s t t' a m
        | none => lp1 (Nat.beq t t') (appE P s t a b))
      | _, _ => none)
    | .builtin .max => (oEs s.regs c.args.toList).bind fun l => (match l with
      | [a, b] => (asI a).bind fun x => (asI b).bind fun y => keep s (some (.v (.int x.1 (max x.2 y.2))))
      | _ => none)
    | .builtin .min => (oEs s.regs c.args.toList).bind fun l => (match l with
      | [a, b] => (asI a).bind fun x => (asI b).bind fun y => keep s (some (.v (.int x.1 (min x.2 y.2))))
      | _ => none)
    | .builtin .copy => (oEs s.regs c.args.toList).bind fun l => (match l, c.argTypes.toList with
      | [a, b], [t, t'] => lp1 (Nat.beq t t') ((eInf P t).bind fun i => (bif asNil b then some [] else (rowOf s.heap s.n b).bind fun r => lp1 (Nat.beq r.sz i.2.1 && Nat.beq r.e i.1) (some (cutL r.l r.lo r.hi))).bind fun news =>
        (rowOf s.heap s.n a).bind fun r => lp1 (Nat.beq r.e i.1 && Nat.beq r.sz i.2.1 && Nat.ble news.length (r.hi - r.lo)) (some (intI news.length, eP s.heap s.n r.k (.row r.k r.e r.sz (r.l.take r.lo ++ news ++ r.l.drop (r.lo + news.length))), s.n)))
      | _, _ => none)
    | .builtin .clear => (oEs s.regs c.args.toList).bind fun l => (match l, c.argTypes.toList with
      | [a], [t] => (eInf P t).bind fun i => (rowOf s.heap s.n a).bind fun r => lp1 (Nat.beq r.e i.1 && Nat.beq r.sz i.2.1 && Nat.blt 0 i.2.1) (some (.tup [], eP s.heap s.n r.k (.row r.k r.e r.sz (r.l.take r.lo ++ List.replicate (r.hi - r.lo) i.2.2.2 ++ r.l.drop r.hi)), s.n))
      | _, _ => none)
    | _ => none)
  | _ => none
def stoE (P : Program) (s : XS) (t : TypeId) (a : AV) : AV → Option (List Ent)
  | .ptr k o => (entC s.heap s.n k).bind fun x => lp1 (Nat.ble (o + (flat a).length) x.2.length && (flat a).all isOne && (match P.info? t with | some i => Nat.beq i.size (flat a).length | none => false)) (some (eP s.heap s.n k (.cells k x.1 (spA x.2 o (flat a)))))
  | .el k sz i o => (entR s.heap s.n k).bind fun x => (lget x.2.2 i).bind fun cs => lp1 (Nat.beq sz x.2.1 && Nat.ble (o + (flat a).length) x.2.1 && (flat a).all isOne && (match P.info? t with | some i => Nat.beq i.size (flat a).length | none => false)) (some (eP s.heap s.n k (.row k x.1 x.2.1 (lset (spA cs o (flat a)) x.2.2 i))))
  | _ => none
def effE (P : Program) (s : XS) : Op → Option (List Ent)
  | .store t x y => (oE s.regs x).bind fun p => (oE s.regs y).bind fun a => stoE P s t a p
  | .mapUpdate t x y z => (oE s.regs x).bind fun a => (asM a).bind fun k => (oE s.regs y).bind fun b => match asTri b with
    | some x => (oE s.regs z).bind fun c => (entT s.heap s.n k).bind fun m => lp1 (tMap P t m.1 m.2.1 && tTri P m.1 && Nat.ble m.2.2.length 1000000) (some (eP s.heap s.n k (.mapT k m.1 m.2.1 (msetA m.2.2 x c))))
    | none => (asI b).bind fun i => (oE s.regs z).bind fun c => (entM s.heap s.n k).bind fun m =>
    lp1 (decide (i.1 = .i64) && tMap P t m.1 m.2.1 && isInt P m.1 && Nat.ble m.2.2.length 1000000) (some (eP s.heap s.n k (.map k m.1 m.2.1 (msetA m.2.2 i.2 c))))
  | _ => none
/-- some true: carried out; some false: passed by -/
def gdE (ops : Array Oper) (s : XS) : Option (Nat × Bool) → Option Bool
  | none => some true
  | some (j, want) => ((ops[j]?).bind (·.dst)).bind fun d => match gR s.regs d with
    | some (.v (.bool b)) => some (b == want)
    | some .un => some false
    | _ => none
def fnOf : AV → Option (FuncId × List AV × List AV)
  | .fn f us ws => some (f, us, ws)
  | _ => none
def callOf : Op → Option (Operand × List Operand)
  | .call ⟨.value f, args, _⟩ => some (f, args.toList)
  | _ => none
def opE (P : Program) (cal : CAL) (fz : Nat) (ops : Array Oper) (s : XS) (o : Oper) : Option XS := (gdE ops s o.guard).bind fun g =>
  bif g then (match callOf o.op with
    | some (f, xs) => (oE s.regs f).bind fun fv => (fnOf fv).bind fun c => (oEs s.regs xs).bind fun l => (cal c.1 (c.2.1 ++ l ++ c.2.2) s.heap s.n).bind fun r => (match o.dst with
      | some d => lp1 (Nat.ble (d + 1) fz) (some ⟨pR d r.1 s.regs, r.2.1, r.2.2⟩)
      | none => some ⟨s.regs, r.2.1, r.2.2⟩)
    | none => (match o.dst with
      | some d => lp1 (Nat.ble (d + 1) fz) ((valE P s o.op).bind fun r => some ⟨pR d r.1 s.regs, r.2.1, r.2.2⟩)
      | none => (match effE P s o.op with
        | some h => some ⟨s.regs, h, s.n⟩
        | none => (valE P s o.op).bind fun r => some ⟨s.regs, r.2.1, r.2.2⟩)))
  else (match o.dst with
    | some d => lp1 (Nat.ble (d + 1) fz) (some (rS s d .un))
    | none => some s)
def opsE (P : Program) (cal : CAL) (fz : Nat) (ops : Array Oper) : List Oper → XS → Option XS
  | [], s => some s
  | o :: l, s => (opE P cal fz ops s o).bind fun s' => opsE P cal fz ops l s'
def agsA : Nat → List AV → RG
  | _, [] => []
  | i, p :: ps => (i, p) :: agsA (i + 1) ps
def resE (P : Program) (s : XS) : ResultVar → Option AV
  | .tmp t => gR s.regs t
  | .cell t ty => (gR s.regs t).bind fun a => loadE P s ty a
def resA (P : Program) (s : XS) : List ResultVar → Option (List AV)
  | [] => some []
  | r :: rs => (resE P s r).bind fun a => (resA P s rs).bind fun l => some (a :: l)
def oneA : List AV → AV
  | [a] => a
  | l => .tup l
def callE (P : Program) (ev : Nat → Code → XS → Option (Exit × XS)) (f : FuncId) (args : List AV) (h : List Ent) (n : Nat) : RES :=
  (P.funcs[f]?).bind fun fn => fn.body.bind fun c => lp1 (isGo P f && Nat.ble args.length fn.ntmps) ((ev fn.ntmps c ⟨agsA 0 args, h, n⟩).bind fun r => match r.1 with
    | .normal => (resA P r.2 fn.results.toList).bind fun l => some (oneA l, r.2.heap, r.2.n)
    | .ret => (resA P r.2 fn.results.toList).bind fun l => some (oneA l, r.2.heap, r.2.n)
    | _ => none)
def jumpE (ev : Code → XS → Option (Exit × XS)) (c : Code) : Nat → Code → XS → Option (Exit × XS)
  | 0, _, _ => none
  | j + 1, rest, s => (ev rest s).bind fun r => match r.1 with
    | .goto l => (findLabel c l).bind fun q => jumpE ev c j q r.2
    | .normal => some r
    | .ret => some r
    | _ => none
def loopE (ev : XS → Option (Exit × XS)) : Nat → XS → Option (Exit × XS)
  | 0, _ => none
  | j + 1, s => (ev s).bind fun r => match r.1 with
    | .normal => loopE ev j r.2
    | .exit id => some r
    | .goto l => some r
    | .ret => some r
    | _ => none
/-! a region whose order is open -/
def isR : Op → Bool
  | .move _ | .assign _ | .pick _ _ _ | .load _ _ | .fieldAddr _ _ _ | .field _ _ _ | .nilCheck _ | .binOp _ _ _ _ _ | .unOp _ _ _ | .convert _ _ _ | .extract _ _ | .build _ _ | .indexAddr _ _ _ | .slice _ _ _ _ _ | .makeFunc _ _ _ | .lookup _ _ _ _ | .index _ _ _ => true
  | .call c => (match c.callee with
    | .builtin .len => true
    | .builtin .max => true
    | .builtin .min => true
    | .builtin .cap => true
    | _ => false)
  | _ => false
def vBeq : Value → Value → Bool
  | .bool a, .bool b => a == b
  | .int k m, .int k' n => decide (k = k') && m == n
  | .pointer none, .pointer none => true
  | .slice none a b, .slice none a' b' => Nat.beq a a' && Nat.beq b b'
  | .map none, .map none => true
  | .nilFunc, .nilFunc => true
  | .chan none, .chan none => true
  | .string a, .string b => decide (a.data.toList = b.data.toList)
  | _, _ => false
mutual
def aBeq : AV → AV → Bool
  | .v u, .v u' => vBeq u u'
  | .ptr k o, .ptr k' o' => Nat.beq k k' && Nat.beq o o'
  | .sl k a b c, .sl k' a' b' c' => Nat.beq k k' && Nat.beq a a' && Nat.beq b b' && Nat.beq c c'
  | .el k a b c, .el k' a' b' c' => Nat.beq k k' && Nat.beq a a' && Nat.beq b b' && Nat.beq c c'
  | .mp k, .mp k' => Nat.beq k k'
  | .ch k, .ch k' => Nat.beq k k'
  | .agg l, .agg l' => lBeq l l'
  | .tup l, .tup l' => lBeq l l'
  | .fn f us ws, .fn f' us' ws' => Nat.beq f f' && lBeq us us' && lBeq ws ws'
  | .un, .un => true
  | _, _ => false
def lBeq : List AV → List AV → Bool
  | [], [] => true
  | a :: l, b :: l' => aBeq a b && lBeq l l'
  | _, _ => false
end
def oBeq : Option AV → Option AV → Bool
  | none, none => true
  | some a, some b => aBeq a b
  | _, _ => false
def depsOf (o : Oper) : List Nat := (o.after.toList.filter (Region.binds .any)).map (·.on)
def has (l : List Nat) (i : Nat) : Bool := l.any (Nat.beq i)
def unL (xs : List Nat) : List Nat → List Nat
  | [] => xs
  | y :: ys => bif has xs y then unL xs ys else unL (y :: xs) ys
/-- which come ahead of each operation -/
def ahGo : List Oper → List (List Nat) → List (List Nat)
  | [], acc => acc
  | o :: os, acc => ahGo os (acc ++ [(depsOf o).foldl (fun s d => unL s (d :: (lget acc d).getD [])) []])
structure DS where
  rs : List (Option AV)
  sn : List (List Ent × Nat)
  hp : List Nat
def mkRegs (ops : Array Oper) (base : RG) (rs : List (Option AV)) : List Nat → RG
  | [] => base
  | j :: js => match (ops[j]?).bind (·.dst), (lget rs j).bind id with
    | some d, some a => pR d a (mkRegs ops base rs js)
    | _, _ => mkRegs ops base rs js
def resOf (s : XS) (o : Oper) : Option AV := o.dst.bind fun d => gR s.regs d
/-- one more than the last place of 'hp' that is in 'ah' -/
def loOf (ah : List Nat) : Nat → List Nat → Nat → Nat
  | _, [], r => r
  | k, j :: js, r => loOf ah (k + 1) js (bif has ah j then k + 1 else r)
/-- the first place of 'hp' ahead of which i stands -/
def hiOf (T : List (List Nat)) (i : Nat) : Nat → List Nat → Nat
  | k, [] => k
  | k, j :: js => bif has ((lget T j).getD []) i then k else hiOf T i (k + 1) js
def dstep (P : Program) (cal : CAL) (fz : Nat) (ops : Array Oper) (base : RG) (T : List (List Nat)) (i : Nat) (o : Oper) (D : DS) : Option DS :=
  let ah := (lget T i).getD []
  let regs := mkRegs ops base D.rs ah
  bif isR o.op then (lget D.sn (loOf ah 0 D.hp 0)).bind fun sn => (opE P cal fz ops ⟨regs, sn.1, sn.2⟩ o).bind fun s' => some ⟨D.rs ++ [resOf s' o], D.sn, D.hp⟩
  else lp1 (D.hp.all fun j => has ah j) ((lget D.sn D.hp.length).bind fun sn => (opE P cal fz ops ⟨regs, sn.1, sn.2⟩ o).bind fun s' => some ⟨D.rs ++ [resOf s' o], D.sn ++ [(s'.heap, s'.n)], D.hp ++ [i]⟩)
def dgo (P : Program) (cal : CAL) (fz : Nat) (ops : Array Oper) (base : RG) (T : List (List Nat)) : Nat → List Oper → DS → Option DS
  | _, [], D => some D
  | i, o :: os, D => (dstep P cal fz ops base T i o D).bind fun D' => dgo P cal fz ops base T (i + 1) os D'
/-- one that only reads gives the same whenever it is carried out -/
def dchk1 (P : Program) (cal : CAL) (fz : Nat) (ops : Array Oper) (regs : RG) (o : Oper) (r : Option AV) (sn : List (List Ent × Nat)) (t : Nat) : Nat → Bool
  | 0 => true
  | m + 1 => (match (lget sn t).bind fun sn => opE P cal fz ops ⟨regs, sn.1, sn.2⟩ o with
    | some s' => oBeq (resOf s' o) r
    | none => false) && dchk1 P cal fz ops regs o r sn (t + 1) m
def dchk (P : Program) (cal : CAL) (fz : Nat) (ops : Array Oper) (base : RG) (T : List (List Nat)) (D : DS) : Nat → List Oper → Bool
  | _, [] => true
  | i, o :: os => (bif isR o.op then
      let ah := (lget T i).getD []
      let lo := loOf ah 0 D.hp 0
      let hi := hiOf T i 0 D.hp
      dchk1 P cal fz ops (mkRegs ops base (D.rs.take i) ah) o ((lget D.rs i).bind id) D.sn lo (hi + 1 - lo)
    else true) && dchk P cal fz ops base T D (i + 1) os
def dropR (ds : List Nat) : RG → RG
  | [] => []
  | (e, b) :: σ => bif has ds e then dropR ds σ else (e, b) :: dropR ds σ
def dstL (l : List Oper) : List Nat := l.filterMap (·.dst)
def noDup : List Nat → Bool
  | [] => true
  | d :: ds => !(has ds d) && noDup ds
def bkOk : Nat → List Oper → Bool
  | _, [] => true
  | i, o :: os => (depsOf o).all (fun k => Nat.blt k i) && bkOk (i + 1) os
def rngL : Nat → Nat → List Nat
  | _, 0 => []
  | i, m + 1 => i :: rngL (i + 1) m
def drawE (P : Program) (cal : CAL) (fz : Nat) (ops : Array Oper) (s : XS) : Option XS :=
  let l := ops.toList
  lp1 (P.follows .mixedOrders && noDup (dstL l) && bkOk 0 l) (
    let T := ahGo l []
    let base := dropR (dstL l) s.regs
    (dgo P cal fz ops base T 0 l ⟨[], [(s.heap, s.n)], []⟩).bind fun D =>
      lp1 (dchk P cal fz ops base T D 0 l) ((lget D.sn D.hp.length).bind fun sn => some ⟨mkRegs ops base D.rs (rngL 0 l.length), sn.1, sn.2⟩))
/-! .. where the operations that change the heap are left in no order: each only lays new entries -/
def llBeq : List (List AV) → List (List AV) → Bool
  | [], [] => true
  | a :: l, b :: l' => lBeq a b && llBeq l l'
  | _, _ => false
def miBeq : List (Int × AV) → List (Int × AV) → Bool
  | [], [] => true
  | (k, a) :: l, (k', b) :: l' => decide (k = k') && aBeq a b && miBeq l l'
  | _, _ => false
def mtBeq : List (Tri × AV) → List (Tri × AV) → Bool
  | [], [] => true
  | (k, a) :: l, (k', b) :: l' => decide (k = k') && aBeq a b && mtBeq l l'
  | _, _ => false
def eBeq : Ent → Ent → Bool
  | .cells k e cs, .cells k' e' cs' => Nat.beq k k' && Nat.beq e e' && lBeq cs cs'
  | .row k e sz l, .row k' e' sz' l' => Nat.beq k k' && Nat.beq e e' && Nat.beq sz sz' && llBeq l l'
  | .map k a b m, .map k' a' b' m' => Nat.beq k k' && Nat.beq a a' && Nat.beq b b' && miBeq m m'
  | .mapT k a b m, .mapT k' a' b' m' => Nat.beq k k' && Nat.beq a a' && Nat.beq b b' && mtBeq m m'
  | .chan k, .chan k' => Nat.beq k k'
  | .dead, .dead => true
  | _, _ => false
def hBeq : List Ent → List Ent → Bool
  | [], [] => true
  | a :: l, b :: l' => eBeq a b && hBeq l l'
  | _, _ => false
def deadL (sg : List Ent) : List Ent := sg.map fun _ => .dead
def maskH (live : Nat → Bool) : Nat → List (List Ent) → List Ent → List Ent
  | _, [], h => h
  | j, sg :: sgs, h => maskH live (j + 1) sgs ((bif live j then sg else deadL sg) ++ h)
structure DM where
  rs : List (Option AV)
  segs : List (List Ent)
  ns : List Nat
  n : Nat
def mstep (P : Program) (cal : CAL) (fz : Nat) (ops : Array Oper) (base : RG) (T : List (List Nat)) (h0 : List Ent) (i : Nat) (o : Oper) (D : DM) : Option DM :=
  let ah := (lget T i).getD []
  let hi := maskH (has ah) 0 D.segs h0
  (opE P cal fz ops ⟨mkRegs ops base D.rs ah, hi, D.n⟩ o).bind fun s' =>
    lp1 (hBeq (s'.heap.drop (s'.n - D.n)) hi) (some ⟨D.rs ++ [resOf s' o], D.segs ++ [s'.heap.take (s'.n - D.n)], D.ns ++ [D.n], s'.n⟩)
def mgo (P : Program) (cal : CAL) (fz : Nat) (ops : Array Oper) (base : RG) (T : List (List Nat)) (h0 : List Ent) : Nat → List Oper → DM → Option DM
  | _, [], D => some D
  | i, o :: os, D => (mstep P cal fz ops base T h0 i o D).bind fun D' => mgo P cal fz ops base T h0 (i + 1) os D'
def drawM (P : Program) (cal : CAL) (fz : Nat) (ops : Array Oper) (s : XS) : Option XS :=
  let l := ops.toList
  lp1 (P.follows .mixedOrders && noDup (dstL l) && bkOk 0 l) (
    let T := ahGo l []
    let base := dropR (dstL l) s.regs
    (mgo P cal fz ops base T s.heap 0 l ⟨[], [], [], s.n⟩).bind fun D => some ⟨mkRegs ops base D.rs (rngL 0 l.length), maskH (fun _ => true) 0 D.segs s.heap, D.n⟩)
def drawA (P : Program) (cal : CAL) (fz : Nat) (ops : Array Oper) (s : XS) : Option XS := match drawE P cal fz ops s with
  | some s' => some s'
  | none => drawM P cal fz ops s
def ev (P : Program) (prim : CAL) : Nat → Nat → Code → XS → Option (Exit × XS)
  | 0, _, _, _ => none
  | m + 1, fz, .skip, s => some (.normal, s)
  | m + 1, fz, .label _, s => some (.normal, s)
  | m + 1, fz, .ret, s => some (.ret, s)
  | m + 1, fz, .exit id, s => some (.exit id, s)
  | m + 1, fz, .goto id, s => some (.goto id, s)
  | m + 1, fz, .region _ ops false, s => (opsE P (fun f a h n => match prim f a h n with | some r => some r | none => callE P (ev P prim m) f a h n) fz ops ops.toList s).bind fun s' => some (.normal, s')
  | m + 1, fz, .region _ ops true, s => (drawA P (fun f a h n => match prim f a h n with | some r => some r | none => callE P (ev P prim m) f a h n) fz ops s).bind fun s' => some (.normal, s')
  | m + 1, fz, .seq a b, s => (ev P prim m fz a s).bind fun r => match r.1 with
    | .normal => ev P prim m fz b r.2
    | .exit id => some r
    | .goto l => some r
    | .ret => some r
    | _ => none
  | m + 1, fz, .cond c a b, s => (oE s.regs c).bind fun x => (asB x).bind fun x => bif x then ev P prim m fz a s else ev P prim m fz b s
  | m + 1, fz, .block id c, s => (ev P prim m fz c s).bind fun r => match r.1 with
    | .exit id' => bif Nat.beq id' id then some (.normal, r.2) else some r
    | .normal => some r
    | .goto l => some r
    | .ret => some r
    | _ => none
  | m + 1, fz, .scope c, s => jumpE (ev P prim m fz) c m c s
  | m + 1, fz, .loop c, s => loopE (ev P prim m fz c) m s
  | m + 1, _, _, _ => none
end Go.Proofs.YtagkniimpekhjaaGreat

set_option linter.unusedVariables false
namespace Go.Proofs.YtagkniimpekhjaaGreat
/-! ### functions of the library, given at once -/
def insI (x : Int) : List Int → List Int
  | [] => [x]
  | y :: l => if x ≤ y then x :: y :: l else y :: insI x l
def srtI : List Int → List Int
  | [] => []
  | x :: l => insI x (srtI l)
def okI64 (x : Int) : Bool := decide (-9223372036854775808 ≤ x) && decide (x ≤ 9223372036854775807)
/-- slices.Sorted(maps.Keys(m)) -/
def primSK (fs e : Nat) (fks : List Nat) : CAL := fun f args h n =>
  lp1 (Nat.beq f fs) (match args with
    | [.fn fk [] [.ptr kb 0]] => lp1 (fks.any (Nat.beq fk)) ((entC h n kb).bind fun x => match x.2 with
      | [.mp k] => (entM h n k).bind fun m => lp1 (m.2.2.all (fun x => okI64 x.1) && Nat.ble m.2.2.length 1000000) (match m.2.2 with
        | [] => some (.v (.slice none 0 0), h, n)
        | l => some (.sl n 1 0 l.length, .row n e 1 ((srtI (l.map (·.1))).map fun x => [.v (.int .i64 x)]) :: h, n + 1))
      | _ => none)
    | _ => none)
end Go.Proofs.YtagkniimpekhjaaGreat
