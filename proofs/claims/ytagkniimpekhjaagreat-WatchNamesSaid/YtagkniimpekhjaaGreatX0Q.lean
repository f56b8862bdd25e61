/- A part of the proof: contracts over a program of the model. -/
import Derived.Test.YtagkniimpekhjaaGreatX0P
import Derived.Test.YtagkniimpekhjaaGreatL1
set_option linter.unusedVariables false
namespace Go.Proofs.YtagkniimpekhjaaGreat
/-! ### functions of the tally, given at once -/
def triInts : List (Tri × AV) → Option (List (Tri × Int))
  | [] => some []
  | (k, a) :: m => match a with
    | .v (.int .i64 n) => (triInts m).bind fun l => some ((k, n) :: l)
    | _ => none
structure TAL where
  kb : Nat
  e : Nat
  stk : AV
  k : Nat
  kt : Nat
  vt : Nat
  mm : List (Tri × AV)
  m : List (Tri × Int)
def tallyOf (h : List Ent) (n : Nat) : AV → Option TAL
  | .ptr kb 0 => (entC h n kb).bind fun x => (match x.2 with
    | [stk, .mp k] => (entT h n k).bind fun y => (triInts y.2.2).bind fun m => lp1 (Nat.ble m.length 1000000) (some ⟨kb, x.1, stk, k, y.1, y.2.1, y.2.2, m⟩)
    | _ => none)
  | _ => none
def sliceOf (n : Nat) (h : List Ent) : List Int → RES
  | [] => some (.v (.slice none 0 0), h, n)
  | x :: l => some (.sl n 1 0 (l.length + 1), .row n 3 1 ((x :: l).map fun x => [.v (.int .i64 x)]) :: h, n + 1)
def whoL (p : Tri → Int → Bool) (m : List (Tri × Int)) : List Int := srtD ((m.filter fun kv => p kv.1 kv.2).map (·.1.c))
def viewsL (m : List (Tri × Int)) : List Int := srtD (m.map (·.1.b))
/-- (*Tally).All -/
def primAll (f0 : Nat) : CAL := fun f args h n => lp1 (Nat.beq f f0) (match args with
  | [p, .v (.int .i64 kind), .v (.int .i64 view)] => (tallyOf h n p).bind fun T => sliceOf n h (whoL (fun b _ => b.a == kind && b.b == view) T.m)
  | _ => none)
/-- (*Tally).Who -/
def primWho (f0 : Nat) : CAL := fun f args h n => lp1 (Nat.beq f f0) (match args with
  | [p, .v (.int .i64 kind), .v (.int .i64 view), .v (.int .i64 val)] => (tallyOf h n p).bind fun T => sliceOf n h (whoL (fun b x => b.a == kind && b.b == view && x == val) T.m)
  | _ => none)
/-- (*Tally).views -/
def primViews (f0 : Nat) : CAL := fun f args h n => lp1 (Nat.beq f f0) (match args with
  | [p] => (tallyOf h n p).bind fun T => lp1 (T.m.all fun kv => okI64 kv.1.b) (sliceOf n h (viewsL T.m))
  | _ => none)
/-- (*Tally).Ahead, where no view is beyond -/
def primAhead (f0 : Nat) : CAL := fun f args h n => lp1 (Nat.beq f f0) (match args with
  | [p, .v (.int .i64 view)] => (tallyOf h n p).bind fun T => lp1 (T.m.all fun kv => okI64 kv.1.b && decide (kv.1.b ≤ view)) (some (.v (.int .i64 view), h, n))
  | _ => none)
/-- slices.Sorted(maps.Values(m)), m empty -/
def primSV0 (fs fv : Nat) : CAL := fun f args h n => lp1 (Nat.beq f fs) (match args with
  | [.fn fk [] [.ptr kb 0]] => lp1 (Nat.beq fk fv) ((entC h n kb).bind fun x => match x.2 with
    | [.mp k] => (entM h n k).bind fun m => (match m.2.2 with
      | [] => some (.v (.slice none 0 0), h, n)
      | _ => none)
    | _ => none)
  | _ => none)
/-- a row of ints -/
def intsOf : List (List AV) → Option (List Int)
  | [] => some []
  | q :: l => match q with
    | [.v (.int .i64 n)] => (intsOf l).bind fun r => some (n :: r)
    | _ => none
/-- slices.Sorted(slices.Values(l)), l a whole row -/
def primSV (fs fv : Nat) : CAL := fun f args h n => lp1 (Nat.beq f fs) (match args with
  | [.fn fk [] [.ptr kb 0]] => lp1 (Nat.beq fk fv) ((entC h n kb).bind fun x => match x.2 with
    | [.v (.slice none 0 0)] => some (.v (.slice none 0 0), h, n)
    | [.sl k z lo hi] => (rowOf h n (.sl k z lo hi)).bind fun r => lp1 (Nat.beq z 1 && Nat.beq r.e 3 && Nat.beq lo 0 && Nat.beq hi r.l.length && Nat.ble r.l.length 1000000) ((intsOf r.l).bind fun l => sliceOf n h (srtI l))
    | _ => none)
  | _ => none)
def orE (p q : CAL) : CAL := fun f a h n => match p f a h n with
  | some r => some r
  | none => q f a h n
end Go.Proofs.YtagkniimpekhjaaGreat
