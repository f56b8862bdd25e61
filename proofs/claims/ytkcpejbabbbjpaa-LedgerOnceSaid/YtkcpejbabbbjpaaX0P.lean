/- A part of the proof: contracts over a program of the model. -/
import Derived.Test.YtkcpejbabbbjpaaX0
set_option linter.unusedVariables false
namespace Go.Proofs.Ytkcpejbabbbjpaa
/-! ### functions of the library, given at once -/
def insI (x : Int) : List Int → List Int
  | [] => [x]
  | y :: l => if x ≤ y then x :: y :: l else y :: insI x l
def srtI : List Int → List Int
  | [] => []
  | x :: l => insI x (srtI l)
def okI64 (x : Int) : Bool := decide (-9223372036854775808 ≤ x) && decide (x ≤ 9223372036854775807)
/-- slices.Sorted(maps.Keys(m)) -/
def primSK (fs e : Nat) (fks : List Nat) : CAL := fun f args h n =>
  lp1 (Nat.beq f fs) (match args with
    | [.fn fk [] [.ptr kb 0]] => lp1 (fks.any (Nat.beq fk)) ((entC h n kb).bind fun x => match x.2 with
      | [.mp k] => (entM h n k).bind fun m => lp1 (m.2.2.all (fun x => okI64 x.1) && Nat.ble m.2.2.length 1000000) (match m.2.2 with
        | [] => some (.v (.slice none 0 0), h, n)
        | l => some (.sl n 1 0 l.length, .row n e 1 ((srtI (l.map (·.1))).map fun x => [.v (.int .i64 x)]) :: h, n + 1))
      | _ => none)
    | _ => none)
end Go.Proofs.Ytkcpejbabbbjpaa
