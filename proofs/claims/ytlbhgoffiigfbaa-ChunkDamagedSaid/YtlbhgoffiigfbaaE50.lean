/- E, part 50: how the examples of chapter 05 are run (under way). -/
import Derived.Test.YtlbhgoffiigfbaaTab
import Derived.Test.YtlbhgoffiigfbaaV69
set_option linter.unusedSimpArgs false
set_option linter.unusedVariables false
namespace Go.Proofs.Ytlbhgoffiigfbaa.AW
open Go Go.RowKit

def meth5 (t : Nat) (name : String) : Option FuncId :=
  bif name == "cirrus/chunk.can" then (bif t == 69 then some 66 else bif t == 70 then some 81 else bif t == 71 then some 97 else bif t == 72 then some 121 else none)
  else bif name == "cirrus/chunk.read" then (bif t == 69 then some 67 else bif t == 70 then some 82 else bif t == 71 then some 98 else bif t == 72 then some 122 else none)
  else bif name == "cirrus/chunk.write" then (bif t == 69 then some 68 else bif t == 70 then some 83 else bif t == 71 then some 99 else bif t == 72 then some 123 else none)
  else none
def inl5 (f : FuncId) : Bool := Nat.beq f 41 || Nat.beq f 22 || Nat.beq f 78 || Nat.beq f 79 || Nat.beq f 74 || Nat.beq f 70 || Nat.beq f 68 || Nat.beq f 83 || Nat.beq f 99 || Nat.beq f 123
def cmpB : List UInt8 → List UInt8 → Int
  | [], [] => 0
  | [], _ :: _ => -1
  | _ :: _, [] => 1
  | x :: xs, y :: ys => bif Nat.blt x.toNat y.toNat then -1 else bif Nat.blt y.toNat x.toNat then 1 else cmpB xs ys
def known5 (f : FuncId) (args : List AV) : Option AV :=
  bif Nat.beq f 96 then (match args with
    | [.str a, .str b] => some (.int .i64 (cmpB a.data.toList b.data.toList))
    | _ => none)
  else none
noncomputable def ec5 : EC := { P := Try.prog, te := te, lim := 5000, inl := inl5, bx := fun f => Nat.beq f 41, meth := meth5, ext := known5, row := fun f => Nat.beq f 22 || Nat.beq f 74, rowk := rowk5, caught := fun f => Nat.beq f 27 }
end Go.Proofs.Ytlbhgoffiigfbaa.AW
