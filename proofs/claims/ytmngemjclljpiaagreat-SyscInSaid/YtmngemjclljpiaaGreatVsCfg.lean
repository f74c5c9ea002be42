/- The base of the runs over one translation: which functions only look, where methods lie. Written by a program (wip/gen.py). -/
import Derived.Test.YtmngemjclljpiaaGreatProg
import Derived.Test.YtmngemjclljpiaaGreatVxJ
namespace Go.Vx
open Go.Proofs

def roL : List Nat := [11, 12, 13, 14, 24, 25, 34, 41, 43, 51, 52, 54, 56, 57, 58, 59, 62, 68, 69, 73, 82, 83, 84, 86, 94, 101, 106, 112, 123, 126]
def noL : List Nat := [0, 1, 132, 133, 134, 135, 136, 137, 138, 139, 140, 141, 142, 143, 144, 145, 146, 147, 148, 153]
def dynL : List Nat := [3, 4, 31, 75, 111]
def methL : List (Nat × Nat) := [(37, 18), (66, 26), (84, 149), (85, 150), (117, 55), (135, 151), (145, 152)]
def methA : List (Nat × Nat) := [(117, 86)]
def assT : List Nat := [117]
def assF : List Nat := [37, 66, 84, 85, 135, 145]

def slpT : Nat := 137
abbrev whoF : Nat := 94
abbrev intT : Nat := 3

def base : Cfg where
  ext := []
  spec := fun _ => none
  acc := fun f => if Nat.beq f whoF then some (intT, 0) else none
  dyn := fun f => dynL.contains f
  ok := fun f => Nat.blt f 154 && !noL.contains f
  ro := fun f => roL.contains f
  callable := fun f => Nat.blt f 154 && !noL.contains f
  meth := fun t s => if s = "Step" then lookN t methL else if s = "Asleep" then lookN t methA else none
  asserts := fun a t => if Nat.beq a slpT then (if assT.contains t then some true else if assF.contains t then some false else none) else none
  rounds := 100

end Go.Vx
