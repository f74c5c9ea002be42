/-
  No cell of these rows narrows 'for every input' (looked for: loops, veiled, ifaces, maps, wideKeys, modest, calm, conditions, laid).
  DERIVED. THE GIVEN ROWS OF THIS SEAT. 2 by the template 'for every input the law returns true; each argument reads behind the call as it read before'; 0 by the template 'total and deterministic' (their statements: YtmngemjclljpiaaGreatTotals.lean).
  GIVEN WITH THE SEED: the statements are not yours to turn. If you find one false, say at which input.
  Laid BY PROGRAM, IN A SANDBOX (cutbox-rows.mjs): the forced cells as the released guide's own fill.sh prints them over the translation b66410d193322df0… (all of the seat's roots in one cut). By AI agents, Wed Nov 11 2026. No macro, syntax, notation, axiom, sorry.
-/
import Derived.Test.YtmngemjclljpiaaGreatChecked
import GoSem.Claim
import GoSem.ClaimJoined
import GoSem.ClaimMapViews
import Derived.JoinedTies
import Derived.KernelRfl
namespace Go.Proofs.YtmngemjclljpiaaGreat
/- THE CELL 'sum', in the pinned program and in every row, IS THE sha256 OF THE DUMP (.gsa) THAT YtmngemjclljpiaaGreatProg.lean LOADS. Nothing in Lean hashes anything: it is a label: what it is worth is what the hold of that sum in a sandbox is worth. -/
noncomputable def Tryz.pinned : Pinned := { name := "ytmngemjclljpiaagreat", sum := "b66410d193322df0b34b59862d9e3e7157e43dd1a8c5233e1e244b1eeb55597c", checked := Tryz.checked }
namespace Rows
def none {H : Type} : Left H := { results := [], args := [] }

/-- 'turnspitlaw24.SyscOut': WHATEVER THE INPUT: true; the input reads as it did. -/
def syscOutSpec : ChangeSpec := { name := "syscOut", fn := fun _ => fun
  | [d1, d2, d3] => { results := [.lit (.bool true)], args := [d1, d2, d3] }
  | _ => none }
def syscOutRow : OpenClaim := { program := "ytmngemjclljpiaagreat", sum := "b66410d193322df0b34b59862d9e3e7157e43dd1a8c5233e1e244b1eeb55597c", func := "turnspit/turnspitlaw24.SyscOut", spec := "syscOut", unfollowed := true, recurses := true, apart := false }
def SyscOutSaid : Prop := syscOutRow.holds Tryz.pinned (OpenSpec.ofChange syscOutSpec)

/-- ITS FALSE NEIGHBOUR: 'it returns false'. Refute it at one input. -/
def syscOutWrong : ChangeSpec := { name := "syscOut", fn := fun _ => fun
  | [d1, d2, d3] => { results := [.lit (.bool false)], args := [d1, d2, d3] }
  | _ => none }
def SyscOutWrongFalsely : Prop := syscOutRow.holds Tryz.pinned (OpenSpec.ofChange syscOutWrong)

/-- 'turnspitlaw24.SyscIn': WHATEVER THE INPUT: true; the input reads as it did. -/
def syscInSpec : ChangeSpec := { name := "syscIn", fn := fun _ => fun
  | [d1, d2, d3] => { results := [.lit (.bool true)], args := [d1, d2, d3] }
  | _ => none }
def syscInRow : OpenClaim := { program := "ytmngemjclljpiaagreat", sum := "b66410d193322df0b34b59862d9e3e7157e43dd1a8c5233e1e244b1eeb55597c", func := "turnspit/turnspitlaw24.SyscIn", spec := "syscIn", unfollowed := true, recurses := true, apart := false }
def SyscInSaid : Prop := syscInRow.holds Tryz.pinned (OpenSpec.ofChange syscInSpec)

/-- ITS FALSE NEIGHBOUR: 'it returns false'. Refute it at one input. -/
def syscInWrong : ChangeSpec := { name := "syscIn", fn := fun _ => fun
  | [d1, d2, d3] => { results := [.lit (.bool false)], args := [d1, d2, d3] }
  | _ => none }
def SyscInWrongFalsely : Prop := syscInRow.holds Tryz.pinned (OpenSpec.ofChange syscInWrong)

/- THE SECOND FORM. 'bulk': how many values and letters a reading holds, each counted each time it is reached (what is shared counts as often as it is met; a slice's spare places count too). A statement '..UptoSaid' is the law's where the arguments, and the package variables that the reading takes, are together of bulk at most 1048576: NARROWER than '..Said'. Prove '..Said' where nothing that the law and all that it calls make is longer than what came in: it says more and counts as full. Else prove '..UptoSaid'. A law counts once. -/
mutual
def uptoBulk {H : Type} : DataW H → Nat
  | .lit (.string bytes) => bytes.length + 1
  | .lit _ => 1
  | .nil => 1
  | .ptr d => uptoBulk d + 1
  | .slice elems spare => uptoBulkAll elems + uptoBulkAll spare + 1
  | .agg parts => uptoBulkAll parts + 1
  | .iface _ d => uptoBulk d + 1
  | .map entries => uptoBulkEntries entries + 1
  | .held _ => 1
def uptoBulkAll {H : Type} : List (DataW H) → Nat
  | [] => 0
  | d :: r => uptoBulk d + uptoBulkAll r
def uptoBulkEntries {H : Type} : List (Lit × DataW H) → Nat
  | [] => 0
  | x :: r => uptoBulkEntry x + uptoBulkEntries r
def uptoBulkEntry {H : Type} : Lit × DataW H → Nat
  | (.string bytes, d) => bytes.length + uptoBulk d + 1
  | (_, d) => uptoBulk d + 1
 end
def uptoSmall : (H : Type) → List (DataW H) → Bool := fun _ ds => decide (uptoBulkAll ds ≤ 1048576)
def OpenSpec.upto (s : _root_.Go.ChangeSpec) : _root_.Go.OpenSpec := { _root_.Go.OpenSpec.ofChange s with cond := some uptoSmall }

/-- 'turnspitlaw24.SyscOut', WHERE WHAT IT READS IS OF BULK AT MOST 1048576: true; the input reads as it did. -/
def syscOutUptoRow : OpenClaim := { program := "ytmngemjclljpiaagreat", sum := "b66410d193322df0b34b59862d9e3e7157e43dd1a8c5233e1e244b1eeb55597c", func := "turnspit/turnspitlaw24.SyscOut", spec := "syscOut", unfollowed := true, recurses := true, apart := false, narrowed := true }
def SyscOutUptoSaid : Prop := syscOutUptoRow.holds Tryz.pinned (OpenSpec.upto syscOutSpec)

/-- 'turnspitlaw24.SyscIn', WHERE WHAT IT READS IS OF BULK AT MOST 1048576: true; the input reads as it did. -/
def syscInUptoRow : OpenClaim := { program := "ytmngemjclljpiaagreat", sum := "b66410d193322df0b34b59862d9e3e7157e43dd1a8c5233e1e244b1eeb55597c", func := "turnspit/turnspitlaw24.SyscIn", spec := "syscIn", unfollowed := true, recurses := true, apart := false, narrowed := true }
def SyscInUptoSaid : Prop := syscInUptoRow.holds Tryz.pinned (OpenSpec.upto syscInSpec)

end Rows
end Go.Proofs.YtmngemjclljpiaaGreat
