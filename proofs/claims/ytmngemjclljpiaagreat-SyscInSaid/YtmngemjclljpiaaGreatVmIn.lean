/- sysc: going in; both sides. -/
import Derived.Test.YtmngemjclljpiaaGreatVtE
namespace Go.Vx
open Go.Proofs

abbrev inNewF : Nat := 22
abbrev inStepF : Nat := 26
abbrev inDoneF : Nat := 24
abbrev inWentF : Nat := 25
abbrev rInF : Nat := 23

inductive InS where
  | sys
  | add
  | lets
  | done

abbrev gAt (d : Lay) (g f : Int) : Int := plc d.gs g d.G 2 f 2
abbrev pAt (d : Lay) (p f : Int) : Int := plc 20 p d.P 264 f 8

def inM (d : Lay) (p g : Int) : Mach InS where
  want
    | .sys => some ⟨2, gAt d g 0, 0, 4⟩
    | .add => some ⟨4, pAt d p 5, 0, 1⟩
    | .lets => some ⟨2, pAt d p 0, 0, 2⟩
    | .done => none
  next
    | .sys, _ => .add
    | .add, _ => .lets
    | .lets, _ => .done
    | .done, _ => .done

def InS.went : InS → Bool
  | .sys => false
  | _ => true

def inH (d : Lay) (t p g : Int) : InS → VHeap
  | .sys => [ob (stF t (gAt d g 0) 4 ++ [lptr d, I p, B false]), thn 63]
  | .add => [ob (adF t (pAt d p 5) 1 89 ++ [lptr d, I p, B true])]
  | .lets => [ob (stF t (pAt d p 0) 2 ++ [lptr d, I p, B true]), thn 97]
  | .done => [ob (endF t ++ [lptr d, I p, B true])]

section
variable (r0 r1 r2 : XRow) (d : Lay)
theorem in_new (t p g : Int) : VCalls Tryz.prog (exL r0 r1 r2 d) inNewF [lptr d, I t, I p, I g] [] (ptr 0) [Bx (exL r0 r1 r2 d) (inH d t p g .sys)] := by
  exact newK ((goodM r0 r1 r2 d)) 9 0 [] (opens_box _) rfl rfl rfl (by kernel_rfl)

theorem in_ok (t p g : Int) : MachOK (exL r0 r1 r2 d) inStepF t (inM d p g) (inH d t p g) where
  step s u a hw := by
    cases s with
    | sys => cases hw; exact boxK ((goodM r0 r1 r2 d)) 20 1 [] (opens_box _) (opens_box _) rfl rfl rfl rfl rfl (by kernel_rfl)
    | add => cases hw; exact boxK ((goodM r0 r1 r2 d)) 20 1 [] (opens_box _) (opens_box _) rfl rfl rfl rfl rfl (by kernel_rfl)
    | lets => cases hw; exact boxK ((goodM r0 r1 r2 d)) 20 1 [] (opens_box _) (opens_box _) rfl rfl rfl rfl rfl (by kernel_rfl)
    | done => cases hw
  idle s u hw := by
    cases s with
    | done => exact boxK ((goodM r0 r1 r2 d)) 20 1 [] (opens_box _) (opens_box _) rfl rfl rfl rfl rfl (by kernel_rfl)
    | _ => cases hw
  nil s := by
    refine undead rfl rfl rfl rfl ?_
    cases s
    · exact boxK ((goodM r0 r1 r2 d)) 20 1 [] (opens_box _) (opens_box _) rfl rfl rfl rfl rfl (by kernel_rfl)
    · exact boxK ((goodM r0 r1 r2 d)) 20 1 [] (opens_box _) (opens_box _) rfl rfl rfl rfl rfl (by kernel_rfl)
    · exact boxK ((goodM r0 r1 r2 d)) 20 1 [] (opens_box _) (opens_box _) rfl rfl rfl rfl rfl (by kernel_rfl)
    · exact boxK ((goodM r0 r1 r2 d)) 20 1 [] (opens_box _) (opens_box _) rfl rfl rfl rfl rfl (by kernel_rfl)

theorem in_done (t p g : Int) (s : InS) : VCalls Tryz.prog (exL r0 r1 r2 d) inDoneF [ptr 0] [Bx (exL r0 r1 r2 d) (inH d t p g s)] (B ((inM d p g).fin s)) [Bx (exL r0 r1 r2 d) (inH d t p g s)] := by
  refine undead rfl rfl rfl rfl ?_
  cases s
  · exact boxK ((goodM r0 r1 r2 d)) 20 1 [] (opens_box _) (opens_box _) rfl rfl rfl rfl rfl (by kernel_rfl)
  · exact boxK ((goodM r0 r1 r2 d)) 20 1 [] (opens_box _) (opens_box _) rfl rfl rfl rfl rfl (by kernel_rfl)
  · exact boxK ((goodM r0 r1 r2 d)) 20 1 [] (opens_box _) (opens_box _) rfl rfl rfl rfl rfl (by kernel_rfl)
  · exact boxK ((goodM r0 r1 r2 d)) 20 1 [] (opens_box _) (opens_box _) rfl rfl rfl rfl rfl (by kernel_rfl)
theorem in_went (t p g : Int) (s : InS) : VCalls Tryz.prog (exL r0 r1 r2 d) inWentF [ptr 0] [Bx (exL r0 r1 r2 d) (inH d t p g s)] (B s.went) [Bx (exL r0 r1 r2 d) (inH d t p g s)] := by
  refine undead rfl rfl rfl rfl ?_
  cases s
  · exact boxK ((goodM r0 r1 r2 d)) 20 1 [] (opens_box _) (opens_box _) rfl rfl rfl rfl rfl (by kernel_rfl)
  · exact boxK ((goodM r0 r1 r2 d)) 20 1 [] (opens_box _) (opens_box _) rfl rfl rfl rfl rfl (by kernel_rfl)
  · exact boxK ((goodM r0 r1 r2 d)) 20 1 [] (opens_box _) (opens_box _) rfl rfl rfl rfl rfl (by kernel_rfl)
  · exact boxK ((goodM r0 r1 r2 d)) 20 1 [] (opens_box _) (opens_box _) rfl rfl rfl rfl rfl (by kernel_rfl)

theorem in_ref (p g : Int) (r : RunP) (hr : r.st = false) : VCalls Tryz.prog (exL r0 r1 r2 d) rInF [ptr 0, conf d, I p, I g] [run r] (B ((inM d p g).replay .sys r.rem).1.went) [run (r.out (inM d p g) .sys)] := by
  obtain ⟨nl, n, gg, rem, st, k, who', at', old, new, dn, sl⟩ := r
  cases hr
  match rem with
  | [] => exact contractP ((goodR0 (exL r0 r1 r2 d))) 20 [] rfl rfl rfl (by kernel_rfl)
  | [a] => exact contractP ((goodR0 (exL r0 r1 r2 d))) 20 [] rfl rfl rfl (by kernel_rfl)
  | [a, b] => exact contractP ((goodR0 (exL r0 r1 r2 d))) 20 [] rfl rfl rfl (by kernel_rfl)
  | [a, b, c] => exact contractP ((goodR0 (exL r0 r1 r2 d))) 20 [] rfl rfl rfl (by kernel_rfl)
  | a :: b :: c :: e :: l => exact contractP ((goodR0 (exL r0 r1 r2 d))) 20 [] rfl rfl rfl (by kernel_rfl)
end
end Go.Vx
