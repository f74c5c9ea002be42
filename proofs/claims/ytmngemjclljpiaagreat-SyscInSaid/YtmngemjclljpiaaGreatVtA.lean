/- Numbers of words, of the layout and of the document, in one form. -/
import Derived.Test.YtmngemjclljpiaaGreatVsGood
import Derived.Test.YtmngemjclljpiaaGreatVxP
namespace Go.Vx
open Go.Proofs

abbrev w64 (n : Int) : Int := IntKind.i64.wrap n
abbrev u64w (n : Int) : Int := IntKind.u64.wrap n
abbrev wd (n : Int) : Int := u64w (u64w n + 1)
abbrev I (n : Int) : Value := .int .i64 n
abbrev U (n : Int) : Value := .int .u64 n
abbrev B (b : Bool) : Value := .bool b
abbrev ptr (i : Nat) : Value := .pointer (some ⟨i, 0, none⟩)
abbrev nilp : Value := .pointer none
abbrev nils : Value := .slice none 0 0

theorem bfalse {p : Prop} [Decidable p] (h : ¬ p) : Value.bool (decide p) = .bool false := by rw [decide_eq_false h]
theorem btrue {p : Prop} [Decidable p] (h : p) : Value.bool (decide p) = .bool true := by rw [decide_eq_true h]
theorem ntrue {p : Prop} [Decidable p] (h : ¬ p) : (!decide p) = true := by rw [decide_eq_false h]; rfl
theorem nfalse {p : Prop} [Decidable p] (h : p) : (!decide p) = false := by rw [decide_eq_true h]; rfl
theorem dtrue {p : Prop} [Decidable p] (h : p) : decide p = true := decide_eq_true h
theorem dfalse {p : Prop} [Decidable p] (h : ¬ p) : decide p = false := decide_eq_false h

/-- A config, and the block in which its layout lies. -/
structure Lay where
  b : Nat
  P : Int
  T : Int
  G : Int

def Lay.th (d : Lay) : Int := w64 (20 + w64 (d.P * 264))
def Lay.gs (d : Lay) : Int := w64 (d.th + w64 (d.T * 3))
def Lay.all (d : Lay) : Int := w64 (d.gs + w64 (d.G * 2))
def layRow (d : Lay) : XRow := ⟨d.b, 0, 6, fun off => [I d.P, I d.T, I d.G, I d.th, I d.gs, I d.all].getD off (.bool false)⟩
abbrev exL (r0 r1 r2 : XRow) (d : Lay) : XTab := [r0, r1, r2, layRow d]
abbrev lptr (d : Lay) : Value := .pointer (some ⟨d.b, 0, some 3⟩)
abbrev conf (d : Lay) : Value := .agg ⟨[I d.P, I d.T, I d.G]⟩

/-- A word's number within rows. -/
def plc (first n many each field fields : Int) : Int :=
  if n < 0 ∨ many ≤ n ∨ field < 0 ∨ fields ≤ field then -1 else w64 (w64 (first + w64 (n * each)) + field)

abbrev placeF : Nat := 68

theorem place_run (first n many each field fields : Int) (h : VHeap) (ex : XTab) :
    VCalls Tryz.prog ex placeF [B true, I first, I n, I many, I each, I field, I fields] h (I (plc first n many each field fields)) h := by
  have key : ∃ g, VCalls Tryz.prog ex placeF [B true, I first, I n, I many, I each, I field, I fields] [] (I (plc first n many each field fields)) ([] ++ g) := by
    by_cases h1 : n < 0
    · have : plc first n many each field fields = -1 := by unfold plc; rw [if_pos (.inl h1)]
      rw [this]
      exact contractK (baseGood ex) 5 0 [.val placeF 19 _ _ (btrue h1)] _ _ _ _ (by kernel_rfl)
    by_cases h2 : many ≤ n
    · have : plc first n many each field fields = -1 := by unfold plc; rw [if_pos (.inr (.inl h2))]
      rw [this]
      exact contractK (baseGood ex) 5 0 [.val placeF 19 _ _ (bfalse h1), .val placeF 24 (.bool (decide (n ≥ many))) _ (btrue h2)] _ _ _ _ (by kernel_rfl)
    by_cases h3 : field < 0
    · have : plc first n many each field fields = -1 := by unfold plc; rw [if_pos (.inr (.inr (.inl h3)))]
      rw [this]
      exact contractK (baseGood ex) 5 0 [.val placeF 19 _ _ (bfalse h1), .val placeF 24 (.bool (decide (n ≥ many))) _ (bfalse h2), .val placeF 28 _ _ (btrue h3)] _ _ _ _ (by kernel_rfl)
    by_cases h4 : fields ≤ field
    · have : plc first n many each field fields = -1 := by unfold plc; rw [if_pos (.inr (.inr (.inr h4)))]
      rw [this]
      exact contractK (baseGood ex) 5 0 [.val placeF 19 _ _ (bfalse h1), .val placeF 24 (.bool (decide (n ≥ many))) _ (bfalse h2), .val placeF 28 _ _ (bfalse h3), .val placeF 33 (.bool (decide (field ≥ fields))) _ (btrue h4)] _ _ _ _ (by kernel_rfl)
    · have : plc first n many each field fields = w64 (w64 (first + w64 (n * each)) + field) := by unfold plc; rw [if_neg (by simp only [not_or]; exact ⟨h1, h2, h3, h4⟩)]
      rw [this]
      exact contractK (baseGood ex) 5 0 [.val placeF 19 _ _ (bfalse h1), .val placeF 24 (.bool (decide (n ≥ many))) _ (bfalse h2), .val placeF 28 _ _ (bfalse h3), .val placeF 33 (.bool (decide (field ≥ fields))) _ (bfalse h4)] _ _ _ _ (by kernel_rfl)
  obtain ⟨g, hg⟩ := key
  exact VCalls.numbers h hg (.cons _ _ _ _ (.bool _) (.cons _ _ _ _ (.int _ _) (.cons _ _ _ _ (.int _ _) (.cons _ _ _ _ (.int _ _) (.cons _ _ _ _ (.int _ _) (.cons _ _ _ _ (.int _ _) (.cons _ _ _ _ (.int _ _) .nil))))))) (.int _ _)

def placeS : SpecFn
  | _, [.bool true, .int .i64 first, .int .i64 n, .int .i64 many, .int .i64 each, .int .i64 field, .int .i64 fields], h => some (I (plc first n many each field fields), h, true, [])
  | _, _, _ => none

theorem placeOK (ex : XTab) : SpecOK Tryz.prog ex ⟨placeF, true, placeS⟩ := by
  intro o args h v h' b tl hs hb
  change placeS o args h = _ at hs
  unfold placeS at hs
  split at hs
  · cases hs; exact ⟨place_run _ _ _ _ _ _ _ _, fun _ => rfl, Nat.le_refl _, fun _ _ _ => rfl⟩
  · cases hs

/-! Tables -/
def TabOK (ex : XTab) (l : List SpecE) : Prop := ∀ e ∈ l, SpecOK Tryz.prog ex e
theorem TabOK.nil {ex : XTab} : TabOK ex [] := fun _ h => by cases h
theorem TabOK.cons {ex : XTab} {e : SpecE} {l : List SpecE} (h : SpecOK Tryz.prog ex e) (hl : TabOK ex l) : TabOK ex (e :: l) := fun e' he => by
  rcases List.mem_cons.1 he with rfl | he
  · exact h
  · exact hl e' he
abbrev cfgT (ex : XTab) (l : List SpecE) : Cfg := withTab (withExt base ex) l
theorem goodT {ex : XTab} {l : List SpecE} (h : TabOK ex l) : (cfgT ex l).Good Tryz.prog := (baseGood ex).tab l h

def plains : List Value → Bool
  | [] => true
  | v :: r => match plain v with
    | true => plains r
    | false => false
theorem RNs.plains {wk : Bool} {ps : List Nat} : ∀ {l : List Value}, plains l = true → RNs wk ps l l
  | [], _ => .nil
  | v :: r, h => by
    unfold Vx.plains at h
    cases h1 : Vx.plain v with
    | true => simp only [h1] at h; exact .cons _ _ _ _ (.plain h1) (RNs.plains h)
    | false => simp [h1] at h

/-! The layout's functions -/

/-- A function of the layout. -/
def layS (r : List Value → Option Value) : SpecFn
  | _, .pointer (some ⟨_, 0, some 3⟩) :: rest, h => match plains rest with
    | true => match r rest with
      | some v => some (v, h, plainR v, [])
      | none => none
    | false => none
  | _, _, _ => none

theorem layOK {r0 r1 r2 : XRow} {d : Lay} (f : Nat) (r : List Value → Option Value)
    (hr : ∀ rest v, r rest = some v → ∃ g, VCalls Tryz.prog (exL r0 r1 r2 d) f (lptr d :: rest) [] v ([] ++ g)) : SpecOK Tryz.prog (exL r0 r1 r2 d) ⟨f, true, layS r⟩ := by
  intro o args h v h' b tl hs hb
  change layS r o args h = _ at hs
  unfold layS at hs
  split at hs
  · rename_i bb rest
    split at hs
    · rename_i hp
      split at hs
      · rename_i u hu
        cases hs
        obtain ⟨g, hg⟩ := hr _ _ hu
        refine ⟨?_, fun _ => rfl, Nat.le_refl _, fun _ _ _ => rfl⟩
        intro bs w args' he ha
        cases ha with | cons _ a' _ l' h1 h2 =>
        cases h1 with | fptr _ _ rr hrr =>
        have e : rr = layRow d := by simp [exL] at hrr; exact hrr.symm
        subst e
        have := VCalls.numbers h hg (.cons _ _ _ _ (.fptr _ _ _) (.plains hp)) (.plainR hb)
        exact this bs w _ he (.cons _ _ _ _ (.fptr 3 0 (layRow d) hrr) h2)
      · cases hs
    · cases hs
  · cases hs

abbrev configF : Nat := 69
abbrev procF : Nat := 34
abbrev gF : Nat := 62
abbrev wordF : Nat := 73
abbrev ticketF : Nat := 101
abbrev servingF : Nat := 106
abbrev ownerF : Nat := 112

def configR (d : Lay) : List Value → Option Value
  | [] => some (conf d)
  | _ => none

section
variable (r0 r1 r2 : XRow) (d : Lay)

theorem configOK : SpecOK Tryz.prog (exL r0 r1 r2 d) ⟨configF, true, layS (configR d)⟩ := layOK _ _ fun rest v hv => by
  unfold configR at hv
  split at hv
  · cases hv; exact contractK (baseGood (exL r0 r1 r2 d)) 9 0 [] _ _ _ _ (by kernel_rfl)
  · cases hv

def tab1 (d : Lay) : List SpecE := [⟨placeF, true, placeS⟩, ⟨configF, true, layS (configR d)⟩]
theorem tab1_ok : TabOK (exL r0 r1 r2 d) (tab1 d) := .cons (placeOK _) (.cons (configOK _ _ _ _) .nil)

def procR (d : Lay) : List Value → Option Value
  | [.int .i64 p, .int .i64 f] => some (I (plc 20 p d.P 264 f 8))
  | _ => none
def gR (d : Lay) : List Value → Option Value
  | [.int .i64 g, .int .i64 f] => some (I (plc d.gs g d.G 2 f 2))
  | _ => none
def lockR (j : Int) : List Value → Option Value
  | [.int .i64 n] => some (I (plc 0 n 2 3 j 3))
  | _ => none
def wordR : List Value → Option Value
  | [.int .i64 w] => match decide (6 ≤ w ∧ w ≤ 19) with
    | true => some (I w)
    | false => none
  | _ => none

theorem procOK : SpecOK Tryz.prog (exL r0 r1 r2 d) ⟨procF, true, layS (procR d)⟩ := layOK _ _ fun rest v hv => by
  unfold procR at hv
  split at hv
  · cases hv; exact contractK (goodT (tab1_ok r0 r1 r2 d)) 9 0 [] _ _ _ _ (by kernel_rfl)
  · cases hv
theorem gOK : SpecOK Tryz.prog (exL r0 r1 r2 d) ⟨gF, true, layS (gR d)⟩ := layOK _ _ fun rest v hv => by
  unfold gR at hv
  split at hv
  · cases hv; exact contractK (goodT (tab1_ok r0 r1 r2 d)) 9 0 [] _ _ _ _ (by kernel_rfl)
  · cases hv
theorem ticketOK : SpecOK Tryz.prog (exL r0 r1 r2 d) ⟨ticketF, true, layS (lockR 0)⟩ := layOK _ _ fun rest v hv => by
  unfold lockR at hv
  split at hv
  · cases hv; exact contractK (goodT (tab1_ok r0 r1 r2 d)) 9 0 [] _ _ _ _ (by kernel_rfl)
  · cases hv
theorem servingOK : SpecOK Tryz.prog (exL r0 r1 r2 d) ⟨servingF, true, layS (lockR 1)⟩ := layOK _ _ fun rest v hv => by
  unfold lockR at hv
  split at hv
  · cases hv; exact contractK (goodT (tab1_ok r0 r1 r2 d)) 9 0 [] _ _ _ _ (by kernel_rfl)
  · cases hv
theorem ownerOK : SpecOK Tryz.prog (exL r0 r1 r2 d) ⟨ownerF, true, layS (lockR 2)⟩ := layOK _ _ fun rest v hv => by
  unfold lockR at hv
  split at hv
  · cases hv; exact contractK (goodT (tab1_ok r0 r1 r2 d)) 9 0 [] _ _ _ _ (by kernel_rfl)
  · cases hv
theorem wordOK : SpecOK Tryz.prog (exL r0 r1 r2 d) ⟨wordF, true, layS wordR⟩ := layOK _ _ fun rest v hv => by
  unfold wordR at hv
  split at hv
  · split at hv
    · rename_i w _ h
      cases hv
      have h := of_decide_eq_true h
      have h1 : ¬ w < 6 := by omega
      have h2 : ¬ w > 19 := by omega
      exact contractK ((baseGood (exL r0 r1 r2 d))) 9 0 [.val 73 9 _ _ (congrArg Value.bool (dfalse h1)), .val 73 13 _ _ (congrArg Value.bool (dfalse h2))] _ _ _ _ (by kernel_rfl)
    · cases hv
  · cases hv

def tabLay (d : Lay) : List SpecE := [⟨placeF, true, placeS⟩, ⟨configF, true, layS (configR d)⟩, ⟨procF, true, layS (procR d)⟩, ⟨gF, true, layS (gR d)⟩, ⟨ticketF, true, layS (lockR 0)⟩, ⟨servingF, true, layS (lockR 1)⟩, ⟨ownerF, true, layS (lockR 2)⟩, ⟨wordF, true, layS wordR⟩]
theorem tabLay_ok : TabOK (exL r0 r1 r2 d) (tabLay d) := .cons (placeOK _) (.cons (configOK _ _ _ _) (.cons (procOK _ _ _ _) (.cons (gOK _ _ _ _) (.cons (ticketOK _ _ _ _) (.cons (servingOK _ _ _ _) (.cons (ownerOK _ _ _ _) (.cons (wordOK _ _ _ _) .nil)))))))
end

/-! The document's -/

/-- A function of numbers. -/
def numS (r : List Value → Option (Value × Bool)) : SpecFn := fun _ args h => match plains args with
  | true => match r args with
    | some (v, b) => match plainR v with
      | true => some (v, h, b, [])
      | false => none
    | none => none
  | false => none

theorem numOK (ex : XTab) (f : Nat) (r : List Value → Option (Value × Bool)) (hr : ∀ args v b, r args = some (v, b) → b = true → ∃ g, VCalls Tryz.prog ex f args [] v ([] ++ g)) : SpecOK Tryz.prog ex ⟨f, true, numS r⟩ := by
  intro o args h v h' b tl hs hb
  change numS r o args h = _ at hs
  unfold numS at hs
  split at hs
  · rename_i hp
    split at hs
    · rename_i u b' hu
      split at hs
      · rename_i hv
        cases hs
        obtain ⟨g, hg⟩ := hr _ _ _ hu hb
        exact ⟨VCalls.numbers h hg (.plains hp) (.plainR hv), fun _ => rfl, Nat.le_refl _, fun _ _ _ => rfl⟩
      · cases hs
    · cases hs
  · cases hs

abbrev rProcF : Nat := 43
abbrev rGF : Nat := 41

def rProcR : List Value → Option (Value × Bool)
  | [.agg ⟨[.int .i64 P, .int .i64 _, .int .i64 _]⟩, .int .i64 p, .int .i64 f] => some (I (plc 20 p P 264 f 8), decide (0 ≤ f ∧ f < 8))
  | _ => none
def rGR : List Value → Option (Value × Bool)
  | [.agg ⟨[.int .i64 P, .int .i64 T, .int .i64 G]⟩, .int .i64 g, .int .i64 f] => some (I (plc (w64 (w64 (20 + w64 (P * 264)) + w64 (T * 3))) g G 2 f 2), decide (0 ≤ f ∧ f < 2))
  | _ => none

theorem rProcOK (ex : XTab) : SpecOK Tryz.prog ex ⟨rProcF, true, numS rProcR⟩ := numOK ex _ _ fun args v b h hb => by
  unfold rProcR at h
  split at h
  · rename_i P T G p f
    cases h
    have hf := of_decide_eq_true hb
    by_cases h1 : p < 0
    · have : plc 20 p P 264 f 8 = -1 := by unfold plc; rw [if_pos (.inl h1)]
      rw [this]
      exact contractK (baseGood ex) 9 0 [.val rProcF 8 (B (decide (p < 0))) _ (btrue h1)] _ _ _ _ (by kernel_rfl)
    by_cases h2 : P ≤ p
    · have : plc 20 p P 264 f 8 = -1 := by unfold plc; rw [if_pos (.inr (.inl h2))]
      rw [this]
      exact contractK (baseGood ex) 9 0 [.val rProcF 8 (B (decide (p < 0))) _ (bfalse h1), .val rProcF 13 (B (decide (p ≥ P))) _ (btrue h2)] _ _ _ _ (by kernel_rfl)
    · have : plc 20 p P 264 f 8 = w64 (w64 (20 + w64 (264 * p)) + f) := by
        unfold plc; rw [if_neg (by omega), Int.mul_comm p 264]
      rw [this]
      exact contractK (baseGood ex) 9 0 [.val rProcF 8 (B (decide (p < 0))) _ (bfalse h1), .val rProcF 13 (B (decide (p ≥ P))) _ (bfalse h2)] _ _ _ _ (by kernel_rfl)
  · cases h

theorem rGOK (ex : XTab) : SpecOK Tryz.prog ex ⟨rGF, true, numS rGR⟩ := numOK ex _ _ fun args v b h hb => by
  unfold rGR at h
  split at h
  · rename_i P T G p f
    cases h
    have hf := of_decide_eq_true hb
    by_cases h1 : p < 0
    · have : plc (w64 (w64 (20 + w64 (P * 264)) + w64 (T * 3))) p G 2 f 2 = -1 := by unfold plc; rw [if_pos (.inl h1)]
      rw [this]
      exact contractK (baseGood ex) 9 0 [.val rGF 8 (B (decide (p < 0))) _ (btrue h1)] _ _ _ _ (by kernel_rfl)
    by_cases h2 : G ≤ p
    · have : plc (w64 (w64 (20 + w64 (P * 264)) + w64 (T * 3))) p G 2 f 2 = -1 := by unfold plc; rw [if_pos (.inr (.inl h2))]
      rw [this]
      exact contractK (baseGood ex) 9 0 [.val rGF 8 (B (decide (p < 0))) _ (bfalse h1), .val rGF 13 (B (decide (p ≥ G))) _ (btrue h2)] _ _ _ _ (by kernel_rfl)
    · have : plc (w64 (w64 (20 + w64 (P * 264)) + w64 (T * 3))) p G 2 f 2 = w64 (w64 (w64 (w64 (20 + w64 (264 * P)) + w64 (3 * T)) + w64 (2 * p)) + f) := by
        unfold plc; rw [if_neg (by omega), Int.mul_comm p 2, Int.mul_comm P 264, Int.mul_comm T 3]
      rw [this]
      exact contractK (baseGood ex) 9 0 [.val rGF 8 (B (decide (p < 0))) _ (bfalse h1), .val rGF 13 (B (decide (p ≥ G))) _ (bfalse h2)] _ _ _ _ (by kernel_rfl)
  · cases h

end Go.Vx
