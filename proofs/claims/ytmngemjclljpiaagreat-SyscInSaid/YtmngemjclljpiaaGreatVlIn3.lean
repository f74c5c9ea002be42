/- SyscIn, whole. -/
import Derived.Test.YtmngemjclljpiaaGreatVlIn2
namespace Go.Vx
open Go.Proofs

noncomputable abbrev inC : Code := bodyOf Tryz.prog syscInF
section
variable (c : Cf) (pk pu : Pk) (r2 : XRow) (t p g : Int)
abbrev whV : Value := .agg ⟨[I t, I p, I g]⟩
abbrev whO : VObj := ob [I t, I p, I g]
abbrev known : Prop := 0 ≤ t ∧ t < c.T ∧ 0 ≤ p ∧ p < c.P ∧ 0 ≤ g ∧ g < c.G

noncomputable def awakeS : SpecFn
  | _, [], h => some (B true, h, true, [])
  | _, _, _ => none
theorem awakeOK (ex : XTab) : SpecOK Tryz.prog ex ⟨awakeF, true, awakeS⟩ := by
  intro o args h v h' bb tl hs hb
  change awakeS o args h = _ at hs
  unfold awakeS at hs
  split at hs
  · cases hs
    obtain ⟨g, hg⟩ := awake_run ex
    exact ⟨VCalls.numbers h hg .nil (.bool _), fun _ => rfl, Nat.le_refl _, fun _ _ _ => rfl⟩
  · cases hs

abbrev lvA0 : List (Nat × Value) := [(2, pk.v 0), (3, ptr 0), (4, ptr 1)]
abbrev lvA1 : List (Nat × Value) := [(2, pk.v 0), (3, ptr 0), (4, ptr 1), (7, ptr 2), (8, ptr 3), (9, ptr 4), (10, B true)]
abbrev lvA2 : List (Nat × Value) := [(2, pk.v 0), (3, ptr 0), (4, ptr 1), (7, ptr 2), (8, ptr 3), (9, ptr 4)]
abbrev lvN1 : List (Nat × Value) := [(2, pk.v 0), (3, ptr 0), (4, ptr 1), (10, B false)]
abbrev hpA (f : Nat → Int) : VHeap := [gO c pu, whO t p g, layO (lay0 c), mem (mu0 (many c.P c.T c.G) f), mem (mu0 (many c.P c.T c.G) f)]

theorem inA_0 (ex : XTab) : Goes Tryz.prog ex 154 0 (piece [0] inC) [(0, gnd c pu), (1, whV t p g), (2, pk.v 0)] [] .normal (lvA0 pk) [gO c pu, whO t p g] := by
  exact Goes.run (f := (syscInF)) ((baseGood ex)) 9 [2, 3, 4] [] ((by kernel_rfl)) fun junk => by kernel_rfl
theorem inA_1 (f : Nat → Int) (h : TabOK (exB pk pu r2) [⟨layF, false, layGS c pu f⟩]) : Goes Tryz.prog (exB pk pu r2) 154 0 (piece [1, 0] inC) (lvA0 pk) [gO c pu, whO t p g] .normal (lvA1 pk) (hpA c pu t p g f) := by
  exact Goes.run (f := (syscInF)) ((goodT h)) 9 [2, 3, 4, 7, 8, 9, 10] [.fact 5 0 _ (sameC c pu)] ((by kernel_rfl)) fun junk => by kernel_rfl
theorem inN_1 (h : TabOK (exB pk pu r2) [⟨layF, true, layNoS c pu⟩]) : Goes Tryz.prog (exB pk pu r2) 154 0 (piece [1, 0] inC) (lvA0 pk) [gO c pu, whO t p g] .normal (lvN1 pk) [gO c pu, whO t p g] := by
  exact Goes.run (f := (syscInF)) ((goodT h)) 9 [2, 3, 4, 10] [.fact 5 0 _ (sameC c pu)] ((by kernel_rfl)) fun junk => by kernel_rfl
theorem inN_2 (ex : XTab) : Goes Tryz.prog ex 154 0 (piece [1, 1, 0] inC) (lvN1 pk) [gO c pu, whO t p g] .ret [(6, B true)] [] := by
  exact Goes.run (f := (syscInF)) ((goodT (TabOK.cons (awakeOK ex) .nil))) 9 [6] [] ((by kernel_rfl)) fun junk => by kernel_rfl
theorem inA_2 (ex : XTab) (f : Nat → Int) (hk : known c t p g) (hl : pk.len ≤ 100) : Goes Tryz.prog ex 154 0 (piece [1, 1, 0] inC) (lvA1 pk) (hpA c pu t p g f) .normal (lvA2 pk) (hpA c pu t p g f) := by
  obtain ⟨h1, h2, h3, h4, h5, h6⟩ := hk
  have h1 : t ≥ 0 := h1
  have h3 : p ≥ 0 := h3
  have h5 : g ≥ 0 := h5
  have h7 : ¬ (pk.len : Int) > 100 := by omega
  exact Goes.run (f := (syscInF)) ((baseGood ex)) 9 [2, 3, 4, 7, 8, 9] [.val 4 30 _ _ (congrArg Value.bool (dfalse h7)), .val 6 7 _ _ (congrArg Value.bool (dtrue h1)), .val 6 13 _ _ (congrArg Value.bool (dtrue h2)), .val 6 18 _ _ (congrArg Value.bool (dtrue h3)), .val 6 25 _ _ (congrArg Value.bool (dtrue h4)), .val 6 30 _ _ (congrArg Value.bool (dtrue h5)), .val 6 37 _ _ (congrArg Value.bool (dtrue h6))] ((by kernel_rfl)) fun junk => by kernel_rfl
theorem inU_2 (ex : XTab) (f : Nat → Int) (hk : ¬ (known c t p g ∧ pk.len ≤ 100)) : Goes Tryz.prog ex 154 0 (piece [1, 1, 0] inC) (lvA1 pk) (hpA c pu t p g f) .ret [(6, B true)] [] := by
  have hg := goodT (TabOK.cons (awakeOK ex) .nil)
  by_cases h7 : (pk.len : Int) > 100
  · exact Goes.run (f := (syscInF)) (hg) 9 [6] [.val 4 30 _ _ (congrArg Value.bool (dtrue h7))] ((by kernel_rfl)) fun junk => by kernel_rfl
  by_cases h1 : t ≥ 0
  · by_cases h2 : t < c.T
    · by_cases h3 : p ≥ 0
      · by_cases h4 : p < c.P
        · by_cases h5 : g ≥ 0
          · have h6 : ¬ g < c.G := fun h6 => hk ⟨⟨h1, h2, h3, h4, h5, h6⟩, by omega⟩
            exact Goes.run (f := (syscInF)) (hg) 9 [6] [.val 4 30 _ _ (congrArg Value.bool (dfalse h7)), .val 6 7 _ _ (congrArg Value.bool (dtrue h1)), .val 6 13 _ _ (congrArg Value.bool (dtrue h2)), .val 6 18 _ _ (congrArg Value.bool (dtrue h3)), .val 6 25 _ _ (congrArg Value.bool (dtrue h4)), .val 6 30 _ _ (congrArg Value.bool (dtrue h5)), .val 6 37 _ _ (congrArg Value.bool (dfalse h6))] ((by kernel_rfl)) fun junk => by kernel_rfl
          · exact Goes.run (f := (syscInF)) (hg) 9 [6] [.val 4 30 _ _ (congrArg Value.bool (dfalse h7)), .val 6 7 _ _ (congrArg Value.bool (dtrue h1)), .val 6 13 _ _ (congrArg Value.bool (dtrue h2)), .val 6 18 _ _ (congrArg Value.bool (dtrue h3)), .val 6 25 _ _ (congrArg Value.bool (dtrue h4)), .val 6 30 _ _ (congrArg Value.bool (dfalse h5))] ((by kernel_rfl)) fun junk => by kernel_rfl
        · exact Goes.run (f := (syscInF)) (hg) 9 [6] [.val 4 30 _ _ (congrArg Value.bool (dfalse h7)), .val 6 7 _ _ (congrArg Value.bool (dtrue h1)), .val 6 13 _ _ (congrArg Value.bool (dtrue h2)), .val 6 18 _ _ (congrArg Value.bool (dtrue h3)), .val 6 25 _ _ (congrArg Value.bool (dfalse h4))] ((by kernel_rfl)) fun junk => by kernel_rfl
      · exact Goes.run (f := (syscInF)) (hg) 9 [6] [.val 4 30 _ _ (congrArg Value.bool (dfalse h7)), .val 6 7 _ _ (congrArg Value.bool (dtrue h1)), .val 6 13 _ _ (congrArg Value.bool (dtrue h2)), .val 6 18 _ _ (congrArg Value.bool (dfalse h3))] ((by kernel_rfl)) fun junk => by kernel_rfl
    · exact Goes.run (f := (syscInF)) (hg) 9 [6] [.val 4 30 _ _ (congrArg Value.bool (dfalse h7)), .val 6 7 _ _ (congrArg Value.bool (dtrue h1)), .val 6 13 _ _ (congrArg Value.bool (dfalse h2))] ((by kernel_rfl)) fun junk => by kernel_rfl
  · exact Goes.run (f := (syscInF)) (hg) 9 [6] [.val 4 30 _ _ (congrArg Value.bool (dfalse h7)), .val 6 7 _ _ (congrArg Value.bool (dfalse h1))] ((by kernel_rfl)) fun junk => by kernel_rfl

/-! Behind the freeze -/
def lay1 (c : Cf) (b : Nat) : Lay := ⟨b, c.P, c.T, c.G⟩
theorem inFreeze (b : Nat) (f : Nat → Int) : freeze 2 3 b [0, 1, 3, 4] (lvA2 pk) (hpA c pu t p g f) = some ([(2, pk.v 0), (3, ptr 0), (4, ptr 1), (7, lptr (lay1 c b)), (8, ptr 2), (9, ptr 3)], [gO c pu, whO t p g, mem (mu0 (many c.P c.T c.G) f), mem (mu0 (many c.P c.T c.G) f)]) := by kernel_rfl

section
variable (d : Lay)
def inNewR : List Value → Option (BoxP × Bool)
  | [.pointer (some ⟨_, 0, some 3⟩), .int .i64 t, .int .i64 p, .int .i64 g] => some (boxQ (exA d pk pu r2) (inH d t p g .sys), true)
  | _ => none
theorem inNewOK : SpecOK Tryz.prog (exA d pk pu r2) ⟨inNewF, false, newS (inNewR pk pu r2 d)⟩ := newOK _ _ fun args q b h hb => by
  unfold inNewR at h
  split at h
  · cases h
    exact ⟨.cons _ _ _ _ (.fptr _ _ _) (.cons _ _ _ _ (.int _ _) (.cons _ _ _ _ (.int _ _) (.cons _ _ _ _ (.int _ _) .nil))), lptr_any (in_new pk.r pu.r r2 d _ _ _)⟩
  · cases h
theorem inB_4 (u : Mu) : Goes Tryz.prog (exA d pk pu r2) 154 0 (piece [1, 1, 1, 0] inC) [(2, pk.v 0), (3, ptr 0), (4, ptr 1), (7, lptr d), (8, ptr 2), (9, ptr 3)] [ob [I d.P, I d.T, I d.G, pu.v 1], whO t p g, mem u, mem u] .normal
    [(2, pk.v 0), (3, ptr 0), (4, ptr 1), (8, ptr 2), (9, ptr 3), (11, ptr 4)] [ob [I d.P, I d.T, I d.G, pu.v 1], whO t p g, mem u, mem u, .box (boxQ (exA d pk pu r2) (inH d t p g .sys))] := by
  exact Goes.run (f := (syscInF)) ((goodT (TabOK.cons (inNewOK pk pu r2 d) .nil))) 9 [2, 3, 4, 8, 9, 11] [] ((by kernel_rfl)) fun junk => by kernel_rfl
theorem inB_5 (u : Mu) : Goes Tryz.prog (exA d pk pu r2) 154 0 (piece [1, 1, 1, 1, 0] inC) [(2, pk.v 0), (3, ptr 0), (4, ptr 1), (8, ptr 2), (9, ptr 3), (11, ptr 4)] [ob [I d.P, I d.T, I d.G, pu.v 1], whO t p g, mem u, mem u, .box (boxQ (exA d pk pu r2) (inH d t p g .sys))] .normal
    [(2, pk.v 0), (3, ptr 0), (4, ptr 1), (8, ptr 2), (9, ptr 3), (11, ptr 4), (12, nils)] [ob [I d.P, I d.T, I d.G, pu.v 1], whO t p g, mem u, mem u, .box (boxQ (exA d pk pu r2) (inH d t p g .sys))] := by
  exact Goes.run (f := (syscInF)) ((baseGood (exA d pk pu r2))) 9 [2, 3, 4, 8, 9, 11, 12] [] ((by kernel_rfl)) fun junk => by kernel_rfl
theorem inB_6 (u : Mu) : Goes Tryz.prog (exA d pk pu r2) 154 0 (piece [1, 1, 1, 1, 1, 0, 0] inC) [(2, pk.v 0), (3, ptr 0), (4, ptr 1), (8, ptr 2), (9, ptr 3), (11, ptr 4), (12, nils)] [ob [I d.P, I d.T, I d.G, pu.v 1], whO t p g, mem u, mem u, .box (boxQ (exA d pk pu r2) (inH d t p g .sys))] .normal
    (inLv pk nils 0) (inHp d pu t p g u (boxQ (exA d pk pu r2) (inH d t p g .sys)) []) := by
  exact Goes.run (f := (syscInF)) ((baseGood (exA d pk pu r2))) 9 [2, 3, 4, 8, 9, 11, 12, 13] [] ((by kernel_rfl)) fun junk => by kernel_rfl
end

/-- The end. -/
theorem inZ (ex : XTab) (u : Mu) (h : 0 < u.n ∧ u.n ≤ 100000) : Goes Tryz.prog ex 154 0 (piece [1, 1, 1, 1, 1, 1] inC) outLv [mem u, mem u] .ret [(6, B true)] [] := by
  refine Goes.openMem (i := 1) (u := u) rfl ?_
  have hs : dec (u.n = u.n ∧ u.n = u.n ∧ u.n = u.n ∧ u.w = u.w ∧ u.n ≤ 100000) = true := dec_true ⟨rfl, rfl, rfl, rfl, h.2⟩
  show Goes Tryz.prog ex 154 0 (piece [1, 1, 1, 1, 1, 1] inC) outLv [mem u, ob [.slice (some ⟨2, 0, none⟩) u.n 1, I u.clk, I u.bad, I u.k, I u.who, I u.at', U u.old, U u.new, B u.dn], .fn u.n .u64 u.w 0] .ret [(6, B true)] []
  exact Goes.run (f := (syscInF)) ((goodT (TabOK.cons (awakeOK ex) (TabOK.cons (sameOK ex) (TabOK.cons (wordsOK ex) .nil))))) 9 [6] [.fact 21 0 _ (dtrue h), .fact 20 0 _ (hs)] ((by kernel_rfl)) fun junk => by kernel_rfl
end
end Go.Vx
