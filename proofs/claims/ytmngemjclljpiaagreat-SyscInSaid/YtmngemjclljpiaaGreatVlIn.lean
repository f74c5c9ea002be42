/- SyscIn: the rounds of its loop. -/
import Derived.Test.YtmngemjclljpiaaGreatVmIn
import Derived.Test.YtmngemjclljpiaaGreatVtLay2

namespace Go.Vx
open Go.Proofs

abbrev syscInF : Nat := 4
noncomputable abbrev inBody : Code := piece [1,1,1,1,1,0,1,0,0] (bodyOf Tryz.prog syscInF)

section
variable (d : Lay) (pk pu : Pk) (r2 : XRow)
abbrev exA : XTab := exL pk.r pu.r r2 d
def inLv (got : Value) (i : Int) : List (Nat × Value) := [(2, pk.v 0), (3, ptr 0), (4, ptr 1), (8, ptr 2), (9, ptr 3), (11, ptr 4), (12, got), (13, I i)]
def inHp (t p g : Int) (u : Mu) (q : BoxP) (go : VHeap) : VHeap := [ob [I d.P, I d.T, I d.G, pu.v 1], ob [I t, I p, I g], mem u, mem u, .box q] ++ go
abbrev gotV (n : Nat) : Value := .slice (some ⟨5, 0, none⟩) n 1

/-- A poke that is a step. -/
structure StepAt (i : Int) : Prop where
  lt : i < pk.len
  a : 0 ≤ i ∧ i < pk.len
  row : pk.r.lo ≤ pk.off + i.toNat * 6 ∧ pk.off + i.toNat * 6 < pk.r.lo + pk.r.n
  is : pk.r.g (pk.off + i.toNat * 6) = B true
  nx : w64 (i + 1) = i + 1

noncomputable def tabIn (doneV : Bool) (wentV : Bool) (q q' : BoxP) (u u' : Mu) (b : Bool) (rs : SpecFn) : List SpecE :=
  [⟨inDoneF, true, accS q [] (B doneV)⟩, ⟨inWentF, true, accS q [] (B wentV)⟩, ⟨inStepF, false, stepS q u b q' u'⟩, ⟨rInF, false, rs⟩] ++ tabLaw

theorem neB (b : Bool) : (b != b) = false := by simp

structure Hyp (t p g : Int) (doneV wentV : Bool) (q q' : BoxP) (u u' : Mu) (b : Bool) (r r' : RunP) : Prop where
  dn : VCalls Tryz.prog (exA d pk pu r2) inDoneF [ptr 0] [.box q] (B doneV) [.box q]
  wn : VCalls Tryz.prog (exA d pk pu r2) inWentF [ptr 0] [.box q] (B wentV) [.box q]
  st : VCalls Tryz.prog (exA d pk pu r2) inStepF [ptr 1, ptr 0] [mem u, .box q] (B b) [mem u', .box q']
  rf : VCalls Tryz.prog (exA d pk pu r2) rInF [ptr 0, conf d, I p, I g] [run r] (B wentV) [run r']

theorem Hyp.tabG {t p g : Int} {doneV wentV : Bool} {q q' : BoxP} {u u' : Mu} {b : Bool} {r r' : RunP} (h : Hyp d pk pu r2 t p g doneV wentV q q' u u' b r r') (hok : r.OK) (hnl : r.nl = false) (hnl' : r'.nl = false) :
    (cfgT (exA d pk pu r2) (tabIn doneV wentV q q' u u' b (refGS r r' [conf d, I p, I g] (B wentV)))).Good Tryz.prog :=
  goodT (.app (.cons (accOK h.dn) (.cons (accOK h.wn) (.cons (stepOK h.st) (.cons (refGOK hok hnl hnl' h.rf) .nil)))) (tabLaw_ok _))
theorem Hyp.tab0 {t p g : Int} {doneV wentV : Bool} {q q' : BoxP} {u u' : Mu} {b : Bool} {r r' : RunP} (h : Hyp d pk pu r2 t p g doneV wentV q q' u u' b r r') (hok : r.OK) (hnl : r.nl = true) (hnl' : r'.nl = true) :
    (cfgT (exA d pk pu r2) (tabIn doneV wentV q q' u u' b (ref0S r r' [conf d, I p, I g] (B wentV)))).Good Tryz.prog :=
  goodT (.app (.cons (accOK h.dn) (.cons (accOK h.wn) (.cons (stepOK h.st) (.cons (ref0OK hok hnl hnl' h.rf) .nil)))) (tabLaw_ok _))

/-- A step, where something was answered. -/
theorem in_more (t p g : Int) (wentV : Bool) (q q' : BoxP) (u : Mu) (b : Bool) (n : Nat) (gg : Nat → Int) (a : AskT) (i : Int) (hs : StepAt pk i) (hn : n ≤ 1000) (hok : (run0 n gg).OK) (ha : a.OK) (hw : Wd u)
    (h : Hyp d pk pu r2 t p g false wentV q q' u (muOf u t a) b (run0 n gg) ((runE n gg).stops a)) :
    Goes Tryz.prog (exA d pk pu r2) 154 0 inBody (inLv pk (gotV n) i) (inHp d pu t p g u q [.fn n .u64 gg 0]) .normal (inLv pk (gotV (n + 1)) (i + 1)) (inHp d pu t p g (muOf u t a) q' [.fn (n + 1) .u64 (ext1 n gg (ansOf u a)) 0]) := by
  obtain ⟨h1, h2, h3, h4, h5⟩ := hs
  exact Goes.run (f := (syscInF)) ((h.tabG d pk pu r2 hok rfl rfl)) 20 [2, 3, 4, 8, 9, 11, 12, 13] [.val 4 51 _ _ (congrArg Value.bool (dtrue h1)), .fact 4 56 _ (dtrue h2), .fact 4 58 _ (dtrue h3), .val 4 58 _ _ (h4), .fact 23 0 _ (sameG0 n gg [conf d, I p, I g]), .fact 24 0 _ (sameA q []), .fact 25 0 _ (sameA q []), .val 4 86 _ _ (congrArg Value.bool (neB wentV)), .fact 37 0 _ (ha.d hw), .fact 17 48 _ (appB hn), .fact 26 0 _ (same2 q u), .fact 19 0 _ (sameU (muOf u t a)), .val 4 53 _ _ (congrArg (Value.int .i64) (h5))] ((by kernel_rfl)) fun junk => by kernel_rfl

/-- The first step. -/
theorem in_first (t p g : Int) (wentV : Bool) (q q' : BoxP) (u : Mu) (b : Bool) (gg : Nat → Int) (a : AskT) (i : Int) (hs : StepAt pk i) (ha : a.OK) (hw : Wd u) (hgg : gg 0 = ansOf u a)
    (h : Hyp d pk pu r2 t p g false wentV q q' u (muOf u t a) b runN (runN.stops a)) :
    Goes Tryz.prog (exA d pk pu r2) 154 0 inBody (inLv pk nils i) (inHp d pu t p g u q []) .normal (inLv pk (gotV 1) (i + 1)) (inHp d pu t p g (muOf u t a) q' [.fn 1 .u64 gg 0]) := by
  obtain ⟨h1, h2, h3, h4, h5⟩ := hs
  have key : Goes Tryz.prog (exA d pk pu r2) 154 0 inBody (inLv pk nils i) (inHp d pu t p g u q []) .normal (inLv pk (gotV 1) (i + 1)) (inHp d pu t p g (muOf u t a) q' [.cells [U (ansOf u a)] 0]) := by
    exact Goes.run (f := (syscInF)) ((h.tab0 d pk pu r2 runN_ok rfl rfl)) 20 [2, 3, 4, 8, 9, 11, 12, 13] [.val 4 51 _ _ (congrArg Value.bool (dtrue h1)), .fact 4 56 _ (dtrue h2), .fact 4 58 _ (dtrue h3), .val 4 58 _ _ (h4), .fact 23 0 _ (same0 runN [conf d, I p, I g]), .fact 24 0 _ (sameA q []), .fact 25 0 _ (sameA q []), .val 4 86 _ _ (congrArg Value.bool (neB wentV)), .fact 37 0 _ (ha.d hw), .fact 26 0 _ (same2 q u), .fact 19 0 _ (sameU (muOf u t a)), .val 4 53 _ _ (congrArg (Value.int .i64) (h5))] ((by kernel_rfl)) fun junk => by kernel_rfl
  have := key.ints (i := 5) (l := [U (ansOf u a)]) (e := 0) rfl 1 .u64 gg 0 (by simp) (fun j hj => by
    have : j = 0 := by omega
    subst this; rw [hgg]; rfl)
  exact this

/-- A step where all is done. -/
theorem in_idle (t p g : Int) (wentV : Bool) (q : BoxP) (u : Mu) (n : Nat) (gg : Nat → Int) (i : Int) (hs : StepAt pk i) (hok : (run0 n gg).OK)
    (h : Hyp d pk pu r2 t p g true wentV q q u u true (run0 n gg) (runE n gg)) :
    Goes Tryz.prog (exA d pk pu r2) 154 0 inBody (inLv pk (gotV n) i) (inHp d pu t p g u q [.fn n .u64 gg 0]) .normal (inLv pk (gotV n) (i + 1)) (inHp d pu t p g u q [.fn n .u64 gg 0]) := by
  obtain ⟨h1, h2, h3, h4, h5⟩ := hs
  exact Goes.run (f := (syscInF)) ((h.tabG d pk pu r2 hok rfl rfl)) 20 [2, 3, 4, 8, 9, 11, 12, 13] [.val 4 51 _ _ (congrArg Value.bool (dtrue h1)), .fact 4 56 _ (dtrue h2), .fact 4 58 _ (dtrue h3), .val 4 58 _ _ (h4), .fact 23 0 _ (sameG0 n gg [conf d, I p, I g]), .fact 24 0 _ (sameA q []), .fact 25 0 _ (sameA q []), .val 4 86 _ _ (congrArg Value.bool (neB wentV)), .fact 26 0 _ (same2 q u), .fact 19 0 _ (sameU u), .val 4 53 _ _ (congrArg (Value.int .i64) (h5))] ((by kernel_rfl)) fun junk => by kernel_rfl

/-- A poke that is somebody else's access. -/
structure ActAt (i k who at' o v : Int) : Prop where
  lt : i < pk.len
  a : 0 ≤ i ∧ i < pk.len
  row : pk.r.lo ≤ pk.off + i.toNat * 6 ∧ pk.off + i.toNat * 6 < pk.r.lo + pk.r.n
  row5 : pk.r.lo ≤ pk.off + i.toNat * 6 + 1 ∧ pk.off + i.toNat * 6 + 1 + 5 ≤ pk.r.lo + pk.r.n
  is : pk.r.g (pk.off + i.toNat * 6) = B false
  act : (.agg ⟨(List.range 5).map fun j => pk.r.g (pk.off + i.toNat * 6 + 1 + j)⟩ : Value) = .agg ⟨[I k, I who, I at', U o, U v]⟩
  nx : w64 (i + 1) = i + 1

theorem in_act (t p g : Int) (q : BoxP) (u : Mu) (n : Nat) (gg : Nat → Int) (i k who at' o v : Int) (hs : ActAt pk i k who at' o v) (hr : rng u at' v) :
    Goes Tryz.prog (exA d pk pu r2) 154 0 inBody (inLv pk (gotV n) i) (inHp d pu t p g u q [.fn n .u64 gg 0]) .normal (inLv pk (gotV n) (i + 1)) (inHp d pu t p g (muDo u k who at' o v) q [.fn n .u64 gg 0]) := by
  obtain ⟨h1, h2, h3, h4, h5, h6, h7⟩ := hs
  exact Goes.run (f := (syscInF)) ((goodT (tabLaw_ok (exA d pk pu r2)))) 20 [2, 3, 4, 8, 9, 11, 12, 13] [.val 4 51 _ _ (congrArg Value.bool (dtrue h1)), .fact 4 56 _ (dtrue h2), .fact 4 58 _ (dtrue h3), .val 4 58 _ _ (h5), .fact 4 64 _ (dtrue h2), .fact 4 66 _ (dtrue h4), .val 4 66 _ _ (h6), .fact 9 0 _ (sameUD hr), .val 4 53 _ _ (congrArg (Value.int .i64) (h7))] ((by kernel_rfl)) fun junk => by kernel_rfl
theorem in_act0 (t p g : Int) (q : BoxP) (u : Mu) (i k who at' o v : Int) (hs : ActAt pk i k who at' o v) (hr : rng u at' v) :
    Goes Tryz.prog (exA d pk pu r2) 154 0 inBody (inLv pk nils i) (inHp d pu t p g u q []) .normal (inLv pk nils (i + 1)) (inHp d pu t p g (muDo u k who at' o v) q []) := by
  obtain ⟨h1, h2, h3, h4, h5, h6, h7⟩ := hs
  exact Goes.run (f := (syscInF)) ((goodT (tabLaw_ok (exA d pk pu r2)))) 20 [2, 3, 4, 8, 9, 11, 12, 13] [.val 4 51 _ _ (congrArg Value.bool (dtrue h1)), .fact 4 56 _ (dtrue h2), .fact 4 58 _ (dtrue h3), .val 4 58 _ _ (h5), .fact 4 64 _ (dtrue h2), .fact 4 66 _ (dtrue h4), .val 4 66 _ _ (h6), .fact 9 0 _ (sameUD hr), .val 4 53 _ _ (congrArg (Value.int .i64) (h7))] ((by kernel_rfl)) fun junk => by kernel_rfl

/-- Out of the loop. -/
def outLv : List (Nat × Value) := [(8, ptr 0), (9, ptr 1)]
theorem in_off (t p g : Int) (q : BoxP) (u : Mu) (n : Nat) (gg : Nat → Int) (i : Int) (h : ¬ i < pk.len) :
    Goes Tryz.prog (exA d pk pu r2) 154 0 inBody (inLv pk (gotV n) i) (inHp d pu t p g u q [.fn n .u64 gg 0]) (.exit 0) outLv [mem u, mem u] := by
  exact Goes.run (f := (syscInF)) ((goodT (tabLaw_ok (exA d pk pu r2)))) 20 [8, 9] [.val 4 51 _ _ (congrArg Value.bool (dfalse h))] ((by kernel_rfl)) fun junk => by kernel_rfl
theorem in_off0 (t p g : Int) (q : BoxP) (u : Mu) (i : Int) (h : ¬ i < pk.len) :
    Goes Tryz.prog (exA d pk pu r2) 154 0 inBody (inLv pk nils i) (inHp d pu t p g u q []) (.exit 0) outLv [mem u, mem u] := by
  exact Goes.run (f := (syscInF)) ((goodT (tabLaw_ok (exA d pk pu r2)))) 20 [8, 9] [.val 4 51 _ _ (congrArg Value.bool (dfalse h))] ((by kernel_rfl)) fun junk => by kernel_rfl

/-- A poke. -/
def PokeAt (i : Int) : Prop := StepAt pk i ∨ ∃ k who at' o v, ActAt pk i k who at' o v ∧ 0 ≤ v ∧ v < 18446744073709551616

theorem gAt_ok (p g : Int) (s : InS) (a : AskT) (h : (inM d p g).want s = some a) : a.OK := by
  cases s <;> cases h <;> exact ⟨by simp, by constructor <;> simp⟩

theorem in_hyp (t p g : Int) (u : Mu) (n : Nat) (gg : Nat → Int) (s : InS) (hs : (inM d p g).replay .sys (answers n gg) = (s, [])) (a : AskT) (ha : (inM d p g).want s = some a) :
    Hyp d pk pu r2 t p g false s.went (boxQ (exA d pk pu r2) (inH d t p g s)) (boxQ (exA d pk pu r2) (inH d t p g ((inM d p g).next s (ansOf u a)))) u (muOf u t a) ((inM d p g).fin ((inM d p g).next s (ansOf u a))) (run0 n gg) ((runE n gg).stops a) where
  dn := by have := in_done pk.r pu.r r2 d t p g s; rw [show (inM d p g).fin s = false by simp [Mach.fin, ha]] at this; exact this
  wn := in_went pk.r pu.r r2 d t p g s
  st := (in_ok pk.r pu.r r2 d t p g).step s u a ha
  rf := by
    have := in_ref pk.r pu.r r2 d p g (run0 n gg) rfl
    have hrem : (run0 n gg).rem = answers n gg := rfl
    rw [hrem, hs] at this
    have e : (run0 n gg).out (inM d p g) .sys = (runE n gg).stops a := by
      rw [RunP.out_stop rfl (a := a) (by rw [hrem, hs]; exact ha)]; rfl
    rw [e] at this; exact this

theorem in_hypE (t p g : Int) (u : Mu) (n : Nat) (gg : Nat → Int) (s : InS) (hs : (inM d p g).replay .sys (answers n gg) = (s, [])) (ha : (inM d p g).want s = none) :
    Hyp d pk pu r2 t p g true s.went (boxQ (exA d pk pu r2) (inH d t p g s)) (boxQ (exA d pk pu r2) (inH d t p g s)) u u true (run0 n gg) (runE n gg) where
  dn := by have := in_done pk.r pu.r r2 d t p g s; rw [show (inM d p g).fin s = true by simp [Mach.fin, ha]] at this; exact this
  wn := in_went pk.r pu.r r2 d t p g s
  st := (in_ok pk.r pu.r r2 d t p g).idle s u ha
  rf := by
    have := in_ref pk.r pu.r r2 d p g (run0 n gg) rfl
    have hrem : (run0 n gg).rem = answers n gg := rfl
    rw [hrem, hs] at this
    have e : (run0 n gg).out (inM d p g) .sys = runE n gg := by
      rw [RunP.out_done rfl (by rw [hrem, hs]; exact ha), hrem, hs]; rfl
    rw [e] at this; exact this

theorem in_hyp0 (t p g : Int) (u : Mu) (a : AskT) (ha : (inM d p g).want .sys = some a) :
    Hyp d pk pu r2 t p g false InS.sys.went (boxQ (exA d pk pu r2) (inH d t p g .sys)) (boxQ (exA d pk pu r2) (inH d t p g ((inM d p g).next .sys (ansOf u a)))) u (muOf u t a) ((inM d p g).fin ((inM d p g).next .sys (ansOf u a))) runN (runN.stops a) where
  dn := by have := in_done pk.r pu.r r2 d t p g .sys; rw [show (inM d p g).fin .sys = false by simp [Mach.fin, ha]] at this; exact this
  wn := in_went pk.r pu.r r2 d t p g .sys
  st := (in_ok pk.r pu.r r2 d t p g).step .sys u a ha
  rf := by
    have := in_ref pk.r pu.r r2 d p g runN rfl
    have e : runN.out (inM d p g) .sys = runN.stops a := by
      rw [RunP.out_stop rfl (a := a) ha]; rfl
    rw [e] at this; exact this

/-- Where the machine stands. -/
inductive InCur (t p g : Int) (u : Mu) (i : Int) : List (Nat × Value) → VHeap → Prop where
  | zero : InCur t p g u i (inLv pk nils i) (inHp d pu t p g u (boxQ (exA d pk pu r2) (inH d t p g .sys)) [])
  | more (n : Nat) (gg : Nat → Int) (s : InS) (hn : (n : Int) ≤ i) (hg : ∀ j, j < n → 0 ≤ gg j ∧ gg j < 18446744073709551616) (hs : (inM d p g).replay .sys (answers n gg) = (s, [])) :
      InCur t p g u i (inLv pk (gotV n) i) (inHp d pu t p g u (boxQ (exA d pk pu r2) (inH d t p g s)) [.fn n .u64 gg 0])

theorem in_loop (t p g : Int) (hlen : pk.len ≤ 1000) (hp : ∀ i : Int, 0 ≤ i → i < pk.len → PokeAt pk i) : ∀ (m : Nat) (i : Int) (u : Mu) (lv : List (Nat × Value)) (h : VHeap), InCur d pk pu r2 t p g u i lv h → Wd u → 0 ≤ i → (pk.len : Int) - i ≤ m →
    ∃ k u', Rounds Tryz.prog (exA d pk pu r2) 154 0 inBody (.exit 0) outLv [mem u', mem u'] k lv h ∧ Wd u' ∧ u'.n = u.n := by
  intro m
  induction m with
  | zero =>
    intro i u lv h hc hw h0 hn
    have hi : ¬ i < pk.len := by omega
    cases hc with
    | zero => exact ⟨1, u, .out _ _ (by simp) (in_off0 d pk pu r2 t p g _ u i hi), hw, rfl⟩
    | more n gg s hn hg hs => exact ⟨1, u, .out _ _ (by simp) (in_off d pk pu r2 t p g _ u n gg i hi), hw, rfl⟩
  | succ m ih =>
    intro i u lv h hc hw h0 hn
    by_cases hi : i < pk.len
    · have next : ∀ (u1 : Mu) (lv1 : List (Nat × Value)) (h1 : VHeap), Goes Tryz.prog (exA d pk pu r2) 154 0 inBody lv h .normal lv1 h1 → InCur d pk pu r2 t p g u1 (i + 1) lv1 h1 → Wd u1 → u1.n = u.n → ∃ k u', Rounds Tryz.prog (exA d pk pu r2) 154 0 inBody (.exit 0) outLv [mem u', mem u'] k lv h ∧ Wd u' ∧ u'.n = u.n := by
        intro u1 lv1 h1 hg hc1 hw1 hn1
        obtain ⟨k, u', hr, hw', hn'⟩ := ih (i + 1) u1 lv1 h1 hc1 hw1 (by omega) (by omega)
        exact ⟨k + 1, u', .more k lv lv1 h h1 hg hr, hw', hn'.trans hn1⟩
      rcases hp i h0 hi with hst | ⟨k, who, at', o, v, hact, hv⟩
      · cases hc with
        | zero =>
          have ha : (inM d p g).want .sys = some ⟨2, gAt d g 0, 0, 4⟩ := rfl
          have hok := gAt_ok d p g _ _ ha
          refine next _ _ _ (in_first d pk pu r2 t p g _ _ _ u _ (fun _ => ansOf u ⟨2, gAt d g 0, 0, 4⟩) _ i hst hok hw rfl (in_hyp0 d pk pu r2 t p g u _ ha)) (.more 1 _ _ (by omega) (fun j _ => doAns_wd hw _ _ _ hok.new) ?_) (muDo_wd hw _ _ _ _ hok.new) (muDo_n _ _ _ _ _ _)
          rfl
        | more n gg s hn hg hs =>
          cases ha : (inM d p g).want s with
          | none => exact next _ _ _ (in_idle d pk pu r2 t p g _ _ u n gg i hst (run0_ok (by omega) hg) (in_hypE d pk pu r2 t p g u n gg s hs ha)) (.more n gg s (by omega) hg hs) hw rfl
          | some a =>
            have hok := gAt_ok d p g _ _ ha
            refine next _ _ _ (in_more d pk pu r2 t p g _ _ _ u _ n gg a i hst (by omega) (run0_ok (by omega) hg) hok hw (in_hyp d pk pu r2 t p g u n gg s hs a ha)) (.more (n + 1) _ ((inM d p g).next s (ansOf u a)) (by omega) (fun j hj => ?_) ?_) (muDo_wd hw _ _ _ _ hok.new) (muDo_n _ _ _ _ _ _)
            · unfold ext1; split
              · exact doAns_wd hw _ _ _ hok.new
              · exact hg j (by omega)
            · rw [answers_snoc, (inM d p g).replay_snoc _ _ _ (by rw [hs]), hs]
              simp only [ha]
      · have hr := rng_of hw (at' := at') hv
        have hw1 := muDo_wd hw k who at' o hv
        cases hc with
        | zero => exact next _ _ _ (in_act0 d pk pu r2 t p g _ u i k who at' o v hact hr) .zero hw1 (muDo_n _ _ _ _ _ _)
        | more n gg s hn hg hs => exact next _ _ _ (in_act d pk pu r2 t p g _ u n gg i k who at' o v hact hr) (.more n gg s (by omega) hg hs) hw1 (muDo_n _ _ _ _ _ _)
    · cases hc with
      | zero => exact ⟨1, u, .out _ _ (by simp) (in_off0 d pk pu r2 t p g _ u i hi), hw, rfl⟩
      | more n gg s hn hg hs => exact ⟨1, u, .out _ _ (by simp) (in_off d pk pu r2 t p g _ u n gg i hi), hw, rfl⟩
end
end Go.Vx
