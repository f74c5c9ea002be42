/- Grounds are laid: the layout, both memories. -/
import Derived.Test.YtmngemjclljpiaaGreatVtLay
namespace Go.Vx
open Go.Proofs

noncomputable def rNewS : SpecFn
  | _, [.slice (some ⟨i, 0, none⟩) n 1], h => match h[i]? with
    | some (.fn N .u64 w _) => some (ptr h.length, h ++ [mem (mu0 n w)], decide (N = n ∧ 0 < n ∧ n ≤ 100000), [])
    | _ => none
  | _, _, _ => none

theorem rNewOK (ex : XTab) : SpecOK Tryz.prog ex ⟨rNewF, false, rNewS⟩ := by
  intro o args h v h' b tl hs hb
  change rNewS o args h = _ at hs
  unfold rNewS at hs
  split at hs
  case h_2 => cases hs
  rename_i i n
  split at hs
  case h_2 => cases hs
  rename_i N w e hi
  cases hs
  obtain ⟨rfl, h1, h2⟩ := of_decide_eq_true hb
  have li := (List.getElem?_eq_some_iff.1 hi).1
  have hps : psNew [i] h.length 1 = [i, h.length] := by simp [psNew]
  refine ⟨VCalls.frame [i] 1 (rNew_run ex N w h1 h2) ⟨rfl, by simp, fun k m o hk ho => ?_⟩ (.cons _ _ _ _ (.slice 0 i 0 _ _ rfl) .nil) (by rw [hps]; exact .ptr 1 h.length 0 rfl) (fun k m hk => ?_) (by simp) (by simp) (fun k m o hk ho => ?_) (fun m hm hn => by rw [List.getElem?_append_left hm]), (fun h => by cases h), by simp, fun m hm _ => by rw [List.getElem?_append_left hm]⟩
  · match k with
    | 0 => simp at hk ho; subst hk; subst ho; exact ⟨_, hi, RO.weak (.fn _ _ _ _ _ _ fun _ _ => rfl)⟩
    | k + 1 => simp at hk
  · match k with
    | 0 => simp at hk; subst hk; rw [hi]; simp
    | k + 1 => simp at hk
  · rw [hps] at hk ⊢
    match k with
    | 0 => simp at hk ho; subst hk; subst ho; exact ⟨_, by rw [List.getElem?_append_left li]; exact hi, .fn _ _ _ _ _ _ fun _ _ => rfl⟩
    | 1 => simp at hk ho; subst hk; subst ho; exact ⟨mem (mu0 N w), by simp, .pay _⟩
    | k + 2 => simp at hk

/-- The arguments' slices: pokes; puts. -/
structure Pk where
  r : XRow
  off : Nat
  len : Nat
abbrev Pk.v (p : Pk) (k : Nat) : Value := .slice (some ⟨p.r.b, p.off, some k⟩) p.len 0

/-- A config. -/
structure Cf where
  P : Int
  T : Int
  G : Int
abbrev Cf.v (c : Cf) : Value := .agg ⟨[I c.P, I c.T, I c.G]⟩

section
variable (c : Cf) (pk pu : Pk) (r2 : XRow)
abbrev exB : XTab := [pk.r, pu.r, r2]
abbrev gnd : Value := .agg ⟨[I c.P, I c.T, I c.G, pu.v 1]⟩
noncomputable abbrev layC : Code := bodyOf Tryz.prog layF

noncomputable def tabLy : List SpecE := [⟨fewF, true, numS fewR⟩, ⟨lenF, true, numS fun a => match a with | [.agg ⟨[.int .i64 P, .int .i64 T, .int .i64 G]⟩] => some (I (many P T G), decide (few P T G)) | _ => none⟩, ⟨rNewF, false, rNewS⟩]
theorem tabLy_ok (ex : XTab) : TabOK ex tabLy := .cons (fewOK _) (.cons (numOK ex _ _ fun args v b h hb => by
  split at h
  · cases h; exact len_run ex _ _ _ (of_decide_eq_true hb)
  · cases h) (.cons (rNewOK _) .nil))

theorem lay_none (h : ¬ (few c.P c.T c.G ∧ pu.len ≤ 400)) : ∃ g, VCalls Tryz.prog (exB pk pu r2) layF [gnd c pu] [] (.tuple ⟨[nilp, nilp, nilp, B false]⟩) ([] ++ g) := by
  by_cases h1 : few c.P c.T c.G
  · have h3 : ¬ pu.len ≤ 400 := fun h2 => h ⟨h1, h2⟩
    have h2 : (pu.len : Int) > 400 := by omega
    exact contractK ((goodT (tabLy_ok (exB pk pu r2)))) 9 0 [.val 5 14 _ _ (congrArg Value.bool (dtrue h1)), .val 5 20 _ _ (congrArg Value.bool (dtrue h2))] _ _ _ _ (by kernel_rfl)
  · exact contractK ((goodT (tabLy_ok (exB pk pu r2)))) 9 0 [.val 5 14 _ _ (congrArg Value.bool (dfalse h1))] _ _ _ _ (by kernel_rfl)

abbrev gO : VObj := ob [I c.P, I c.T, I c.G, pu.v 1]
theorem lay_0 : Goes Tryz.prog (exB pk pu r2) 86 0 (piece [0] layC) [(0, gnd c pu)] [] .normal [(1, ptr 0)] [gO c pu] := by
  exact Goes.run (f := (layF)) ((goodT (tabLy_ok (exB pk pu r2)))) 9 [1] [] ((by kernel_rfl)) fun junk => by kernel_rfl
theorem lay_1 (h1 : few c.P c.T c.G) (h2 : pu.len ≤ 400) : Goes Tryz.prog (exB pk pu r2) 86 0 (piece [1, 0] layC) [(1, ptr 0)] [gO c pu] .normal [(1, ptr 0)] [gO c pu] := by
  have h3 : ¬ (pu.len : Int) > 400 := by omega
  exact Goes.run (f := (layF)) ((goodT (tabLy_ok (exB pk pu r2)))) 9 [1] [.val 5 14 _ _ (congrArg Value.bool (dtrue h1)), .val 5 20 _ _ (congrArg Value.bool (dfalse h3))] ((by kernel_rfl)) fun junk => by kernel_rfl
def layLv (N : Nat) (i : Int) : List (Nat × Value) := [(1, ptr 0), (6, .slice (some ⟨1, 0, none⟩) N 1), (7, I i)]
theorem lay_2 (N : Nat) (h1 : few c.P c.T c.G) (hN : many c.P c.T c.G = N) : Goes Tryz.prog (exB pk pu r2) 86 0 (piece [1, 1, 0] layC) [(1, ptr 0)] [gO c pu] .normal [(1, ptr 0), (6, .slice (some ⟨1, 0, none⟩) N 1)] [gO c pu, .fn N .u64 (fun _ => 0) 0] := by
  subst hN
  have h2 := many_le h1
  have e1 : (0 : Int) ≤ many c.P c.T c.G ∧ (many c.P c.T c.G : Int) ≤ 1000000 := by omega
  exact Goes.run (f := (layF)) ((goodT (tabLy_ok (exB pk pu r2)))) 9 [1, 6] [.fact 28 0 _ (dtrue h1), .fact 5 25 _ (dtrue e1)] ((by kernel_rfl)) fun junk => by kernel_rfl
theorem lay_3 (N : Nat) : Goes Tryz.prog (exB pk pu r2) 86 0 (piece [1, 1, 1, 0, 0] layC) [(1, ptr 0), (6, .slice (some ⟨1, 0, none⟩) N 1)] [gO c pu, .fn N .u64 (fun _ => 0) 0] .normal (layLv N 0) [gO c pu, .fn N .u64 (fun _ => 0) 0] := by
  exact Goes.run (f := (layF)) ((goodT (tabLy_ok (exB pk pu r2)))) 9 [1, 6, 7] [] ((by kernel_rfl)) fun junk => by kernel_rfl

/-- A word that is laid. -/
structure PutAt (i at' w : Int) : Prop where
  lt : i < pu.len
  a : 0 ≤ i ∧ i < pu.len
  row : pu.r.lo ≤ pu.off + i.toNat * 2 ∧ pu.off + i.toNat * 2 < pu.r.lo + pu.r.n
  row1 : pu.r.lo ≤ pu.off + i.toNat * 2 + 1 ∧ pu.off + i.toNat * 2 + 1 < pu.r.lo + pu.r.n
  g0 : pu.r.g (pu.off + i.toNat * 2) = I at'
  g1 : pu.r.g (pu.off + i.toNat * 2 + 1) = U w
  nx : w64 (i + 1) = i + 1
theorem lay_put (N : Nat) (f : Nat → Int) (i at' w : Int) (hp : PutAt pu i at' w) (h1 : at' ≥ 0) (h2 : at' < N) : Goes Tryz.prog (exB pk pu r2) 86 0 (piece [1, 1, 1, 0, 1, 0, 0] layC) (layLv N i) [gO c pu, .fn N .u64 f 0] .normal (layLv N (i + 1)) [gO c pu, .fn N .u64 (fun j => if j = 0 + at'.toNat * 1 then w else f j) 0] := by
  obtain ⟨q1, q2, q3, q4, q5, q6, q7⟩ := hp
  have h3 : 0 ≤ at' ∧ at' < N := ⟨h1, h2⟩
  have h4 : 0 + at'.toNat * 1 < N := by omega
  exact Goes.run (f := (layF)) ((goodT (tabLy_ok (exB pk pu r2)))) 9 [1, 6, 7] [.val 5 30 _ _ (congrArg Value.bool (dtrue q1)), .fact 5 36 _ (dtrue q2), .fact 5 38 _ (dtrue q3), .val 5 38 _ _ (q5), .val 5 39 _ _ (congrArg Value.bool (dtrue h1)), .fact 5 44 _ (dtrue q2), .fact 5 46 _ (dtrue q3), .val 5 46 _ _ (q5), .val 5 49 _ _ (congrArg Value.bool (dtrue h2)), .fact 5 55 _ (dtrue q2), .fact 5 57 _ (dtrue q3), .val 5 57 _ _ (q5), .fact 5 61 _ (dtrue q2), .fact 5 63 _ (dtrue q4), .val 5 63 _ _ (q6), .fact 5 64 _ (dtrue h3), .fact 5 0 _ (dtrue h4), .val 5 32 _ _ (congrArg (Value.int .i64) (q7))] ((by kernel_rfl)) fun junk => by kernel_rfl
theorem lay_skip (N : Nat) (f : Nat → Int) (i at' w : Int) (hp : PutAt pu i at' w) (h : ¬ (at' ≥ 0 ∧ at' < N)) : Goes Tryz.prog (exB pk pu r2) 86 0 (piece [1, 1, 1, 0, 1, 0, 0] layC) (layLv N i) [gO c pu, .fn N .u64 f 0] .normal (layLv N (i + 1)) [gO c pu, .fn N .u64 f 0] := by
  obtain ⟨q1, q2, q3, q4, q5, q6, q7⟩ := hp
  by_cases h1 : at' ≥ 0
  · have h2 : ¬ at' < N := fun h2 => h ⟨h1, h2⟩
    exact Goes.run (f := (layF)) ((goodT (tabLy_ok (exB pk pu r2)))) 9 [1, 6, 7] [.val 5 30 _ _ (congrArg Value.bool (dtrue q1)), .fact 5 36 _ (dtrue q2), .fact 5 38 _ (dtrue q3), .val 5 38 _ _ (q5), .val 5 39 _ _ (congrArg Value.bool (dtrue h1)), .fact 5 44 _ (dtrue q2), .fact 5 46 _ (dtrue q3), .val 5 46 _ _ (q5), .val 5 49 _ _ (congrArg Value.bool (dfalse h2)), .val 5 32 _ _ (congrArg (Value.int .i64) (q7))] ((by kernel_rfl)) fun junk => by kernel_rfl
  · exact Goes.run (f := (layF)) ((goodT (tabLy_ok (exB pk pu r2)))) 9 [1, 6, 7] [.val 5 30 _ _ (congrArg Value.bool (dtrue q1)), .fact 5 36 _ (dtrue q2), .fact 5 38 _ (dtrue q3), .val 5 38 _ _ (q5), .val 5 39 _ _ (congrArg Value.bool (dfalse h1)), .val 5 32 _ _ (congrArg (Value.int .i64) (q7))] ((by kernel_rfl)) fun junk => by kernel_rfl
theorem lay_off (N : Nat) (f : Nat → Int) (i : Int) (h : ¬ i < pu.len) : Goes Tryz.prog (exB pk pu r2) 86 0 (piece [1, 1, 1, 0, 1, 0, 0] layC) (layLv N i) [gO c pu, .fn N .u64 f 0] (.exit 0) (layLv N i) [gO c pu, .fn N .u64 f 0] := by
  exact Goes.run (f := (layF)) ((goodT (tabLy_ok (exB pk pu r2)))) 9 [1, 6, 7] [.val 5 30 _ _ (congrArg Value.bool (dfalse h))] ((by kernel_rfl)) fun junk => by kernel_rfl

def lay0 (c : Cf) : Lay := ⟨0, c.P, c.T, c.G⟩
abbrev layO (d : Lay) : VObj := ob [I d.P, I d.T, I d.G, I d.th, I d.gs, I d.all]
theorem lay_end (N : Nat) (f : Nat → Int) (i : Int) (h : few c.P c.T c.G) (hN : 0 < N ∧ N ≤ 2000) : Goes Tryz.prog (exB pk pu r2) 86 0 (piece [1, 1, 1, 1] layC) (layLv N i) [gO c pu, .fn N .u64 f 0] .ret [(2, ptr 0), (3, ptr 1), (4, ptr 2), (5, B true)] [layO (lay0 c), ob [.slice (some ⟨3, 0, none⟩) N 1, I 0, I 0, I 0, I 0, I 0, U 0, U 0, B false], mem (mu0 N f), .fn N .u64 f 0] := by
  unfold few at h
  have h1 : c.P ≥ 1 := by omega
  have h2 : c.P ≤ 64 := by omega
  have h3 : c.T ≥ c.P := by omega
  have h4 : c.T ≤ 256 := by omega
  have h5 : c.G ≥ 1 := by omega
  have h6 : c.G ≤ 65536 := by omega
  have h7 : N = N ∧ 0 < N ∧ N ≤ 100000 := by omega
  have h8 : ¬ (N : Int) > 262144 := by omega
  have h9 : (true && Nat.ble N N && Nat.ble (0 + N) 1000000 && Nat.ble 1 N) = true := by
    rw [Nat.ble_eq_true_of_le (Nat.le_refl N), Nat.ble_eq_true_of_le (show 0 + N ≤ 1000000 by omega), Nat.ble_eq_true_of_le (show 1 ≤ N by omega)]; rfl
  have e1 : (.slice (some ⟨6, 0, none⟩) (0 + N) 1 : Value) = .slice (some ⟨6, 0, none⟩) N 1 := by rw [Nat.zero_add]
  exact Goes.run (f := (layF)) ((goodT (tabLy_ok (exB pk pu r2)))) 9 [2, 3, 4, 5] [.val 65 5 _ _ (congrArg Value.bool (dtrue h1)), .val 65 9 _ _ (congrArg Value.bool (dtrue h2)), .val 65 16 _ _ (congrArg Value.bool (dtrue h3)), .val 65 21 _ _ (congrArg Value.bool (dtrue h4)), .val 65 26 _ _ (congrArg Value.bool (dtrue h5)), .val 65 31 _ _ (congrArg Value.bool (dtrue h6)), .val 30 6 _ _ (congrArg Value.bool (dfalse h8)), .fact 60 7 _ h9, .val 60 7 _ _ (e1), .fact 31 0 _ (dtrue h7)] ((by kernel_rfl)) fun junk => by kernel_rfl

theorem lay_code : layC = .seq (piece [0] layC) (.seq (piece [1, 0] layC) (.seq (piece [1, 1, 0] layC) (.seq (.seq (piece [1, 1, 1, 0, 0] layC) (.block 0 (.loop (piece [1, 1, 1, 0, 1, 0, 0] layC)))) (piece [1, 1, 1, 1] layC)))) := by kernel_rfl
theorem lay_fn : fnOK Tryz.prog layF 86 [2, 3, 4, 5] = true := by kernel_rfl

/-- The words that are laid. -/
def PutsOK : Prop := ∀ i : Int, 0 ≤ i → i < pu.len → ∃ at' w, PutAt pu i at' w ∧ 0 ≤ w ∧ w < 18446744073709551616

theorem lay_rounds (N : Nat) (hp : PutsOK pu) : ∀ (m : Nat) (i : Int) (f : Nat → Int), 0 ≤ i → (pu.len : Int) - i ≤ m → (∀ j, 0 ≤ f j ∧ f j < 18446744073709551616) →
    ∃ k i' f', Rounds Tryz.prog (exB pk pu r2) 86 0 (piece [1, 1, 1, 0, 1, 0, 0] layC) (.exit 0) (layLv N i') [gO c pu, .fn N .u64 f' 0] k (layLv N i) [gO c pu, .fn N .u64 f 0] ∧ ∀ j, 0 ≤ f' j ∧ f' j < 18446744073709551616
  | 0, i, f, h0, hm, hf => ⟨1, i, f, .out _ _ (by simp) (lay_off c pk pu r2 N f i (by omega)), hf⟩
  | m + 1, i, f, h0, hm, hf => by
    by_cases hi : i < pu.len
    · obtain ⟨at', w, hpt, hw⟩ := hp i h0 hi
      by_cases ha : at' ≥ 0 ∧ at' < N
      · obtain ⟨k, i', f', hr, hf'⟩ := lay_rounds N hp m (i + 1) (fun j => if j = 0 + at'.toNat * 1 then w else f j) (by omega) (by omega) (fun j => by
          by_cases hj : j = 0 + at'.toNat * 1
          · simp only [hj, if_true]; exact hw
          · simp only [hj, if_false]; exact hf j)
        exact ⟨k + 1, i', f', .more _ _ _ _ _ (lay_put c pk pu r2 N f i at' w hpt ha.1 ha.2) hr, hf'⟩
      · obtain ⟨k, i', f', hr, hf'⟩ := lay_rounds N hp m (i + 1) f (by omega) (by omega) hf
        exact ⟨k + 1, i', f', .more _ _ _ _ _ (lay_skip c pk pu r2 N f i at' w hpt ha) hr, hf'⟩
    · exact ⟨1, i, f, .out _ _ (by simp) (lay_off c pk pu r2 N f i hi), hf⟩

theorem lay_run (h1 : few c.P c.T c.G) (h2 : pu.len ≤ 400) (hp : PutsOK pu) :
    ∃ f, (∀ j, 0 ≤ f j ∧ f j < 18446744073709551616) ∧ VCalls Tryz.prog (exB pk pu r2) layF [gnd c pu] [] (.tuple ⟨[ptr 0, ptr 1, ptr 2, B true]⟩) [layO (lay0 c), mem (mu0 (many c.P c.T c.G) f), mem (mu0 (many c.P c.T c.G) f), .dead] := by
  have hN := many_le h1
  obtain ⟨k, i', f', hr, hf'⟩ := lay_rounds c pk pu r2 (many c.P c.T c.G) hp pu.len 0 (fun _ => 0) (by omega) (by omega) (fun _ => by simp)
  refine ⟨f', hf', ?_⟩
  have hgo : VCalls Tryz.prog (exB pk pu r2) layF [gnd c pu] [] (.tuple ⟨[ptr 0, ptr 1, ptr 2, B true]⟩) [layO (lay0 c), ob [.slice (some ⟨3, 0, none⟩) (many c.P c.T c.G) 1, I 0, I 0, I 0, I 0, I 0, U 0, U 0, B false], mem (mu0 (many c.P c.T c.G) f'), .fn (many c.P c.T c.G) .u64 f' 0] := by
    refine VCalls.body lay_fn (x := .ret) (lv' := [(2, ptr 0), (3, ptr 1), (4, ptr 2), (5, B true)]) rfl (by simp) (.inr rfl) ?_ (l := [ptr 0, ptr 1, ptr 2, B true]) rfl rfl
    have hcode := lay_code
    have e0 := lay_0 c pk pu r2
    have e1 := lay_1 c pk pu r2 h1 h2
    have e2 := lay_2 c pk pu r2 _ h1 rfl
    have e3 := lay_3 c pk pu r2 (many c.P c.T c.G)
    have e4 := lay_end c pk pu r2 (many c.P c.T c.G) f' i' h1 (by omega)
    unfold layC at hcode e0 e1 e2 e3 e4 hr
    rw [hcode]
    exact Goes.seq e0 (Goes.seq e1 (Goes.seq e2 (Goes.seq (Goes.seq e3 (Goes.block hr.goes)) e4)))
  exact hgo.closeMem _ 1 3 rfl rfl

/-- An entry: a ground is laid. -/
noncomputable def layGS (f : Nat → Int) : SpecFn
  | _, [.agg ⟨[.int .i64 P, .int .i64 T, .int .i64 G, .slice (some ⟨_, off, some 1⟩) len 0]⟩], h =>
    some (.tuple ⟨[ptr h.length, ptr (h.length + 1), ptr (h.length + 2), B true]⟩, h ++ [layO (lay0 c), mem (mu0 (many c.P c.T c.G) f), mem (mu0 (many c.P c.T c.G) f)], dec (P = c.P ∧ T = c.T ∧ G = c.G ∧ off = pu.off ∧ len = pu.len), [])
  | _, _, _ => none

theorem sameC : dec (c.P = c.P ∧ c.T = c.T ∧ c.G = c.G ∧ pu.off = pu.off ∧ pu.len = pu.len) = true := dec_true ⟨rfl, rfl, rfl, rfl, rfl⟩

theorem layGOK {f : Nat → Int} (hc : VCalls Tryz.prog (exB pk pu r2) layF [gnd c pu] [] (.tuple ⟨[ptr 0, ptr 1, ptr 2, B true]⟩) [layO (lay0 c), mem (mu0 (many c.P c.T c.G) f), mem (mu0 (many c.P c.T c.G) f), .dead]) :
    SpecOK Tryz.prog (exB pk pu r2) ⟨layF, false, layGS c pu f⟩ := by
  intro o args h v h' b tl hs hb
  change layGS c pu f o args h = _ at hs
  unfold layGS at hs
  split at hs
  case h_2 => cases hs
  rename_i P T G bb off len
  cases hs
  obtain ⟨rfl, rfl, rfl, rfl, rfl⟩ := dec_of hb
  have hps : psNew [] h.length 3 = [h.length, h.length + 1, h.length + 2] := by simp [psNew, List.range_succ]
  have key : ∀ args', RNs true [] [gnd c pu] args' → VCalls Tryz.prog (exB pk pu r2) layF args' h (.tuple ⟨[ptr h.length, ptr (h.length + 1), ptr (h.length + 2), B true]⟩) (h ++ [layO (lay0 c), mem (mu0 (many c.P c.T c.G) f), mem (mu0 (many c.P c.T c.G) f)]) := by
    intro args' ha
    refine VCalls.frame [] 3 hc ⟨rfl, by simp, fun k m o hk ho => by simp at hk⟩ ha ?_ (fun k m hk => by simp at hk) (by simp) (by simp) (fun k m o' hk ho' => ?_) (fun m hm _ => by rw [List.getElem?_append_left hm])
    · rw [hps]
      exact .tuple _ _ (.cons _ _ _ _ (.ptr 0 _ 0 rfl) (.cons _ _ _ _ (.ptr 1 _ 0 rfl) (.cons _ _ _ _ (.ptr 2 _ 0 rfl) (.cons _ _ _ _ (.bool _) .nil))))
    · rw [hps] at hk ⊢
      match k with
      | 0 => simp at hk ho'; subst hk; subst ho'; exact ⟨layO (lay0 c), by simp, .cells _ _ _ _ (.plain rfl)⟩
      | 1 => simp at hk ho'; subst hk; subst ho'; exact ⟨_, by rw [List.getElem?_append_right (by omega)]; simp, .pay _⟩
      | 2 => simp at hk ho'; subst hk; subst ho'; exact ⟨_, by rw [List.getElem?_append_right (by omega)]; simp, .pay _⟩
      | k + 3 => simp at hk
  refine ⟨?_, (fun h => by cases h), by simp, fun m hm _ => by rw [List.getElem?_append_left hm]⟩
  intro bs w args' he ha
  cases ha with | cons _ a' _ l' q1 q2 =>
  cases q1 with | agg _ _ q1 =>
  cases q1 with | cons _ _ _ _ q3 q1 =>
  cases q1 with | cons _ _ _ _ q4 q1 =>
  cases q1 with | cons _ _ _ _ q5 q1 =>
  cases q1 with | cons _ _ _ _ q6 q1 =>
  cases q1
  have q7 : ∃ pl, pu.len = pl := ⟨_, rfl⟩
  obtain ⟨pl, hpl⟩ := q7
  rw [hpl] at q6
  cases q6 with
  | fslice _ _ _ _ c' r hr =>
    have er : r = pu.r := by simp [exB] at hr; exact hr.symm
    subst er
    subst hpl
    exact key _ (.cons _ _ _ _ (.agg _ _ (.cons _ _ _ _ (.int _ _) (.cons _ _ _ _ (.int _ _) (.cons _ _ _ _ (.int _ _) (.cons _ _ _ _ (.fslice _ _ _ _ _) .nil))))) .nil) bs w _ he (.cons _ _ _ _ (.agg _ _ (.cons _ _ _ _ q3 (.cons _ _ _ _ q4 (.cons _ _ _ _ q5 (.cons _ _ _ _ (.fslice 1 _ _ _ c' pu.r hr) .nil))))) q2)
  | fnil =>
    exact key _ (.cons _ _ _ _ (.agg _ _ (.cons _ _ _ _ (.int _ _) (.cons _ _ _ _ (.int _ _) (.cons _ _ _ _ (.int _ _) (.cons _ _ _ _ (.fslice _ _ _ _ _) .nil))))) .nil) bs w _ he (.cons _ _ _ _ (.agg _ _ (.cons _ _ _ _ q3 (.cons _ _ _ _ q4 (.cons _ _ _ _ q5 (.cons _ _ _ _ (by show VR _ _ (.slice (some ⟨pu.r.b, pu.off, some 1⟩) pu.len 0) _; rw [hpl]; exact .fnil 1 _ _ _ _ _) .nil))))) q2)

/-- .. or not. -/
noncomputable def layNoS : SpecFn
  | _, [.agg ⟨[.int .i64 P, .int .i64 T, .int .i64 G, .slice (some ⟨_, off, some 1⟩) len 0]⟩], h =>
    some (.tuple ⟨[nilp, nilp, nilp, B false]⟩, h, dec (P = c.P ∧ T = c.T ∧ G = c.G ∧ off = pu.off ∧ len = pu.len), [])
  | _, _, _ => none
theorem layNoOK (hn : ¬ (few c.P c.T c.G ∧ pu.len ≤ 400)) : SpecOK Tryz.prog (exB pk pu r2) ⟨layF, true, layNoS c pu⟩ := by
  intro o args h v h' b tl hs hb
  change layNoS c pu o args h = _ at hs
  unfold layNoS at hs
  split at hs
  case h_2 => cases hs
  rename_i P T G bb off len
  cases hs
  obtain ⟨rfl, rfl, rfl, rfl, rfl⟩ := dec_of hb
  obtain ⟨g, hc⟩ := lay_none c pk pu r2 hn
  refine ⟨?_, fun _ => rfl, Nat.le_refl _, fun _ _ _ => rfl⟩
  intro bs w args' he ha
  cases ha with | cons _ a' _ l' q1 q2 =>
  cases q1 with | agg _ _ q1 =>
  cases q1 with | cons _ _ _ _ q3 q1 =>
  cases q1 with | cons _ _ _ _ q4 q1 =>
  cases q1 with | cons _ _ _ _ q5 q1 =>
  cases q1 with | cons _ _ _ _ q6 q1 =>
  cases q1
  have := VCalls.numbers h hc (.cons _ _ _ _ (.agg _ _ (.cons _ _ _ _ (.int _ _) (.cons _ _ _ _ (.int _ _) (.cons _ _ _ _ (.int _ _) (.cons _ _ _ _ (.fslice _ _ _ _ _) .nil))))) .nil) (.plainR rfl)
  have q7 : ∃ pl, pu.len = pl := ⟨_, rfl⟩
  obtain ⟨pl, hpl⟩ := q7
  rw [hpl] at q6
  cases q6 with
  | fslice _ _ _ _ c' r hr =>
    have er : r = pu.r := by simp [exB] at hr; exact hr.symm
    subst er
    subst hpl
    exact this bs w _ he (.cons _ _ _ _ (.agg _ _ (.cons _ _ _ _ q3 (.cons _ _ _ _ q4 (.cons _ _ _ _ q5 (.cons _ _ _ _ (.fslice 1 _ _ _ c' pu.r hr) .nil))))) q2)
  | fnil => exact this bs w _ he (.cons _ _ _ _ (.agg _ _ (.cons _ _ _ _ q3 (.cons _ _ _ _ q4 (.cons _ _ _ _ q5 (.cons _ _ _ _ (by show VR _ _ (.slice (some ⟨pu.r.b, pu.off, some 1⟩) pu.len 0) _; rw [hpl]; exact .fnil 1 _ _ _ _ _) .nil))))) q2)
end

/-! The end: the same words -/

abbrev sameF : Nat := 20
abbrev wordsF : Nat := 21
section
variable (ex : XTab)
noncomputable abbrev sameCd : Code := bodyOf Tryz.prog sameF
def sameLv (n : Nat) (i : Int) : List (Nat × Value) := [(0, .slice (some ⟨0, 0, none⟩) n 1), (1, .slice (some ⟨1, 0, none⟩) n 1), (5, I i)]
def sameH (n : Nat) (f : Nat → Int) : VHeap := [.fn n .u64 f 0, .fn n .u64 f 0]
theorem same_0 (n : Nat) (f : Nat → Int) : Goes Tryz.prog ex 26 2 (piece [0] sameCd) [(0, .slice (some ⟨0, 0, none⟩) n 1), (1, .slice (some ⟨1, 0, none⟩) n 1)] (sameH n f) .normal [(0, .slice (some ⟨0, 0, none⟩) n 1), (1, .slice (some ⟨1, 0, none⟩) n 1)] (sameH n f) := by
  exact Goes.run (f := (sameF)) ((baseGood ex)) 9 [0, 1] [] ((by kernel_rfl)) fun junk => by kernel_rfl
theorem same_1 (n : Nat) (f : Nat → Int) : Goes Tryz.prog ex 26 2 (piece [1, 0] sameCd) [(0, .slice (some ⟨0, 0, none⟩) n 1), (1, .slice (some ⟨1, 0, none⟩) n 1)] (sameH n f) .normal [(0, .slice (some ⟨0, 0, none⟩) n 1), (1, .slice (some ⟨1, 0, none⟩) n 1)] (sameH n f) := by
  have h : ((n : Int) != (n : Int)) = false := by simp
  exact Goes.run (f := (sameF)) ((baseGood ex)) 9 [0, 1] [.val 20 10 _ _ (congrArg Value.bool h)] ((by kernel_rfl)) fun junk => by kernel_rfl
theorem same_2 (n : Nat) (f : Nat → Int) : Goes Tryz.prog ex 26 2 (piece [1, 1, 0, 0] sameCd) [(0, .slice (some ⟨0, 0, none⟩) n 1), (1, .slice (some ⟨1, 0, none⟩) n 1)] (sameH n f) .normal (sameLv n 0) (sameH n f) := by
  exact Goes.run (f := (sameF)) ((baseGood ex)) 9 [0, 1, 5] [] ((by kernel_rfl)) fun junk => by kernel_rfl
theorem same_more (n : Nat) (f : Nat → Int) (i : Int) (h : i < n) (h0 : 0 ≤ i) (hn : n ≤ 100000) : Goes Tryz.prog ex 26 2 (piece [1, 1, 0, 1, 0, 0] sameCd) (sameLv n i) (sameH n f) .normal (sameLv n (i + 1)) (sameH n f) := by
  have h2 : 0 ≤ i ∧ i < n := ⟨h0, h⟩
  have h3 : 0 + i.toNat * 1 < n := by omega
  have h4 : (f (0 + i.toNat * 1) != f (0 + i.toNat * 1)) = false := by simp
  have e1 : w64 (i + 1) = i + 1 := w64_id (by omega) (by omega)
  exact Goes.run (f := (sameF)) ((baseGood ex)) 9 [0, 1, 5] [.val 20 14 _ _ (congrArg Value.bool (dtrue h)), .fact 20 19 _ (dtrue h2), .fact 20 20 _ (dtrue h3), .fact 20 23 _ (dtrue h2), .fact 20 24 _ (dtrue h3), .val 20 25 _ _ (congrArg Value.bool h4), .val 20 16 _ _ (congrArg (Value.int .i64) (e1))] ((by kernel_rfl)) fun junk => by kernel_rfl
theorem same_off (n : Nat) (f : Nat → Int) (i : Int) (h : ¬ i < n) : Goes Tryz.prog ex 26 2 (piece [1, 1, 0, 1, 0, 0] sameCd) (sameLv n i) (sameH n f) (.exit 0) (sameLv n i) (sameH n f) := by
  exact Goes.run (f := (sameF)) ((baseGood ex)) 9 [0, 1, 5] [.val 20 14 _ _ (congrArg Value.bool (dfalse h))] ((by kernel_rfl)) fun junk => by kernel_rfl
theorem same_end (n : Nat) (f : Nat → Int) (i : Int) : Goes Tryz.prog ex 26 2 (piece [1, 1, 1] sameCd) (sameLv n i) (sameH n f) .ret [(4, B true)] (sameH n f) := by
  exact Goes.run (f := (sameF)) ((baseGood ex)) 9 [4] [] ((by kernel_rfl)) fun junk => by kernel_rfl
theorem same_code : sameCd = .seq (piece [0] sameCd) (.seq (piece [1, 0] sameCd) (.seq (.seq (piece [1, 1, 0, 0] sameCd) (.block 0 (.loop (piece [1, 1, 0, 1, 0, 0] sameCd)))) (piece [1, 1, 1] sameCd))) := by kernel_rfl
theorem same_fn : fnOK Tryz.prog sameF 26 [4] = true := by kernel_rfl
theorem same_rounds (n : Nat) (f : Nat → Int) (hn : n ≤ 100000) : ∀ (m : Nat) (i : Int), 0 ≤ i → (n : Int) - i ≤ m → ∃ k i', Rounds Tryz.prog ex 26 2 (piece [1, 1, 0, 1, 0, 0] sameCd) (.exit 0) (sameLv n i') (sameH n f) k (sameLv n i) (sameH n f)
  | 0, i, h0, hm => ⟨1, i, .out _ _ (by simp) (same_off ex n f i (by omega))⟩
  | m + 1, i, h0, hm => by
    by_cases hi : i < n
    · obtain ⟨k, i', hr⟩ := same_rounds n f hn m (i + 1) (by omega) (by omega)
      exact ⟨k + 1, i', .more _ _ _ _ _ (same_more ex n f i hi h0 hn) hr⟩
    · exact ⟨1, i, .out _ _ (by simp) (same_off ex n f i hi)⟩
theorem same_run (n : Nat) (f : Nat → Int) (hn : n ≤ 100000) : VCalls Tryz.prog ex sameF [.slice (some ⟨0, 0, none⟩) n 1, .slice (some ⟨1, 0, none⟩) n 1] (sameH n f) (B true) (sameH n f) := by
  refine VCalls.body same_fn (x := .ret) (lv' := [(4, B true)]) rfl (by simp) (.inr rfl) ?_ (l := [B true]) rfl rfl
  obtain ⟨k, i', hr⟩ := same_rounds ex n f hn n 0 (by omega) (by omega)
  have hcode := same_code
  have e0 := same_0 ex n f
  have e1 := same_1 ex n f
  have e2 := same_2 ex n f
  have e3 := same_end ex n f i'
  unfold sameCd at hcode e0 e1 e2 e3 hr
  rw [hcode]
  exact Goes.seq e0 (Goes.seq e1 (Goes.seq (Goes.seq e2 (Goes.block hr.goes)) e3))

noncomputable def sameS : SpecFn
  | _, [.slice (some ⟨i, 0, none⟩) n 1, .slice (some ⟨j, 0, none⟩) m 1], h => match h[i]?, h[j]? with
    | some (.fn N .u64 f _), some (.fn M .u64 g _) => match Nat.beq i j with
      | false => some (B true, h, dec (N = n ∧ M = n ∧ m = n ∧ f = g ∧ n ≤ 100000), [])
      | true => none
    | _, _ => none
  | _, _, _ => none
theorem sameOK : SpecOK Tryz.prog ex ⟨sameF, true, sameS⟩ := by
  intro o args h v h' b tl hs hb
  change sameS o args h = _ at hs
  unfold sameS at hs
  split at hs
  case h_2 => cases hs
  rename_i i n j m
  split at hs
  case h_2 => cases hs
  rename_i N f e M g e2 hi hj
  split at hs
  case h_2 => cases hs
  rename_i hij
  cases hs
  obtain ⟨rfl, rfl, rfl, rfl, hn⟩ := dec_of hb
  have hij : i ≠ j := fun e => by subst e; simp at hij
  have hps : psNew [i, j] h.length 0 = [i, j] := rfl
  refine ⟨VCalls.frame [i, j] 0 (same_run ex _ f hn) ⟨rfl, by simp [hij], fun k m o hk ho => ?_⟩ (.cons _ _ _ _ (.slice 0 i 0 _ _ rfl) (.cons _ _ _ _ (.slice 1 j 0 _ _ rfl) .nil)) (.bool _) (fun k m hk => ?_) (by simp) (by simp [sameH]) (fun k m o hk ho => ?_) (fun _ _ _ => rfl), fun _ => rfl, Nat.le_refl _, fun _ _ _ => rfl⟩
  · match k with
    | 0 => simp [sameH] at hk ho; subst hk; subst ho; exact ⟨_, hi, RO.weak (.fn _ _ _ _ _ _ fun _ _ => rfl)⟩
    | 1 => simp [sameH] at hk ho; subst hk; subst ho; exact ⟨_, hj, RO.weak (.fn _ _ _ _ _ _ fun _ _ => rfl)⟩
    | k + 2 => simp at hk
  · match k with
    | 0 => simp at hk; subst hk; rw [hi]; simp
    | 1 => simp at hk; subst hk; rw [hj]; simp
    | k + 2 => simp at hk
  · rw [hps] at hk ⊢
    match k with
    | 0 => simp [sameH] at hk ho; subst hk; subst ho; exact ⟨_, hi, .fn _ _ _ _ _ _ fun _ _ => rfl⟩
    | 1 => simp [sameH] at hk ho; subst hk; subst ho; exact ⟨_, hj, .fn _ _ _ _ _ _ fun _ _ => rfl⟩
    | k + 2 => simp at hk

theorem words_run (u : Mu) (h : 0 < u.n ∧ u.n ≤ 100000) : VCalls Tryz.prog ex wordsF [ptr 0] [mem u] (.slice (some ⟨1, 0, none⟩) u.n 1) [mem u, .fn u.n .u64 u.w 40] := by
  have h1 : (true && Nat.ble u.n u.n && Nat.ble (0 + u.n) 1000000 && Nat.ble 1 u.n) = true := by
    rw [Nat.ble_eq_true_of_le (Nat.le_refl _), Nat.ble_eq_true_of_le (show 0 + u.n ≤ 1000000 by omega), Nat.ble_eq_true_of_le (show 1 ≤ u.n by omega)]; rfl
  have e1 : (.slice (some ⟨3, 0, none⟩) (0 + u.n) 1 : Value) = .slice (some ⟨3, 0, none⟩) u.n 1 := by rw [Nat.zero_add]
  exact boxR ((baseGood ex)) 9 0 [.fact 60 7 _ h1, .val 60 7 _ _ (e1)] (opens_mem _ _) (opens_mem _ _) rfl rfl rfl rfl rfl (by kernel_rfl)

noncomputable def wordsS : SpecFn
  | _, [.pointer (some ⟨i, 0, none⟩)], h => match h[i]? with
    | some (.pay (.mem u)) => some (.slice (some ⟨h.length, 0, none⟩) u.n 1, h ++ [.fn u.n .u64 u.w 0], decide (0 < u.n ∧ u.n ≤ 100000), [])
    | _ => none
  | _, _, _ => none
theorem wordsOK : SpecOK Tryz.prog ex ⟨wordsF, false, wordsS⟩ := by
  intro o args h v h' b tl hs hb
  change wordsS o args h = _ at hs
  unfold wordsS at hs
  split at hs
  case h_2 => cases hs
  rename_i i
  split at hs
  case h_2 => cases hs
  rename_i u hi
  cases hs
  have li := (List.getElem?_eq_some_iff.1 hi).1
  have hps : psNew [i] h.length 1 = [i, h.length] := by simp [psNew]
  refine ⟨VCalls.frame [i] 1 (words_run ex u (of_decide_eq_true hb)) ⟨rfl, by simp, fun k m o hk ho => ?_⟩ (.cons _ _ _ _ (.ptr 0 i 0 rfl) .nil) (by rw [hps]; exact .slice 1 h.length 0 _ _ rfl) (fun k m hk => ?_) (by simp) (by simp) (fun k m o hk ho => ?_) (fun m hm hn => by rw [List.getElem?_append_left hm]), (fun h => by cases h), by simp, fun m hm _ => by rw [List.getElem?_append_left hm]⟩
  · match k with
    | 0 => simp at hk ho; subst hk; subst ho; exact ⟨_, hi, .pay _⟩
    | k + 1 => simp at hk
  · match k with
    | 0 => simp at hk; subst hk; rw [hi]; simp
    | k + 1 => simp at hk
  · rw [hps] at hk ⊢
    match k with
    | 0 => simp at hk ho; subst hk; subst ho; exact ⟨_, by rw [List.getElem?_append_left li]; exact hi, .pay _⟩
    | 1 => simp at hk ho; subst hk; subst ho; exact ⟨.fn u.n .u64 u.w 0, by simp, .fn _ _ _ _ _ _ fun _ _ => rfl⟩
    | k + 2 => simp at hk

/-! A layout that is no row yet -/
theorem configC_run (P T G a b c : Int) (e : TypeId) : ∃ g, VCalls Tryz.prog ex configF [ptr 0] [.cells [I P, I T, I G, I a, I b, I c] e] (.agg ⟨[I P, I T, I G]⟩) ([.cells [I P, I T, I G, I a, I b, I c] e] ++ g) := by
  exact contractK ((baseGood ex)) 9 1 [] _ _ _ _ (by kernel_rfl)
def configCS : SpecFn
  | _, [.pointer (some ⟨i, 0, none⟩)], h => match h[i]? with
    | some (.cells [.int .i64 P, .int .i64 T, .int .i64 G, .int .i64 a, .int .i64 b, .int .i64 c] _) => some (.agg ⟨[I P, I T, I G]⟩, h, true, [])
    | _ => none
  | _, _, _ => none
theorem configCOK : SpecOK Tryz.prog ex ⟨configF, true, configCS⟩ := by
  intro o args h v h' bb tl hs hb
  change configCS o args h = _ at hs
  unfold configCS at hs
  split at hs
  case h_2 => cases hs
  rename_i i
  split at hs
  case h_2 => cases hs
  rename_i P T G a b c e hi
  cases hs
  refine ⟨lift1 h i (configC_run ex P T G a b c e) hi (.cells _ _ _ _ (.plain rfl)) (by simp) .nil (.plainR rfl), fun _ => rfl, Nat.le_refl _, fun _ _ _ => rfl⟩
end
end Go.Vx
