/- A routine, called on a run as the statements have it. -/
import Derived.Test.YtmngemjclljpiaaGreatVtL
namespace Go.Vx
open Go.Proofs

/-- The answers. -/
def answers (n : Nat) (g : Nat → Int) : List Int := (List.range n).map g
theorem answers_len (n : Nat) (g : Nat → Int) : (answers n g).length = n := by simp [answers]
def ext1 (n : Nat) (g : Nat → Int) (x : Int) : Nat → Int := fun j => if j = n then x else g j
theorem answers_snoc (n : Nat) (g : Nat → Int) (x : Int) : answers (n + 1) (ext1 n g x) = answers n g ++ [x] := by
  unfold answers
  rw [List.range_succ, List.map_append]
  congr 1
  · apply List.map_congr_left; intro j hj; simp at hj; simp [ext1]; omega
  · simp [ext1]

/-- A run from its begin on. -/
def run0 (n : Nat) (g : Nat → Int) : RunP := ⟨false, n, g, answers n g, false, 0, 0, 0, 0, 0, false, false⟩
def runN : RunP := ⟨true, 0, fun _ => 0, [], false, 0, 0, 0, 0, 0, false, false⟩
/-- .. at its end. -/
def runE (n : Nat) (g : Nat → Int) : RunP := ⟨false, n, g, [], false, 0, 0, 0, 0, 0, false, false⟩

theorem run0_ok {n : Nat} {g : Nat → Int} (hn : n ≤ 1000000) (hg : ∀ i, i < n → 0 ≤ g i ∧ g i < 18446744073709551616) : (run0 n g).OK where
  n1 := ⟨hn, hg⟩
  len := by simp [run0, answers_len]
  g := by
    intro j a hj
    have hlt := (List.getElem?_eq_some_iff.1 hj).1
    have h2 : n - (answers n g).length + j = j := by rw [answers_len]; omega
    show g (n - (answers n g).length + j) = a
    rw [h2]
    have : (answers n g)[j]? = some (g j) := by
      simp only [run0, answers_len] at hlt
      simp [answers, hlt]
    have hj' : (answers n g)[j]? = some a := hj
    rw [this] at hj'; exact Option.some.inj hj'
  nl := by simp [run0]
theorem runN_ok : runN.OK where
  n1 := ⟨by simp [runN], fun i hi => by simp [runN] at hi⟩
  len := by simp [runN]
  g := by intro j a hj; simp [runN] at hj
  nl := by simp [runN]

/-- Where nothing was answered yet. -/
noncomputable def ref0S (r r' : RunP) (rest : List Value) (v : Value) : SpecFn
  | _, .pointer (some ⟨i, 0, none⟩) :: more, h => match h[i]? with
    | some (.cells l _) => match plains rest && plainR v with
      | true => some (v, h.set i (.cells (runC nils r') 0), dec (l = runC nils r ∧ more = rest), [i])
      | false => none
    | _ => none
  | _, _, _ => none

theorem same0 (r : RunP) (l : List Value) : dec (runC nils r = runC nils r ∧ l = l) = true := dec_true ⟨rfl, rfl⟩

theorem ref0OK {ex : XTab} {f : Nat} {r r' : RunP} {rest : List Value} {v : Value} (hok : r.OK) (hnl : r.nl = true) (hnl' : r'.nl = true) (hs : VCalls Tryz.prog ex f (ptr 0 :: rest) [run r] v [run r']) : SpecOK Tryz.prog ex ⟨f, false, ref0S r r' rest v⟩ := by
  intro o args h v' h' bb tl hs' hb
  change ref0S r r' rest v o args h = _ at hs'
  unfold ref0S at hs'
  split at hs'
  case h_2 => cases hs'
  rename_i i more
  split at hs'
  case h_2 => cases hs'
  rename_i l e hi
  split at hs'
  case h_2 => cases hs'
  rename_i hp
  cases hs'
  obtain ⟨rfl, rfl⟩ := dec_of hb
  rw [Bool.and_eq_true] at hp
  have hc := unrun0 ex (e := e) hok hnl hnl' hp.1 hp.2 hs
  have hrun : runH 0 r' = [.cells (runC nils r') 0] := by unfold runH; rw [hnl']; rfl
  rw [hrun] at hc
  refine ⟨liftC h i hc hi (by simp) (.cells _ _ _ _ (.plain rfl)) (.cells _ _ _ _ (.plain rfl)) (.plains hp.1) (.plainR hp.2), (fun h => by cases h), by simp, fun m _ hm => ?_⟩
  simp at hm
  rw [List.getElem?_set_ne (fun h => hm h.symm)]

/-- Where something was. -/
noncomputable def refGS (r r' : RunP) (rest : List Value) (v : Value) : SpecFn
  | _, .pointer (some ⟨i, 0, none⟩) :: more, h => match h[i]? with
    | some (.cells (.slice (some ⟨j, 0, none⟩) m 1 :: tl) _) => match h[j]? with
      | some (.fn N .u64 g _) => match plains rest && plainR v, Nat.beq i j with
        | true, false => some (v, ((h.set j .dead).set i (.cells (runC (.slice (some ⟨h.length, 0, none⟩) r'.n 1) r') 0)) ++ [.fn r'.n .u64 r'.g 0], dec (m = r.n ∧ N = r.n ∧ g = r.g ∧ tl = (runC nils r).tail ∧ more = rest), [j, i])
        | _, _ => none
      | _ => none
    | _ => none
  | _, _, _ => none

theorem sameG (r : RunP) (l : List Value) : dec (r.n = r.n ∧ r.n = r.n ∧ r.g = r.g ∧ (runC nils r).tail = (runC nils r).tail ∧ l = l) = true := dec_true ⟨rfl, rfl, rfl, rfl, rfl⟩

theorem sameG0 (n : Nat) (g : Nat → Int) (l : List Value) : dec (n = (run0 n g).n ∧ n = (run0 n g).n ∧ g = (run0 n g).g ∧ [I 0, B false, I 0, I 0, I 0, U 0, U 0, B false, B false] = (runC nils (run0 n g)).tail ∧ l = l) = true := by
  refine dec_true ⟨rfl, rfl, rfl, ?_, rfl⟩
  show _ = [Value.int .i64 ((n - (answers n g).length : Nat) : Int), .bool false, .int .i64 0, .int .i64 0, .int .i64 0, .int .u64 0, .int .u64 0, .bool false, .bool false]
  rw [answers_len, Nat.sub_self]; rfl

theorem refGOK {ex : XTab} {f : Nat} {r r' : RunP} {rest : List Value} {v : Value} (hok : r.OK) (hnl : r.nl = false) (hnl' : r'.nl = false) (hs : VCalls Tryz.prog ex f (ptr 0 :: rest) [run r] v [run r']) : SpecOK Tryz.prog ex ⟨f, false, refGS r r' rest v⟩ := by
  intro o args h v' h' bb tl hs' hb
  change refGS r r' rest v o args h = _ at hs'
  unfold refGS at hs'
  split at hs'
  case h_2 => cases hs'
  rename_i i more
  split at hs'
  case h_2 => cases hs'
  rename_i j m tl' e hi
  split at hs'
  case h_2 => cases hs'
  rename_i N g e2 hj
  split at hs'
  case h_2 => cases hs'
  rename_i hp hij
  cases hs'
  obtain ⟨rfl, rfl, rfl, rfl, rfl⟩ := dec_of hb
  rw [Bool.and_eq_true] at hp
  have hij : i ≠ j := fun e => by subst e; simp at hij
  have hc := unrun ex (e := e) (e2 := e2) hok hnl hnl' hp.1 hp.2 hs
  have hrun : runH 1 r' = [.cells (runC (.slice (some ⟨2, 0, none⟩) r'.n 1) r') 0, .fn r'.n .u64 r'.g 0] := by unfold runH; rw [hnl']; rfl
  rw [hrun] at hc
  have li := (List.getElem?_eq_some_iff.1 hi).1
  have lj := (List.getElem?_eq_some_iff.1 hj).1
  have hps : psNew [j, i] h.length 1 = [j, i, h.length] := by simp [psNew]
  refine ⟨VCalls.frame [j, i] 1 hc ⟨rfl, by simp [Ne.symm hij], fun k m o hk ho => ?_⟩ (.cons _ _ _ _ (.ptr 1 i 0 rfl) (.plains hp.1)) (by rw [hps]; exact .plainR hp.2) (fun k m hk => ?_) (by simp) (by simp) (fun k m o hk ho => ?_) (fun m hm hn => ?_), (fun h => by cases h), by simp, fun m hm hn => ?_⟩
  · match k with
    | 0 => simp at hk ho; subst hk; subst ho; exact ⟨_, hj, RO.weak (.fn _ _ _ _ _ _ fun _ _ => rfl)⟩
    | 1 =>
      simp at hk ho; subst hk; subst ho
      refine ⟨_, hi, ?_⟩
      have hr : RNs true [j, i] (runC (.slice (some ⟨0, 0, none⟩) r.n 1) r) (.slice (some ⟨j, 0, none⟩) r.n 1 :: (runC nils r).tail) := .cons _ _ _ _ (.slice 0 j 0 _ _ rfl) (.plain rfl)
      have := RW.cells (ps := [j, i]) _ _ [] e e hr
      simpa using this
    | k + 2 => simp at hk
  · match k with
    | 0 => simp at hk; subst hk; rw [hj]; simp
    | 1 => simp at hk; subst hk; rw [hi]; simp
    | k + 2 => simp at hk
  · rw [hps] at hk ⊢
    match k with
    | 0 =>
      simp at hk ho; subst hk; subst ho
      refine ⟨.dead, ?_, .dead⟩
      rw [List.getElem?_append_left (by simpa using lj), List.getElem?_set_ne hij, List.getElem?_set_self lj]
    | 1 =>
      simp at hk ho; subst hk; subst ho
      refine ⟨_, by rw [List.getElem?_append_left (by simpa using li), List.getElem?_set_self (by simpa using li)], ?_⟩
      exact .cells _ _ _ _ (.cons _ _ _ _ (.slice 2 h.length 0 _ _ rfl) (.plain rfl))
    | 2 =>
      simp at hk ho; subst hk; subst ho
      exact ⟨.fn r'.n .u64 r'.g 0, by rw [List.getElem?_append_right (by simp)]; simp, .fn _ _ _ _ _ _ fun _ _ => rfl⟩
    | k + 3 => simp at hk
  · simp at hn
    rw [List.getElem?_append_left (by simpa using hm), List.getElem?_set_ne (fun h => hn.2 h.symm), List.getElem?_set_ne (fun h => hn.1 h.symm)]
  · simp at hn
    rw [List.getElem?_append_left (by simpa using hm), List.getElem?_set_ne (fun h => hn.2 h.symm), List.getElem?_set_ne (fun h => hn.1 h.symm)]

/-- The words are words. -/
def Wd (u : Mu) : Prop := ∀ j, 0 ≤ u.w j ∧ u.w j < 18446744073709551616
theorem rd_wd {u : Mu} (h : Wd u) (at' : Int) : 0 ≤ rd u at' ∧ rd u at' < 18446744073709551616 := by
  unfold rd; split
  · exact h _
  · omega
theorem rng_of {u : Mu} (h : Wd u) {at' v : Int} (h0 : 0 ≤ v ∧ v < 18446744073709551616) : rng u at' v := ⟨(rd_wd h at').1, (rd_wd h at').2, h0.1, h0.2⟩
theorem acc_wd {u : Mu} (h : Wd u) (k who at' new v : Int) (dn : Bool) (new' : Int) (h0 : 0 ≤ v ∧ v < 18446744073709551616) : Wd (acc u k who at' new v dn new') := by
  intro j
  unfold acc; split
  · show 0 ≤ wr u at' v j ∧ wr u at' v j < _
    unfold wr; split
    · exact h0
    · exact h j
  · exact h j
theorem addv_wd (x y : Int) (hx : 0 ≤ x) (hy : 0 ≤ y) : 0 ≤ addv x y ∧ addv x y < 18446744073709551616 := by
  unfold addv
  rw [IntKind.wrap_u64, Int.tmod_eq_emod_of_nonneg hx, Int.tmod_eq_emod_of_nonneg hy, Int.tmod_eq_emod_of_nonneg (by omega)]
  omega
theorem muDo_wd {u : Mu} (h : Wd u) (k who at' o : Int) {v : Int} (h0 : 0 ≤ v ∧ v < 18446744073709551616) : Wd (muDo u k who at' o v) := by
  have hr := rd_wd h at'
  unfold muDo; split
  · exact acc_wd h _ _ _ _ _ _ _ h0
  · split
    · unfold muSwap; split
      · exact acc_wd h _ _ _ _ _ _ _ h0
      · exact acc_wd h _ _ _ _ _ _ _ hr
    · split
      · exact acc_wd h _ _ _ _ _ _ _ (addv_wd (rd u at') v hr.1 h0.1)
      · exact acc_wd h _ _ _ _ _ _ _ hr
theorem doAns_wd {u : Mu} (h : Wd u) (k at' o : Int) {v : Int} (h0 : 0 ≤ v ∧ v < 18446744073709551616) : 0 ≤ doAns u k at' o v ∧ doAns u k at' o v < 18446744073709551616 := by
  have hr := rd_wd h at'
  unfold doAns; split
  · omega
  · split
    · split <;> omega
    · split
      · unfold addA; split
        · exact addv_wd _ _ hr.1 h0.1
        · omega
      · exact hr

/-- An access is one: its kind, and what is put. -/
structure AskT.OK (a : AskT) : Prop where
  k : a.k = 1 ∨ a.k = 2 ∨ a.k = 3 ∨ a.k = 4
  new : 0 ≤ a.new ∧ a.new < 18446744073709551616

theorem AskT.OK.d {u : Mu} {a : AskT} (ha : a.OK) (hw : Wd u) : dec (doOK u a.k a.at' a.new) = true := doOK0 ha.k (rng_of hw ha.new)

theorem appB {n : Nat} (hn : n ≤ 1000) : (Nat.ble n n && true && Nat.ble (n + 1) 1000000 && Nat.ble 1 1) = true := by
  rw [Nat.ble_eq_true_of_le (Nat.le_refl n), Nat.ble_eq_true_of_le (show n + 1 ≤ 1000000 by omega)]; rfl

theorem acc_n (u : Mu) (k who at' new v : Int) (dn : Bool) (new' : Int) : (acc u k who at' new v dn new').n = u.n := by
  unfold acc; split <;> rfl
theorem muDo_n (u : Mu) (k who at' o v : Int) : (muDo u k who at' o v).n = u.n := by
  unfold muDo; split
  · exact acc_n _ _ _ _ _ _ _ _
  · split
    · exact acc_n _ _ _ _ _ _ _ _
    · split <;> exact acc_n _ _ _ _ _ _ _ _


end Go.Vx
