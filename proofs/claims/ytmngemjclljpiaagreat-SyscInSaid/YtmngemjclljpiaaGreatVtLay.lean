/- Grounds are laid. -/
import Derived.Test.YtmngemjclljpiaaGreatVtL2
import Derived.Test.YtmngemjclljpiaaGreatVxO
namespace Go.Vx
open Go.Proofs

abbrev fewF : Nat := 27
abbrev lenF : Nat := 28
abbrev layF : Nat := 5
abbrev rNewF : Nat := 31

def few (P T G : Int) : Prop := 1 ≤ P ∧ P ≤ 4 ∧ P ≤ T ∧ T ≤ 8 ∧ 1 ≤ G ∧ G ≤ 60
instance (P T G : Int) : Decidable (few P T G) := by unfold few; infer_instance

section
variable (ex : XTab)
theorem few_run (P T G : Int) : ∃ g, VCalls Tryz.prog ex fewF [.agg ⟨[I P, I T, I G]⟩] [] (B (decide (few P T G))) ([] ++ g) := by
  by_cases h1 : P < 1
  · rw [dfalse (show ¬ few P T G by unfold few; omega)]; exact contractK ((baseGood ex)) 9 0 [.val 64 5 _ _ (congrArg Value.bool (dtrue h1))] _ _ _ _ (by kernel_rfl)
  by_cases h2 : P > 64
  · rw [dfalse (show ¬ few P T G by unfold few; omega)]; exact contractK ((baseGood ex)) 9 0 [.val 64 5 _ _ (congrArg Value.bool (dfalse h1)), .val 64 9 _ _ (congrArg Value.bool (dtrue h2))] _ _ _ _ (by kernel_rfl)
  by_cases h3 : T < 1
  · rw [dfalse (show ¬ few P T G by unfold few; omega)]; exact contractK ((baseGood ex)) 9 0 [.val 64 5 _ _ (congrArg Value.bool (dfalse h1)), .val 64 9 _ _ (congrArg Value.bool (dfalse h2)), .val 64 14 _ _ (congrArg Value.bool (dtrue h3))] _ _ _ _ (by kernel_rfl)
  by_cases h4 : T > 256
  · rw [dfalse (show ¬ few P T G by unfold few; omega)]; exact contractK ((baseGood ex)) 9 0 [.val 64 5 _ _ (congrArg Value.bool (dfalse h1)), .val 64 9 _ _ (congrArg Value.bool (dfalse h2)), .val 64 14 _ _ (congrArg Value.bool (dfalse h3)), .val 64 19 _ _ (congrArg Value.bool (dtrue h4))] _ _ _ _ (by kernel_rfl)
  by_cases h5 : G < 1
  · rw [dfalse (show ¬ few P T G by unfold few; omega)]; exact contractK ((baseGood ex)) 9 0 [.val 64 5 _ _ (congrArg Value.bool (dfalse h1)), .val 64 9 _ _ (congrArg Value.bool (dfalse h2)), .val 64 14 _ _ (congrArg Value.bool (dfalse h3)), .val 64 19 _ _ (congrArg Value.bool (dfalse h4)), .val 64 24 _ _ (congrArg Value.bool (dtrue h5))] _ _ _ _ (by kernel_rfl)
  by_cases h6 : G > 65536
  · rw [dfalse (show ¬ few P T G by unfold few; omega)]; exact contractK ((baseGood ex)) 9 0 [.val 64 5 _ _ (congrArg Value.bool (dfalse h1)), .val 64 9 _ _ (congrArg Value.bool (dfalse h2)), .val 64 14 _ _ (congrArg Value.bool (dfalse h3)), .val 64 19 _ _ (congrArg Value.bool (dfalse h4)), .val 64 24 _ _ (congrArg Value.bool (dfalse h5)), .val 64 29 _ _ (congrArg Value.bool (dtrue h6))] _ _ _ _ (by kernel_rfl)
  by_cases h7 : T ≥ P
  · by_cases h8 : P ≤ 4
    · by_cases h9 : T ≤ 8
      · by_cases h10 : G ≤ 60
        · rw [dtrue (show few P T G by unfold few; omega)]; exact contractK ((baseGood ex)) 9 0 [.val 64 5 _ _ (congrArg Value.bool (dfalse h1)), .val 64 9 _ _ (congrArg Value.bool (dfalse h2)), .val 64 14 _ _ (congrArg Value.bool (dfalse h3)), .val 64 19 _ _ (congrArg Value.bool (dfalse h4)), .val 64 24 _ _ (congrArg Value.bool (dfalse h5)), .val 64 29 _ _ (congrArg Value.bool (dfalse h6)), .val 64 35 _ _ (congrArg Value.bool (dtrue h7)), .val 27 8 _ _ (congrArg Value.bool (dtrue h8)), .val 27 13 _ _ (congrArg Value.bool (dtrue h9)), .val 27 18 _ _ (congrArg Value.bool (dtrue h10))] _ _ _ _ (by kernel_rfl)
        · rw [dfalse (show ¬ few P T G by unfold few; omega)]; exact contractK ((baseGood ex)) 9 0 [.val 64 5 _ _ (congrArg Value.bool (dfalse h1)), .val 64 9 _ _ (congrArg Value.bool (dfalse h2)), .val 64 14 _ _ (congrArg Value.bool (dfalse h3)), .val 64 19 _ _ (congrArg Value.bool (dfalse h4)), .val 64 24 _ _ (congrArg Value.bool (dfalse h5)), .val 64 29 _ _ (congrArg Value.bool (dfalse h6)), .val 64 35 _ _ (congrArg Value.bool (dtrue h7)), .val 27 8 _ _ (congrArg Value.bool (dtrue h8)), .val 27 13 _ _ (congrArg Value.bool (dtrue h9)), .val 27 18 _ _ (congrArg Value.bool (dfalse h10))] _ _ _ _ (by kernel_rfl)
      · rw [dfalse (show ¬ few P T G by unfold few; omega)]; exact contractK ((baseGood ex)) 9 0 [.val 64 5 _ _ (congrArg Value.bool (dfalse h1)), .val 64 9 _ _ (congrArg Value.bool (dfalse h2)), .val 64 14 _ _ (congrArg Value.bool (dfalse h3)), .val 64 19 _ _ (congrArg Value.bool (dfalse h4)), .val 64 24 _ _ (congrArg Value.bool (dfalse h5)), .val 64 29 _ _ (congrArg Value.bool (dfalse h6)), .val 64 35 _ _ (congrArg Value.bool (dtrue h7)), .val 27 8 _ _ (congrArg Value.bool (dtrue h8)), .val 27 13 _ _ (congrArg Value.bool (dfalse h9))] _ _ _ _ (by kernel_rfl)
    · rw [dfalse (show ¬ few P T G by unfold few; omega)]; exact contractK ((baseGood ex)) 9 0 [.val 64 5 _ _ (congrArg Value.bool (dfalse h1)), .val 64 9 _ _ (congrArg Value.bool (dfalse h2)), .val 64 14 _ _ (congrArg Value.bool (dfalse h3)), .val 64 19 _ _ (congrArg Value.bool (dfalse h4)), .val 64 24 _ _ (congrArg Value.bool (dfalse h5)), .val 64 29 _ _ (congrArg Value.bool (dfalse h6)), .val 64 35 _ _ (congrArg Value.bool (dtrue h7)), .val 27 8 _ _ (congrArg Value.bool (dfalse h8))] _ _ _ _ (by kernel_rfl)
  · rw [dfalse (show ¬ few P T G by unfold few; omega)]; exact contractK ((baseGood ex)) 9 0 [.val 64 5 _ _ (congrArg Value.bool (dfalse h1)), .val 64 9 _ _ (congrArg Value.bool (dfalse h2)), .val 64 14 _ _ (congrArg Value.bool (dfalse h3)), .val 64 19 _ _ (congrArg Value.bool (dfalse h4)), .val 64 24 _ _ (congrArg Value.bool (dfalse h5)), .val 64 29 _ _ (congrArg Value.bool (dfalse h6)), .val 64 35 _ _ (congrArg Value.bool (dfalse h7))] _ _ _ _ (by kernel_rfl)

def fewR : List Value → Option (Value × Bool)
  | [.agg ⟨[.int .i64 P, .int .i64 T, .int .i64 G]⟩] => some (B (decide (few P T G)), true)
  | _ => none
theorem fewOK : SpecOK Tryz.prog ex ⟨fewF, true, numS fewR⟩ := numOK ex _ _ fun args v b h hb => by
  unfold fewR at h; split at h <;> cases h; exact few_run ex _ _ _

def many (P T G : Int) : Nat := (20 + 264 * P + 3 * T + 2 * G).toNat

theorem len_run (P T G : Int) (hf : few P T G) : ∃ g, VCalls Tryz.prog ex lenF [.agg ⟨[I P, I T, I G]⟩] [] (I (many P T G)) ([] ++ g) := by
  have e : (many P T G : Int) = w64 (w64 (w64 (20 + w64 (264 * P)) + w64 (3 * T)) + w64 (2 * G)) := by
    unfold few at hf
    unfold many
    rw [w64_id (x := 264 * P) (by omega) (by omega), w64_id (x := 20 + 264 * P) (by omega) (by omega), w64_id (x := 3 * T) (by omega) (by omega), w64_id (x := 2 * G) (by omega) (by omega), w64_id (x := 20 + 264 * P + 3 * T) (by omega) (by omega), w64_id (by omega) (by omega)]
    omega
  rw [e]
  exact contractK ((baseGood ex)) 9 0 [] _ _ _ _ (by kernel_rfl)
theorem many_le {P T G : Int} (hf : few P T G) : 289 ≤ many P T G ∧ many P T G ≤ 1220 := by
  unfold few at hf; unfold many; omega

theorem one0 {g : Nat → Int} {x : Int} (hg : g 0 = x) (j : Nat) (hj : j < 1) : [U x][j]? = some (.int .u64 (g j)) := by
  have : j = 0 := by omega
  subst this; rw [hg]; rfl

/-! The document's memory is made -/
noncomputable abbrev rNewC : Code := bodyOf Tryz.prog rNewF
def rNewLv (n : Nat) (i : Int) : List (Nat × Value) := [(0, .slice (some ⟨0, 0, none⟩) n 1), (3, ptr 1), (4, I i)]
def memC (ws : Value) : VObj := ob [ws, I 0, I 0, I 0, I 0, I 0, U 0, U 0, B false]
theorem rNew_0 (n : Nat) (w : Nat → Int) : Goes Tryz.prog ex 27 1 (piece [0] rNewC) [(0, .slice (some ⟨0, 0, none⟩) n 1)] [.fn n .u64 w 0] .normal [(0, .slice (some ⟨0, 0, none⟩) n 1)] [.fn n .u64 w 0] := by
  exact Goes.run (f := (rNewF)) ((baseGood ex)) 9 [0] [] ((by kernel_rfl)) fun junk => by kernel_rfl
theorem rNew_1 (n : Nat) (w : Nat → Int) : Goes Tryz.prog ex 27 1 (piece [1, 0] rNewC) [(0, .slice (some ⟨0, 0, none⟩) n 1)] [.fn n .u64 w 0] .normal [(0, .slice (some ⟨0, 0, none⟩) n 1), (3, ptr 1)] [.fn n .u64 w 0, memC nils] := by
  exact Goes.run (f := (rNewF)) ((baseGood ex)) 9 [0, 3] [] ((by kernel_rfl)) fun junk => by kernel_rfl
theorem rNew_2 (n : Nat) (w : Nat → Int) : Goes Tryz.prog ex 27 1 (piece [1, 1, 0, 0] rNewC) [(0, .slice (some ⟨0, 0, none⟩) n 1), (3, ptr 1)] [.fn n .u64 w 0, memC nils] .normal (rNewLv n 0) [.fn n .u64 w 0, memC nils] := by
  exact Goes.run (f := (rNewF)) ((baseGood ex)) 9 [0, 3, 4] [] ((by kernel_rfl)) fun junk => by kernel_rfl
theorem rNew_first (n : Nat) (w : Nat → Int) (h : 0 < n) (g : Nat → Int) (hg : g 0 = w 0) : Goes Tryz.prog ex 27 1 (piece [1, 1, 0, 1, 0, 0] rNewC) (rNewLv n 0) [.fn n .u64 w 0, memC nils] .normal (rNewLv n 1) [.fn n .u64 w 0, memC (.slice (some ⟨2, 0, none⟩) 1 1), .fn 1 .u64 g 0] := by
  have h1 : (0 : Int) < n := by omega
  have h2 : (0 : Int) ≤ 0 ∧ (0 : Int) < n := by omega
  have h3 : 0 + (0 : Int).toNat * 1 < n := by simpa using h
  have key : Goes Tryz.prog ex 27 1 (piece [1, 1, 0, 1, 0, 0] rNewC) (rNewLv n 0) [.fn n .u64 w 0, memC nils] .normal (rNewLv n 1) [.fn n .u64 w 0, memC (.slice (some ⟨2, 0, none⟩) 1 1), .cells [U (w 0)] 0] := by
    exact Goes.run (f := (rNewF)) ((baseGood ex)) 9 [0, 3, 4] [.val 31 10 _ _ (congrArg Value.bool (dtrue h1)), .fact 31 20 _ (dtrue h2), .fact 31 21 _ (dtrue h)] ((by kernel_rfl)) fun junk => by kernel_rfl
  exact key.ints (i := 2) (l := [U (w 0)]) (e := 0) rfl 1 .u64 g 0 (by simp) (fun j hj => one0 hg j hj)
theorem rNew_more (n k : Nat) (w g : Nat → Int) (h1 : (k : Int) < n) (h0 : 0 < k) (hn : n ≤ 100000) : Goes Tryz.prog ex 27 1 (piece [1, 1, 0, 1, 0, 0] rNewC) (rNewLv n k) [.fn n .u64 w 0, memC (.slice (some ⟨2, 0, none⟩) k 1), .fn k .u64 g 0] .normal (rNewLv n ((k + 1 : Nat) : Int)) [.fn n .u64 w 0, memC (.slice (some ⟨2, 0, none⟩) (k + 1) 1), .fn (k + 1) .u64 (ext1 k g (w k)) 0] := by
  have h2 : (0 : Int) ≤ k ∧ (k : Int) < n := by omega
  have h3 : 0 + (k : Int).toNat * 1 < n := by omega
  have e1 : w (0 + (k : Int).toNat * 1) = w k := by simp
  have e2 : w64 ((k : Int) + 1) = ((k + 1 : Nat) : Int) := by rw [w64_id (by omega) (by omega)]; omega
  have e3 : (Nat.ble k k && true && Nat.ble (k + 1) 1000000 && Nat.ble 1 1) = true := by
    rw [Nat.ble_eq_true_of_le (Nat.le_refl k), Nat.ble_eq_true_of_le (show k + 1 ≤ 1000000 by omega)]; rfl
  exact Goes.run (f := (rNewF)) ((baseGood ex)) 9 [0, 3, 4] [.val 31 10 _ _ (congrArg Value.bool (dtrue h1)), .fact 31 20 _ (dtrue h2), .fact 31 21 _ (dtrue h3), .val 31 21 _ _ (congrArg (Value.int .u64) (e1)), .fact 31 23 _ e3, .val 31 12 _ _ (congrArg (Value.int .i64) (e2))] ((by kernel_rfl)) fun junk => by kernel_rfl
theorem rNew_off (n : Nat) (i : Int) (w : Nat → Int) (H : VHeap) (h : ¬ i < n) (hH : H = [.fn n .u64 w 0, memC (.slice (some ⟨2, 0, none⟩) n 1), .fn n .u64 w 0]) : Goes Tryz.prog ex 27 1 (piece [1, 1, 0, 1, 0, 0] rNewC) (rNewLv n i) H (.exit 0) (rNewLv n i) H := by
  subst hH
  exact Goes.run (f := (rNewF)) ((baseGood ex)) 9 [0, 3, 4] [.val 31 10 _ _ (congrArg Value.bool (dfalse h))] ((by kernel_rfl)) fun junk => by kernel_rfl
theorem rNew_end (n : Nat) (i : Int) (w : Nat → Int) : Goes Tryz.prog ex 27 1 (piece [1, 1, 1] rNewC) (rNewLv n i) [.fn n .u64 w 0, memC (.slice (some ⟨2, 0, none⟩) n 1), .fn n .u64 w 0] .ret [(2, ptr 1)] [.fn n .u64 w 0, memC (.slice (some ⟨2, 0, none⟩) n 1), .fn n .u64 w 0] := by
  exact Goes.run (f := (rNewF)) ((baseGood ex)) 9 [2] [] ((by kernel_rfl)) fun junk => by kernel_rfl
theorem rNew_code : rNewC = .seq (piece [0] rNewC) (.seq (piece [1, 0] rNewC) (.seq (.seq (piece [1, 1, 0, 0] rNewC) (.block 0 (.loop (piece [1, 1, 0, 1, 0, 0] rNewC)))) (piece [1, 1, 1] rNewC))) := by kernel_rfl
theorem rNew_fn : fnOK Tryz.prog rNewF 27 [2] = true := by kernel_rfl

theorem ext1_self (k : Nat) (w : Nat → Int) : ext1 k w (w k) = w := by
  funext j; unfold ext1; split
  · rename_i h; rw [h]
  · rfl

theorem rNew_rounds (n : Nat) (w : Nat → Int) (hn : n ≤ 100000) : ∀ (m k : Nat), k + m = n → 0 < k → ∃ c, Rounds Tryz.prog ex 27 1 (piece [1, 1, 0, 1, 0, 0] rNewC) (.exit 0) (rNewLv n n) [.fn n .u64 w 0, memC (.slice (some ⟨2, 0, none⟩) n 1), .fn n .u64 w 0] c (rNewLv n k) [.fn n .u64 w 0, memC (.slice (some ⟨2, 0, none⟩) k 1), .fn k .u64 w 0]
  | 0, k, h, h0 => by
    have : k = n := by omega
    subst this
    exact ⟨1, .out _ _ (by simp) (rNew_off ex k k w _ (by omega) rfl)⟩
  | m + 1, k, h, h0 => by
    obtain ⟨c, hc⟩ := rNew_rounds n w hn m (k + 1) (by omega) (by omega)
    have := rNew_more ex n k w w (by omega) h0 hn
    rw [ext1_self] at this
    exact ⟨c + 1, .more _ _ _ _ _ this hc⟩

theorem rNew_go (n : Nat) (w : Nat → Int) (h0 : 0 < n) (hn : n ≤ 100000) : VCalls Tryz.prog ex rNewF [.slice (some ⟨0, 0, none⟩) n 1] [.fn n .u64 w 0] (ptr 1) [.fn n .u64 w 0, memC (.slice (some ⟨2, 0, none⟩) n 1), .fn n .u64 w 0] := by
  refine VCalls.body rNew_fn (x := .ret) (lv' := [(2, ptr 1)]) rfl (by simp) (.inr rfl) ?_ (l := [ptr 1]) rfl rfl
  obtain ⟨c, hc⟩ := rNew_rounds ex n w hn (n - 1) 1 (by omega) (by omega)
  have hcode := rNew_code
  have hp := Rounds.more c _ _ _ _ (rNew_first ex n w h0 w rfl) hc
  have e0 := rNew_0 ex n w
  have e1 := rNew_1 ex n w
  have e2 := rNew_2 ex n w
  have e3 := rNew_end ex n n w
  unfold rNewC at hcode hp e0 e1 e2 e3
  rw [hcode]
  exact Goes.seq e0 (Goes.seq e1 (Goes.seq (Goes.seq e2 (Goes.block hp.goes)) e3))

/-! Words lie behind a memory -/

def mu0 (n : Nat) (w : Nat → Int) : Mu := ⟨n, w, 0, 0, 0, 0, 0, 0, 0, false⟩

theorem Emb.closeMem {bs : List Blk} {h : VHeap} {w : World} {i j n : Nat} {f : Nat → Int} {e e2 : TypeId} (he : Emb ex bs h w) (hi : h[i]? = some (.cells [.slice (some ⟨j, 0, none⟩) n 1, I 0, I 0, I 0, I 0, I 0, U 0, U 0, B false] e)) (hj : h[j]? = some (.fn n .u64 f e2)) :
    ∃ bs', Emb ex bs' ((h.set i (mem (mu0 n f))).set j .dead) w ∧ (∀ (k : Nat) (b : Blk), bs[k]? = some b → ∃ b', bs'[k]? = some b' ∧ b'.1 = b.1 ∧ b'.2 = b.2) ∧ ∀ x ∈ own bs', x ∈ own bs := by
  have hij : i ≠ j := fun h => by subst h; rw [hi] at hj; cases hj
  have li := (List.getElem?_eq_some_iff.1 hi).1
  have lj := (List.getElem?_eq_some_iff.1 hj).1
  obtain ⟨b, hb⟩ : ∃ b, bs[i]? = some b := ⟨bs[i]'(by rw [he.len]; exact li), List.getElem?_eq_getElem _⟩
  obtain ⟨d, hd⟩ : ∃ d, bs[j]? = some d := ⟨bs[j]'(by rw [he.len]; exact lj), List.getElem?_eq_getElem _⟩
  have hbd : ∀ x, x ∈ b.own → x ∈ d.own → False := fun x h1 h2 => by
    rcases he.sepo i j b d _ _ hb hd hi hj x h1 h2 with h | h | h
    · exact hij h
    · cases h
    · cases h
  obtain ⟨l1, t1, e1, m1, m2, m3⟩ := he.holds i b _ hb hi
  obtain ⟨l0, e0, k1, k2, k3, k4⟩ := he.holds j d _ hd hj
  have hr' : ∃ s', VR ex bs (.slice (some ⟨j, 0, none⟩) n 1) s' ∧ l1 = s' :: [I 0, I 0, I 0, I 0, I 0, U 0, U 0, B false] := by
    cases m3 with | cons _ s' _ q hs' hr => exact ⟨s', hs', by rw [hr.plain_eq rfl]⟩
  obtain ⟨s', hs', rfl⟩ := hr'
  obtain ⟨c', b2, hb2, hcap, hnn, rfl⟩ := hs'.slice_inv
  rw [hd] at hb2; cases hb2
  obtain ⟨B', hB⟩ : ∃ B' : Blk, B' = ⟨b.1, b.2, b.3 ++ d.own⟩ := ⟨_, rfl⟩
  have hBo : ∀ x, x ∈ B'.own → x ∈ b.own ∨ x ∈ d.own := fun x hx => by subst hB; simpa [Blk.own, or_assoc] using hx
  have li' : i < bs.length := by rw [he.len]; exact li
  have hget : ∀ (k : Nat) (c : Blk), (bs.set i B')[k]? = some c → (k = i ∧ c = B') ∨ (k ≠ i ∧ bs[k]? = some c) := by
    intro k c hk
    by_cases hki : i = k
    · subst hki; rw [List.getElem?_set_self li'] at hk; cases hk; exact .inl ⟨rfl, rfl⟩
    · rw [List.getElem?_set_ne hki] at hk; exact .inr ⟨Ne.symm hki, hk⟩
  have hobj : ∀ (k : Nat) (o : VObj), ((h.set i (mem (mu0 n f))).set j .dead)[k]? = some o → (k = j ∧ o = .dead) ∨ (k = i ∧ o = mem (mu0 n f)) ∨ (k ≠ i ∧ k ≠ j ∧ h[k]? = some o) := by
    intro k o hk
    by_cases hkj : j = k
    · subst hkj; rw [List.getElem?_set_self (by simpa using lj)] at hk; cases hk; exact .inl ⟨rfl, rfl⟩
    · rw [List.getElem?_set_ne hkj] at hk
      by_cases hki : i = k
      · subst hki; rw [List.getElem?_set_self li] at hk; cases hk; exact .inr (.inl ⟨rfl, rfl⟩)
      · rw [List.getElem?_set_ne hki] at hk; exact .inr (.inr ⟨Ne.symm hki, Ne.symm hkj, hk⟩)
  have hown : ∀ x ∈ own (bs.set i B'), x ∈ own bs := fun x hx => by
    obtain ⟨k, c, hk, hxc⟩ := own_at hx
    rcases hget k c hk with ⟨rfl, rfl⟩ | ⟨_, h1⟩
    · rcases hBo x hxc with h | h
      · exact own_of hb h
      · exact own_of hd h
    · exact own_of h1 hxc
  refine ⟨bs.set i B', ⟨⟨he.x.lt, fun k r hk hn hm => he.x.out k r hk hn (hown _ hm), he.x.cell⟩, by simp [he.len], fun x hx => he.lto x (hown x hx), ?_, ?_⟩, fun k c hk => ?_, hown⟩
  · have mixed : ∀ (k : Nat) (c : Blk) (o : VObj), bs[k]? = some c → h[k]? = some o → k ≠ i → k ≠ j → ∀ x, x ∈ c.own → x ∈ B'.own → o = .dead := by
      intro k c o hk ho h1 h2 x hx1 hx2
      rcases hBo x hx2 with h | h
      · rcases he.sepo k i c b o _ hk hb ho hi x hx1 h with h | h | h
        · exact (h1 h).elim
        · exact h
        · cases h
      · rcases he.sepo k j c d o _ hk hd ho hj x hx1 h with h | h | h
        · exact (h2 h).elim
        · exact h
        · cases h
    intro k m c c2 o q hk hm ho hq x hx1 hx2
    rcases hobj k o ho with ⟨_, h⟩ | ⟨rfl, h⟩ | ⟨a1, a2, a3⟩
    · exact .inr (.inl h)
    · rcases hobj m q hq with ⟨_, h'⟩ | ⟨rfl, h'⟩ | ⟨b1, b2, b3⟩
      · exact .inr (.inr h')
      · exact .inl rfl
      · rcases hget k c hk with ⟨_, rfl⟩ | ⟨h1, _⟩
        · rcases hget m c2 hm with ⟨h1, _⟩ | ⟨_, h2⟩
          · exact (b1 h1).elim
          · exact .inr (.inr (mixed m c2 q h2 b3 b1 b2 x hx2 hx1))
        · exact (h1 rfl).elim
    · rcases hget k c hk with ⟨h1, _⟩ | ⟨_, hk'⟩
      · exact (a1 h1).elim
      rcases hobj m q hq with ⟨_, h'⟩ | ⟨rfl, h'⟩ | ⟨b1, b2, b3⟩
      · exact .inr (.inr h')
      · rcases hget m c2 hm with ⟨_, rfl⟩ | ⟨h1, _⟩
        · exact .inr (.inl (mixed k c o hk' a3 a1 a2 x hx1 hx2))
        · exact (h1 rfl).elim
      · rcases hget m c2 hm with ⟨h1, _⟩ | ⟨_, hm'⟩
        · exact (b1 h1).elim
        · exact he.sepo k m c c2 o q hk' hm' a3 b3 x hx1 hx2
  · intro k c o hk ho
    rcases hobj k o ho with ⟨_, h⟩ | ⟨rfl, h⟩ | ⟨a1, a2, a3⟩
    · subst h; trivial
    · subst h
      rcases hget k c hk with ⟨_, rfl⟩ | ⟨h1, _⟩
      · subst hB
        refine ⟨d.1, c', e1, e0, t1, l0, m1, by rw [← m2]; simp; omega, by simp [Blk.own], fun h => hbd d.1 (by rw [h]; exact b.own1) d.own1, k1, hnn, by rw [k2]; simpa using hcap, k4⟩
      · exact (h1 rfl).elim
    · rcases hget k c hk with ⟨h1, _⟩ | ⟨_, hk'⟩
      · exact (a1 h1).elim
      · refine (he.holds k c o hk' a3).mono fun m b3 hm => ?_
        by_cases hmi : i = m
        · subst hmi; rw [hb] at hm; cases hm; exact ⟨B', List.getElem?_set_self li', by rw [hB], by rw [hB]⟩
        · exact ⟨b3, by rw [List.getElem?_set_ne hmi]; exact hm, rfl, rfl⟩
  · by_cases hki : i = k
    · subst hki; rw [hb] at hk; cases hk; exact ⟨B', List.getElem?_set_self li', by rw [hB], by rw [hB]⟩
    · exact ⟨c, by rw [List.getElem?_set_ne hki]; exact hk, rfl, rfl⟩

theorem VCalls.closeMem {P : Program} {fn : FuncId} {args : List Value} {h h' : VHeap} {v : Value} (hc : VCalls P ex fn args h v h') (i j : Nat) {n : Nat} {f : Nat → Int} {e e2 : TypeId} (hi : h'[i]? = some (.cells [.slice (some ⟨j, 0, none⟩) n 1, I 0, I 0, I 0, I 0, I 0, U 0, U 0, B false] e)) (hj : h'[j]? = some (.fn n .u64 f e2)) :
    VCalls P ex fn args h v ((h'.set i (mem (mu0 n f))).set j .dead) := by
  intro bs w args' he ha
  refine Calls.mono (hc bs w args' he ha) ?_
  rintro ee w' ⟨v', bs', rfl, hv', he', hg⟩
  obtain ⟨bs2, h1, h2, h3⟩ := he'.closeMem ex hi hj
  refine ⟨v', bs2, rfl, (VR_VRs_mono bs2 h2).1 _ _ hv', h1, ⟨fun k b hb => ?_, fun x hx => hg.mem x (h3 x hx), hg.size, hg.same, hg.os, hg.output, hg.tape⟩⟩
  obtain ⟨b1, g1, g2, g3⟩ := hg.ext k b hb
  obtain ⟨b2, k1, k2, k3⟩ := h2 k b1 g1
  exact ⟨b2, k1, k2.trans g2, k3.trans g3⟩

theorem rNew_run (n : Nat) (w : Nat → Int) (h0 : 0 < n) (hn : n ≤ 100000) : VCalls Tryz.prog ex rNewF [.slice (some ⟨0, 0, none⟩) n 1] [.fn n .u64 w 0] (ptr 1) [.fn n .u64 w 0, mem (mu0 n w), .dead] :=
  (rNew_go ex n w h0 hn).closeMem ex 1 2 rfl rfl
end
end Go.Vx
