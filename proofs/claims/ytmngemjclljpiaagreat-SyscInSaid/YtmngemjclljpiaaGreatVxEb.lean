/- append. -/
import Derived.Test.YtmngemjclljpiaaGreatVxE
namespace Go.Vx
open Builtin (nextslicecap growBy)

section
variable {P : Program} {w : World} {bs : List Blk} {h : VHeap} {ex : XTab}

theorem growBy_le (n : Nat) : ∀ (r c : Nat), growBy n r c ≤ max c (n + (n + 768) / 4) := by
  intro r
  induction r with
  | zero => intro c; simp [growBy]; omega
  | succ r ih =>
    intro c
    simp only [growBy]
    split
    · omega
    · have := ih (c + (c + 768) / 4); omega

theorem nextslicecap_le {need c : Nat} (h : c < need) : nextslicecap need c ≤ 2 * need + 1000 := by
  unfold nextslicecap
  split
  · omega
  · split
    · omega
    · have := growBy_le need 4 c; omega

/-- What a row is in memory. -/
def VRow (ex : XTab) (bs : List Blk) : Row → List Value → Prop
  | .nums n k g, R => R.length = n ∧ ∀ i, i < n → R[i]? = some (.int k (g i))
  | .cells l, R => VRs ex bs l R

theorem joined_sound {sz : Nat} {r1 r2 r : Row} {R1 R2 : List Value} (h1 : VRow ex bs r1 R1) (h2 : VRow ex bs r2 R2) (hj : joined sz r1 r2 = some r) : VRow ex bs r (R1 ++ R2) := by
  unfold joined at hj
  split at hj
  · cases hj; exact VRs.append h1 h2
  · rename_i n k g k' x
    split at hj
    · rename_i hc
      cases hj
      rw [Bool.and_eq_true] at hc
      have hk := of_decide_eq_true hc.1
      subst hk
      obtain ⟨h1l, h1g⟩ := h1
      cases h2 with | cons _ v' _ l' hv hs =>
      cases hs; cases hv
      refine ⟨by simp [h1l], fun i hi => ?_⟩
      by_cases hin : i = n
      · subst hin
        rw [List.getElem?_append_right (by omega), h1l]; simp
      · rw [List.getElem?_append_left (by omega), h1g i (by omega)]; simp [hin]
    · cases hj
  · rename_i n k g m k' g'
    split at hj
    · rename_i hc
      cases hj
      rw [Bool.and_eq_true] at hc
      have hk := of_decide_eq_true hc.1
      subst hk
      obtain ⟨h1l, h1g⟩ := h1
      obtain ⟨h2l, h2g⟩ := h2
      refine ⟨by simp [h1l, h2l], fun i hi => ?_⟩
      by_cases hin : i < n
      · rw [List.getElem?_append_left (by omega), h1g i hin]; simp [hin]
      · rw [List.getElem?_append_right (by omega), h1l, h2g (i - n) (by omega)]; simp [hin]
    · cases hj
  · rename_i m k g
    cases hj
    cases h1
    exact h2
  · cases hj

theorem row_holds {r : Row} {R t : List Value} {b : Blk} {e e' : TypeId} (hr : VRow ex bs r R) (hw : w.heap[b.1]? = some (.cells ⟨R ++ t⟩ e' (0, 0))) (hl : (R ++ t).length = b.2) : Holds ex bs w b (r.obj e) := by
  cases r with
  | nums n k g =>
    obtain ⟨h1, h2⟩ := hr
    refine ⟨R ++ t, e', hw, hl, by simp [← h1], fun i hi => ?_⟩
    rw [List.getElem?_append_left (by omega)]; exact h2 i hi
  | cells l => exact ⟨R, t, e', hw, hl, hr⟩

/-- The row of a slice. -/
theorem sliceRow_sound {sz : Nat} {s s' : Value} {r : Row} {n : Nat} {b : Bool} {i : Option Nat} (hs : sliceRow h sz s = some (r, n, b, i)) (hb : b = true) (hsz : 1 ≤ sz) (he : Emb ex bs h w) (hv : VR ex bs s s') :
    ∃ R, VRow ex bs r R ∧ R.length = n * sz ∧ ((s = .slice none 0 0 ∧ s' = .slice none 0 0 ∧ n = 0 ∧ R = [] ∧ i = none) ∨
      ∃ (j off c' : Nat) (c : Blk) (o : VObj) (X : List Value) (e : TypeId), s = .slice (some ⟨j, off, none⟩) n sz ∧ i = some j ∧ s' = .slice (some ⟨c.1, off, none⟩) n c' ∧ bs[j]? = some c ∧ h[j]? = some o ∧ o ≠ .dead ∧ off + c' * sz ≤ c.2 ∧ n ≤ c' ∧
        w.heap[c.1]? = some (.cells ⟨X⟩ e (0, 0)) ∧ X.length = c.2 ∧ ∀ k, k < n * sz → X[off + k]? = R[k]?) := by
  unfold sliceRow at hs
  split at hs
  · cases hs; cases hv
    exact ⟨[], .nil, by simp, .inl ⟨rfl, rfl, rfl, rfl, rfl⟩⟩
  · rename_i j off n' c
    split at hs
    · rename_i hc
      have hc := Nat.eq_of_beq_eq_true hc
      subst hc
      split at hs
      · rename_i o ho
        split at hs
        · rename_i r' b' hr
          cases hs
          cases hv with | slice _ _ _ _ c' cb hcb hcc hnc =>
          have hh := he.holds _ _ _ hcb ho
          cases o with
          | dead => simp [rowOf] at hr
          | box q => simp [rowOf] at hr
          | pay q => simp [rowOf] at hr
          | cells l e =>
            simp only [rowOf] at hr
            split at hr
            · rename_i hle
              cases hr
              have hle := Nat.le_of_ble_eq_true hle
              obtain ⟨l', t, e', hw, hlen, hrel⟩ := hh
              have hl := hrel.length
              refine ⟨(l'.drop off).take (n * c), (hrel.drop off).take _, by simp; omega, .inr ⟨j, off, c', cb, _, l' ++ t, e', rfl, rfl, rfl, hcb, ho, by simp, hcc, hnc, hw, hlen, fun k hk => ?_⟩⟩
              rw [List.getElem?_append_left (by omega), List.getElem?_take_of_lt hk, List.getElem?_drop]
            · cases hr
          | fn N kk g e =>
            simp only [rowOf] at hr
            split at hr
            · rename_i hc1
              cases hr
              rw [Bool.and_eq_true] at hc1
              have h1 := Nat.eq_of_beq_eq_true hc1.1
              have h2 := Nat.eq_of_beq_eq_true hc1.2
              subst h1; subst h2
              have hle := Nat.le_of_ble_eq_true hb
              obtain ⟨l', e', hw, hlen, hN, hg⟩ := hh
              refine ⟨l'.take n, ⟨by simp; omega, fun i hi => by rw [List.getElem?_take_of_lt hi, hg i (by omega)]⟩, by simp; omega, .inr ⟨j, 0, c', cb, _, l', e', rfl, rfl, rfl, hcb, ho, by simp, hcc, hnc, hw, hlen, fun k hk => ?_⟩⟩
              rw [List.getElem?_take_of_lt (by omega)]; simp
            · cases hr
        · cases hs
      · cases hs
    · cases hs
  · cases hs

theorem run_firstCells {sz n : Nat} {R X : List Value} {c off c' : Nat} {e : TypeId} (hw : w.heap[c]? = some (.cells ⟨X⟩ e (0, 0))) (hl : R.length = n * sz) (hx : ∀ k, k < n * sz → X[off + k]? = R[k]?) (q : Nat) :
    (Builtin.firstCells sz n (.slice (some ⟨c, off, none⟩) q c')).run P w = .ok ⟨R⟩ w := by
  simp only [Builtin.firstCells, loadCells]
  rw [run_loadCellsFrom (P := P) ⟨c, off, none⟩ rfl R w (fun i hi => by rw [cell_of_heap hw]; exact hx i (by omega)) (n * sz) 0 #[] (by omega)]
  simp [← hl]

theorem oneAll_real {l R : List Value} (hr : VRs ex bs l R) (h1 : oneAll l = true) : ∀ v ∈ R, v.oneCell' = true := by
  induction l generalizing R with
  | nil => cases hr; intro v hv; cases hv
  | cons u r ih =>
    cases hr with | cons _ v' _ l' hv hs =>
    unfold oneAll at h1
    cases hu : one u <;> simp [hu] at h1
    intro v hm
    rcases List.mem_cons.1 hm with rfl | hm
    · exact one_oneCell hv hu
    · exact ih hs h1 v hm

theorem row_one {r : Row} {R : List Value} (hr : VRow ex bs r R) (h1 : r.one = true) : ∀ v ∈ R, v.oneCell' = true := by
  cases r with
  | nums n k g =>
    intro v hv
    obtain ⟨i, hi⟩ := List.getElem?_of_mem hv
    have hlt : i < n := by rw [← hr.1]; exact (List.getElem?_eq_some_iff.1 hi).1
    rw [hr.2 i hlt] at hi; cases hi; rfl
  | cells l => exact oneAll_real hr h1

/-- A row of cells is written into a block. -/
theorem run_storeRow (c : Nat) (e : TypeId) : ∀ (R : List Value) (off k : Nat) (X : List Value) (w : World), w.heap[c]? = some (.cells ⟨X⟩ e (0, 0)) → off + k + R.length ≤ X.length → (∀ v ∈ R, v.oneCell' = true) →
    ∃ w', (storeCells ⟨c, off, none⟩ R k).run P w = .ok () w' ∧ w'.heap[c]? = some (.cells ⟨setCells X (off + k) R⟩ e (0, 0)) ∧ w'.heap.size = w.heap.size ∧ (∀ b, b ≠ c → w'.heap[b]? = w.heap[b]?) ∧ w'.os = w.os ∧ w'.output = w.output ∧ w'.tape = w.tape := by
  intro R
  induction R with
  | nil => intro off k X w hw _ _; exact ⟨w, by simp [storeCells], by simpa [setCells] using hw, rfl, fun _ _ => rfl, rfl, rfl, rfl⟩
  | cons v r ih =>
    intro off k X w hw hlen h1
    simp only [List.length_cons] at hlen
    have hlt : off + k < X.length := by omega
    have hadd : Addr.add ⟨c, off, none⟩ k = ⟨c, off + k, none⟩ := by
      unfold Addr.add; split <;> simp_all
    have hw1 : (w.setCell ⟨c, off + k, none⟩ v).heap[c]? = some (.cells ⟨X.set (off + k) v⟩ e (0, 0)) := by
      simp [World.setCell, Array.getElem?_modify, hw]
    obtain ⟨w', hrun, g1, g2, g3, g4, g5, g6⟩ := ih off (k + 1) (X.set (off + k) v) _ hw1 (by simp; omega) (fun u hu => h1 u (List.mem_cons_of_mem _ hu))
    refine ⟨w', ?_, by simpa [setCells, Nat.add_assoc] using g1, by rw [g2]; simp, fun b hb => (g3 b hb).trans (setCell_other (Ne.symm hb)), g4, g5, g6⟩
    have hcell : w.cell? ⟨c, off + k, none⟩ = some X[off + k] := by rw [cell_of_heap hw, List.getElem?_eq_getElem hlt]
    have hfr : w.frozen? ⟨c, off + k, none⟩ = false := by simp [World.frozen?, hw]
    rw [storeCells, Sem.run_bind, hadd, run_store P w _ v _ (h1 v List.mem_cons_self), hcell]
    simp only [hfr, Bool.false_eq_true, if_false, Result.andThen_ok]
    exact hrun

theorem setCells_eq : ∀ (R X : List Value) (o : Nat), o + R.length ≤ X.length → setCells X o R = X.take o ++ R ++ X.drop (o + R.length) := by
  intro R
  induction R with
  | nil => intro X o h; simp [setCells]
  | cons v r ih =>
    intro X o h
    simp only [List.length_cons] at h
    simp only [setCells]
    rw [ih _ _ (by simp; omega)]
    have h1 : (X.set o v).take (o + 1) = X.take o ++ [v] := by
      rw [List.take_set, List.take_succ_eq_append_getElem (by omega), List.set_append_right _ _ (by simp; omega)]
      simp [show min o X.length = o by omega]
    have h2 : (X.set o v).drop (o + 1 + r.length) = X.drop (o + (r.length + 1)) := by
      rw [List.drop_set_of_lt (by omega)]; congr 1; omega
    rw [h1, h2]; simp

/-- append. -/
theorem vappend_sound {ts : List TypeId} {s x s' x' v : Value} {h' : VHeap} {b : Bool} {tl : List Nat} (type : TypeId) (ha : vappend P h ts s x = some (v, h', b, tl)) (hb : b = true) (he : Emb ex bs h w) (hs : VR ex bs s s') (hx : VR ex bs x x') :
    ∃ v' w' bs', (Builtin.append_ ts.toArray type #[s', x']).run P w = .ok v' w' ∧ VR ex bs' v v' ∧ Emb ex bs' h' w' ∧ Grow bs w bs' w' := by
  unfold vappend at ha
  split at ha
  case h_2 => cases ha
  rename_i t t'
  split at ha
  case h_2 => cases ha
  rename_i e htt hu
  have htt := Nat.eq_of_beq_eq_true htt
  subst htt
  split at ha
  case h_2 => cases ha
  rename_i sz by' z hsz hby hz
  split at ha
  case h_2 => cases ha
  rename_i hcond
  simp only [Bool.and_eq_true] at hcond
  obtain ⟨⟨⟨⟨c1, c2⟩, c3⟩, c4⟩, c5⟩ := hcond
  have c1 := Nat.eq_of_beq_eq_true c1
  have c2 := Nat.le_of_ble_eq_true c2
  have c3 := Nat.le_of_ble_eq_true c3
  split at ha
  case h_2 => cases ha
  rename_i r1 n b1 i1 r2 m b2 i2 hr1 hr2
  split at ha
  case h_2 => cases ha
  rename_i r hj hm
  simp only [Bool.and_eq_true] at hm
  obtain ⟨hm2, hm3⟩ := hm
  cases ha
  simp only [Bool.and_eq_true] at hb
  obtain ⟨⟨⟨hb1, hb2⟩, hb3⟩, hm1⟩ := hb
  have hm1 := Nat.le_of_ble_eq_true hm1
  have hb3 := Nat.le_of_ble_eq_true hb3
  obtain ⟨R1, hR1, hl1, hcase1⟩ := sliceRow_sound hr1 hb1 c2 he hs
  obtain ⟨R2, hR2, hl2, hcase2⟩ := sliceRow_sound hr2 hb2 c2 he hx
  have hR := joined_sound hR1 hR2 hj
  obtain ⟨inf, hi1, hi2⟩ := bytesT_spec hby
  obtain ⟨hz1, hz2⟩ := run_zeroT (w := w) hz
  -- the second operand is no nil
  obtain ⟨x0, xo, xc, xb, xob, X2, xe, hxv, _, hx', hxb, hxo, hxd, hxc, hxn, hX2, hX2l, hX2r⟩ := hcase2.resolve_left (fun hh => by have := hh.2.2.1; omega)
  have hfirst2 : ∀ q, (Builtin.firstCells sz m (.slice (some ⟨xb.1, xo, none⟩) m q)).run P w = .ok ⟨R2⟩ w := fun q => run_firstCells hX2 hl2 hX2r m
  have hone2 := row_one hR2 hm3
  -- behind the choice of a capacity
  have grows : ∀ (base : Option Addr) (sCap : Nat), s' = .slice base n sCap → ¬ n + m ≤ sCap → (Builtin.firstCells sz n s').run P { w with drawn := w.drawn + 1 } = .ok ⟨R1⟩ { w with drawn := w.drawn + 1 } →
      ∃ (newCap : Nat) (rest : List Value), n + m ≤ newCap ∧ rest.length = (newCap - (n + m)) * sz ∧
        (Builtin.append_ [t, t].toArray type #[s', x']).run P w = .ok (.slice (some ⟨w.heap.size, 0, none⟩) (n + m) newCap) { w with drawn := w.drawn + 1, heap := w.heap.push (.cells ⟨(R1 ++ R2) ++ rest⟩ e) } := by
    intro base sCap hs' hcap hf1
    subst hs'
    refine ⟨(Question.appendCap (n + m) sCap e).cut (w.tape w.drawn (.appendCap (n + m) sCap e)), (Builtin.zeroCells z.cells ((Question.appendCap (n + m) sCap e).cut (w.tape w.drawn (.appendCap (n + m) sCap e)) - (n + m))).toList, ?_, ?_, ?_⟩
    · simp [Question.cut]
    · simp [Builtin.zeroCells]; rw [← c1]; simp
    · have hns : nextslicecap (n + m) sCap ≤ 2 * (n + m) + 1000 := nextslicecap_le (by omega)
      have hbig : ¬ (nextslicecap (n + m) sCap * inf.bytes > 2 ^ 48) := by
        rw [hi2]
        have : nextslicecap (n + m) sCap * by' ≤ (2 * (n + m) + 1000) * 64 := Nat.mul_le_mul hns c3
        omega
      have hmax : ¬ (((n + m : Nat) : Int) > IntKind.i64.max ∧ (False ∨ inf.bytes = 0)) := by
        rintro ⟨h, _⟩
        have : IntKind.i64.max = 9223372036854775807 := by decide
        omega
      have hq : (Question.appendCap (n + m) sCap e).forced = false := rfl
      have hf2 : (Builtin.firstCells sz m x').run P { w with drawn := w.drawn + 1 } = .ok ⟨R2⟩ { w with drawn := w.drawn + 1 } := by
        rw [hx']; exact run_firstCells (w := { w with drawn := w.drawn + 1 }) hX2 hl2 hX2r m
      have hz3 := (run_zeroT (w := { w with drawn := w.drawn + 1 }) hz).1
      have hlen : (Builtin.lenOf x').run P w = .ok m w := by rw [hx']; rfl
      simp only [Builtin.append_, List.getElem?_toArray, List.getElem?_cons_zero, List.getElem?_cons_succ, Sem.run_bind, run_underlying' hu, Result.andThen_ok, run_sizeT hsz, Sem.run_pure, Bool.false_eq_true, if_false, hlen, if_neg hcap]
      simp only [run_typeInfo' hi1, Result.andThen_ok, Sem.run_bind, Sem.run_ite]
      rw [if_neg hmax, if_neg hbig]
      simp only [Sem.run_bind, run_choose, hq, Bool.false_eq_true, if_false, Result.andThen_ok, run_typeInfo' hi1, run_askRoom, hf1, hf2, hz3, Bool.not_false, if_true, newRow, run_newObj, Sem.run_pure]
      simp
      congr 2
      apply Array.ext'; simp
  have fin : ∀ (newCap : Nat) (rest : List Value), n + m ≤ newCap → rest.length = (newCap - (n + m)) * sz → ∀ (h0 : VHeap), h0.length = h.length → Emb ex bs h0 w →
      VR ex (bs ++ [(⟨w.heap.size, ((R1 ++ R2) ++ rest).length, []⟩ : Blk)]) (.slice (some ⟨h.length, 0, none⟩) (n + m) sz) (.slice (some ⟨w.heap.size, 0, none⟩) (n + m) newCap) ∧
      Emb ex (bs ++ [(⟨w.heap.size, ((R1 ++ R2) ++ rest).length, []⟩ : Blk)]) (h0 ++ [r.obj e]) { w with drawn := w.drawn + 1, heap := w.heap.push (.cells ⟨(R1 ++ R2) ++ rest⟩ e) } ∧
      Grow bs w (bs ++ [(⟨w.heap.size, ((R1 ++ R2) ++ rest).length, []⟩ : Blk)]) { w with drawn := w.drawn + 1, heap := w.heap.push (.cells ⟨(R1 ++ R2) ++ rest⟩ e) } := by
    intro newCap rest hn hrest h0 hh0 he0
    have hlen : ((R1 ++ R2) ++ rest).length = newCap * sz := by
      simp only [List.length_append, hl1, hl2, hrest]
      rw [← Nat.add_mul, ← Nat.add_mul]; congr 1; omega
    refine ⟨.slice _ 0 _ _ _ (⟨w.heap.size, ((R1 ++ R2) ++ rest).length, []⟩ : Blk) (by rw [← he.len]; simp) (by rw [hlen]; simp) hn, ?_, ?_⟩
    · exact (he0.drew).push (r.obj e) ((R1 ++ R2) ++ rest) e (fun w' hw => row_holds hR hw rfl)
    · exact (Grow.drew bs w).trans (Grow.push bs { w with drawn := w.drawn + 1 } (.cells ⟨(R1 ++ R2) ++ rest⟩ e) _)
  rcases hcase1 with ⟨_, hs', hn0, hR0, hi⟩ | ⟨j, off, c', cb, ob, X, e1, hsv, hi, hs', hcb, hob, hod, hcc, hnc, hX, hXl, hXr⟩
  · subst hn0; subst hR0; subst hi
    obtain ⟨newCap, rest, g1, g2, g3⟩ := grows none 0 hs' (by omega) (by rw [hs']; rfl)
    obtain ⟨f1, f2, f3⟩ := fin newCap rest g1 g2 h rfl he
    exact ⟨_, _, _, g3, f1, f2, f3⟩
  · subst hi
    simp only
    have hoff : off = 0 := by
      rw [hsv] at hm2
      unfold baseOK at hm2
      split at hm2
      · rename_i hq; cases hq
      · rename_i hq; cases hq; rfl
      · cases hm2
    subst hoff
    have hjlt : j < h.length := (List.getElem?_eq_some_iff.1 hob).1
    -- the old object is let go
    have hdead : Emb ex bs (h.set j .dead) w := by
      have hold : ∀ (k : Nat) (q : VObj), (h.set j .dead)[k]? = some q → q = .dead ∨ (k ≠ j ∧ h[k]? = some q) := by
        intro k q hk
        by_cases hjk : j = k
        · subst hjk; rw [List.getElem?_set_self hjlt] at hk; cases hk; exact .inl rfl
        · rw [List.getElem?_set_ne hjk] at hk; exact .inr ⟨Ne.symm hjk, hk⟩
      refine ⟨he.x, by simp [he.len], he.lto, ?_, ?_⟩
      · intro a k p q o o2 hp hq ho ho2 x hx1 hx2
        rcases hold a o ho with h1 | ⟨h1, h2⟩
        · exact .inr (.inl h1)
        · rcases hold k o2 ho2 with g1 | ⟨g1, g2⟩
          · exact .inr (.inr g1)
          · exact he.sepo a k p q o o2 hp hq h2 g2 x hx1 hx2
      · intro a p o hp ho
        rcases hold a o ho with h1 | ⟨h1, h2⟩
        · rw [h1]; trivial
        · exact he.holds a p o hp h2
    by_cases hcap : n + m ≤ c'
    · -- there is room
      have hroom : 0 + n * sz + R2.length ≤ X.length := by
        rw [hl2, hXl]
        have : (n + m) * sz ≤ c' * sz := Nat.mul_le_mul_right _ hcap
        rw [Nat.add_mul] at this; omega
      obtain ⟨w', k1, k2, k3, k4, k5, k6, k7⟩ := run_storeRow (P := P) cb.1 e1 R2 (n * sz) 0 X w hX (by omega) hone2
      have hset := setCells_eq R2 X (n * sz) (by omega)
      have htake : X.take (n * sz) = R1 := by
        apply List.ext_getElem?; intro k
        rcases Nat.lt_or_ge k (n * sz) with hk | hk
        · rw [List.getElem?_take_of_lt hk]; have := hXr k hk; simpa using this
        · rw [List.getElem?_eq_none (by simp; omega), List.getElem?_eq_none (by omega)]
      rw [Nat.add_zero, hset, htake] at k2
      have hsep : ∀ (a : Nat) (p : Blk) (o : VObj), bs[a]? = some p → (h.set j .dead)[a]? = some o → o ≠ .dead → ∀ x, x ∈ p.own → x ∉ cb.own := by
        intro a p o hp ho hd x hx1 hx2
        by_cases hja : j = a
        · subst hja; rw [List.getElem?_set_self hjlt] at ho; cases ho; exact hd rfl
        · rw [List.getElem?_set_ne hja] at ho
          rcases he.sepo a j p cb o ob hp hcb ho hob x hx1 hx2 with h | h | h
          · exact hja h.symm
          · exact hd h
          · exact hod h
      have hmem : cb ∈ bs := List.mem_of_getElem? hcb
      have hsame : ∀ b, b < w.heap.size → b ∉ own bs → w'.heap[b]? = w.heap[b]? := fun b _ hn => k4 b fun hbc => hn (by rw [hbc]; exact own_get hcb)
      have hown : ∀ x, x ∈ own (bs ++ [cb]) → x ∈ own bs := fun x hx => by
        rw [own_append] at hx
        rcases List.mem_append.1 hx with h | h
        · exact h
        · rw [own_cons, own_nil, List.append_nil] at h
          exact own_of hcb h
      refine ⟨.slice (some ⟨cb.1, 0, none⟩) (n + m) c', w', bs ++ [cb], ?_, .slice _ 0 _ _ _ cb (by rw [← he.len]; simp) hcc hcap, ⟨?_, by simp [he.len], ?_, ?_, ?_⟩, ⟨fun i b hb => ext_get i b hb, fun b hb => .inl (hown b hb), by omega, hsame, k5, k6, k7⟩⟩
      · have hlen : (Builtin.lenOf x').run P w = .ok m w := by rw [hx']; rfl
        have hf2 : (Builtin.firstCells sz m x').run P w = .ok ⟨R2⟩ w := by rw [hx']; exact hfirst2 _
        have hadd : Addr.add ⟨cb.1, 0, none⟩ (n * sz) = ⟨cb.1, n * sz, none⟩ := by
          unfold Addr.add; split
          · rename_i hq; rw [hq]
          · simp
        subst hs'
        simp only [Builtin.append_, List.getElem?_toArray, List.getElem?_cons_zero, List.getElem?_cons_succ, Sem.run_bind, run_underlying' hu, Result.andThen_ok, run_sizeT hsz, Sem.run_pure, Bool.false_eq_true, if_false, hlen, if_pos hcap, Bool.not_false, if_true, hf2, hadd, k1]
      · exact he.x.keep (by omega) hsame (fun b hb => .inl (hown b hb))
      · intro b hb
        rw [k3]; exact he.lto b (hown b hb)
      · intro a k p q o o2 hp hq ho ho2 x hx1 hx2
        have hspl : ∀ (a : Nat) (p : Blk) (o : VObj), (bs ++ [cb])[a]? = some p → (h.set j .dead ++ [r.obj e])[a]? = some o → (bs[a]? = some p ∧ (h.set j .dead)[a]? = some o) ∨ (a = bs.length ∧ p = cb) := by
          intro a p o hp ho
          rcases Nat.lt_or_ge a bs.length with hlt | hge
          · rw [List.getElem?_append_left hlt] at hp
            rw [List.getElem?_append_left (by simp [← he.len]; exact hlt)] at ho
            exact .inl ⟨hp, ho⟩
          · rw [List.getElem?_append_right hge] at hp
            have h0 : a - bs.length = 0 := by
              rcases Nat.eq_zero_or_pos (a - bs.length) with h | h
              · exact h
              · rw [List.getElem?_eq_none (by simp; omega)] at hp; cases hp
            rw [h0] at hp; simp at hp
            exact .inr ⟨by omega, hp.symm⟩
        rcases hspl a p o hp ho with ⟨h1, h2⟩ | ⟨h1, h2⟩
        · rcases hspl k q o2 hq ho2 with ⟨g1, g2⟩ | ⟨g1, g2⟩
          · exact hdead.sepo a k p q o o2 h1 g1 h2 g2 x hx1 hx2
          · by_cases hd : o = .dead
            · exact .inr (.inl hd)
            · exact (hsep a p o h1 h2 hd x hx1 (by rw [← g2]; exact hx2)).elim
        · rcases hspl k q o2 hq ho2 with ⟨g1, g2⟩ | ⟨g1, g2⟩
          · by_cases hd : o2 = .dead
            · exact .inr (.inr hd)
            · exact (hsep k q o2 g1 g2 hd x hx2 (by rw [← h2]; exact hx1)).elim
          · exact .inl (by omega)
      · intro a p o hp ho
        rcases Nat.lt_or_ge a bs.length with hlt | hge
        · rw [List.getElem?_append_left hlt] at hp
          rw [List.getElem?_append_left (by simp [← he.len]; exact hlt)] at ho
          by_cases hd : o = .dead
          · rw [hd]; trivial
          · exact (Holds.congrO (fun x hx => k4 x fun hxc => hsep a p o hp ho hd x hx (by rw [hxc]; exact cb.own1)) (hdead.holds a p o hp ho)).ext _
        · rw [List.getElem?_append_right hge] at hp
          rw [List.getElem?_append_right (by simp [← he.len]; exact hge)] at ho
          have h0 : a - bs.length = 0 := by
            rcases Nat.eq_zero_or_pos (a - bs.length) with h | h
            · exact h
            · rw [List.getElem?_eq_none (by simp; omega)] at hp; cases hp
          rw [h0] at hp
          simp only [List.length_set, ← he.len, h0] at ho
          simp at hp ho
          subst hp; subst ho
          refine Holds.ext [cb] (row_holds (t := X.drop (n * sz + R2.length)) hR k2 ?_)
          rw [← hXl]; simp [hl1]; omega
    · obtain ⟨newCap, rest, g1, g2, g3⟩ := grows (some ⟨cb.1, 0, none⟩) c' hs' hcap (by rw [hs']; exact run_firstCells (w := { w with drawn := w.drawn + 1 }) hX hl1 hXr n)
      obtain ⟨f1, f2, f3⟩ := fin newCap rest g1 g2 (h.set j .dead) (by simp) hdead
      exact ⟨_, _, _, g3, f1, f2, f3⟩

end
end Go.Vx
