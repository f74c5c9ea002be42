/- The operations that neither look at memory nor change it; and those that make a block. -/
import Derived.Test.YtmngemjclljpiaaGreatVxC
import Derived.Laws.StructEq
namespace Go.Vx

section
variable {P : Program} {w : World} {bs : List Blk} {h : VHeap} {ex : XTab}

theorem run_intBin (op : BinOp) (k : IntKind) (x y : Int) {v : Value} {b : Bool} (hv : vbinInt op k x y = some (v, b)) (hb : b = true) (t : TypeId) (hop : op ≠ .shl ∧ op ≠ .shr) :
    (binOp op t (.int k x) (.int k y)).run P w = .ok v w ∧ VR ex bs v v := by
  cases op <;> simp only [vbinInt] at hv <;> first
    | (cases hv; simp [binOp, Op.intArith, Op.intCmp, Op.intBits]; first | exact .int _ _ | exact .bool _)
    | (cases hv; have hy : y ≠ 0 := by (intro h0; simp [h0] at hb)
       simp [binOp, Op.intDiv, hy]; exact .int _ _)
    | cases hv

theorem run_eqGuard_other (op : BinOp) (t : TypeId) (x y : Operand) (a b : Value) (h1 : ∀ l m, ¬ (a = .agg l ∧ b = .agg m)) (h2 : ¬ (a = .nilIface ∧ b = .nilIface)) :
    (eqGuard op t x y a b).run P w = .ok () w := by
  unfold eqGuard
  cases op <;> simp only [Bool.not_true, Bool.not_false, if_true, Bool.false_eq_true, if_false, Sem.run_bind, Sem.run_pure, Sem.run_ite, Result.andThen_ok] <;> (
    split
    · exact (h2 ⟨rfl, rfl⟩).elim
    · exact (h1 _ _ ⟨rfl, rfl⟩).elim
    · rfl)

theorem run_equal_ptr {t e : TypeId} {n : Nat} (hu : P.underlying t = some (.pointer e)) (hn : sizeT P e = some n) (hn0 : n ≠ 0) (a b : Option Addr) :
    (Op.equal t (.pointer a) (.pointer b)).run P w = (match a, b with
      | none, b => .ok b.isNone w
      | some _, none => .ok false w
      | some a, some b => (sameAddr a b).run P w) := by
  have hd : Op.maxDepth = Op.maxDepth - 1 + 1 := by decide
  unfold Op.equal
  rw [hd]
  cases a with
  | none => simp [Op.equalIn, run_underlying' hu]
  | some a => cases b with
    | none => simp [Op.equalIn, run_underlying' hu]
    | some b => simp [Op.equalIn, run_underlying' hu, run_sizeT hn, hn0]

theorem isPtrT_spec {t : TypeId} (h : isPtrT P t = true) : ∃ e n, P.underlying t = some (.pointer e) ∧ sizeT P e = some n ∧ n ≠ 0 := by
  unfold isPtrT at h
  split at h
  · rename_i e hu
    split at h
    · cases h
    · rename_i n hne hn; exact ⟨e, n, hu, hn, fun h0 => by subst h0; exact hne rfl⟩
    · cases h
  · cases h

theorem sameAddr_run {b c o q : Nat} {l l' : List Value} {e e' : TypeId} (hb : w.heap[b]? = some (.cells ⟨l⟩ e (0, 0))) (hc : w.heap[c]? = some (.cells ⟨l'⟩ e' (0, 0))) :
    (sameAddr ⟨b, o, none⟩ ⟨c, q, none⟩).run P w = .ok (Nat.beq b c && Nat.beq o q) w := by
  unfold sameAddr
  by_cases hbc : b = c
  · subst hbc
    have : Nat.beq b b = true := by simp
    simp only [beq_self_eq_true, if_true, this, Bool.true_and]
    by_cases hoq : o = q
    · subst hoq; simp
    · have h1 : Nat.beq o q = false := by
        cases hx : Nat.beq o q with
        | false => rfl
        | true => exact (hoq (Nat.eq_of_beq_eq_true hx)).elim
      have h2 : ((⟨b, o, none⟩ : Addr) == ⟨b, q, none⟩) = false := by
        rw [beq_eq_false_iff_ne]; intro hh; cases hh; exact hoq rfl
      rw [h1, h2]; rfl
  · have h1 : Nat.beq b c = false := by
      cases hx : Nat.beq b c with
      | false => rfl
      | true => exact (hbc (Nat.eq_of_beq_eq_true hx)).elim
    have hf1 : ∀ k, w.frozen? ⟨b, k, none⟩ = false := fun k => by simp [World.frozen?, hb]
    have hf2 : ∀ k, w.frozen? ⟨c, k, none⟩ = false := fun k => by simp [World.frozen?, hc]
    have hs1 : w.shape? b = some (e, l.length) := by simp [World.shape?, hb]
    have hs2 : w.shape? c = some (e', l'.length) := by simp [World.shape?, hc]
    have hne : (b == c) = false := by simpa using hbc
    simp [hne, hf1, hf2, noView, viewAt, hs1, hs2, mayBeOne, stringish, h1]

theorem veqFlat_sound (d : Nat) {l m l' m' : List Value} (hl : VRs ex bs l l') (hm : VRs ex bs m m') : ∀ (fs : List Field) (r : Bool), veqFlat P fs l m = some r → (Op.eqFields (d + 1) ⟨l'⟩ ⟨m'⟩ fs).run P w = .ok r w := by
  intro fs
  induction fs with
  | nil => intro r h; cases h; simp [Op.eqFields]
  | cons f fs ih =>
    intro r h
    unfold veqFlat at h
    have hpart : ∀ (v : Value) (q : List Value), (P.underlying f.type = some .bool ∨ ∃ k, P.underlying f.type = some (.int k)) → q[f.offset]? = some v → (part f.type ⟨q⟩ f.offset).run P w = .ok v w := by
      intro v q hu hq
      rcases hu with hu | ⟨k, hu⟩
      · simp [part, isAgg, run_underlying' hu, hq]
      · simp [part, isAgg, run_underlying' hu, hq]
    split at h
    · rename_i a b q hn hu ha hb hr
      cases h
      have hn : f.name ≠ "_" := by simpa using hn
      obtain ⟨a', ha1, ha2⟩ := hl.get _ _ ha
      obtain ⟨b', hb1, hb2⟩ := hm.get _ _ hb
      cases ha2; cases hb2
      simp only [Op.eqFields, ne_eq, hn, not_false_eq_true, if_true, Sem.run_bind, hpart _ _ (.inl hu) ha1, hpart _ _ (.inl hu) hb1, Result.andThen_ok, run_equalIn_bool' (P := P) w d f.type a b hu, Sem.run_ite, Sem.run_pure, ih _ hr]
      cases a == b <;> simp
    · rename_i k0 k a k' b q hn hu ha hb hr
      split at h
      · rename_i hk
        cases h
        have hk := of_decide_eq_true hk
        subst hk
        have hn : f.name ≠ "_" := by simpa using hn
        obtain ⟨a', ha1, ha2⟩ := hl.get _ _ ha
        obtain ⟨b', hb1, hb2⟩ := hm.get _ _ hb
        cases ha2; cases hb2
        simp only [Op.eqFields, ne_eq, hn, not_false_eq_true, if_true, Sem.run_bind, hpart _ _ (.inr ⟨_, hu⟩) ha1, hpart _ _ (.inr ⟨_, hu⟩) hb1, Result.andThen_ok, run_equalIn_int (P := P) w d f.type k k0 a b hu, Sem.run_ite, Sem.run_pure, ih _ hr]
        cases a == b <;> simp
      · cases h
    · cases h

theorem veq_sound {t : TypeId} {x y : Operand} {u v u' v' : Value} {r : Bool} (hq : veq P t (isConst x || isConst y) u v = some r) (he : Emb ex bs h w) (hu : VR ex bs u u') (hv : VR ex bs v v')
    (op : BinOp) (hop : op = .eql ∨ op = .neq) :
    (eqGuard op t x y u' v').run P w = .ok () w ∧ (Op.equal t u' v').run P w = .ok r w ∧ (∀ k n, u' ≠ .int k n) ∧ (∀ f n, u' ≠ .float f n) ∧ (∀ f n m, u' ≠ .complex f n m) ∧ (∀ s, u' ≠ .string s) := by
  have hd : Op.maxDepth = Op.maxDepth - 1 + 1 := by decide
  unfold veq at hq
  split at hq
  · rename_i a b
    cases hu; cases hv
    split at hq
    · rename_i ht
      cases hq
      have hut : P.underlying t = some .bool := by
        unfold isBoolT at ht; split at ht
        · assumption
        · cases ht
      refine ⟨run_eqGuard_other _ _ _ _ _ _ (fun _ _ h => by cases h.1) (fun h => by cases h.1), ?_, by simp, by simp, by simp, by simp⟩
      unfold Op.equal; rw [hd]; simp [Op.equalIn, run_underlying' hut]
    · cases hq
  · split at hq
    · rename_i ht
      cases hq
      obtain ⟨e, n, h1, h2, h3⟩ := isPtrT_spec ht
      cases hu <;> cases hv <;> exact ⟨run_eqGuard_other _ _ _ _ _ _ (fun _ _ h => by cases h.1) (fun h => by cases h.1), by rw [run_equal_ptr h1 h2 h3]; rfl, by simp, by simp, by simp, by simp⟩
    · cases hq
  · split at hq
    · rename_i ht
      cases hq
      obtain ⟨e, n, h1, h2, h3⟩ := isPtrT_spec ht
      cases hu <;> cases hv <;> exact ⟨run_eqGuard_other _ _ _ _ _ _ (fun _ _ h => by cases h.1) (fun h => by cases h.1), by rw [run_equal_ptr h1 h2 h3]; rfl, by simp, by simp, by simp, by simp⟩
    · cases hq
  · split at hq
    · rename_i ht
      cases hq
      obtain ⟨e, n, h1, h2, h3⟩ := isPtrT_spec ht
      cases hu <;> cases hv <;> exact ⟨run_eqGuard_other _ _ _ _ _ _ (fun _ _ h => by cases h.1) (fun h => by cases h.1), by rw [run_equal_ptr h1 h2 h3], by simp, by simp, by simp, by simp⟩
    · cases hq
  · cases hu; cases hv
    split at hq
    · rename_i ht
      cases hq
      rw [Bool.and_eq_true] at ht
      obtain ⟨ht, hlit⟩ := ht
      obtain ⟨ms, hut⟩ : ∃ ms, P.underlying t = some (.interface ms) := by
        unfold isIfaceT at ht; split at ht
        · rename_i ms hu; exact ⟨ms, hu⟩
        · cases ht
      refine ⟨?_, ?_, by simp, by simp, by simp, by simp⟩
      · rw [Bool.or_eq_true] at hlit
        unfold eqGuard
        cases op <;> simp only [Bool.not_true, Bool.not_false, if_true, Bool.false_eq_true, if_false, Sem.run_bind, Sem.run_pure, Sem.run_ite, Result.andThen_ok] <;> (
          rcases hlit with hl | hl
          · cases x <;> simp [isConst] at hl ⊢
          · cases y <;> simp [isConst] at hl ⊢)
      · unfold Op.equal; rw [hd]; simp [Op.equalIn, run_underlying' hut]
    · cases hq
  · cases hu with | iface _ _ _ _ =>
    cases hv
    split at hq
    · rename_i ht
      cases hq
      obtain ⟨ms, hut⟩ : ∃ ms, P.underlying t = some (.interface ms) := by
        unfold isIfaceT at ht; split at ht
        · rename_i ms hu; exact ⟨ms, hu⟩
        · cases ht
      exact ⟨run_eqGuard_other _ _ _ _ _ _ (fun _ _ h => by cases h.1) (fun h => by cases h.1), by unfold Op.equal; rw [hd]; simp [Op.equalIn, run_underlying' hut], by simp, by simp, by simp, by simp⟩
    · cases hq
  · cases hv with | iface _ _ _ _ =>
    cases hu
    split at hq
    · rename_i ht
      cases hq
      obtain ⟨ms, hut⟩ : ∃ ms, P.underlying t = some (.interface ms) := by
        unfold isIfaceT at ht; split at ht
        · rename_i ms hu; exact ⟨ms, hu⟩
        · cases ht
      exact ⟨run_eqGuard_other _ _ _ _ _ _ (fun _ _ h => by cases h.1) (fun h => by cases h.2), by unfold Op.equal; rw [hd]; simp [Op.equalIn, run_underlying' hut], by simp, by simp, by simp, by simp⟩
    · cases hq
  · cases hu; cases hv
    split at hq
    · rename_i ht
      cases hq
      obtain ⟨e, hut⟩ : ∃ e, P.underlying t = some (.slice e) := by
        unfold isSliceT at ht; split at ht
        · rename_i e hu; exact ⟨e, hu⟩
        · cases ht
      exact ⟨run_eqGuard_other _ _ _ _ _ _ (fun _ _ h => by cases h.1) (fun h => by cases h.1), by unfold Op.equal; rw [hd]; simp [Op.equalIn, run_underlying' hut], by simp, by simp, by simp, by simp⟩
    · cases hq
  · cases hv
    split at hq
    · rename_i ht
      cases hq
      obtain ⟨e, hut⟩ : ∃ e, P.underlying t = some (.slice e) := by
        unfold isSliceT at ht; split at ht
        · rename_i e hu; exact ⟨e, hu⟩
        · cases ht
      cases hu <;> exact ⟨run_eqGuard_other _ _ _ _ _ _ (fun _ _ h => by cases h.1) (fun h => by cases h.1), by unfold Op.equal; rw [hd]; simp [Op.equalIn, run_underlying' hut], by simp, by simp, by simp, by simp⟩
    · cases hq
  · cases hu with | agg l l' hl =>
    cases hv with | agg m m' hm =>
    split at hq
    · rename_i fs hg hp hut
      have hf : P.fieldsOf t = fs := by simp [Program.fieldsOf, hut]
      refine ⟨run_eqGuard_agg w op t x y _ _ hg, ?_, by simp, by simp, by simp, by simp⟩
      have hd2 : Op.maxDepth = 9998 + 1 + 1 := by decide
      unfold Op.equal; rw [hd2, run_equalIn_struct w _ t _ _ (by rw [hf]; exact hut) hp, hf]
      exact veqFlat_sound 9998 hl hm _ _ hq
    · cases hq
  · cases hq

theorem vbin_sound {t : TypeId} {x y : Operand} {op : BinOp} {u v u' v' r : Value} {b : Bool} (hq : vbin P op t (isConst x || isConst y) u v = some (r, b)) (hb : b = true) (he : Emb ex bs h w)
    (hu : VR ex bs u u') (hv : VR ex bs v v') : (eqGuard op t x y u' v').run P w = .ok () w ∧ (binOp op t u' v').run P w = .ok r w ∧ VR ex bs r r := by
  unfold vbin at hq
  split at hq
  · cases hu; cases hv
    cases hq
    refine ⟨run_eqGuard_other _ _ _ _ _ _ (fun _ _ h => by cases h.1) (fun h => by cases h.1), ?_, .int _ _⟩
    rename_i k a _ n
    have hn : ¬ n < 0 := by simpa using hb
    simp [binOp, Op.shift, hn]
  · cases hu; cases hv
    cases hq
    refine ⟨run_eqGuard_other _ _ _ _ _ _ (fun _ _ h => by cases h.1) (fun h => by cases h.1), ?_, .int _ _⟩
    rename_i k a _ n
    have hn : ¬ n < 0 := by simpa using hb
    simp [binOp, Op.shift, hn]
  · cases hu; cases hv
    split at hq
    · rename_i hk
      have hk := of_decide_eq_true hk
      subst hk
      exact ⟨run_eqGuard_other _ _ _ _ _ _ (fun _ _ h => by cases h.1) (fun h => by cases h.1), run_intBin _ _ _ _ hq hb t (by simp)⟩
    · cases hq
  · cases hu; cases hv
    split at hq
    · rename_i hk
      have hk := of_decide_eq_true hk
      subst hk
      exact ⟨run_eqGuard_other _ _ _ _ _ _ (fun _ _ h => by cases h.1) (fun h => by cases h.1), run_intBin _ _ _ _ hq hb t (by simp)⟩
    · cases hq
  · split at hq
    · rename_i r' hr
      cases hq
      obtain ⟨h1, h2, h3, h4, h5, h6⟩ := veq_sound hr he hu hv .eql (.inl rfl)
      refine ⟨h1, ?_, .bool _⟩
      unfold binOp
      cases u' <;> first | exact (h3 _ _ rfl).elim | exact (h4 _ _ rfl).elim | exact (h5 _ _ _ rfl).elim | exact (h6 _ rfl).elim | simp [h2]
    · cases hq
  · split at hq
    · rename_i r' hr
      cases hq
      obtain ⟨h1, h2, h3, h4, h5, h6⟩ := veq_sound hr he hu hv .neq (.inr rfl)
      refine ⟨h1, ?_, .bool _⟩
      unfold binOp
      cases u' <;> first | exact (h3 _ _ rfl).elim | exact (h4 _ _ rfl).elim | exact (h5 _ _ _ rfl).elim | exact (h6 _ rfl).elim | simp [h2]
    · cases hq
  · rename_i h1 h2 h3 h4 h5 h6
    cases hu; cases hv
    split at hq
    · rename_i hk
      have hk := of_decide_eq_true hk
      subst hk
      refine ⟨run_eqGuard_other _ _ _ _ _ _ (fun _ _ h => by cases h.1) (fun h => by cases h.1), run_intBin _ _ _ _ hq hb t ⟨?_, ?_⟩⟩
      · intro h0; subst h0; cases hq
      · intro h0; subst h0; cases hq
    · cases hq
  · cases hq

end
end Go.Vx
