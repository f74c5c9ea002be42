/- The operations that neither look at memory nor change it; those that make a block. -/
import Derived.Test.YtmngemjclljpiaaGreatVxD
namespace Go.Vx

section
variable {P : Program} {w : World} {bs : List Blk} {h : VHeap} {ex : XTab}

theorem VRs.setCells {l l' vs vs' : List Value} (off : Nat) (h : VRs ex bs l l') (hv : VRs ex bs vs vs') : VRs ex bs (setCells l off vs) (setCells l' off vs') := by
  induction vs generalizing l l' vs' off with
  | nil => cases hv; exact h
  | cons v r ih => cases hv with | cons _ _ _ _ hv hr => exact ih _ (h.set off hv) hr

theorem length_setCells (l vs : List Value) (off : Nat) : (setCells l off vs).length = l.length := by
  induction vs generalizing l off with
  | nil => rfl
  | cons v r ih => simp [setCells, ih]

theorem fold_setCells (off : Nat) : ∀ (vs : List Value) (k : Nat) (cs : Array Value),
    ((vs.zipIdx k).foldl (fun cs (x : Value × Nat) => cs.setIfInBounds (off + x.2) x.1) cs).toList = setCells cs.toList (off + k) vs := by
  intro vs
  induction vs with
  | nil => intro k cs; rfl
  | cons v r ih => intro k cs; simp only [List.zipIdx_cons, List.foldl_cons, setCells]; rw [ih]; simp [Nat.add_assoc]

theorem plain_top {v : Value} (h : plain v = true) : isTop v = false := by
  cases v <;> first | rfl | (simp [plain, plain1] at h)

theorem vfill_sound {place : Nat → Option (Nat × Nat)} : ∀ (parts parts' : List (Nat × Value)) (l l' r : List Value), VRs ex bs l l' → parts.map (·.1) = parts'.map (·.1) → VRs ex bs (parts.map (·.2)) (parts'.map (·.2)) →
    vfill place l parts = some r → ∃ r', Instr.fill place ⟨l'⟩ parts' = some ⟨r'⟩ ∧ VRs ex bs r r' := by
  intro parts
  induction parts with
  | nil =>
    intro parts' l l' r hl h1 _ hr
    cases parts' with
    | nil => cases hr; exact ⟨l', rfl, hl⟩
    | cons => simp at h1
  | cons p rest ih =>
    intro parts' l l' r hl h1 h2 hr
    cases parts' with
    | nil => simp at h1
    | cons p' rest' =>
      obtain ⟨i, v⟩ := p
      obtain ⟨i', v'⟩ := p'
      simp only [List.map_cons, List.cons.injEq] at h1
      obtain ⟨rfl, h1⟩ := h1
      simp only [List.map_cons] at h2
      cases h2 with | cons _ _ _ _ hv hs =>
      simp only [vfill] at hr
      simp only [Instr.fill]
      cases hp : place i with
      | none => rw [hp] at hr; cases hr
      | some q =>
        obtain ⟨off, size⟩ := q
        rw [hp] at hr
        simp only at hr ⊢
        split at hr
        · rename_i hc
          rw [Bool.and_eq_true, Bool.and_eq_true] at hc
          obtain ⟨hc, ht⟩ := hc
          have ht : isTop v = false := by simpa using ht
          have c1 := Nat.eq_of_beq_eq_true hc.1
          have c2 := Nat.le_of_ble_eq_true hc.2
          have e1 : v'.cells.size = v.cells.toList.length := by rw [← Array.length_toList, (hv.cells ht).length]
          have e2 : l'.length = l.length := hl.length.symm
          have hneg : ¬ (decide (v'.cells.size ≠ size) || decide (off + v'.cells.size > (⟨l'⟩ : Array Value).size)) = true := by
            simp [e1, c1, e2]; omega
          rw [if_neg hneg]
          have hcells : Array.foldl (fun (cs : Array Value) (x : Value × Nat) => cs.setIfInBounds (off + x.2) x.1) (⟨l'⟩ : Array Value) v'.cells.zipIdx = (⟨setCells l' off v'.cells.toList⟩ : Array Value) := by
            apply Array.ext'
            have := fold_setCells off v'.cells.toList 0 ⟨l'⟩
            simp only [Nat.add_zero] at this
            rw [← this, ← Array.foldl_toList, Array.toList_zipIdx]
          rw [hcells]
          exact ih rest' _ _ r (hl.setCells off (hv.cells ht)) h1 hs hr
        · cases hr

theorem vpart_sound {t : TypeId} {l l' : List Value} {off : Nat} {v : Value} (hv : vpart P t l off = some v) (hl : VRs ex bs l l') :
    ∃ v', (part t ⟨l'⟩ off).run P w = .ok v' w ∧ VR ex bs v v' := by
  unfold vpart at hv
  split at hv
  · rename_i ha
    split at hv
    · rename_i n hn
      cases hv
      have : (Array.extract ⟨l'⟩ off (off + n)) = ⟨(l'.take (off + n)).drop off⟩ := by
        apply Array.ext'; simp [List.extract_eq_take_drop, List.take_drop]
      refine ⟨.agg ⟨(l'.take (off + n)).drop off⟩, by simp only [part, Sem.run_bind, run_aggT ha, run_sizeT hn, Result.andThen_ok, if_true, Sem.run_pure, this], ?_⟩
      exact .agg _ _ ((hl.take _).drop _)
    · cases hv
  · rename_i ha
    obtain ⟨v', h1, h2⟩ := hl.get off v hv
    exact ⟨v', by simp [part, run_aggT ha, h1], h2⟩
  · cases hv

theorem places_sound : ∀ (fs : List Field) (l : List (Nat × Nat)), places P fs = some l →
    (fs.mapM fun f => do pure (f.offset, ← sizeOf f.type) : Sem (List (Nat × Nat))).run P w = .ok l w := by
  intro fs
  induction fs with
  | nil => intro l h; cases h; simp
  | cons f r ih =>
    intro l h
    unfold places at h
    split at h
    · rename_i n hn
      split at h
      · rename_i l' hl'
        cases h
        have := ih l' hl'
        simp only [List.mapM_cons, Sem.run_bind, run_sizeT hn, Result.andThen_ok, Sem.run_pure, this]
      · cases h
    · cases h

theorem fieldOf_spec {s : TypeId} {i : Nat} {f : Field} (h : fieldOf P s i = some f) : ∃ fs, P.underlying s = some (.struct fs) ∧ fs[i]? = some f := by
  unfold fieldOf at h
  split at h
  · rename_i fs hu; exact ⟨fs, hu, by simpa using h⟩
  · cases h

theorem VRs.map_operands {ρ ρ' : Operand → Value} (l : List Operand) (h : ∀ x ∈ l, VR ex bs (ρ x) (ρ' x)) : VRs ex bs (l.map ρ) (l.map ρ') := VRs.map _ _ _ h

set_option maxHeartbeats 1000000 in
theorem vopS_sound {cfg : Cfg} (hs : cfg.Sound P) {ρ ρ' : Operand → Value} {o : Oper} {v : Value} {b : Bool} (hv : vopS P cfg ρ o.op = some (v, b)) (hb : b = true) (he : Emb ex bs h w)
    (hρ : ∀ x ∈ o.op.operands, VR ex bs (ρ x) (ρ' x)) : ∃ v', (execOp ρ' o).run P w = .ok (.value v') w ∧ VR ex bs v v' := by
  obtain ⟨dst, op, type, pos, after, guard⟩ := o
  simp only at hv hρ
  unfold vopS at hv
  split at hv
  · cases hv; exact ⟨_, rfl, hρ _ (by simp [Op.operands])⟩
  · cases hv; exact ⟨_, rfl, hρ _ (by simp [Op.operands])⟩
  · rename_i c x y
    have hc := hρ c (by simp [Op.operands])
    have hx := hρ x (by simp [Op.operands])
    have hy := hρ y (by simp [Op.operands])
    split at hv
    · rename_i e; cases hv; rw [e] at hc
      generalize hz : ρ' c = z at hc
      cases hc
      exact ⟨_, by simp [execOp, hz, asBool], hx⟩
    · rename_i e; cases hv; rw [e] at hc
      generalize hz : ρ' c = z at hc
      cases hc
      exact ⟨_, by simp [execOp, hz, asBool], hy⟩
    · cases hv
  · rename_i x
    have hx := hρ x (by simp [Op.operands])
    split at hv
    · rename_i a e; cases hv; rw [e] at hx
      generalize hz : ρ' x = z at hx
      cases hx with
      | ptr i off c h => exact ⟨.pointer (some ⟨c.1, off, none⟩), by simp [execOp, hz], .ptr i off c h⟩
      | fptr k off r h => exact ⟨.pointer (some ⟨r.b, off, none⟩), by simp [execOp, hz], .fptr k off r h⟩
    · cases hv
  · rename_i bop t x y yt
    have hx := hρ x (by simp [Op.operands])
    have hy := hρ y (by simp [Op.operands])
    obtain ⟨h1, h2, h3⟩ := vbin_sound (x := x) (y := y) hv hb he hx hy
    exact ⟨v, by simp [execOp, h1, h2], h3⟩
  · rename_i t x
    have hx := hρ x (by simp [Op.operands])
    split at hv
    · rename_i r e; cases hv; rw [e] at hx
      generalize hz : ρ' x = z at hx
      cases hx
      exact ⟨_, by simp [execOp, hz, Op.unary], .bool _⟩
    · cases hv
  · rename_i t x
    have hx := hρ x (by simp [Op.operands])
    split at hv
    · rename_i k n e; cases hv; rw [e] at hx
      generalize hz : ρ' x = z at hx
      cases hx
      exact ⟨.int k (k.wrap (0 - n)), by simp only [execOp, hz, Op.unary, Op.intArith, Sem.run_bind, Sem.run_pure, Result.andThen_ok], .int _ _⟩
    · cases hv
  · rename_i src dst' x
    have hx := hρ x (by simp [Op.operands])
    split at hv
    · rename_i k0 k k1 n e1 e2 e; cases hv; rw [e] at hx
      generalize hz : ρ' x = z at hx
      cases hx
      exact ⟨_, by simp [execOp, hz, convert, run_underlying' e1, run_underlying' e2, Conv.intToInt], .int _ _⟩
    · cases hv
  · rename_i t x
    have hx := hρ x (by simp [Op.operands])
    split at hv
    · rename_i e hu; cases hv
      exact ⟨_, by simp [execOp, Instr.makeInterface, run_underlying' hu], .iface _ _ _ hx⟩
    · cases hv
  · rename_i f a c
    cases hv
    have h1 : a.map ρ' = ⟨a.toList.map ρ'⟩ := by apply Array.ext'; simp
    have h2 : c.map ρ' = ⟨c.toList.map ρ'⟩ := by apply Array.ext'; simp
    refine ⟨_, by simp only [execOp, Instr.makeFunc, Sem.run_bind, Sem.run_pure, Result.andThen_ok]; rfl, ?_⟩
    rw [h1, h2]
    exact .func _ _ _ _ _ (VRs.map_operands _ fun x hx => hρ x (by simp only [Op.operands]; simp at hx ⊢; exact .inl hx)) (VRs.map_operands _ fun x hx => hρ x (by simp only [Op.operands]; simp at hx ⊢; exact .inr hx))
  · rename_i s x i
    have hx := hρ x (by simp [Op.operands])
    split at hv
    · rename_i f j off sp e1 e
      rw [e] at hx
      generalize hz : ρ' x = z at hx
      obtain ⟨fs, hu, hf⟩ := fieldOf_spec e1
      split at hv
      · cases hv
      · rename_i n hne hn
        cases hv
        have hn0 : n ≠ 0 := fun h0 => by subst h0; exact hne rfl
        have hadd : ∀ c : Nat, Addr.add ⟨c, off, none⟩ f.offset = ⟨c, off + f.offset, none⟩ := by
          intro c; unfold Addr.add; split <;> simp_all
        cases hx with
        | ptr _ _ c hc =>
          refine ⟨.pointer (some ⟨c.1, off + f.offset, none⟩), ?_, .ptr _ _ _ hc⟩
          simp [execOp, hz, Instr.fieldAt, run_underlying' hu, hf, Instr.sureAddr, fieldPlace, run_sizeT hn, hn0, hadd]
        | fptr k _ r hr =>
          refine ⟨.pointer (some ⟨r.b, off + f.offset, none⟩), ?_, .fptr _ _ _ hr⟩
          simp [execOp, hz, Instr.fieldAt, run_underlying' hu, hf, Instr.sureAddr, fieldPlace, run_sizeT hn, hn0, hadd]
      · cases hv
    · cases hv
  · rename_i s x i
    have hx := hρ x (by simp [Op.operands])
    split at hv
    · rename_i f l e1 e
      rw [e] at hx
      generalize hz : ρ' x = z at hx
      cases hx with | agg _ l' hl =>
      obtain ⟨fs, hu, hf⟩ := fieldOf_spec e1
      split at hv
      · rename_i u hu'
        cases hv
        obtain ⟨v', h1, h2⟩ := vpart_sound (w := w) hu' hl
        exact ⟨v', by simp [execOp, hz, Instr.field, run_underlying' hu, hf, asAgg, h1], h2⟩
      · cases hv
    · cases hv
  · rename_i t x i
    have hx := hρ x (by simp [Op.operands])
    have hi := hρ i (by simp [Op.operands])
    split at hv
    · rename_i e j off sp n cap kk k hu e1 e2
      rw [e1] at hx
      rw [e2] at hi
      generalize hz : ρ' x = z at hx
      generalize hz2 : ρ' i = z2 at hi
      cases hi
      split at hv
      · rename_i m hm
        cases hv
        have hk : 0 ≤ k ∧ k < n := by simpa using hb
        have hadd : ∀ c : Nat, Addr.add ⟨c, off, none⟩ (k.toNat * m) = ⟨c, off + k.toNat * m, none⟩ := by
          intro c
          unfold Addr.add; split
          · rename_i h0; rw [h0]; rfl
          · rfl
        cases hx with
        | slice _ _ _ _ c' c hc _ _ =>
          refine ⟨.pointer (some ⟨c.1, off + k.toNat * m, none⟩), ?_, .ptr _ _ _ hc⟩
          simp [execOp, hz, hz2, Instr.indexAt, asIntOf, run_underlying' hu, hk, run_sizeT hm, hadd]
        | fslice kk _ _ _ c' r hr =>
          refine ⟨.pointer (some ⟨r.b, off + k.toNat * m, none⟩), ?_, .fptr _ _ _ hr⟩
          simp [execOp, hz, hz2, Instr.indexAt, asIntOf, run_underlying' hu, hk, run_sizeT hm, hadd]
        | fnil => omega
      · cases hv
    · cases hv
  · rename_i x i
    have hx := hρ x (by simp [Op.operands])
    split at hv
    · rename_i l e
      rw [e] at hx
      generalize hz : ρ' x = z at hx
      cases hx with | tuple _ l' hl =>
      split at hv
      · rename_i u hu
        cases hv
        obtain ⟨v', h1, h2⟩ := hl.get i _ hu
        exact ⟨v', by simp [execOp, hz, Instr.extract, h1], h2⟩
      · cases hv
    · cases hv
  · rename_i t parts
    split at hv
    · rename_i fs z hu hz
      split at hv
      · rename_i ps hps
        split at hv
        · rename_i l hl
          cases hv
          obtain ⟨hz1, hz2⟩ := run_zeroT (w := w) hz
          have hm := places_sound (w := w) _ _ hps
          have hfill := vfill_sound (ex := ex) (bs := bs) (place := fun i => ps[i]?) (parts.toList.map fun p => (p.1, ρ p.2)) (parts.toList.map fun p => (p.1, ρ' p.2)) z.cells.toList z.cells.toList l
            ((VR.plain hz2).cells (plain_top hz2)) (by simp) (by
              simp only [List.map_map]
              refine VRs.map _ _ _ fun p hp => ?_
              exact hρ p.2 (by simp only [Op.operands, List.mem_toArray, List.mem_map]; exact ⟨p, hp, rfl⟩)) hl
          obtain ⟨r', hr1, hr2⟩ := hfill
          refine ⟨.agg ⟨r'⟩, ?_, .agg _ _ hr2⟩
          have hmap : (fs.mapM fun f => do pure (f.offset, ← sizeOf f.type) : Sem (Array (Nat × Nat))).run P w = .ok ps.toArray w := by
            rw [Array.mapM_eq_mapM_toList]
            simp only [Sem.run_map, hm, Result.andThen_ok]
          simp only [execOp, Instr.build, Sem.run_bind, hz1, Result.andThen_ok, run_underlying' hu, hmap]
          have hpl : (fun x : Nat => ps.toArray[x]?) = fun i => ps[i]? := by funext x; simp
          have hpp : (Array.map (fun x : Nat × Operand => match x with | (i, x) => (i, ρ' x)) parts).toList = parts.toList.map fun p => (p.1, ρ' p.2) := by simp
          rw [hpl, hpp, hr1]
          rfl
        · cases hv
      · cases hv
    · cases hv
  · rename_i x xt a
    have hx := hρ x (by simp [Op.operands])
    split at hv
    · rename_i ms z hu hz e
      cases hv
      rw [e] at hx
      generalize hzz : ρ' x = zz at hx
      cases hx
      obtain ⟨hz1, hz2⟩ := run_zeroT (w := w) hz
      refine ⟨.tuple ⟨[z, .bool false]⟩, ?_, .tuple _ _ (.cons _ _ _ _ (.plain hz2) (.cons _ _ _ _ (.bool _) .nil))⟩
      simp [execOp, hzz, Instr.typeAssert, run_underlying' hu, hz1]
    · rename_i ms z t u hu hz e
      rw [e] at hx
      generalize hzz : ρ' x = zz at hx
      cases hx with | iface _ _ u' hu' =>
      obtain ⟨hz1, hz2⟩ := run_zeroT (w := w) hz
      split at hv
      · rename_i hass
        cases hv
        obtain ⟨ms', i, g1, g2, g3⟩ := hs.asserts _ _ _ hass
        rw [hu] at g1; cases g1
        refine ⟨.tuple ⟨[.iface t u', .bool true]⟩, ?_, .tuple _ _ (.cons _ _ _ _ (.iface _ _ _ hu') (.cons _ _ _ _ (.bool _) .nil))⟩
        have : Instr.missingMethod ms i.methods = none := by simpa using g3
        simp [execOp, hzz, Instr.typeAssert, run_underlying' hu, run_typeInfo' g2, this]
      · rename_i hass
        cases hv
        obtain ⟨ms', i, g1, g2, g3⟩ := hs.asserts _ _ _ hass
        rw [hu] at g1; cases g1
        refine ⟨.tuple ⟨[z, .bool false]⟩, ?_, .tuple _ _ (.cons _ _ _ _ (.plain hz2) (.cons _ _ _ _ (.bool _) .nil))⟩
        obtain ⟨m, hm⟩ : ∃ m, Instr.missingMethod ms i.methods = some m := by
          cases hx : Instr.missingMethod ms i.methods with
          | none => rw [hx] at g3; cases g3
          | some m => exact ⟨m, rfl⟩
        simp [execOp, hzz, Instr.typeAssert, run_underlying' hu, run_typeInfo' g2, hm, hz1]
      · cases hv
    · cases hv
  · rename_i args argTypes
    split at hv
    · rename_i t _ x _ ht hx
      have hx0 : args[0]? = some x := by rw [← Array.getElem?_toList, hx]; rfl
      have ht0 : argTypes[0]? = some t := by rw [← Array.getElem?_toList, ht]; rfl
      have hr := hρ x (by simp only [Op.operands, Call.operands]; simp; exact Array.mem_of_getElem? hx0)
      split at hv
      · rename_i e a n c hu e1
        cases hv
        rw [e1] at hr
        generalize hzz : ρ' x = zz at hr
        have hlen : ∀ a' c', ρ' x = .slice a' n c' → (Builtin.len_ argTypes type (args.map ρ')).run P w = .ok (.int .i64 n) w := by
          intro a' c' hq
          simp [Builtin.len_, ht0, hx0, hq, run_underlying' hu, goInt]
        have hfin : ∀ a' c', ρ' x = .slice a' n c' → ∃ v', (execOp ρ' { dst := dst, op := .call { callee := .builtin .len, args, argTypes }, type := type, pos := pos, after := after, guard := guard }).run P w = .ok (.value v') w ∧ VR ex bs (.int .i64 n) v' := by
          intro a' c' hq
          exact ⟨.int .i64 n, by simp [execOp, resolve, invoke, builtin, hlen a' c' hq], .int _ _⟩
        cases hr with
        | fslice k o _ _ c' r _ => exact hfin _ _ hzz
        | fnil => exact hfin _ _ hzz
        | nilSlice => exact hfin _ _ hzz
        | slice _ o _ _ c' b' _ _ _ => exact hfin _ _ hzz
      · cases hv
    · cases hv
  · rename_i args argTypes
    have hargs : VRs ex bs (args.toList.map ρ) (args.toList.map ρ') := VRs.map_operands _ fun x hx => hρ x (by simp only [Op.operands, Call.operands]; simp at hx ⊢; exact hx)
    split at hv
    · rename_i k x k2 y hl
      cases hv
      rw [hl] at hargs
      generalize hzz : args.toList.map ρ' = zz at hargs
      cases hargs with | cons _ _ _ _ h1 h2 =>
      cases h2 with | cons _ _ _ _ h2 h3 =>
      cases h3; cases h1; cases h2
      refine ⟨.int k (if y < x then y else x), ?_, .int _ _⟩
      simp [execOp, resolve, invoke, builtin, Builtin.min_, hzz, Builtin.min2]
    · rename_i k x k2 y k3 z hl
      cases hv
      rw [hl] at hargs
      generalize hzz : args.toList.map ρ' = zz at hargs
      cases hargs with | cons _ _ _ _ h1 h2 =>
      cases h2 with | cons _ _ _ _ h2 h3 =>
      cases h3 with | cons _ _ _ _ h3 h4 =>
      cases h4; cases h1; cases h2; cases h3
      refine ⟨_, ?_, .int _ _⟩
      simp [execOp, resolve, invoke, builtin, Builtin.min_, hzz, Builtin.min2]
    · cases hv
  · cases hv

theorem zeroCells_length (z : List Value) (n : Nat) : (zeroCells z n).length = n * z.length := by
  induction n with
  | zero => simp [zeroCells]
  | succ n ih => simp [zeroCells, ih, Nat.add_mul]; omega

theorem zeroCells_get (z : List Value) : ∀ (n i : Nat), i < n * z.length → (zeroCells z n)[i]? = z[i % z.length]? := by
  intro n
  induction n with
  | zero => intro i hi; simp at hi
  | succ n ih =>
    intro i hi
    simp only [zeroCells]
    rcases Nat.lt_or_ge i z.length with h | h
    · rw [List.getElem?_append_left h, Nat.mod_eq_of_lt h]
    · rw [List.getElem?_append_right h, ih _ (by rw [Nat.add_mul] at hi; omega), Nat.mod_eq_sub_mod h]

theorem plainAll_get {l : List Value} (h : plainAll l = true) (v : Value) (hv : v ∈ l) : plain1 v = true := by
  induction l with
  | nil => cases hv
  | cons u r ih =>
    unfold plainAll at h
    cases hp : plain1 u <;> simp [hp] at h
    rcases List.mem_cons.1 hv with rfl | hv
    · exact hp
    · exact ih h hv

theorem plain_cells {z : Value} (h : plain z = true) : plainAll z.cells.toList = true := by
  cases z
  case agg l => exact h
  case tuple l => simp [plain, plain1] at h
  all_goals (simp only [Value.cells, plainAll]; simp only [plain] at h; rw [h])

theorem range_zero (z : Array Value) (n : Nat) : ((Array.range (n * z.size)).map fun i => z[i % z.size]!) = ⟨zeroCells z.toList n⟩ := by
  apply Array.ext'
  simp only [Array.toList_map, Array.toList_range]
  apply List.ext_getElem?
  intro i
  rw [List.getElem?_map]
  rcases Nat.lt_or_ge i (n * z.size) with h | h
  · rw [List.getElem?_range h, zeroCells_get _ _ _ (by simpa using h)]
    have hz : 0 < z.size := by
      rcases Nat.eq_zero_or_pos z.size with h0 | h0
      · rw [h0] at h; simp at h
      · exact h0
    have hlt : i % z.size < z.size := Nat.mod_lt _ hz
    simp [hlt]
  · rw [List.getElem?_eq_none (by simpa using h), List.getElem?_eq_none (by rw [zeroCells_length]; simpa using h)]; rfl

def newValue (i : Nat) : Made → Value
  | .ptr => .pointer (some ⟨i, 0, none⟩)
  | .slice n sz => .slice (some ⟨i, 0, none⟩) n sz

theorem intT_spec {t : TypeId} {k : IntKind} (h : intT? P t = some k) : P.underlying t = some (.int k) := by
  unfold intT? at h; split at h
  · cases h; assumption
  · cases h

theorem bytesT_spec {t : TypeId} {n : Nat} (h : bytesT P t = some n) : ∃ i, P.info? t = some i ∧ i.bytes = n := by
  unfold bytesT at h; split at h
  · rename_i i hi; cases h; exact ⟨i, hi, rfl⟩
  · cases h

theorem vopN_sound {ρ ρ' : Operand → Value} {o : Oper} {ob : VObj} {m : Made} {b : Bool} (hv : vopN P ρ o.op = some (ob, m, b)) (hb : b = true) (hρ : ∀ x ∈ o.op.operands, VR ex bs (ρ x) (ρ' x)) :
    ∃ l' e v', (execOp ρ' o).run P w = .ok (.value v') { w with heap := w.heap.push (.cells ⟨l'⟩ e) } ∧
      (∀ w' : World, w'.heap[w.heap.size]? = some (.cells ⟨l'⟩ e) → Holds ex bs w' ⟨w.heap.size, l'.length, []⟩ ob) ∧ ∀ (bs' : List Blk) (i : Nat), bs'[i]? = some ⟨w.heap.size, l'.length, []⟩ → VR ex bs' (newValue i m) v' := by
  obtain ⟨dst, op, type, pos, after, guard⟩ := o
  simp only at hv hρ
  unfold vopN at hv
  split at hv
  · rename_i t'
    split at hv
    · rename_i z hz
      cases hv
      obtain ⟨hz1, hz2⟩ := run_zeroT (w := w) hz
      refine ⟨z.cells.toList, t', .pointer (some ⟨w.heap.size, 0, none⟩), ?_, fun w' hw => ⟨z.cells.toList, [], _, by simpa using hw, by simp, (VR.plain hz2).cells (plain_top hz2)⟩, fun bs' i hi => .ptr i 0 _ hi⟩
      simp [execOp, Instr.alloc, hz1, newVar, newRow]
    · cases hv
  · rename_i t' x
    split at hv
    case h_2 => cases hv
    rename_i htp
    cases hv
    refine ⟨(ρ' x).cells.toList, t', .pointer (some ⟨w.heap.size, 0, none⟩), ?_, fun w' hw => ⟨(ρ' x).cells.toList, [], _, by simpa using hw, by simp, (hρ x (by simp [Op.operands])).cells htp⟩, fun bs' i hi => .ptr i 0 _ hi⟩
    simp [execOp, Instr.box, newVar, newRow]
  · rename_i t' len parts
    split at hv
    · rename_i e hu
      split at hv
      · rename_i m z hm hz
        split at hv
        · rename_i hc
          split at hv
          · rename_i r hr
            cases hv
            rw [Bool.and_eq_true] at hc
            have c1 := Nat.eq_of_beq_eq_true hc.1
            have c2 := Nat.le_of_ble_eq_true hc.2
            obtain ⟨hz1, hz2⟩ := run_zeroT (w := w) hz
            have c1' : z.cells.size = m := by simpa using c1
            have hzc : VRs ex bs (zeroCells z.cells.toList len) (zeroCells z.cells.toList len) := by
              refine VRs.of_get rfl fun i v v' h1 h2 => ?_
              rw [h1] at h2; cases h2
              have hi : i < len * z.cells.toList.length := by
                rw [← zeroCells_length]; exact (List.getElem?_eq_some_iff.1 h1).1
              rw [zeroCells_get _ _ _ hi] at h1
              exact .plain1 (plainAll_get (plain_cells hz2) _ (List.mem_of_getElem? h1))
            have hfill := vfill_sound (ex := ex) (bs := bs) (place := fun i => some (i * m, m)) (parts.toList.map fun p => (p.1, ρ p.2)) (parts.toList.map fun p => (p.1, ρ' p.2)) _ _ r
              hzc (by simp) (by
                simp only [List.map_map]
                refine VRs.map _ _ _ fun p hp => ?_
                exact hρ p.2 (by simp only [Op.operands, List.mem_toArray, List.mem_map]; exact ⟨p, hp, rfl⟩)) hr
            obtain ⟨r', hr1, hr2⟩ := hfill
            have hrl : r.length = len * m := by
              have : ∀ (ps : List (Nat × Value)) (l r : List Value), vfill (fun i => some (i * m, m)) l ps = some r → r.length = l.length := by
                intro ps
                induction ps with
                | nil => intro l r h; cases h; rfl
                | cons p ps ih =>
                  intro l r h
                  simp only [vfill] at h
                  split at h
                  · have := ih _ _ h; rw [this, length_setCells]
                  · cases h
              rw [this _ _ _ hr, zeroCells_length, c1]
            refine ⟨r', e, .slice (some ⟨w.heap.size, 0, none⟩) len len, ?_, fun w' hw => ⟨r', [], _, by simpa using hw, by simp, hr2⟩, fun bs' i hi => .slice i 0 len m len _ hi (by simp only [Nat.zero_add]; rw [← hr2.length, hrl]; exact Nat.le_refl _) (Nat.le_refl _)⟩
            have hpp : (Array.map (fun x : Nat × Operand => match x with | (i, x) => (i, ρ' x)) parts).toList = parts.toList.map fun p => (p.1, ρ' p.2) := by simp
            have hlim : ¬ len * m > 2 ^ 24 := by omega
            simp only [execOp, Instr.buildSlice, Sem.run_bind, run_underlying' hu, Result.andThen_ok, run_sizeT hm, if_neg hlim, Sem.run_pure, hpp]
            by_cases h0 : len * m = 0
            · rw [if_pos h0]
              have hz0 : zeroCells z.cells.toList len = [] := by
                apply List.eq_nil_of_length_eq_zero; rw [zeroCells_length, c1, h0]
              rw [hz0] at hr1
              have : ((Array.range (len * m)).map fun i => (#[] : Array Value)[i % (#[] : Array Value).size]!) = ⟨[]⟩ := by
                rw [h0]; simp
              simp only [Sem.run_pure, Result.andThen_ok, this, hr1, Sem.run_bind]
              simp [newRow]
            · rw [if_neg h0]
              simp only [Sem.run_bind, hz1, Result.andThen_ok, Sem.run_pure]
              have := range_zero z.cells len
              rw [c1'] at this
              rw [c1', this, hr1]
              simp [newRow]
          · cases hv
        · cases hv
      · cases hv
    · cases hv
  · rename_i t' l c
    have hl := hρ l (by simp [Op.operands])
    split at hv
    · rename_i e n n2 hu e1 e2
      split at hv
      · rename_i k by' k' hk hs hby hz
        split at hv
        · rename_i hc
          cases hv
          simp only [Bool.and_eq_true] at hc
          obtain ⟨⟨hc1, hc2⟩, hc3⟩ := hc
          have hkk := of_decide_eq_true hc2
          subst hkk
          have hc3 := Nat.le_of_ble_eq_true hc3
          have hlc : l = c := by
            unfold vopN.isSame at hc1
            split at hc1
            · rw [Nat.eq_of_beq_eq_true hc1]
            · cases hc1
          subst hlc
          have hn : 0 ≤ n ∧ n ≤ 1000000 := of_decide_eq_true hb
          rw [e1] at hl
          generalize hzz : ρ' l = zz at hl
          cases hl
          obtain ⟨inf, hi1, hi2⟩ := bytesT_spec hby
          obtain ⟨hz1, _⟩ := run_zeroT (w := w) hz
          have hwrap : IntKind.i64.wrap n = n := by
            unfold IntKind.wrap; simp [IntKind.bits, IntKind.signed]; omega
          refine ⟨List.replicate n.toNat (.int k 0), e, .slice (some ⟨w.heap.size, 0, none⟩) n.toNat n.toNat, ?_, fun w' hw => ⟨_, _, hw, rfl, by simp, fun i hi => by simp [hi]⟩, fun bs' i hi => .slice i 0 _ 1 _ _ hi (by simp) (Nat.le_refl _)⟩
          have hsm : ¬ (((inf.bytes : Nat) : Int) * n > 2 ^ 48) := by
            rw [hi2]
            have : (by' : Int) * n ≤ 8 * 1000000 := by
              have h1 : (by' : Int) ≤ 8 := by omega
              calc (by' : Int) * n ≤ 8 * n := Int.mul_le_mul_of_nonneg_right h1 hn.1
                _ ≤ 8 * 1000000 := by omega
            omega
          have hneg : ¬ n < 0 := by omega
          simp only [execOp, Instr.makeSlice, hzz, Sem.run_bind, run_underlying' hu, Result.andThen_ok, asInt, asIntOf, Sem.run_pure, run_typeInfo' hi1, hwrap]
          have hrange : (Array.map (fun i => #[Value.int k 0][i % (#[Value.int k 0] : Array Value).size]!) (Array.range n.toNat)) = (⟨List.replicate n.toNat (.int k 0)⟩ : Array Value) := by
            apply Array.ext'
            simp only [Array.toList_map, Array.toList_range]
            apply List.ext_getElem?
            intro i
            rcases Nat.lt_or_ge i n.toNat with h | h
            · simp [List.getElem?_range h, h, Nat.mod_one]
            · rw [List.getElem?_eq_none (by simpa using h), List.getElem?_eq_none (by simpa using h)]
          have hcells : (Value.int k 0).cells = #[.int k 0] := rfl
          rw [if_neg (by simp [hneg]; omega)]
          simp only [Sem.run_bind, run_askRoom, run_sizeT hs, Result.andThen_ok, Nat.mul_one]
          by_cases h0 : n.toNat = 0
          · rw [if_pos h0]
            have h9 : (Array.map (fun i => (#[] : Array Value)[i % (#[] : Array Value).size]!) (Array.range n.toNat)) = (⟨List.replicate n.toNat (.int k 0)⟩ : Array Value) := by
              rw [h0]; simp
            simp only [Sem.run_pure, Result.andThen_ok, Sem.run_bind, newRow, run_newObj, h9]
          · rw [if_neg h0]
            simp only [Sem.run_bind, hz1, Result.andThen_ok, Sem.run_pure, hcells, newRow, run_newObj]
            rw [hrange]
        · cases hv
      · cases hv
    · cases hv
  · cases hv

end
end Go.Vx
