/- What an operation does to the virtual heap it does to memory. -/
import Derived.Test.YtmngemjclljpiaaGreatVxB
namespace Go.Vx

structure Cfg.Sound (P : Program) (cfg : Cfg) : Prop where
  call : ∀ f, cfg.callable f = true → ∀ args w, (callFunc f args).run P w = .ok (.enter f args) w
  meth : ∀ t name f, cfg.meth t name = some f → ∃ i m e, P.info? t = some i ∧ i.methods.find? (fun m => m.name == name) = some m ∧ m.path = #[] ∧ m.func = some (f, true) ∧ P.underlying t = some (.pointer e)
  asserts : ∀ a t b, cfg.asserts a t = some b → ∃ ms i, P.underlying a = some (.interface ms) ∧ P.info? t = some i ∧ (Instr.missingMethod ms i.methods).isNone = b
  mixed : P.follows .mixedOrders = true

section
variable {P : Program} {w : World} {bs : List Blk} {h : VHeap} {ex : XTab}

theorem run_underlying' {t : TypeId} {d : TypeDesc} (hu : P.underlying t = some d) : (underlying t).run P w = .ok d w := by
  simp [underlying, hu]
theorem run_typeInfo' {t : TypeId} {i : TypeInfo} (hi : P.info? t = some i) : (typeInfo t).run P w = .ok i w := by
  simp [typeInfo, hi]
theorem run_sizeT {t : TypeId} {n : Nat} (hs : sizeT P t = some n) : (sizeOf t).run P w = .ok n w := by
  unfold sizeT at hs; split at hs
  · rename_i i hi; cases hs; simp [sizeOf, run_typeInfo' hi]
  · cases hs
theorem run_zeroT {t : TypeId} {z : Value} (hs : zeroT P t = some z) : (zeroValue t).run P w = .ok z w ∧ plain z = true := by
  unfold zeroT at hs
  split at hs
  · rename_i i hi
    split at hs
    · rename_i v hv
      split at hs
      · rename_i hp; cases hs; exact ⟨by simp [zeroValue, run_typeInfo' hi, hv], hp⟩
      · cases hs
    · cases hs
  · cases hs
theorem run_aggT {t : TypeId} {b : Bool} (hs : aggT P t = some b) : (isAgg t).run P w = .ok b w := by
  unfold aggT at hs
  cases hu : P.underlying t with
  | none => rw [hu] at hs; cases hs
  | some d =>
    rw [hu] at hs
    simp only [isAgg, Sem.run_bind, run_underlying' hu, Result.andThen_ok]
    cases d <;> (cases hs; rfl)

/-- Reading cells one behind the other. -/
theorem run_loadCellsFrom (a : Addr) (ha : a.spot = none) (l : List Value) (w : World) (hw : ∀ i, i < l.length → w.cell? ⟨a.block, a.off + i, none⟩ = l[i]?) :
    ∀ (n i : Nat) (acc : Array Value), i + n ≤ l.length → (loadCellsFrom a i n acc).run P w = .ok (acc ++ ((l.drop i).take n).toArray) w := by
  intro n
  induction n with
  | zero => intro i acc _; simp [loadCellsFrom]
  | succ n ih =>
    intro i acc hi
    have hlt : i < l.length := by omega
    have hadd : a.add i = ⟨a.block, a.off + i, none⟩ := by
      cases a with
      | mk b o s => simp only at ha; subst ha; unfold Addr.add; split <;> simp_all
    have hc : w.cell? (a.add i) = some l[i] := by rw [hadd, hw i hlt, List.getElem?_eq_getElem hlt]
    simp only [loadCellsFrom, Sem.run_bind, run_load, hc, Result.andThen_ok]
    rw [ih (i + 1) _ (by omega)]
    congr 1
    rw [List.drop_eq_getElem_cons hlt, List.take_succ_cons]
    simp

theorem cell_of_heap {b off : Nat} {l : List Value} {e : TypeId} {f : Nat × Nat} (hb : w.heap[b]? = some (.cells ⟨l⟩ e f)) : w.cell? ⟨b, off, none⟩ = l[off]? := by
  simp [World.cell?, hb]

theorem vload_sound {t : TypeId} {v u u' : Value} {b : Bool} (hl : vload P ex t h u = some (v, b)) (hb : b = true) (he : Emb ex bs h w) (hu : VR ex bs u u') :
    ∃ v', (Instr.loadAt t u').run P w = .ok v' w ∧ VR ex bs v v' := by
  unfold vload at hl
  split at hl
  · rename_i b0 off k
    cases hu with | fptr _ _ r hr =>
    rw [hr] at hl
    simp only at hl
    have hcell := he.x.cell k r hr
    simp only [Instr.loadAt, Instr.sureAddr, Sem.run_bind, Sem.run_pure, Result.andThen_ok, loadVar]
    split at hl
    · rename_i hagg
      split at hl
      · rename_i n hn
        simp only [run_aggT hagg, run_sizeT hn, Result.andThen_ok, if_true, Sem.run_bind, loadCells]
        cases hl
        have hle : r.lo ≤ off ∧ off + n ≤ r.lo + r.n := by simpa [xrow] using hb
        rw [run_loadCellsFrom (P := P) ⟨r.b, off, none⟩ rfl ((List.range n).map fun j => r.g (off + j)) w (fun i hi => by
          simp at hi
          rw [(hcell (off + i) (by omega) (by omega)).1]
          simp [hi]) n 0 #[] (by simp)]
        refine ⟨_, rfl, ?_⟩
        simp only [List.drop_zero, Array.empty_append, xrow]
        rw [List.take_of_length_le (by simp)]
        exact .agg _ _ (VRs.map _ _ _ fun j hj => .plain1 (hcell (off + j) (by omega) (by have := List.mem_range.1 hj; omega)).2)
      · cases hl
    · rename_i hagg
      simp only [run_aggT hagg, Result.andThen_ok, Bool.false_eq_true, if_false, Sem.run_bind]
      cases hl
      have hle : r.lo ≤ off ∧ off < r.lo + r.n := by simpa [xcell] using hb
      exact ⟨r.g off, by rw [run_load, (hcell off hle.1 hle.2).1], .plain1 (hcell off hle.1 hle.2).2⟩
    · cases hl
  · rename_i i off
    cases hu with | ptr _ _ c hc =>
    obtain ⟨o, ho, hh⟩ := he.at hc
    rw [ho] at hl
    simp only at hl
    simp only [Instr.loadAt, Instr.sureAddr, Sem.run_bind, Sem.run_pure, Result.andThen_ok, loadVar]
    split at hl
    · rename_i hagg
      split at hl
      · rename_i n hn
        simp only [run_aggT hagg, run_sizeT hn, Result.andThen_ok, if_true, Sem.run_bind, loadCells]
        cases o with
        | dead => simp [VObj.row] at hl
        | box q => simp [VObj.row] at hl
        | pay q => cases q with
          | run r => simp [VObj.row] at hl
          | mem u =>
            obtain ⟨x, c', e, e', t', l, hw, _⟩ := hh
            simp only [VObj.row] at hl
            split at hl
            · rename_i hoff
              rw [Bool.and_eq_true] at hoff
              have h1 := Nat.eq_of_beq_eq_true hoff.1
              have h2 := Nat.eq_of_beq_eq_true hoff.2
              subst h1; subst h2
              cases hl
              rw [run_loadCellsFrom (P := P) ⟨c.1, 3, none⟩ rfl ([.int .i64 u.k, .int .i64 u.who, .int .i64 u.at', .int .u64 u.old, .int .u64 u.new, .bool u.dn] ++ t') w (fun i hi => by rw [cell_of_heap hw, Nat.add_comm 3 i]; rfl) 6 0 #[] (by simp)]
              exact ⟨_, rfl, .agg _ _ (.plain rfl)⟩
            · cases hl
        | cells l e =>
          obtain ⟨l', t', _, hw, _, hr⟩ := hh
          simp only [VObj.row] at hl
          split at hl
          · rename_i hle
            cases hl
            have hle' : off + n ≤ l.length := Nat.le_of_ble_eq_true hle
            have hlen := hr.length
            rw [run_loadCellsFrom (P := P) ⟨c.1, off, none⟩ rfl ((l' ++ t').drop off) w (fun i hi => by rw [cell_of_heap hw]; simp) n 0 #[] (by simp; omega)]
            refine ⟨_, rfl, ?_⟩
            simp only [List.drop_zero, Array.empty_append]
            have : ((l' ++ t').drop off).take n = (l'.drop off).take n := by
              rw [List.drop_append_of_le_length (by omega), List.take_append_of_le_length (by simp; omega)]
            rw [this]
            exact .agg _ _ ((hr.drop off).take n)
          · cases hl
        | fn N kk g e =>
          obtain ⟨l', _, hw, _, hlen, hg⟩ := hh
          simp only [VObj.row] at hl
          cases hl
          have hle : off + n ≤ N := by simpa using hb
          rw [run_loadCellsFrom (P := P) ⟨c.1, off, none⟩ rfl (l'.drop off) w (fun i hi => by rw [cell_of_heap hw]; simp) n 0 #[] (by simp; omega)]
          refine ⟨_, rfl, ?_⟩
          simp only [List.drop_zero, Array.empty_append]
          refine .agg _ _ (VRs.of_get (by simp; omega) ?_)
          intro i v v' hv hv'
          have hi : i < n := by
            rcases Nat.lt_or_ge i n with h | h
            · exact h
            · rw [List.getElem?_eq_none (by simp; exact h)] at hv; cases hv
          rw [List.getElem?_map, List.getElem?_range hi] at hv
          rw [List.getElem?_take_of_lt hi, List.getElem?_drop, hg (off + i) (by omega)] at hv'
          cases hv; cases hv'
          exact .int _ _
      · cases hl
    · rename_i hagg
      simp only [run_aggT hagg, Result.andThen_ok, Bool.false_eq_true, if_false, Sem.run_bind]
      cases o with
      | dead => simp [VObj.cell] at hl
      | box q => simp [VObj.cell] at hl
      | pay q => cases q with
        | mem u =>
          obtain ⟨x, c', e, e', t', l, hw, _⟩ := hh
          unfold VObj.cell at hl
          simp only at hl
          split at hl
          · cases hl; exact ⟨_, by rw [run_load, cell_of_heap hw]; rfl, .int _ _⟩
          · cases hl; exact ⟨_, by rw [run_load, cell_of_heap hw]; rfl, .int _ _⟩
          · cases hl; exact ⟨_, by rw [run_load, cell_of_heap hw]; rfl, .int _ _⟩
          · cases hl; exact ⟨_, by rw [run_load, cell_of_heap hw]; rfl, .int _ _⟩
          · cases hl; exact ⟨_, by rw [run_load, cell_of_heap hw]; rfl, .int _ _⟩
          · cases hl; exact ⟨_, by rw [run_load, cell_of_heap hw]; rfl, .int _ _⟩
          · cases hl; exact ⟨_, by rw [run_load, cell_of_heap hw]; rfl, .int _ _⟩
          · cases hl; exact ⟨_, by rw [run_load, cell_of_heap hw]; rfl, .bool _⟩
          · cases hl
        | run r =>
          obtain ⟨s', e, t', hw, _⟩ := hh
          unfold VObj.cell at hl
          simp only at hl
          split at hl
          · cases hl
            exact ⟨.bool r.st, by rw [run_load, cell_of_heap hw]; rfl, .bool _⟩
          · cases hl
      | cells l e =>
        obtain ⟨l', t', _, hw, _, hr⟩ := hh
        simp only [VObj.cell] at hl
        split at hl
        · rename_i v0 hv0
          cases hl
          obtain ⟨v', h1, h2⟩ := hr.get _ _ hv0
          exact ⟨v', by rw [run_load, cell_of_heap hw, List.getElem?_append_left (List.getElem?_eq_some_iff.1 h1).1, h1], h2⟩
        · cases hl
      | fn N kk g e =>
        obtain ⟨l', _, hw, _, hlen, hg⟩ := hh
        simp only [VObj.cell] at hl
        cases hl
        have hlt : off < N := by simpa using hb
        exact ⟨.int kk (g off), by rw [run_load, cell_of_heap hw, hg off hlt], .int _ _⟩
    · cases hl
  · cases hl

theorem one_oneCell {v v' : Value} (hr : VR ex bs v v') (h1 : one v = true) : v'.oneCell' = true := by
  cases hr <;> first | rfl | simp [one] at h1

theorem setCell_other {w : World} {c off : Nat} {v : Value} {b : Nat} (hne : c ≠ b) : (w.setCell ⟨c, off, none⟩ v).heap[b]? = w.heap[b]? := by
  simp [World.setCell, Array.getElem?_modify, hne]

/-- A cell that is written, of an object that lives. -/
theorem Emb.write {w : World} {i off : Nat} {c : Blk} {o o' : VObj} {v' : Value} (he : Emb ex bs h w) (hc : bs[i]? = some c) (ho : h[i]? = some o) (hd : o ≠ .dead)
    (hh : Holds ex bs (w.setCell ⟨c.1, off, none⟩ v') c o') (hd' : o' ≠ .dead) :
    Emb ex bs (h.set i o') (w.setCell ⟨c.1, off, none⟩ v') ∧ Grow bs w bs (w.setCell ⟨c.1, off, none⟩ v') := by
  have hi : i < h.length := (List.getElem?_eq_some_iff.1 ho).1
  have hother : ∀ b, b < w.heap.size → b ∉ own bs → (w.setCell ⟨c.1, off, none⟩ v').heap[b]? = w.heap[b]? := by
    intro b hb hn
    exact setCell_other fun hcb => hn (by rw [← hcb]; exact own_get hc)
  have hold : ∀ (j : Nat) (q : VObj), (h.set i o')[j]? = some q → (j = i ∧ q = o') ∨ (j ≠ i ∧ h[j]? = some q) := by
    intro j q hj
    by_cases hij : i = j
    · subst hij
      rw [List.getElem?_set_self hi] at hj; cases hj
      exact .inl ⟨rfl, rfl⟩
    · rw [List.getElem?_set_ne hij] at hj
      exact .inr ⟨Ne.symm hij, hj⟩
  refine ⟨⟨he.x.keep (by simp) hother (fun _ h => .inl h), by simp [he.len], fun b hb => by simpa using he.lto b hb, ?_, ?_⟩, ⟨fun _ b h => ⟨b, h, rfl, rfl⟩, fun _ h => .inl h, by simp, hother, rfl, rfl, rfl⟩⟩
  · intro j k b d p q hb hdd hp hq x hx1 hx2
    rcases hold j p hp with ⟨h1, h2⟩ | ⟨h1, h2⟩
    · subst h1
      rcases hold k q hq with ⟨g1, g2⟩ | ⟨g1, g2⟩
      · exact .inl g1.symm
      · rcases he.sepo j k b d o q hb hdd ho g2 x hx1 hx2 with h | h | h
        · exact .inl h
        · exact (hd h).elim
        · exact .inr (.inr h)
    · rcases hold k q hq with ⟨g1, g2⟩ | ⟨g1, g2⟩
      · subst g1
        rcases he.sepo j k b d p o hb hdd h2 ho x hx1 hx2 with h | h | h
        · exact .inl h
        · exact .inr (.inl h)
        · exact (hd h).elim
      · exact he.sepo j k b d p q hb hdd h2 g2 x hx1 hx2
  · intro j b q hb hj
    rcases hold j q hj with ⟨h1, h2⟩ | ⟨h1, h2⟩
    · subst h1; subst h2
      rw [hc] at hb; cases hb
      exact hh
    · cases q with
      | dead => trivial
      | _ =>
        refine Holds.congrO (fun x hx => setCell_other fun hcb => ?_) (he.holds j b _ hb h2)
        rcases he.sepo i j c b o _ hc hb ho h2 x (by rw [← hcb]; exact c.own1) hx with h | h | h
        · exact h1 h.symm
        · exact hd h
        · cases h

/-- A store into one cell of a written-out object. -/
theorem Emb.store {w : World} {i off : Nat} {c : Blk} {l : List Value} {e : TypeId} {v v' : Value} (he : Emb ex bs h w) (hc : bs[i]? = some c) (ho : h[i]? = some (.cells l e))
    (hlt : off < l.length) (hv : VR ex bs v v') :
    Emb ex bs (h.set i (.cells (l.set off v) e)) (w.setCell ⟨c.1, off, none⟩ v') ∧ Grow bs w bs (w.setCell ⟨c.1, off, none⟩ v') := by
  obtain ⟨l', t', e', hw, hN, hr⟩ := he.holds i c _ hc ho
  refine he.write hc ho (by simp) ⟨l'.set off v', t', e', ?_, by simpa using hN, hr.set off hv⟩ (by simp)
  have : off < l'.length := by rw [← hr.length]; exact hlt
  simp [World.setCell, Array.getElem?_modify, hw, List.set_append_left _ _ this]

theorem run_storeCells (c : Blk) : ∀ (vs vs' : List Value) (off k i : Nat) (l : List Value) (e : TypeId) (h : VHeap) (w : World), Emb ex bs h w → bs[i]? = some c → h[i]? = some (.cells l e) →
    VRs ex bs vs vs' → oneAll vs = true → off + k + vs.length ≤ l.length →
    ∃ w', (storeCells ⟨c.1, off, none⟩ vs' k).run P w = .ok () w' ∧ Emb ex bs (h.set i (.cells (setCells l (off + k) vs) e)) w' ∧ Grow bs w bs w' := by
  intro vs
  induction vs with
  | nil =>
    intro vs' off k i l e h w he hc ho hv _ _
    cases hv
    refine ⟨w, by simp [storeCells], ?_, .refl _ _⟩
    have hi : i < h.length := (List.getElem?_eq_some_iff.1 ho).1
    have : h.set i (.cells l e) = h := by
      have := (List.getElem?_eq_some_iff.1 ho).2
      rw [← this]; simp
    simp only [setCells]; rw [this]; exact he
  | cons v r ih =>
    intro vs' off k i l e h w he hc ho hv h1 hlen
    cases hv with | cons _ v' _ r' hv hr =>
    simp only [List.length_cons] at hlen
    have hone : one v = true ∧ oneAll r = true := by
      unfold oneAll at h1
      cases hb : one v <;> simp [hb] at h1
      exact ⟨rfl, h1⟩
    have hlt : off + k < l.length := by omega
    obtain ⟨l', t', _, hw, _, hrl⟩ := he.holds i c _ hc ho
    have hadd : Addr.add ⟨c.1, off, none⟩ k = ⟨c.1, off + k, none⟩ := by
      unfold Addr.add; split <;> simp_all
    obtain ⟨he1, hg1⟩ := he.store hc ho hlt hv
    have hi : i < h.length := (List.getElem?_eq_some_iff.1 ho).1
    obtain ⟨w', hrun, he2, hg2⟩ := ih r' off (k + 1) i (l.set (off + k) v) e _ _ he1 hc (List.getElem?_set_self hi) hr hone.2 (by simp; omega)
    refine ⟨w', ?_, ?_, hg1.trans hg2⟩
    · have hlt' : off + k < l'.length := by rw [← hrl.length]; exact hlt
      have hcell : w.cell? ⟨c.1, off + k, none⟩ = some l'[off + k] := by
        rw [cell_of_heap hw, List.getElem?_append_left hlt', List.getElem?_eq_getElem]
      have hfr : w.frozen? ⟨c.1, off + k, none⟩ = false := by simp [World.frozen?, hw]
      rw [storeCells, Sem.run_bind, hadd, run_store P w _ v' _ (one_oneCell hv hone.1), hcell]
      simp only [hfr, Bool.false_eq_true, if_false, Result.andThen_ok]
      exact hrun
    · simpa [setCells, List.set_set, Nat.add_assoc] using he2

theorem oneAll_top {v : Value} (h : oneAll v.cells.toList = true) : isTop v = false := by
  cases v <;> first | rfl | (simp [Value.cells, oneAll, one] at h)

theorem vstore_sound {t : TypeId} {u u' v v' : Value} {h' : VHeap} {b : Bool} (hs : vstore P t h u v = some (h', b)) (hb : b = true) (he : Emb ex bs h w) (hu : VR ex bs u u') (hv : VR ex bs v v') :
    ∃ w', (Instr.storeAt t u' v').run P w = .ok () w' ∧ Emb ex bs h' w' ∧ Grow bs w bs w' := by
  unfold vstore at hs
  split at hs
  · rename_i i off
    cases hu with | ptr _ _ c hc =>
    split at hs
    · rename_i l e n ho hn
      split at hs
      · rename_i hcond
        cases hs
        rw [Bool.and_eq_true, Bool.and_eq_true] at hcond
        obtain ⟨⟨h1, h2⟩, h3⟩ := hcond
        have h1 := Nat.eq_of_beq_eq_true h1
        have h2 := Nat.le_of_ble_eq_true h2
        obtain ⟨w', hrun, he', hg⟩ := run_storeCells (P := P) c _ _ off 0 i l e h w he hc ho (hv.cells (oneAll_top h3)) h3 (by rw [h1]; omega)
        refine ⟨w', ?_, by simpa using he', hg⟩
        simp only [Instr.storeAt, Instr.sureAddr, Sem.run_bind, Sem.run_pure, Result.andThen_ok, storeVar, run_sizeT hn]
        have hsz : v'.cells.size = n := by rw [← Array.length_toList, ← (hv.cells (oneAll_top h3)).length, h1]
        rw [if_neg (by simp [hsz])]
        simpa using hrun
      · cases hs
    · rename_i N k g e n ho hn
      split at hs
      case h_2 => cases hs
      rename_i k' x
      split at hs
      · rename_i hcond
        cases hs
        rw [Bool.and_eq_true] at hcond
        obtain ⟨h1, h2⟩ := hcond
        have h1 := Nat.eq_of_beq_eq_true h1
        subst h1
        have h2 := of_decide_eq_true h2
        subst h2
        have hlt : off < N := by simpa using hb
        cases hv
        have hcells : (Value.int k' x).cells = #[.int k' x] := rfl
        have hone : (Value.int k' x).oneCell' = true := rfl
        obtain ⟨l', e', hw, hNN, hlen, hg⟩ := he.holds i c _ hc ho
        have hcell : w.cell? ⟨c.1, off, none⟩ = some (.int k' (g off)) := by rw [cell_of_heap hw, hg off hlt]
        have hfr : w.frozen? ⟨c.1, off, none⟩ = false := by simp [World.frozen?, hw]
        have hwr := he.write (o' := .fn N k' (fun j => if j = off then x else g j) e) (off := off) (v' := .int k' x) hc ho (by simp) ?_ (by simp)
        · refine ⟨w.setCell ⟨c.1, off, none⟩ (.int k' x), ?_, hwr.1, hwr.2⟩
          simp only [Instr.storeAt, Instr.sureAddr, Sem.run_bind, Sem.run_pure, Result.andThen_ok, storeVar, run_sizeT hn, hcells]
          simp only [List.size_toArray, List.length_cons, List.length_nil, Nat.zero_add, ne_eq, not_true_eq_false, if_false, storeCells, Sem.run_bind, Sem.run_pure]
          have hadd : Addr.add ⟨c.1, off, none⟩ 0 = ⟨c.1, off, none⟩ := rfl
          rw [hadd, run_store P w _ (.int k' x) _ hone, hcell]
          simp [hfr]
        · refine ⟨l'.set off (.int k' x), e', by simp [World.setCell, Array.getElem?_modify, hw], by simpa using hNN, by simpa using hlen, ?_⟩
          intro m hm
          by_cases hko : m = off
          · subst hko; rw [List.getElem?_set_self (by omega)]; simp
          · have := hg m hm
            simp only [hko, if_false]
            rw [List.getElem?_set_ne (Ne.symm hko)]; exact this
      · cases hs
    · cases hs
  · cases hs

end
end Go.Vx
