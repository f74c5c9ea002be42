/- A row that is no longer written becomes one that is only read; a memory is opened. -/
import Derived.Test.YtmngemjclljpiaaGreatVxO
namespace Go.Vx

theorem VR_ex {ex ex' : XTab} (hx : ∀ (k : Nat) (r : XRow), ex[k]? = some r → ex'[k]? = some r) {bs : List Blk} :
    (∀ (v v' : Value), VR ex bs v v' → VR ex' bs v v') ∧ (∀ (l l' : List Value), VRs ex bs l l' → VRs ex' bs l l') := by
  constructor
  · intro v v' h
    exact VR.rec (motive_1 := fun v v' _ => VR ex' bs v v') (motive_2 := fun l l' _ => VRs ex' bs l l')
      (fun b => .bool b) (fun k n => .int k n) (fun s => .string s) .nilPtr (fun i off b h => .ptr i off b h) (fun k off r h => .fptr k off r (hx _ _ h)) (fun k off n c c' r h => .fslice k off n c c' r (hx _ _ h)) (fun k off b c a' c' => .fnil k off b c a' c') .nilSlice
      (fun i off n c c' b h hc hn => .slice i off n c c' b h hc hn) .nilMap (fun fn a a' c c' _ _ h1 h2 => .func fn a a' c c' h1 h2) .nilFunc .nilIface
      (fun t v v' _ h => .iface t v v' h) (fun l l' _ h => .agg l l' h) (fun l l' _ h => .tuple l l' h) (fun v' h => .top v' h) .nil (fun v v' l l' _ _ h1 h2 => .cons v v' l l' h1 h2) h
  · intro v v' h
    exact VRs.rec (motive_1 := fun v v' _ => VR ex' bs v v') (motive_2 := fun l l' _ => VRs ex' bs l l')
      (fun b => .bool b) (fun k n => .int k n) (fun s => .string s) .nilPtr (fun i off b h => .ptr i off b h) (fun k off r h => .fptr k off r (hx _ _ h)) (fun k off n c c' r h => .fslice k off n c c' r (hx _ _ h)) (fun k off b c a' c' => .fnil k off b c a' c') .nilSlice
      (fun i off n c c' b h hc hn => .slice i off n c c' b h hc hn) .nilMap (fun fn a a' c c' _ _ h1 h2 => .func fn a a' c c' h1 h2) .nilFunc .nilIface
      (fun t v v' _ h => .iface t v v' h) (fun l l' _ h => .agg l l' h) (fun l l' _ h => .tuple l l' h) (fun v' h => .top v' h) .nil (fun v v' l l' _ _ h1 h2 => .cons v v' l l' h1 h2) h

/-- Pointers to an object become pointers to a row (the k-th one, of block b). -/
def frV (inv : Nat → Option Nat) (i k b : Nat) : Value → Option Value
  | .bool x => some (.bool x)
  | .int kk x => some (.int kk x)
  | .string s => some (.string s)
  | .pointer none => some (.pointer none)
  | .pointer (some ⟨j, off, none⟩) => match Nat.beq i j with
    | true => some (.pointer (some ⟨b, off, some k⟩))
    | false => match inv j with
      | some m => some (.pointer (some ⟨m, off, none⟩))
      | none => none
  | .pointer (some ⟨bb, off, some m⟩) => some (.pointer (some ⟨bb, off, some m⟩))
  | .slice (some ⟨bb, off, some m⟩) len c => some (.slice (some ⟨bb, off, some m⟩) len c)
  | .slice none 0 0 => some (.slice none 0 0)
  | .nilFunc => some .nilFunc
  | .nilIface => some .nilIface
  | _ => none

structure FrOK (ex ex' : XTab) (bs cs : List Blk) (inv : Nat → Option Nat) (i k b : Nat) : Prop where
  hx : ∀ (m : Nat) (r : XRow), ex[m]? = some r → ex'[m]? = some r
  hi : ∀ j m, inv j = some m → ∀ c, bs[j]? = some c → cs[m]? = some c
  hb : ∀ c, bs[i]? = some c → c.1 = b
  hk : ∃ r, ex'[k]? = some r ∧ r.b = b

theorem frV_spec {ex ex' : XTab} {bs cs : List Blk} {inv : Nat → Option Nat} {i k b : Nat} (ho : FrOK ex ex' bs cs inv i k b) {v u v' : Value} (h : frV inv i k b v = some u) (hv : VR ex bs v v') : VR ex' cs u v' := by
  unfold frV at h
  split at h
  · cases h; cases hv; exact .bool _
  · cases h; cases hv; exact .int _ _
  · cases h; cases hv; exact .string _
  · cases h; cases hv; exact .nilPtr
  · split at h
    · rename_i j off _ hij
      cases h
      have := Nat.eq_of_beq_eq_true hij
      subst this
      cases hv with | ptr _ _ c hc =>
      obtain ⟨r, hr1, hr2⟩ := ho.hk
      have e1 := ho.hb c hc
      rw [e1, ← hr2]
      exact .fptr k off r hr1
    · split at h
      · rename_i m hm
        cases h
        cases hv with | ptr _ _ c hc => exact .ptr _ _ c (ho.hi _ _ hm c hc)
      · cases h
  · cases h; cases hv with | fptr _ _ r hr => exact .fptr _ _ r (ho.hx _ _ hr)
  · cases h; cases hv with
    | fslice _ _ _ _ c' r hr => exact .fslice _ _ _ _ c' r (ho.hx _ _ hr)
    | fnil => exact .fnil _ _ _ _ _ _
  · cases h; cases hv; exact .nilSlice
  · cases h; cases hv; exact .nilFunc
  · cases h; cases hv; exact .nilIface
  · cases h

def frO (inv : Nat → Option Nat) (i k b : Nat) : VObj → Option VObj
  | .cells l _ => match allSome (frV inv i k b) l with
    | some l' => some (.cells l' 0)
    | none => none
  | .fn n kk g _ => some (.fn n kk g 0)
  | .dead => none
  | .box q => none
  | .pay p => some (.pay p)

theorem allSome_vrs {ex ex' : XTab} {bs cs : List Blk} {inv : Nat → Option Nat} {i k b : Nat} (ho : FrOK ex ex' bs cs inv i k b) : ∀ {l m l' : List Value}, allSome (frV inv i k b) l = some m → VRs ex bs l l' → VRs ex' cs m l'
  | [], m, l', h, hv => by cases h; cases hv; exact .nil
  | x :: r, m, l', h, hv => by
    unfold allSome at h
    split at h
    · rename_i y hy
      split at h
      · rename_i s hs
        cases h
        cases hv with | cons _ x' _ r' h1 h2 => exact .cons _ _ _ _ (frV_spec ho hy h1) (allSome_vrs ho hs h2)
      · cases h
    · cases h

theorem frO_spec {ex ex' : XTab} {bs cs : List Blk} {inv : Nat → Option Nat} {i k b : Nat} (ho : FrOK ex ex' bs cs inv i k b) {w : World} {c : Blk} {o q : VObj} (h : frO inv i k b o = some q) (hh : Holds ex bs w c o) : Holds ex' cs w c q ∧ q ≠ .dead ∧ o ≠ .dead := by
  unfold frO at h
  split at h
  · split at h
    · rename_i l' hl
      cases h
      obtain ⟨m, t, e, h1, h2, h3⟩ := hh
      exact ⟨⟨m, t, e, h1, h2, allSome_vrs ho hl h3⟩, by simp, by simp⟩
    · cases h
  · cases h; exact ⟨hh, by simp, by simp⟩
  · cases h
  · cases h
  · cases h; exact ⟨hh, by simp, by simp⟩

def frH (inv : Nat → Option Nat) (i k b : Nat) (h : VHeap) (j : Nat) : Option VObj := match h[j]? with
  | some o => frO inv i k b o
  | none => none
def frS (inv : Nat → Option Nat) (i k b : Nat) (p : Nat × Value) : Option (Nat × Value) := match frV inv i k b p.2 with
  | some v => some (p.1, v)
  | none => none

/-- The i-th object is frozen: what is had then. -/
def freeze (i k b : Nat) (ps : List Nat) (lv : List (Nat × Value)) (h : VHeap) : Option (List (Nat × Value) × VHeap) :=
  match nodupB ps && !hasN i ps with
  | true => match allSome (frS (fun j => idx j 0 ps) i k b) lv with
    | some lv' => match allSome (frH (fun j => idx j 0 ps) i k b h) ps with
      | some h' => some (lv', h')
      | none => none
    | none => none
  | false => none

theorem frS_assoc {inv : Nat → Option Nat} {i k b : Nat} : ∀ {lv lv' : List (Nat × Value)} {j : Nat} {v : Value}, allSome (frS inv i k b) lv = some lv' → assoc j lv' = some v → ∃ u, assoc j lv = some u ∧ frV inv i k b u = some v
  | [], _, j, v, h, hv => by cases h; cases hv
  | p :: r, _, j, v, h, hv => by
    unfold allSome at h
    split at h
    · rename_i y hy
      split at h
      · rename_i s hs
        cases h
        unfold frS at hy
        split at hy
        · rename_i u hu
          cases hy
          unfold assoc at hv ⊢
          cases hj : Nat.beq j p.1 with
          | true => simp only [hj] at hv; cases hv; exact ⟨p.2, by simp only [hj], hu⟩
          | false => simp only [hj] at hv ⊢; exact frS_assoc hs hv
        · cases hy
      · cases h
    · cases h

theorem freeze_at {ex : XTab} {N i : Nat} {ps : List Nat} {lv : List (Nat × Value)} {h : VHeap} {l : List Value} {e : TypeId} {bs : List Blk} {a : Act} {w : World} (hi : h[i]? = some (.cells l e)) (hp : plainAll l = true) (hat : At ex N lv h bs a w) :
    ∃ b, (∀ lv' h', freeze i ex.length b ps lv h = some (lv', h') → ∃ cs, At (ex ++ [⟨b, 0, l.length, fun off => l.getD off (.bool false)⟩]) N lv' h' cs a w ∧ ∀ x ∈ own cs, x ∈ own bs) := by
  have he := hat.emb
  have hlt : i < bs.length := by rw [he.len]; exact (List.getElem?_eq_some_iff.1 hi).1
  have hbi : bs[i]? = some bs[i] := List.getElem?_eq_getElem hlt
  refine ⟨(bs[i]).1, fun lv' h' hf => ?_⟩
  unfold freeze at hf
  split at hf
  case h_2 => cases hf
  rename_i hc
  rw [Bool.and_eq_true] at hc
  split at hf
  case h_2 => cases hf
  rename_i lv1 hlv
  split at hf
  case h_2 => cases hf
  rename_i h1 hh1
  cases hf
  have hni : i ∉ ps := fun hm => by have := (hasN_iff i ps).2 hm; rw [this] at hc; simp at hc
  obtain ⟨hl1, hl2⟩ := allSome_get hh1
  have hinv : ∀ m j, idx j 0 ps = some m → ps[m]? = some j := fun m j hq => by have := (idx_spec ps 0 m hq).2; simpa using this
  have hin : ∀ k j : Nat, ps[k]? = some j → j < bs.length := by
    intro k j hk
    have hk' : k < h'.length := by rw [← hl1]; exact (List.getElem?_eq_some_iff.1 hk).1
    have := hl2 k j h'[k] hk (List.getElem?_eq_getElem hk')
    unfold frH at this
    split at this
    · rename_i o ho; rw [he.len]; exact (List.getElem?_eq_some_iff.1 ho).1
    · cases this
  have ho : FrOK ex (ex ++ [⟨(bs[i]).1, 0, l.length, fun off => l.getD off (.bool false)⟩]) bs (pick bs ps) (fun j => idx j 0 ps) i ex.length (bs[i]).1 := {
    hx := fun m r hr => by rw [List.getElem?_append_left (List.getElem?_eq_some_iff.1 hr).1]; exact hr
    hi := fun j m hm c hcj => pick_get (hinv m j hm) hcj
    hb := fun c hcb => by rw [hbi] at hcb; cases hcb; rfl
    hk := ⟨⟨(bs[i]).1, 0, l.length, fun off => l.getD off (.bool false)⟩, by simp, rfl⟩ }
  have hobj : ∀ (k j : Nat) (o : VObj), ps[k]? = some j → h'[k]? = some o → ∃ q, h[j]? = some q ∧ frO (fun j => idx j 0 ps) i ex.length (bs[i]).1 q = some o := by
    intro k j o hk hok
    have := hl2 k j o hk hok
    unfold frH at this
    split at this
    · rename_i q hq; exact ⟨q, hq, this⟩
    · cases this
  have hown : ∀ x ∈ own (pick bs ps), x ∈ own bs := fun x hx => by
    obtain ⟨k, j, c, _, h2, hxc⟩ := pick_mem hin hx
    exact own_of h2 hxc
  have hlive : ∀ (k j : Nat) (o : VObj) (q : VObj), frO (fun j => idx j 0 ps) i ex.length (bs[i]).1 q = some o → q ≠ .dead ∧ o ≠ .dead := by
    intro k j o q hq
    unfold frO at hq
    split at hq
    · split at hq
      · cases hq; exact ⟨by simp, by simp⟩
      · cases hq
    · cases hq; exact ⟨by simp, by simp⟩
    · cases hq
    · cases hq
    · cases hq; exact ⟨by simp, by simp⟩
  obtain ⟨l', t, e', k1, k2, k3⟩ := he.holds i _ _ hbi hi
  have hl' := k3.plain_eq hp
  subst hl'
  refine ⟨pick bs ps, ⟨⟨⟨fun m r hr hn => ?_, fun m r hr hn hm => ?_, fun m r hr off h1 h2 => ?_⟩, by simp [pick, hl1], fun x hx => he.lto x (hown x hx), ?_, ?_⟩, hat.size, fun j v hv => ?_⟩, hown⟩
  · rcases Nat.lt_or_ge m ex.length with hm | hm
    · rw [List.getElem?_append_left hm] at hr; exact he.x.lt m r hr hn
    · rw [List.getElem?_append_right hm] at hr
      have h0 : m - ex.length = 0 := by
        rcases Nat.eq_zero_or_pos (m - ex.length) with h | h
        · exact h
        · rw [List.getElem?_eq_none (by simp; omega)] at hr; cases hr
      rw [h0] at hr; simp at hr; subst hr
      exact he.lt _ (List.mem_of_getElem? hbi)
  · rcases Nat.lt_or_ge m ex.length with hm' | hm'
    · rw [List.getElem?_append_left hm'] at hr; exact he.x.out m r hr hn (hown _ hm)
    · rw [List.getElem?_append_right hm'] at hr
      have h0 : m - ex.length = 0 := by
        rcases Nat.eq_zero_or_pos (m - ex.length) with h | h
        · exact h
        · rw [List.getElem?_eq_none (by simp; omega)] at hr; cases hr
      rw [h0] at hr; simp at hr; subst hr
      obtain ⟨k, j, c, hk, hcj, hxc⟩ := pick_mem hin hm
      have hk' : k < h'.length := by rw [← hl1]; exact (List.getElem?_eq_some_iff.1 hk).1
      obtain ⟨q, hq, hfr⟩ := hobj k j h'[k] hk (List.getElem?_eq_getElem hk')
      rcases he.sepo i j bs[i] c _ q hbi hcj hi hq _ (bs[i]).own1 hxc with h | h | h
      · subst h; exact hni (List.mem_of_getElem? hk)
      · cases h
      · exact (hlive k j _ q hfr).1 h
  · rcases Nat.lt_or_ge m ex.length with hm' | hm'
    · rw [List.getElem?_append_left hm'] at hr; exact he.x.cell m r hr off h1 h2
    · rw [List.getElem?_append_right hm'] at hr
      have h0 : m - ex.length = 0 := by
        rcases Nat.eq_zero_or_pos (m - ex.length) with h | h
        · exact h
        · rw [List.getElem?_eq_none (by simp; omega)] at hr; cases hr
      rw [h0] at hr; simp at hr; subst hr
      simp only [Nat.zero_add] at h2
      refine ⟨?_, ?_⟩
      · rw [cell_of_heap k1, List.getElem?_append_left h2]
        simp [List.getD_eq_getElem?_getD, List.getElem?_eq_getElem h2]
      · have : ∀ (l : List Value) (off : Nat), plainAll l = true → off < l.length → plain1 (l.getD off (.bool false)) = true := by
          intro l
          induction l with
          | nil => intro off _ h; simp at h
          | cons x r ih =>
            intro off hpl ho
            unfold plainAll at hpl
            cases hx : plain1 x with
            | false => simp [hx] at hpl
            | true =>
              simp only [hx] at hpl
              cases off with
              | zero => simpa using hx
              | succ off => simpa using ih off hpl (by simpa using ho)
        exact this _ off hp h2
  · intro k m b c o q hb hc' hok hoq x hx1 hx2
    obtain ⟨j1, hj1, hbj⟩ := pick_back hin hb
    obtain ⟨j2, hj2, hcj⟩ := pick_back hin hc'
    obtain ⟨q1, hq1, hf1⟩ := hobj k j1 o hj1 hok
    obtain ⟨q2, hq2, hf2⟩ := hobj m j2 q hj2 hoq
    rcases he.sepo j1 j2 b c q1 q2 hbj hcj hq1 hq2 x hx1 hx2 with h | h | h
    · subst h; exact .inl ((List.getElem?_inj (List.getElem?_eq_some_iff.1 hj1).1 (nodupB_spec _ hc.1)).1 (hj1.trans hj2.symm))
    · exact ((hlive k j1 _ _ hf1).1 h).elim
    · exact ((hlive m j2 _ _ hf2).1 h).elim
  · intro k b o hb hok
    obtain ⟨j, hj, hbj⟩ := pick_back hin hb
    obtain ⟨q, hq, hf⟩ := hobj k j o hj hok
    exact (frO_spec ho hf (he.holds j b q hbj hq)).1
  · obtain ⟨u, hu1, hu2⟩ := frS_assoc hlv hv
    exact frV_spec ho hu2 (hat.slots j u hu1)

/-- A code before which a row is frozen. -/
theorem Goes.freeze {P : Program} {ex : XTab} {N i : Nat} {ps : List Nat} {c : Code} {lv lvF : List (Nat × Value)} {h : VHeap} {x : X} {l : List Value} {e : TypeId} (hi : h[i]? = some (.cells l e)) (hp : plainAll l = true) (hF : ∀ j v, assoc j lvF = some v → plainR v = true)
    (hc : ∀ b, ∃ lv' h', Vx.freeze i ex.length b ps lv h = some (lv', h') ∧ Goes P (ex ++ [⟨b, 0, l.length, fun off => l.getD off (.bool false)⟩]) N 0 c lv' h' x lvF []) : Goes P ex N 0 c lv h x lvF [] := by
  intro bs0 w0 bs a w Q hn hgr hat hQ
  obtain ⟨b, hb⟩ := freeze_at (ps := ps) hi hp hat
  obtain ⟨lv', h', hf, hg⟩ := hc b
  obtain ⟨cs, hat', hown⟩ := hb lv' h' hf
  have h0 : bs0 = [] := List.eq_nil_of_length_eq_zero hn
  subst h0
  refine hg [] w0 cs a w Q rfl ⟨fun _ _ h => by simp at h, fun x hx => hgr.mem x (hown x hx), hgr.size, hgr.same, hgr.os, hgr.output, hgr.tape⟩ hat' fun bs' a' w' hg' hat2 hd => ?_
  have hl := hat2.emb.len
  have hbs : bs' = [] := List.eq_nil_of_length_eq_zero (by simpa using hl)
  subst hbs
  refine hQ [] a' w' hg' ⟨⟨⟨fun k r hr hn => ?_, fun k r hr hn hm => by simp [own] at hm, fun k r hr => ?_⟩, rfl, fun x hx => by simp [own] at hx, fun i j b c o q hb => by simp at hb, fun i b o hb => by simp at hb⟩, hat2.size, fun j v hv => ?_⟩ hd
  · exact hat2.emb.x.lt k r (by rw [List.getElem?_append_left (List.getElem?_eq_some_iff.1 hr).1]; exact hr) hn
  · exact hat2.emb.x.cell k r (by rw [List.getElem?_append_left (List.getElem?_eq_some_iff.1 hr).1]; exact hr)
  · have := hat2.slots j v hv
    rw [this.plainR_eq (hF j v hv)]; exact VR.plainR (hF j v hv)

/-! A memory is opened -/

theorem Emb.openMem {ex : XTab} {bs : List Blk} {h : VHeap} {w : World} {i : Nat} {u : Mu} (he : Emb ex bs h w) (hi : h[i]? = some (.pay (.mem u))) :
    ∃ bs', Emb ex bs' ((h.set i (.cells [.slice (some ⟨h.length, 0, none⟩) u.n 1, .int .i64 u.clk, .int .i64 u.bad, .int .i64 u.k, .int .i64 u.who, .int .i64 u.at', .int .u64 u.old, .int .u64 u.new, .bool u.dn] 0)) ++ [.fn u.n .u64 u.w 0]) w ∧
      (∀ (k : Nat) (b : Blk), bs[k]? = some b → ∃ b', bs'[k]? = some b' ∧ b'.1 = b.1 ∧ b'.2 = b.2) ∧ ∀ x ∈ own bs', x ∈ own bs := by
  have li := (List.getElem?_eq_some_iff.1 hi).1
  obtain ⟨b, hb⟩ : ∃ b, bs[i]? = some b := ⟨bs[i]'(by rw [he.len]; exact li), List.getElem?_eq_getElem _⟩
  obtain ⟨x, c, e, e', t, l, h1, h2, h3, h4, h5, h6, h7, h8⟩ := he.holds i b _ hb hi
  have li' : i < bs.length := by rw [he.len]; exact li
  obtain ⟨b1, hb1⟩ : ∃ b1 : Blk, b1 = ⟨b.1, b.2, []⟩ := ⟨_, rfl⟩
  obtain ⟨d, hd⟩ : ∃ d : Blk, d = ⟨x, l.length, []⟩ := ⟨_, rfl⟩
  have hb1o : ∀ y, y ∈ b1.own → y = b.1 := fun y hy => by subst hb1; simpa [Blk.own] using hy
  have hdo : ∀ y, y ∈ d.own → y = x := fun y hy => by subst hd; simpa [Blk.own] using hy
  have hxb : x ∈ b.own := List.mem_cons_of_mem _ h3
  have hbcase : ∀ (k : Nat) (c : Blk), (bs.set i b1 ++ [d])[k]? = some c → (k = i ∧ c = b1) ∨ (k = bs.length ∧ c = d) ∨ (k ≠ i ∧ k < bs.length ∧ bs[k]? = some c) := by
    intro k c hk
    rcases Nat.lt_or_ge k bs.length with hlt | hge
    · rw [List.getElem?_append_left (by simpa using hlt)] at hk
      by_cases hki : i = k
      · subst hki; rw [List.getElem?_set_self li'] at hk; cases hk; exact .inl ⟨rfl, rfl⟩
      · rw [List.getElem?_set_ne hki] at hk; exact .inr (.inr ⟨Ne.symm hki, hlt, hk⟩)
    · rw [List.getElem?_append_right (by simpa using hge)] at hk
      simp only [List.length_set] at hk
      have h0 : k - bs.length = 0 := by
        rcases Nat.eq_zero_or_pos (k - bs.length) with h | h
        · exact h
        · rw [List.getElem?_eq_none (by simp; omega)] at hk; cases hk
      rw [h0] at hk; simp at hk
      exact .inr (.inl ⟨by omega, hk.symm⟩)
  obtain ⟨mo, hmo⟩ : ∃ mo : VObj, mo = .cells [.slice (some ⟨h.length, 0, none⟩) u.n 1, .int .i64 u.clk, .int .i64 u.bad, .int .i64 u.k, .int .i64 u.who, .int .i64 u.at', .int .u64 u.old, .int .u64 u.new, .bool u.dn] 0 := ⟨_, rfl⟩
  have hocase : ∀ (k : Nat) (o : VObj), (h.set i mo ++ [.fn u.n .u64 u.w 0])[k]? = some o → (k = i ∧ o = mo) ∨ (k = h.length ∧ o = .fn u.n .u64 u.w 0) ∨ (k ≠ i ∧ k < h.length ∧ h[k]? = some o) := by
    intro k o hk
    rcases Nat.lt_or_ge k h.length with hlt | hge
    · rw [List.getElem?_append_left (by simpa using hlt)] at hk
      by_cases hki : i = k
      · subst hki; rw [List.getElem?_set_self li] at hk; cases hk; exact .inl ⟨rfl, rfl⟩
      · rw [List.getElem?_set_ne hki] at hk; exact .inr (.inr ⟨Ne.symm hki, hlt, hk⟩)
    · rw [List.getElem?_append_right (by simpa using hge)] at hk
      simp only [List.length_set] at hk
      have h0 : k - h.length = 0 := by
        rcases Nat.eq_zero_or_pos (k - h.length) with h | h
        · exact h
        · rw [List.getElem?_eq_none (by simp; omega)] at hk; cases hk
      rw [h0] at hk; simp at hk
      exact .inr (.inl ⟨by omega, hk.symm⟩)
  have hownS : ∀ (k : Nat) (c : Blk), (bs.set i b1 ++ [d])[k]? = some c → ∀ y, y ∈ c.own → y ∈ own bs := by
    intro k c hk y hy
    rcases hbcase k c hk with ⟨_, rfl⟩ | ⟨_, rfl⟩ | ⟨_, _, hk'⟩
    · rw [hb1o y hy]; exact own_get hb
    · rw [hdo y hy]; exact own_of hb hxb
    · exact own_of hk' hy
  have hown : ∀ y ∈ own (bs.set i b1 ++ [d]), y ∈ own bs := fun y hy => by
    obtain ⟨k, c, hk, hyc⟩ := own_at hy
    exact hownS k c hk y hyc
  have hext : ∀ (k : Nat) (c : Blk), bs[k]? = some c → ∃ b', (bs.set i b1 ++ [d])[k]? = some b' ∧ b'.1 = c.1 ∧ b'.2 = c.2 := by
    intro k c hk
    have hlt := (List.getElem?_eq_some_iff.1 hk).1
    by_cases hki : i = k
    · subst hki; rw [hb] at hk; cases hk
      exact ⟨b1, by rw [List.getElem?_append_left (by simpa using hlt), List.getElem?_set_self li'], by rw [hb1], by rw [hb1]⟩
    · exact ⟨c, by rw [List.getElem?_append_left (by simpa using hlt), List.getElem?_set_ne hki]; exact hk, rfl, rfl⟩
  rw [← hmo]
  refine ⟨bs.set i b1 ++ [d], ⟨⟨he.x.lt, fun k r hk hn hm => he.x.out k r hk hn (hown _ hm), he.x.cell⟩, by simp [he.len], fun y hy => he.lto y (hown y hy), ?_, ?_⟩, hext, hown⟩
  · have mixed : ∀ (k : Nat) (c2 : Blk) (o : VObj), bs[k]? = some c2 → h[k]? = some o → k ≠ i → ∀ y, y ∈ c2.own → y ∈ b.own → o = .dead := by
      intro k c2 o hk ho hki y h1 h2
      rcases he.sepo k i c2 b o _ hk hb ho hi y h1 h2 with h | h | h
      · exact (hki h).elim
      · exact h
      · cases h
    intro k m c2 c3 o q hk hm ho hq y hy1 hy2
    rcases hbcase k c2 hk with ⟨k1, rfl⟩ | ⟨k1, rfl⟩ | ⟨k1, k2, k3⟩
    · rcases hbcase m c3 hm with ⟨m1, rfl⟩ | ⟨m1, rfl⟩ | ⟨m1, m2, m3⟩
      · exact .inl (by omega)
      · exact (h4 ((hdo y hy2).symm.trans (hb1o y hy1))).elim
      · rcases hocase m q hq with ⟨q1, _⟩ | ⟨q1, _⟩ | ⟨_, _, q3⟩
        · exact (m1 q1).elim
        · rw [he.len] at m2; omega
        · exact .inr (.inr (mixed m c3 q m3 q3 m1 y hy2 (by rw [hb1o y hy1]; exact b.own1)))
    · rcases hbcase m c3 hm with ⟨m1, rfl⟩ | ⟨m1, rfl⟩ | ⟨m1, m2, m3⟩
      · exact (h4 ((hdo y hy1).symm.trans (hb1o y hy2))).elim
      · exact .inl (by omega)
      · rcases hocase m q hq with ⟨q1, _⟩ | ⟨q1, _⟩ | ⟨_, _, q3⟩
        · exact (m1 q1).elim
        · rw [he.len] at m2; omega
        · exact .inr (.inr (mixed m c3 q m3 q3 m1 y hy2 (by rw [hdo y hy1]; exact hxb)))
    · rcases hocase k o ho with ⟨o1, _⟩ | ⟨o1, _⟩ | ⟨_, _, o3⟩
      · exact (k1 o1).elim
      · rw [he.len] at k2; omega
      rcases hbcase m c3 hm with ⟨m1, rfl⟩ | ⟨m1, rfl⟩ | ⟨m1, m2, m3⟩
      · exact .inr (.inl (mixed k c2 o k3 o3 k1 y hy1 (by rw [hb1o y hy2]; exact b.own1)))
      · exact .inr (.inl (mixed k c2 o k3 o3 k1 y hy1 (by rw [hdo y hy2]; exact hxb)))
      · rcases hocase m q hq with ⟨q1, _⟩ | ⟨q1, _⟩ | ⟨_, _, q3⟩
        · exact (m1 q1).elim
        · rw [he.len] at m2; omega
        · exact he.sepo k m c2 c3 o q k3 m3 o3 q3 y hy1 hy2
  · intro k c2 o hk ho
    rcases hbcase k c2 hk with ⟨k1, rfl⟩ | ⟨k1, rfl⟩ | ⟨k1, k2, k3⟩
    · rcases hocase k o ho with ⟨_, rfl⟩ | ⟨o1, _⟩ | ⟨o1, _, _⟩
      · subst hmo; subst hb1
        have hds : VR ex (bs.set i ⟨b.1, b.2, []⟩ ++ [d]) (.slice (some ⟨h.length, 0, none⟩) u.n 1) (.slice (some ⟨x, 0, none⟩) u.n c) := by
          have hd1 : d.1 = x := by rw [hd]
          have hd2 : d.2 = l.length := by rw [hd]
          rw [← hd1]
          refine .slice h.length 0 _ 1 c d ?_ (by rw [hd2]; simp; omega) h6
          rw [← he.len, List.getElem?_append_right (by simp)]; simp
        exact ⟨_, t, e, h1, by rw [← h2]; simp; omega, vrs_plain9 hds rfl⟩
      · omega
      · exact (o1 k1).elim
    · rcases hocase k o ho with ⟨o1, _⟩ | ⟨_, rfl⟩ | ⟨_, o2, _⟩
      · omega
      · subst hd; exact ⟨l, e', h5, rfl, by omega, h8⟩
      · rw [he.len] at k1; omega
    · rcases hocase k o ho with ⟨o1, _⟩ | ⟨o1, _⟩ | ⟨_, _, o3⟩
      · exact (k1 o1).elim
      · rw [he.len] at k2; omega
      · exact (he.holds k c2 o k3 o3).mono hext

theorem Goes.openMem {P : Program} {ex : XTab} {N i : Nat} {c : Code} {lv lv' : List (Nat × Value)} {h h' : VHeap} {x : X} {u : Mu} (hi : h[i]? = some (.pay (.mem u)))
    (hc : Goes P ex N 0 c lv ((h.set i (.cells [.slice (some ⟨h.length, 0, none⟩) u.n 1, .int .i64 u.clk, .int .i64 u.bad, .int .i64 u.k, .int .i64 u.who, .int .i64 u.at', .int .u64 u.old, .int .u64 u.new, .bool u.dn] 0)) ++ [.fn u.n .u64 u.w 0]) x lv' h') : Goes P ex N 0 c lv h x lv' h' := by
  intro bs0 w0 bs a w Q hn hgr hat hQ
  have h0 : bs0 = [] := List.eq_nil_of_length_eq_zero hn
  subst h0
  obtain ⟨bs', he', hext, hown⟩ := hat.emb.openMem hi
  exact hc [] w0 bs' a w Q rfl ⟨fun _ _ h => by simp at h, fun x hx => hgr.mem x (hown x hx), hgr.size, hgr.same, hgr.os, hgr.output, hgr.tape⟩ ⟨he', hat.size, fun j v hv => (VR_VRs_mono bs' hext).1 _ _ (hat.slots j v hv)⟩ hQ

end Go.Vx
