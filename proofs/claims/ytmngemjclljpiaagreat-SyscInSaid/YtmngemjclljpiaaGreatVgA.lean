/- From a claim's arguments to the virtual heap's: the kinds of a type's cells; a slice as a row that is only read. -/
import Derived.ProofKit
import Derived.Deep.Slices
import Derived.OpenShut
import Derived.Test.YtmngemjclljpiaaGreatVxP

namespace Go.Vx
open Go.ChangeShapes Go.WideShapes Go.Deep Go.RowKit

/-- What a cell holds. -/
inductive CK where
  | bool
  | int (k : IntKind)
  | leaf (t : TypeId)
  deriving DecidableEq

def kfs (P : Program) (rec : TypeId → Option (List CK)) : List Field → Nat → Option (List CK)
  | [], _ => some []
  | f :: r, o =>
    match rec f.type with
    | some k => if f.offset = o ∧ P.cellsOf f.type = k.length then (kfs P rec r (o + k.length)).map (k ++ ·) else none
    | none => none

def reps (k : List CK) : Nat → List CK
  | 0 => []
  | n + 1 => k ++ reps k n

def kinds (P : Program) : Nat → TypeId → Option (List CK)
  | 0, _ => none
  | n + 1, t =>
    match P.underlying t with
    | some .bool => some [.bool]
    | some (.int k) => some [.int k]
    | some (.slice _) => some [.leaf t]
    | some (.struct fs) =>
      match kfs P (kinds P n) fs.toList 0 with
      | some ks => if ks.length = P.cellsOf t then some ks else none
      | none => none
    | some (.array m e) =>
      match kinds P n e with
      | some k => if k.length = P.cellsOf e ∧ (reps k m).length = P.cellsOf t then some (reps k m) else none
      | none => none
    | _ => none

def CKOK (r : TypeId → Value → Prop) : CK → Value → Prop
  | .bool, v => ∃ b, v = .bool b
  | .int k, v => ∃ n, v = .int k n ∧ (Lit.int k n).wf = true
  | .leaf t, v => r t v

inductive Mt (r : TypeId → Value → Prop) : List CK → List Value → Prop
  | nil : Mt r [] []
  | cons {k : CK} {v : Value} {ks : List CK} {vs : List Value} : CKOK r k v → Mt r ks vs → Mt r (k :: ks) (v :: vs)

theorem Mt.append {r : TypeId → Value → Prop} {k1 k2 : List CK} {c1 c2 : List Value} (h1 : Mt r k1 c1) (h2 : Mt r k2 c2) : Mt r (k1 ++ k2) (c1 ++ c2) := by
  induction h1 with
  | nil => exact h2
  | cons h _ ih => exact .cons h ih

theorem Mt.len {r : TypeId → Value → Prop} {ks : List CK} {cs : List Value} (h : Mt r ks cs) : cs.length = ks.length := by
  induction h with
  | nil => rfl
  | cons _ _ ih => simp [ih]

theorem Mt.get {r : TypeId → Value → Prop} {ks : List CK} {cs : List Value} (h : Mt r ks cs) : ∀ {i : Nat} {k : CK}, ks[i]? = some k → ∃ v, cs[i]? = some v ∧ CKOK r k v := by
  induction h with
  | nil => intro i k hk; simp at hk
  | cons hv _ ih =>
    intro i k hk
    match i with
    | 0 => simp at hk; subst hk; exact ⟨_, rfl, hv⟩
    | i + 1 => simpa using ih (i := i) (by simpa using hk)

section
variable {H : Type} {enc : TypeId × Value → H} {P : Program} {w : World} {base : Nat} {spare : Nat → Bool} {held : Bool}

/-- One cell that reads. -/
def Reads (enc : TypeId × Value → H) (P : Program) (w : World) (base : Nat) (spare : Nat → Bool) (held : Bool) (t : TypeId) (v : Value) : Prop := ∃ (n : Nat) (x : DataW H × List MemPlace), DataW.trod enc P w base spare held n t [v] = some x

theorem mt_fields {rec : TypeId → Option (List CK)} {n : Nat} {cs : List Value} (hrec : ∀ t ks cs x, rec t = some ks → DataW.trod enc P w base spare held n t cs = some x → Mt (Reads enc P w base spare held) ks cs) :
    ∀ (fs : List Field) (o : Nat) (ks : List CK), kfs P rec fs o = some ks → (∀ f ∈ fs, ∃ x, DataW.trod enc P w base spare held n f.type ((cs.drop f.offset).take (P.cellsOf f.type)) = some x) → o + ks.length = cs.length →
      Mt (Reads enc P w base spare held) ks (cs.drop o) := by
  intro fs
  induction fs with
  | nil =>
    intro o ks hk _ hl
    simp [kfs] at hk; subst hk
    rw [List.drop_of_length_le (by simp at hl; omega)]; exact .nil
  | cons f r ih =>
    intro o ks hk hx hl
    unfold kfs at hk
    split at hk
    · rename_i k hf
      split at hk
      · rename_i h0
        obtain ⟨ho, hc⟩ := h0
        obtain ⟨k2, hk2, rfl⟩ := Option.map_eq_some_iff.1 hk
        obtain ⟨x, h1⟩ := hx f List.mem_cons_self
        have m1 := hrec _ _ _ _ hf h1
        rw [ho, hc] at m1
        have m2 := ih (o + k.length) k2 hk2 (fun g hg => hx g (List.mem_cons_of_mem _ hg)) (by simp at hl; omega)
        have e : cs.drop o = (cs.drop o).take k.length ++ cs.drop (o + k.length) := by
          rw [← List.drop_drop, List.take_append_drop]
        rw [e]; exact m1.append m2
      · cases hk
    · cases hk

theorem mt_reps {k : List CK} {cs : List Value} {c : Nat} (hc : k.length = c) : ∀ (m : Nat) (o : Nat), (∀ i, i < m → Mt (Reads enc P w base spare held) k ((cs.drop (o + i * c)).take c)) → o + m * c = cs.length → Mt (Reads enc P w base spare held) (reps k m) (cs.drop o) := by
  intro m
  induction m with
  | zero => intro o _ hl; rw [List.drop_of_length_le (by omega)]; exact .nil
  | succ m ih =>
    intro o hx hl
    have m1 := hx 0 (by omega)
    simp only [Nat.zero_mul, Nat.add_zero] at m1
    have m2 := ih (o + c) (fun i hi => by have := hx (i + 1) (by omega); rwa [show o + (i + 1) * c = o + c + i * c by rw [Nat.add_mul]; omega] at this) (by rw [Nat.add_mul] at hl; omega)
    have e : cs.drop o = (cs.drop o).take c ++ cs.drop (o + c) := by
      rw [← List.drop_drop, List.take_append_drop]
    rw [e]; exact m1.append m2

theorem mt_of_trod : ∀ (m : Nat) (t : TypeId) (ks : List CK) (n : Nat) (cs : List Value) (x : DataW H × List MemPlace), kinds P m t = some ks → DataW.trod enc P w base spare held n t cs = some x → Mt (Reads enc P w base spare held) ks cs := by
  intro m
  induction m with
  | zero => intro t ks n cs x hk; simp [kinds] at hk
  | succ m ih =>
    intro t ks n cs x hk h
    unfold kinds at hk
    split at hk
    · rename_i hu
      cases hk
      obtain ⟨b, rfl, _⟩ := DataW.trod_bool hu h
      exact .cons ⟨b, rfl⟩ .nil
    · rename_i k hu
      cases hk
      obtain ⟨b, rfl, _, hw⟩ := DataW.trod_int hu h
      exact .cons ⟨b, rfl, hw⟩ .nil
    · rename_i e hu
      cases hk
      have h' := h
      rcases DataW.trod_slice hu h with ⟨rfl, _⟩ | ⟨a, len, cap, _, _, _, _, rfl, _⟩
      · exact .cons ⟨n, x, h'⟩ .nil
      · exact .cons ⟨n, x, h'⟩ .nil
    · rename_i fs hu
      split at hk
      · rename_i ks' hks
        split at hk
        · rename_i hl
          cases hk
          obtain ⟨xs, n', _, _, hcl, hxl, hf⟩ := DataW.trod_struct hu h
          have := mt_fields (cs := cs) (fun t ks cs x => ih t ks n' cs x) fs.toList 0 ks hks (fun f hf' => by
            obtain ⟨i, hi, rfl⟩ := List.getElem_of_mem hf'
            have h1 := hf i fs.toList[i] (by simp at hi ⊢)
            rw [List.getElem?_eq_getElem (by simp at hi; omega)] at h1
            exact ⟨_, h1⟩) (by omega)
          simpa using this
        · cases hk
      · cases hk
    · rename_i mm e hu
      split at hk
      · rename_i k hke
        split at hk
        · rename_i hl
          cases hk
          obtain ⟨xs, n', _, _, hcl, hxl, hf⟩ := DataW.trod_array hu h
          have hlen : ∀ q : Nat, (reps k q).length = q * k.length := by
            intro q; induction q with
            | zero => simp [reps]
            | succ q ihq => simp [reps, ihq, Nat.add_mul]; omega
          have := mt_reps (enc := enc) (P := P) (w := w) (base := base) (spare := spare) (held := held) (cs := cs) hl.1 mm 0 (fun i hi => by
            have h1 := hf i hi
            rw [List.getElem?_eq_getElem (by omega)] at h1
            rw [Nat.zero_add]
            exact ih e k n' _ _ hke h1) (by have := hl.2; rw [hlen, hl.1] at this; omega)
          simpa using this
        · cases hk
      · cases hk
    · cases hk

/-- No cell leads away. -/
def flat : List CK → Bool
  | [] => true
  | .leaf _ :: _ => false
  | _ :: r => flat r

theorem flat_get : ∀ {ks : List CK} (_ : flat ks = true) {i : Nat} {k : CK}, ks[i]? = some k → ∀ t, k ≠ .leaf t
  | [], _, i, k, hk => by simp at hk
  | a :: r, hf, i, k, hk => by
    match i with
    | 0 => simp at hk; subst hk; intro t e; subst e; simp [flat] at hf
    | i + 1 =>
      have : flat r = true := by cases a <;> simp_all [flat]
      exact flat_get this (by simpa using hk)

theorem CKOK.plain {r : TypeId → Value → Prop} {k : CK} {v : Value} (h : CKOK r k v) (hk : ∀ t, k ≠ .leaf t) : plain1 v = true := by
  match k with
  | .bool => obtain ⟨b, rfl⟩ := h; rfl
  | .int _ => obtain ⟨n, rfl, _⟩ := h; rfl
  | .leaf t => exact absurd rfl (hk t)

/-- A row that is there. -/
structure RowIn (w : World) (r : XRow) : Prop where
  lt : 0 < r.n → r.b < w.heap.size
  cell : ∀ off, r.lo ≤ off → off < r.lo + r.n → w.cell? ⟨r.b, off, none⟩ = some (r.g off) ∧ plain1 (r.g off) = true

def noRow : XRow := ⟨0, 0, 0, fun _ => .bool false⟩
theorem noRow_in (w : World) : RowIn w noRow := ⟨fun h => absurd h (Nat.lt_irrefl 0), fun off h1 h2 => absurd h2 (by simp [noRow])⟩

theorem emb_of_rows {ex : XTab} {w : World} (h : ∀ r ∈ ex, RowIn w r) : Emb ex [] [] w :=
  ⟨⟨fun k r hk hn => (h r (List.mem_of_getElem? hk)).lt hn, fun k r _ _ hm => by simp [own] at hm, fun k r hk => (h r (List.mem_of_getElem? hk)).cell⟩, rfl, fun x hx => by simp [own] at hx, fun i j b c o q hb => by simp at hb, fun i b o hb => by simp at hb⟩

/-- A slice that reads, as a row: 'c' cells an element. -/
theorem row_of_slice {t e : TypeId} {m : Nat} {ks : List CK} {v : Value} (ht : P.underlying t = some (.slice e)) (hk : kinds P m e = some ks) (hc : P.cellsOf e = ks.length) (hpos : 0 < ks.length) (hf : flat ks = true) (h : Reads enc P w base spare held t v) :
    ∃ (r : XRow) (off len : Nat), RowIn w r ∧ len ≤ maxLen ∧ (∀ (ex : XTab) (bs : List Blk) (k : Nat), ex[k]? = some r → VR ex bs (.slice (some ⟨r.b, off, some k⟩) len 0) v) ∧
      ∀ i, i < len → r.lo ≤ off + i * ks.length ∧ off + i * ks.length + ks.length ≤ r.lo + r.n ∧ ∀ (j : Nat) (k : CK), ks[j]? = some k → CKOK (Reads enc P w base spare held) k (r.g (off + i * ks.length + j)) := by
  obtain ⟨n, x, h⟩ := h
  rcases open_slice ht h with ⟨h0, _⟩ | ⟨a, len, cap, mm, n', D, Pl, h0, _, hlc, hcm, hm, _, hx⟩
  · simp at h0; subst h0
    exact ⟨noRow, 0, 0, noRow_in w, Nat.zero_le _, fun ex bs k _ => .fnil _ _ _ _ _ _, fun i hi => absurd hi (Nat.not_lt_zero _)⟩
  simp at h0; subst h0
  rcases Nat.eq_zero_or_pos len with hl0 | hl0
  · subst hl0
    exact ⟨noRow, 0, 0, noRow_in w, Nat.zero_le _, fun ex bs k _ => .fnil _ _ _ _ _ _, fun i hi => absurd hi (Nat.not_lt_zero _)⟩
  have hlm : len ≤ mm := by rw [hm]; split <;> omega
  -- every cell
  have hcell : ∀ i, i < len → ∀ (j : Nat) (k : CK), ks[j]? = some k → ∃ v, w.cell? ((a.add (i * ks.length)).add j) = some v ∧ CKOK (Reads enc P w base spare held) k v := by
    intro i hi j k hkj
    obtain ⟨cs, h1, h2⟩ := hx i (by omega)
    rw [hc] at h1
    obtain ⟨_, hl, hg⟩ := World.cells?_some h1
    obtain ⟨v, hv, hok⟩ := (mt_of_trod m e ks n' cs _ hk h2).get hkj
    exact ⟨v, by rw [hg j (List.getElem?_eq_some_iff.1 hkj).1]; exact hv, hok⟩
  obtain ⟨b, off, spot⟩ := a
  have hk0 : ks[0]? = some ks[0] := List.getElem?_eq_getElem hpos
  obtain ⟨v0, hv0, _⟩ := hcell 0 hl0 0 _ hk0
  have e0 : ((⟨b, off, spot⟩ : Addr).add (0 * ks.length)).add 0 = ⟨b, off, spot⟩ := by simp [Addr.add]
  rw [e0] at hv0
  have hsp : spot = none := by
    unfold World.cell? at hv0
    split at hv0
    · cases spot with
      | none => rfl
      | some s => simp at hv0
    · cases hv0
  subst hsp
  have hadd : ∀ i : Nat, (⟨b, off, none⟩ : Addr).add i = ⟨b, off + i, none⟩ := by
    intro i; unfold Addr.add; split
    · rename_i h; subst h; rfl
    · rfl
  have hb : b < w.heap.size := by
    unfold World.cell? at hv0
    rcases Nat.lt_or_ge b w.heap.size with h | h
    · exact h
    · rw [show w.heap[b]? = none by simp; omega] at hv0; simp at hv0
  have hcell' : ∀ i, i < len → ∀ (j : Nat) (k : CK), ks[j]? = some k → ∃ v, w.cell? ⟨b, off + i * ks.length + j, none⟩ = some v ∧ CKOK (Reads enc P w base spare held) k v := by
    intro i hi j k hkj
    obtain ⟨v, hv, hok⟩ := hcell i hi j k hkj
    refine ⟨v, ?_, hok⟩
    rw [← hv]; congr 1
    rw [hadd, Addr.add]
    split
    · rename_i hz; rw [hz]; rfl
    · rfl
  refine ⟨⟨b, off, len * ks.length, fun o => (w.cell? ⟨b, o, none⟩).getD (.bool false)⟩, off, len, ⟨fun _ => hb, fun o h1 h2 => ?_⟩, by omega, fun ex bs k hkk => ?_, fun i hi => ⟨by simp, ?_, fun j k hkj => ?_⟩⟩
  · simp only at h1 h2 ⊢
    have hd : o = off + ((o - off) / ks.length) * ks.length + (o - off) % ks.length := by
      have := Nat.div_add_mod (o - off) ks.length
      rw [Nat.mul_comm] at this
      omega
    have hi : (o - off) / ks.length < len := by
      rw [Nat.div_lt_iff_lt_mul hpos]; omega
    have hj : (o - off) % ks.length < ks.length := Nat.mod_lt _ hpos
    obtain ⟨v, hv, hok⟩ := hcell' _ hi _ _ (List.getElem?_eq_getElem hj)
    rw [← hd] at hv
    rw [hv]
    exact ⟨rfl, hok.plain (flat_get hf (List.getElem?_eq_getElem hj))⟩
  · exact .fslice k off len 0 cap _ hkk
  · simp only
    have : i * ks.length + ks.length ≤ len * ks.length := by
      rw [← Nat.succ_mul]; exact Nat.mul_le_mul_right _ hi
    omega
  · obtain ⟨v, hv, hok⟩ := hcell' i hi j k hkj
    simp only [hv, Option.getD_some]
    exact hok

/-- An argument that reads, by its cells. -/
theorem arg_struct {t : TypeId} {fs : Array Field} {m : Nat} {ks : List CK} {r0 : Reach} {b0 : Nat} {v : Value} {d : DataW H} {ps : List MemPlace} (ht : P.underlying t = some (.struct fs)) (hk : kinds P m t = some ks) (hval : Value.okWide P w r0 b0 t v) (h : DataW.Trod enc P w base spare held t v d ps) :
    ∃ cs, v = .agg ⟨cs⟩ ∧ Mt (Reads enc P w base spare held) ks cs := by
  obtain ⟨cs, rfl, _⟩ := okWide_struct ht hval
  obtain ⟨n, hn⟩ := h
  refine ⟨cs.toList, by cases cs; rfl, mt_of_trod m t ks n _ _ hk (by simpa [Value.cells] using hn)⟩

theorem arg_slice {t e : TypeId} {r0 : Reach} {b0 : Nat} {v : Value} {d : DataW H} {ps : List MemPlace} (ht : P.underlying t = some (.slice e)) (hval : Value.okWide P w r0 b0 t v) (h : DataW.Trod enc P w base spare held t v d ps) :
    Reads enc P w base spare held t v := by
  obtain ⟨a, len, cap, rfl⟩ := okWide_slice ht hval
  obtain ⟨n, hn⟩ := h
  exact ⟨n, _, by simpa [Value.cells] using hn⟩

end

def isStruct (P : Program) (t : TypeId) : Bool :=
  match P.underlying t with
  | some (.struct _) => true
  | _ => false
theorem struct_of {P : Program} {t : TypeId} (h : isStruct P t = true) : ∃ fs, P.underlying t = some (.struct fs) := by
  unfold isStruct at h
  split at h
  · exact ⟨_, by assumption⟩
  · cases h

theorem Grow.below {w w' : World} {bs' : List Blk} (h : Grow [] w bs' w') : Below w.heap.size w w' :=
  ⟨h.os, h.tape, h.output, h.size, fun k hk => h.same k hk (by simp [own])⟩

theorem wf_u64 {n : Int} (h : (Lit.int .u64 n).wf = true) : 0 ≤ n ∧ n < 18446744073709551616 := by
  simp [Lit.wf, IntKind.min, IntKind.max, IntKind.signed, IntKind.bits] at h
  omega

theorem wf_i64 {n : Int} (h : (Lit.int .i64 n).wf = true) : -9223372036854775808 ≤ n ∧ n ≤ 9223372036854775807 := by
  simp [Lit.wf, IntKind.min, IntKind.max, IntKind.signed, IntKind.bits] at h
  omega
end Go.Vx
