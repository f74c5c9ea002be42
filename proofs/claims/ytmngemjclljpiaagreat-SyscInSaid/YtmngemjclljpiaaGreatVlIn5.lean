/- SyscIn: the claim. -/
import Derived.Test.YtmngemjclljpiaaGreatRows
import Derived.Test.YtmngemjclljpiaaGreatVlIn4
import Derived.Test.YtmngemjclljpiaaGreatVgA
namespace Go.Vx
open Go.Proofs

theorem w64_next {i : Int} {len : Nat} (h0 : 0 ≤ i) (hi : i < len) (hl : len ≤ maxLen) : w64 (i + 1) = i + 1 := by
  simp only [maxLen] at hl
  exact w64_id (by omega) (by omega)

section
variable {rd : TypeId → Value → Prop}

theorem pokeAt {r : XRow} {off len : Nat} (hl : len ≤ maxLen) (h : ∀ i, i < len → r.lo ≤ off + i * 6 ∧ off + i * 6 + 6 ≤ r.lo + r.n ∧ ∀ (j : Nat) (k : CK), ([.bool, .int .i64, .int .i64, .int .i64, .int .u64, .int .u64] : List CK)[j]? = some k → CKOK rd k (r.g (off + i * 6 + j))) :
    ∀ i : Int, 0 ≤ i → i < len → PokeAt ⟨r, off, len⟩ i := by
  intro i h0 hi
  obtain ⟨h1, h2, hc⟩ := h i.toNat (by omega)
  obtain ⟨b, hb⟩ := hc 0 .bool rfl
  have hn := w64_next h0 hi hl
  cases b with
  | true => exact .inl ⟨hi, ⟨h0, hi⟩, ⟨h1, by show off + i.toNat * 6 < r.lo + r.n; omega⟩, hb, hn⟩
  | false =>
    obtain ⟨k, hk, _⟩ := hc 1 (.int .i64) rfl
    obtain ⟨who, hwho, _⟩ := hc 2 (.int .i64) rfl
    obtain ⟨at', hat, _⟩ := hc 3 (.int .i64) rfl
    obtain ⟨o, ho, _⟩ := hc 4 (.int .u64) rfl
    obtain ⟨v, hv, hwf⟩ := hc 5 (.int .u64) rfl
    refine .inr ⟨k, who, at', o, v, ⟨hi, ⟨h0, hi⟩, ⟨h1, by show off + i.toNat * 6 < r.lo + r.n; omega⟩, ⟨by show r.lo ≤ off + i.toNat * 6 + 1; omega, by show off + i.toNat * 6 + 1 + 5 ≤ r.lo + r.n; omega⟩, hb, ?_, hn⟩, wf_u64 hwf⟩
    show (Value.agg ⟨[r.g _, r.g _, r.g _, r.g _, r.g _]⟩) = _
    simp only [Nat.add_assoc] at hk hwho hat ho hv ⊢
    simp only [Nat.reduceAdd] at hk hwho hat ho hv ⊢
    rw [hk, hwho, hat, ho, hv]

theorem putsOK {r : XRow} {off len : Nat} (hl : len ≤ maxLen) (h : ∀ i, i < len → r.lo ≤ off + i * 2 ∧ off + i * 2 + 2 ≤ r.lo + r.n ∧ ∀ (j : Nat) (k : CK), ([.int .i64, .int .u64] : List CK)[j]? = some k → CKOK rd k (r.g (off + i * 2 + j))) : PutsOK ⟨r, off, len⟩ := by
  intro i h0 hi
  obtain ⟨h1, h2, hc⟩ := h i.toNat (by have : i < (len : Int) := hi; omega)
  obtain ⟨a, ha, _⟩ := hc 0 (.int .i64) rfl
  obtain ⟨v, hv, hwf⟩ := hc 1 (.int .u64) rfl
  exact ⟨a, v, ⟨hi, ⟨h0, hi⟩, ⟨h1, by show off + i.toNat * 2 < r.lo + r.n; omega⟩, ⟨by show r.lo ≤ off + i.toNat * 2 + 1; omega, by show off + i.toNat * 2 + 1 < r.lo + r.n; omega⟩, ha, hv, w64_next h0 hi hl⟩, wf_u64 hwf⟩
end
end Go.Vx

namespace Go.Proofs.YtmngemjclljpiaaGreat
open Go.ChangeShapes Go.WideShapes Go.ChangeAt Go.RowKit Go.Vx

theorem Tryz.own : ownKnob Tryz.prog.godebug = none := by kernel_rfl
theorem Tryz.laidOut : laidOutB Tryz.prog = true := by kernel_rfl

abbrev groundT : TypeId := 26
abbrev whatT : TypeId := 28
abbrev pokesT : TypeId := 29
abbrev pokeT : TypeId := 44
abbrev putsT : TypeId := 24
abbrev putT : TypeId := 72
theorem kGround : kinds Tryz.prog 4 groundT = some [.int .i64, .int .i64, .int .i64, .leaf putsT] := by kernel_rfl
theorem kWhat : kinds Tryz.prog 4 whatT = some [.int .i64, .int .i64, .int .i64] := by kernel_rfl
theorem kPoke : kinds Tryz.prog 4 pokeT = some [.bool, .int .i64, .int .i64, .int .i64, .int .u64, .int .u64] := by kernel_rfl
theorem kPut : kinds Tryz.prog 4 putT = some [.int .i64, .int .u64] := by kernel_rfl
theorem sGround : isStruct Tryz.prog groundT = true := by kernel_rfl
theorem sWhat : isStruct Tryz.prog whatT = true := by kernel_rfl
theorem uPokes : Tryz.prog.underlying pokesT = some (.slice pokeT) := by kernel_rfl
theorem uPuts : Tryz.prog.underlying putsT = some (.slice putT) := by kernel_rfl
theorem cPoke : Tryz.prog.cellsOf pokeT = 6 := by kernel_rfl
theorem cPut : Tryz.prog.cellsOf putT = 2 := by kernel_rfl
theorem uBool : Tryz.prog.underlying 4 = some .bool := by kernel_rfl
theorem sParams : Tryz.f4.params = #[groundT, whatT, pokesT] := by kernel_rfl
theorem sResults : Tryz.f4.resultTypes = #[4] := by kernel_rfl

set_option maxRecDepth 100000 in
theorem f_lifted (os : Os) (started : os.Started) (H : Type) (enc : TypeId × Value → H) :
    ReturnsInHanded {} Tryz.checked os syscInF .any (Rows.syscInSpec.pre6 enc Tryz.prog Tryz.f4 Rows.syscInRow.domain false) (Rows.syscInSpec.post enc Tryz.prog Tryz.f4 false true false false) := by
  refine returnsInHanded_of_change (C := Tryz.checked) Tryz.own started (by kernel_rfl) Tryz.func4
    (ChangeSpec.witness6 (enc := enc) (C := Tryz.checked) false ⟨#[], #[.agg #[.int .i64 0, .int .i64 0, .int .i64 0, .slice none 0 0], .agg #[.int .i64 0, .int .i64 0, .int .i64 0], .slice none 0 0], []⟩ 8 (by kernel_rfl) (by kernel_rfl) (by kernel_rfl) (by kernel_rfl)) ?_
  intro W base args ds gs before hval0 hW hcnd _
  have hval : ∀ (j : Nat) t v, Tryz.f4.params[j]? = some t → args[j]? = some v → Value.okWide Tryz.prog W .any base t v := hval0
  have hW' := hW
  obtain ⟨p, q, hA0, hV, rfl, hfz, hnd⟩ := hW
  have hA : DataW.TrodAll enc Tryz.prog W 0 (fun _ => true) true Tryz.f4.params.toList args.toList ds p := hA0
  rw [sParams] at hA hval
  obtain ⟨v0, v1, v2, d0, d1, d2, p0, p1, p2, rfl, rfl, rfl, h0, h1, h2⟩ := trodAll_three hA
  obtain ⟨rfl, rfl⟩ := trodVars_none hV
  clear hA0 hval0
  simp only [List.append_nil] at hW'
  have hlt : ∀ x ∈ p0 ++ p1 ++ p2, x.block < W.heap.size := fun x hx => by simpa using hW'.lt x hx
  obtain ⟨fs0, u0⟩ := struct_of sGround
  obtain ⟨fs1, u1⟩ := struct_of sWhat
  obtain ⟨c0, e0, m0⟩ := arg_struct u0 kGround (hval 0 _ v0 rfl rfl) h0
  obtain ⟨c1, e1, m1⟩ := arg_struct u1 kWhat (hval 1 _ v1 rfl rfl) h1
  have r2 := arg_slice uPokes (hval 2 _ v2 rfl rfl) h2
  obtain ⟨rk, ko, kl, kin, klm, kv, kc⟩ := row_of_slice uPokes kPoke cPoke (by decide) rfl r2
  match c0, m0 with
  | [x0, x1, x2, x3], .cons ⟨n0, hx0, _⟩ (.cons ⟨n1, hx1, _⟩ (.cons ⟨n2, hx2, _⟩ (.cons rp .nil))) =>
  match c1, m1 with
  | [y0, y1, y2], .cons ⟨t, hy0, _⟩ (.cons ⟨pp, hy1, _⟩ (.cons ⟨g, hy2, _⟩ .nil)) =>
  obtain ⟨ru, uo, ul, uin, ulm, uv, uc⟩ := row_of_slice uPuts kPut cPut (by decide) rfl rp
  subst hx0 hx1 hx2 hy0 hy1 hy2 e0 e1
  have hrun := syscIn_run ⟨n0, n1, n2⟩ ⟨rk, ko, kl⟩ ⟨ru, uo, ul⟩ noRow t pp g (fun i h0 hi _ => pokeAt klm kc i h0 hi) (fun _ => putsOK ulm uc)
  have hemb : Emb (exB ⟨rk, ko, kl⟩ ⟨ru, uo, ul⟩ noRow) [] [] W := emb_of_rows fun r hr => by
    simp [exB] at hr
    rcases hr with rfl | rfl | rfl
    · exact kin
    · exact uin
    · exact noRow_in W
  refine (hrun [] W [_, _, _] hemb (.cons _ _ _ _ (.agg _ _ (.cons _ _ _ _ (.int _ _) (.cons _ _ _ _ (.int _ _) (.cons _ _ _ _ (.int _ _) (.cons _ _ _ _ (uv _ _ 1 rfl) .nil))))) (.cons _ _ _ _ (.agg _ _ (.cons _ _ _ _ (.int _ _) (.cons _ _ _ _ (.int _ _) (.cons _ _ _ _ (.int _ _) .nil)))) (.cons _ _ _ _ (kv _ _ 0 rfl) .nil)))).mono fun e W' ⟨v', bs', he, hv, _, hg⟩ => ?_
  cases hv
  subst he
  have hb := hg.below
  have cz : ∀ {t v d ps}, DataW.Trod enc Tryz.prog W 0 (fun _ => true) true t v d ps → Tryz.prog.readableRec t = true → t < Tryz.prog.types.size → (∀ x ∈ ps, x.block < W.heap.size) → DataW.Trod enc Tryz.prog W' 0 (fun b => decide (b < W.heap.size)) true t v d ps :=
    fun h hr ht hl => Below.trod Tryz.laidOut hr ht h hb hl
  have k0 := cz h0 (by kernel_rfl) (of_decide_eq_true (by kernel_rfl)) (fun x hx => hlt x (by simp [hx]))
  have k1 := cz h1 (by kernel_rfl) (of_decide_eq_true (by kernel_rfl)) (fun x hx => hlt x (by simp [hx]))
  have k2 := cz h2 (by kernel_rfl) (of_decide_eq_true (by kernel_rfl)) (fun x hx => hlt x (by simp [hx]))
  refine ⟨_, rfl, _, _, _, [], p0 ++ (p1 ++ p2), [], hW', ?_, ?_, rfl, hb.frame _, fun h => by cases h⟩
  · rw [sResults]; exact trodAll_mk1 (shut_bool uBool true)
  · rw [sParams]; exact trodAll_mk3 k0 k1 k2

theorem syscIn_holds : Rows.SyscInSaid :=
  OpenClaim.holds_of_wide syscInF Tryz.f4 rfl rfl rfl rfl rfl rfl rfl ⟨rfl, rfl, rfl, rfl, rfl⟩ rfl rfl rfl rfl rfl (by kernel_rfl) Tryz.func4 (by kernel_rfl)
    (of_decide_eq_true (by kernel_rfl)) (by unfold Func.isWrapper; first | (rw [if_pos (by decide +kernel)]; kernel_rfl) | (rw [if_neg (by decide +kernel)]; exact ⟨rfl, rfl⟩))
    (fun os started H enc _ => f_lifted os started H enc)

#print axioms syscIn_holds
end Go.Proofs.YtmngemjclljpiaaGreat
