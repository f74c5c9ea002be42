/- How a run is used. -/
import Derived.Test.YtmngemjclljpiaaGreatVxK
namespace Go.Vx

def outs (k : Nat) (r : Option (Value × XS)) : Option (Value × VHeap × List Hint × Prop) :=
  match r with
  | some (v, s) => some (v, s.heap.take k, s.hints, s.ob)
  | none => none

/-- A run that was looked at is a contract; of its memory the first k objects are told. -/
theorem contractK {P : Program} {cfg : Cfg} {f : FuncId} (hg : cfg.Good P) (n k : Nat) (hints : List Hint) (args : List Value) (h : VHeap) (v : Value) (h' : VHeap)
    (hr : outs k (vrun P cfg n f args ⟨h, hints, True, []⟩ false) = some (v, h', [], expOb hints True)) : ∃ g, VCalls P cfg.ext f args h v (h' ++ g) := by
  cases hx : vrun P cfg n f args ⟨h, hints, True, []⟩ false with
  | none => rw [hx] at hr; cases hr
  | some r =>
    obtain ⟨u, s⟩ := r
    rw [hx] at hr
    simp only [outs, Option.some.injEq, Prod.mk.injEq] at hr
    obtain ⟨rfl, h1, h2, h3⟩ := hr
    refine ⟨s.heap.drop k, ?_⟩
    rw [← h1, List.take_append_drop]
    exact ((vrun_sound hg n).sound f args _ false u s hx (by rw [h3]; exact expOb_true _ _ trivial)).2.1

/-- A function of numbers alone, over any memory. -/
theorem VCalls.numbers {P : Program} {ex : XTab} {f : FuncId} {args : List Value} {v : Value} {h1' : VHeap} (h : VHeap) (hc : VCalls P ex f args [] v h1') (ha : RNs false [] args args) (hv : RN false [] v v) : VCalls P ex f args h v h :=
  VCalls.frame (h1 := []) (h1' := h1') [] 0 hc ⟨rfl, List.nodup_nil, fun k j o hk => by simp at hk⟩ (RN_weak.2 _ _ ha) (by simpa [psNew] using hv) (fun k j hk => by simp at hk) rfl (by simp) (fun k j o hk => by simp [psNew] at hk) (fun _ _ _ => rfl)

end Go.Vx
