/- SyscIn answers true. -/
import Derived.Test.YtmngemjclljpiaaGreatVlIn3
namespace Go.Vx
open Go.Proofs

theorem inC_code : inC = .seq (piece [0] inC) (.seq (piece [1, 0] inC) (.seq (piece [1, 1, 0] inC) (.seq (piece [1, 1, 1, 0] inC) (.seq (piece [1, 1, 1, 1, 0] inC) (.seq (.seq (piece [1, 1, 1, 1, 1, 0, 0] inC) (.block 0 (.loop inBody))) (piece [1, 1, 1, 1, 1, 1] inC)))))) := by kernel_rfl
theorem inC_fn : fnOK Tryz.prog syscInF 154 [6] = true := by kernel_rfl

section
variable (c : Cf) (pk pu : Pk) (r2 : XRow) (t p g : Int)

theorem syscIn_run (hpk : ∀ i : Int, 0 ≤ i → i < pk.len → pk.len ≤ 100 → PokeAt pk i) (hpu : pu.len ≤ 400 → PutsOK pu) : VCalls Tryz.prog (exB pk pu r2) syscInF [gnd c pu, whV t p g, pk.v 0] [] (B true) [] := by
  suffices hgo : Goes Tryz.prog (exB pk pu r2) 154 0 inC [(0, gnd c pu), (1, whV t p g), (2, pk.v 0)] [] .ret [(6, B true)] [] from
    VCalls.body inC_fn (x := .ret) (lv' := [(6, B true)]) rfl (by simp) (.inr rfl) hgo (l := [B true]) rfl rfl
  have hcode := inC_code
  have e0 := inA_0 c pk pu t p g (exB pk pu r2)
  have hF : ∀ j v, assoc j [(6, B true)] = some v → plainR v = true := by
    intro j v hv
    have := assoc_mem hv
    simp at this
    rw [this.2]; rfl
  by_cases h1 : few c.P c.T c.G ∧ pu.len ≤ 400
  · obtain ⟨f, hf, hlay⟩ := lay_run c pk pu r2 h1.1 h1.2 (hpu h1.2)
    have hN := many_le h1.1
    have e1 := inA_1 c pk pu r2 t p g f (TabOK.cons (layGOK c pk pu r2 hlay) .nil)
    by_cases h2 : known c t p g ∧ pk.len ≤ 100
    · have e2 := inA_2 c pk pu t p g (exB pk pu r2) f h2.1 h2.2
      have key : ∀ b : Nat, Goes Tryz.prog (exA (lay1 c b) pk pu r2) 154 0 (.seq (piece [1, 1, 1, 0] inC) (.seq (piece [1, 1, 1, 1, 0] inC) (.seq (.seq (piece [1, 1, 1, 1, 1, 0, 0] inC) (.block 0 (.loop inBody))) (piece [1, 1, 1, 1, 1, 1] inC))))
          [(2, pk.v 0), (3, ptr 0), (4, ptr 1), (7, lptr (lay1 c b)), (8, ptr 2), (9, ptr 3)] [gO c pu, whO t p g, mem (mu0 (many c.P c.T c.G) f), mem (mu0 (many c.P c.T c.G) f)] .ret [(6, B true)] [] := by
        intro b
        obtain ⟨k, u', hr, hw, hn⟩ := in_loop (lay1 c b) pk pu r2 t p g (by omega) (fun i h0 hi => hpk i h0 hi h2.2) pk.len 0 (mu0 (many c.P c.T c.G) f) _ _ .zero (fun j => hf j) (by omega) (by omega)
        exact Goes.seq (inB_4 pk pu r2 t p g (lay1 c b) (mu0 (many c.P c.T c.G) f)) (Goes.seq (inB_5 pk pu r2 t p g (lay1 c b) (mu0 (many c.P c.T c.G) f)) (Goes.seq (Goes.seq (inB_6 pk pu r2 t p g (lay1 c b) (mu0 (many c.P c.T c.G) f)) (Goes.block hr.goes)) (inZ (exA (lay1 c b) pk pu r2) u' (by rw [hn]; show 0 < many c.P c.T c.G ∧ many c.P c.T c.G ≤ 100000; omega))))
      rw [hcode]
      refine Goes.seq e0 (Goes.seq e1 (Goes.seq e2 ?_))
      refine Goes.freeze (i := 2) (ps := [0, 1, 3, 4]) (l := [I c.P, I c.T, I c.G, I (lay0 c).th, I (lay0 c).gs, I (lay0 c).all]) (e := 0) rfl rfl hF fun b => ⟨_, _, inFreeze c pk pu t p g b f, key b⟩
    · have e2 := inU_2 c pk pu t p g (exB pk pu r2) f h2
      rw [hcode]
      exact Goes.seq e0 (Goes.seq e1 (Goes.seq_out (by simp) e2))
  · have e1 := inN_1 c pk pu r2 t p g (TabOK.cons (layNoOK c pk pu r2 h1) .nil)
    have e2 := inN_2 c pk pu t p g (exB pk pu r2)
    rw [hcode]
    exact Goes.seq e0 (Goes.seq e1 (Goes.seq_out (by simp) e2))
end
end Go.Vx
