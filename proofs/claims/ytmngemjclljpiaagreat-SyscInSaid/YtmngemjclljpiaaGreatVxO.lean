/- Of a memory less may be told. -/
import Derived.Test.YtmngemjclljpiaaGreatVxP
namespace Go.Vx

/-- Of the first object of some, less is told: numbers, by a function. -/
theorem Emb.ints {ex : XTab} {bs : List Blk} {h : VHeap} {i : Nat} {l : List Value} {e : TypeId} {w : World} (he : Emb ex bs h w) (hi : h[i]? = some (.cells l e)) (n : Nat) (k : IntKind) (g : Nat → Int) (e' : TypeId) (hn : n ≤ l.length) (hg : ∀ j, j < n → l[j]? = some (.int k (g j))) : Emb ex bs (h.set i (.fn n k g e')) w := by
  have hlt := (List.getElem?_eq_some_iff.1 hi).1
  have hcase : ∀ (j : Nat) (o : VObj), (h.set i (.fn n k g e'))[j]? = some o → (j = i ∧ o = .fn n k g e') ∨ (j ≠ i ∧ h[j]? = some o) := by
    intro j o hj
    by_cases hij : i = j
    · subst hij; rw [List.getElem?_set_self hlt] at hj; cases hj; exact .inl ⟨rfl, rfl⟩
    · rw [List.getElem?_set_ne hij] at hj; exact .inr ⟨Ne.symm hij, hj⟩
  refine ⟨he.x, by simp [he.len], he.lto, ?_, ?_⟩
  · intro a b c d o q hc hd ho hq x hx1 hx2
    rcases hcase a o ho with ⟨rfl, rfl⟩ | ⟨_, h1⟩
    · rcases hcase b q hq with ⟨rfl, rfl⟩ | ⟨_, h2⟩
      · exact .inl rfl
      · rcases he.sepo a b c d _ q hc hd hi h2 x hx1 hx2 with h | h | h
        · exact .inl h
        · cases h
        · exact .inr (.inr h)
    · rcases hcase b q hq with ⟨rfl, rfl⟩ | ⟨_, h2⟩
      · rcases he.sepo a b c d o _ hc hd h1 hi x hx1 hx2 with h | h | h
        · exact .inl h
        · exact .inr (.inl h)
        · cases h
      · exact he.sepo a b c d o q hc hd h1 h2 x hx1 hx2
  · intro a b o hb ho
    rcases hcase a o ho with ⟨rfl, rfl⟩ | ⟨_, h1⟩
    · obtain ⟨m, u, e2, h1, h2, h3⟩ := he.holds a b _ hb hi
      have hlen := h3.length
      refine ⟨m ++ u, e2, h1, h2, by simp; omega, fun j hj => ?_⟩
      obtain ⟨v', g1, g2⟩ := h3.get j _ (hg j hj)
      cases g2
      rw [List.getElem?_append_left (by omega)]; exact g1
    · exact he.holds a b o hb h1

theorem Goes.ints {P : Program} {ex : XTab} {N n : Nat} {c : Code} {lv lv' : List (Nat × Value)} {h h' : VHeap} {x : X} {i : Nat} {l : List Value} {e : TypeId} (hc : Goes P ex N n c lv h x lv' h') (hi : h'[i]? = some (.cells l e)) (m : Nat) (k : IntKind) (g : Nat → Int) (e' : TypeId) (hm : m ≤ l.length) (hg : ∀ j, j < m → l[j]? = some (.int k (g j))) :
    Goes P ex N n c lv h x lv' (h'.set i (.fn m k g e')) :=
  fun bs0 w0 bs a w Q hn hgr hat hQ => hc bs0 w0 bs a w Q hn hgr hat fun bs' a' w' hg' hat' hd' => hQ bs' a' w' hg' ⟨hat'.emb.ints hi m k g e' hm hg, hat'.size, hat'.slots⟩ hd'

end Go.Vx
