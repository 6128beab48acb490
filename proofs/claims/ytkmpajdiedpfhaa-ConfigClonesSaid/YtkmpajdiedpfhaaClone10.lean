/- What a change of own's numbers leaves as it was. No conditions but those stated. -/
import Derived.Test.YtkmpajdiedpfhaaClone8
import Derived.Test.YtkmpajdiedpfhaaClone9
import Derived.Test.YtkmpajdiedpfhaaLeads5
namespace Go.Proofs.Ytkmpajdiedpfhaa
open Go.ChangeShapes Go.WideShapes Go.ChangeAt Go.RowKit
set_option linter.unusedVariables false
set_option linter.unusedSimpArgs false
namespace Clone
open Same
theorem TRepF.rep {w0 w : World} {lo : Nat} {x : ThreadD} {cs : List Value} (h : TRepF w0 lo w x cs) : ThreadRep All w x cs := by
  obtain ⟨v, e, a, b, c, d⟩ := h
  exact ⟨v, e, a, b, sld_move c.sld (Nat.le_refl _) (fun _ _ _ => rfl) (fun _ _ _ => trivial) (fun _ _ _ hx => call_move (Nat.le_refl _) (fun _ _ _ => rfl) (fun _ _ _ => trivial) hx), d⟩
theorem PRepF.rep {w0 w : World} {lo : Nat} {x : PartD} {cs : List Value} (h : PRepF w0 lo w x cs) : PartRep All w x cs := by
  obtain ⟨v1, v2, e, a, b⟩ := h
  exact ⟨v1, v2, e, sld_move a.sld (Nat.le_refl _) (fun _ _ _ => rfl) (fun _ _ _ => trivial) (fun _ _ _ hx => hx.rep), sld_move b.sld (Nat.le_refl _) (fun _ _ _ => rfl) (fun _ _ _ => trivial) (fun _ _ _ h => h)⟩
theorem CRepF.rep {w0 w : World} {lo : Nat} {x : ConfD} {v : Value} (h : CRepF w0 lo w x v) : ConfRep All w x v := by
  obtain ⟨v1, v2, v3, e, a, b, c⟩ := h
  exact ⟨v1, v2, v3, e, sld_move a.sld (Nat.le_refl _) (fun _ _ _ => rfl) (fun _ _ _ => trivial) (fun _ _ _ hx => hx.rep), sld_move b.sld (Nat.le_refl _) (fun _ _ _ => rfl) (fun _ _ _ => trivial) (fun _ _ _ h => h), sld_move c.sld (Nat.le_refl _) (fun _ _ _ => rfl) (fun _ _ _ => trivial) (fun _ _ _ h => h)⟩
/-- The numbers that are changed: a thread's first cell, any cell of a call or a window. -/
def Mut (T : TypeId) (j : Nat) : Prop := (T = 58 ∧ j % 4 = 0) ∨ T = 42 ∨ T = 60
def MK (lo : Nat) (w1 wr : World) : Prop :=
  ∀ (b : Nat) (cs : Array Value) (T : TypeId), lo ≤ b → w1.heap[b]? = some (.cells cs T (0, 0)) → ∃ cs' : Array Value, wr.heap[b]? = some (.cells cs' T (0, 0)) ∧ cs'.size = cs.size ∧ ∀ (j : Nat) (v : Value), cs[j]? = some v → ¬ Mut T j → cs'[j]? = some v
theorem MK.of_keep {lo : Nat} {w1 wr : World} (k : Keep [] w1 wr) : MK lo w1 wr := fun b cs T _ hb => ⟨cs, k.to hb (by simp), rfl, fun _ _ h _ => h⟩
theorem MK.keep {lo : Nat} {w1 wr w' : World} (h : MK lo w1 wr) (k : Keep [] wr w') : MK lo w1 w' := fun b cs T hl hb =>
  let ⟨cs', h1, h2⟩ := h b cs T hl hb
  ⟨cs', k.to h1 (by simp), h2⟩
theorem MK.set {lo : Nat} {w1 wr : World} {g i : Nat} {T : TypeId} {cs : Array Value} (h : MK lo w1 wr) (hb : w1.heap[g]? = some (.cells cs T (0, 0))) (hm : Mut T i) (v : Value) : MK lo w1 (wr.setCell ⟨g, i, none⟩ v) := by
  intro b cs0 T0 hl hb0
  obtain ⟨cs', h1, h2, h3⟩ := h b cs0 T0 hl hb0
  by_cases e : b = g
  · subst e
    rw [hb] at hb0
    cases hb0
    refine ⟨cs'.setIfInBounds i v, block_set i v h1, by simp [h2], fun j u hu hn => ?_⟩
    have hij : i ≠ j := fun e => hn (e ▸ hm)
    rw [Array.getElem?_setIfInBounds_ne hij]
    exact h3 j u hu hn
  · exact ⟨cs', (keep_put1 wr g i v).to h1 (by simpa using e), h2, h3⟩
theorem MK.cell {lo : Nat} {w1 wr : World} {g j : Nat} {T : TypeId} {cs : Array Value} {u : Value} (h : MK lo w1 wr) (hl : lo ≤ g) (hb : w1.heap[g]? = some (.cells cs T (0, 0))) (hu : cs[j]? = some u) (hm : ¬ Mut T j) : wr.cell? ⟨g, j, none⟩ = some u := by
  obtain ⟨cs', h1, _, h3⟩ := h g cs T hl hb
  exact cell_of h1 (h3 j u hu hm)
theorem MK.there {lo : Nat} {w1 wr : World} {g j : Nat} {T : TypeId} {cs : Array Value} (h : MK lo w1 wr) (hl : lo ≤ g) (hb : w1.heap[g]? = some (.cells cs T (0, 0))) (hj : j < cs.size) : (∃ u, wr.cell? ⟨g, j, none⟩ = some u) ∧ wr.frozen? ⟨g, j, none⟩ = false := by
  obtain ⟨cs', h1, h2, _⟩ := h g cs T hl hb
  exact ⟨⟨cs'[j]'(by omega), cell_of h1 (Array.getElem?_eq_getElem (by omega))⟩, free_of h1⟩
/-- An element of a slice in new memory, with its block. -/
theorem FreshSl.elem {α : Type} {lo e size n cap : Nat} {w : World} {Rep : α → List Value → Prop} {ao : Option Addr} {l : List α} (h : FreshSl lo w e size Rep (.slice ao n cap) l) {i : Nat} {x : α} (hx : l[i]? = some x) :
    ∃ g cur cs, ao = some ⟨g, 0, none⟩ ∧ lo ≤ g ∧ g < w.heap.size ∧ w.heap[g]? = some (.cells cur e (0, 0)) ∧ cs.length = size ∧ Rep x cs ∧ ∀ (j : Nat) (u : Value), cs[j]? = some u → cur[i * size + j]? = some u := by
  rcases h with ⟨rfl, _⟩ | ⟨g, cap', e1, hg, _, _, f, ⟨cur, hb, ht⟩, hf⟩
  · simp at hx
  · cases e1
    have hi : i < l.length := (List.getElem?_eq_some_iff.1 hx).1
    obtain ⟨h1, h2⟩ := hf i x hx
    refine ⟨g, cur, f i, rfl, hg, lt_of_block hb, hb, h1, h2, fun j u hu => ?_⟩
    have hj : j < size := by rw [← h1]; exact (List.getElem?_eq_some_iff.1 hu).1
    have := (flatR_get l.length (fun i' hi' => (hf i' _ (List.getElem?_eq_getElem hi')).1) i j hi hj).trans hu
    rw [← ht, List.getElem?_take] at this
    split at this
    · simpa using this
    · cases this
end Clone
end Go.Proofs.Ytkmpajdiedpfhaa
