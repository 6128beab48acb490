/- The contract of ClonePart. No conditions but those stated. -/
import Derived.Test.YtkmpajdiedpfhaaClone3
namespace Go.Proofs.Ytkmpajdiedpfhaa
open Go.ChangeShapes Go.WideShapes Go.ChangeAt Go.RowKit
set_option linter.unusedVariables false
set_option linter.unusedSimpArgs false
namespace Clone
open Same
def FreshMix {α : Type} (lo : Nat) (w : World) (e size k : Nat) (Rep Rep' : α → List Value → Prop) (v : Value) (l : List α) : Prop :=
  (l = [] ∧ ∃ ao cap, v = .slice ao 0 cap ∧ cap ≤ maxLen) ∨ ∃ g cap, v = .slice (some ⟨g, 0, none⟩) l.length cap ∧ lo ≤ g ∧ l.length ≤ cap ∧ cap ≤ maxLen ∧ Mix w g e size k Rep Rep' l
section
variable {α : Type} {w w' : World} {lo e size k : Nat} {Rep Rep' R2 R2' : α → List Value → Prop} {l : List α} {v : Value}
theorem FreshMix.start (h : FreshSl lo w e size Rep' v l) : FreshMix lo w e size 0 Rep Rep' v l := by
  rcases h with h | ⟨g, cap, a, b, c, d, hr⟩
  · exact .inl h
  · exact .inr ⟨g, cap, a, b, c, d, Mix.start hr⟩
theorem FreshMix.done (h : FreshMix lo w e size k Rep Rep' v l) (hk : l.length ≤ k) : FreshSl lo w e size Rep v l := by
  rcases h with h | ⟨g, cap, a, b, c, d, hr⟩
  · exact .inl h
  · exact .inr ⟨g, cap, a, b, c, d, hr.done hk⟩
theorem FreshMix.form (h : FreshMix lo w e size k Rep Rep' v l) : ∃ ao cap, v = .slice ao l.length cap ∧ l.length ≤ cap ∧ cap ≤ maxLen := by
  rcases h with ⟨rfl, ao, cap, rfl, hc⟩ | ⟨g, cap, rfl, _, hle, hc, _⟩
  · exact ⟨ao, cap, rfl, Nat.zero_le _, hc⟩
  · exact ⟨_, cap, rfl, hle, hc⟩
theorem FreshMix.row {ao : Option Addr} {n cap : Nat} (h : FreshMix lo w e size k Rep Rep' (.slice ao n cap) l) {x : α} (hx : l[k]? = some x) : ∃ g, ao = some ⟨g, 0, none⟩ ∧ lo ≤ g ∧ Mix w g e size k Rep Rep' l := by
  rcases h with ⟨rfl, _⟩ | ⟨g, cap', e1, hg, _, _, hm⟩
  · simp at hx
  · cases e1
    exact ⟨g, rfl, hg, hm⟩
theorem FreshMix.back {ao : Option Addr} {cap g k' : Nat} (ha : ao = some ⟨g, 0, none⟩) (hg : lo ≤ g) (hle : l.length ≤ cap) (hc : cap ≤ maxLen) (hm : Mix w g e size k' Rep Rep' l) : FreshMix lo w e size k' Rep Rep' (.slice ao l.length cap) l := by
  subst ha
  exact .inr ⟨g, cap, rfl, hg, hle, hc, hm⟩
theorem FreshMix.keep0 (h : FreshMix lo w e size k Rep Rep' v l) (kk : Keep [] w w') (h1 : ∀ x cs, x ∈ l → Rep x cs → R2 x cs) (h2 : ∀ x cs, x ∈ l → Rep' x cs → R2' x cs) : FreshMix lo w' e size k R2 R2' v l := by
  rcases h with h | ⟨g, cap, a, b, c, d, hr⟩
  · exact .inl h
  · exact .inr ⟨g, cap, a, b, c, d, hr.keep kk (by simp) h1 h2⟩
end
def smallC (x : CallD) : Prop := x.words.length ≤ 1000
def smallT (x : ThreadD) : Prop := x.prog.length ≤ 1000 ∧ ∀ c, c ∈ x.prog → smallC c
def smallP (x : PartD) : Prop := x.threads.length ≤ 1000 ∧ x.objs.length ≤ 1000 ∧ ∀ t, t ∈ x.threads → smallT t
/-- Blocks of the call's own, but one. -/
def Own (lo : Nat) (v : Value) (b : Nat) : Prop := lo ≤ b ∧ v.ownBlock ≠ some b
def Old (w : World) (b : Nat) : Prop := b < w.heap.size
theorem SlD.lens {α : Type} {B : Nat → Prop} {w : World} {size : Nat} {Rep : α → List Value → Prop} {v : Value} {l : List α} (h : SlD B w size Rep v l) : ∃ ao cap, v = .slice ao l.length cap ∧ l.length ≤ cap ∧ cap ≤ maxLen := by
  obtain ⟨ao, cap, e, h1, h2, _⟩ := h
  exact ⟨ao, cap, e, h1, h2⟩
/-- The loop over a program: the calls, in new memory. -/
def ProgInv (w0 wo : World) (v : Value) (l : List CallD) (k : Nat) (wr : World) : Prop :=
  FreshMix wo.heap.size wr 42 6 k (CallRep (Own wo.heap.size v) wr) (CallRep (Old w0) wr) v l ∧ Keep [] wo wr
theorem prog_step {w0 wo wr w5 : World} {ao : Option Addr} {cap g k : Nat} {l : List CallD} {c : CallD} {u : Value} (hw : w0.heap.size ≤ wo.heap.size) (h : ProgInv w0 wo (.slice ao l.length cap) l k wr) (hc : l[k]? = some c) (ha : ao = some ⟨g, 0, none⟩)
    (k5 : Keep [] wr w5) (hu : SlD (fun b => wr.heap.size ≤ b) w5 1 WordRep u c.words) : ProgInv w0 wo (.slice ao l.length cap) l (k + 1) (put6 w5 g (k * 6) (.int .i64 c.k) (.int .i64 c.h) (.int .i64 c.a) (.int .i64 c.b) u (.int .i64 c.t)) := by
  obtain ⟨hf, hk⟩ := h
  obtain ⟨ao', cap', e1, hle, hcm⟩ := hf.form
  cases e1
  obtain ⟨g', hg1, hg2, hm⟩ := hf.row hc
  rw [ha] at hg1
  cases hg1
  have hgl := hm.lt
  have h5 : Mix w5 g 42 6 k (CallRep (Own wo.heap.size (.slice ao l.length cap)) wr) (CallRep (Old w0) wr) l := hm.keep k5 (by simp) (fun _ _ _ h => h) (fun _ _ _ h => h)
  have k6 : Keep [g] wr (put6 w5 g (k * 6) (.int .i64 c.k) (.int .i64 c.h) (.int .i64 c.a) (.int .i64 c.b) u (.int .i64 c.t)) := (k5.mono (fun _ h _ => by cases h)).trans (keep_put6 (by simp))
  have k56 : Keep [g] w5 (put6 w5 g (k * 6) (.int .i64 c.k) (.int .i64 c.h) (.int .i64 c.a) (.int .i64 c.b) u (.int .i64 c.t)) := keep_put6 (by simp)
  have hB1 : ∀ b, Own wo.heap.size (.slice ao l.length cap) b → b < wr.heap.size → (put6 w5 g (k * 6) (.int .i64 c.k) (.int .i64 c.h) (.int .i64 c.a) (.int .i64 c.b) u (.int .i64 c.t)).heap[b]? = wr.heap[b]? := fun b hb hl =>
    k6.block b hl (by simp; intro e; subst e; exact hb.2 (by rw [ha]; rfl))
  have hB2 : ∀ b, Old w0 b → b < wr.heap.size → (put6 w5 g (k * 6) (.int .i64 c.k) (.int .i64 c.h) (.int .i64 c.a) (.int .i64 c.b) u (.int .i64 c.t)).heap[b]? = wr.heap[b]? := fun b hb hl =>
    k6.block b hl (by simp; intro e; subst e; unfold Old at hb; omega)
  refine ⟨FreshMix.back ha hg2 hle hcm (h5.step hc (fun _ => [.int .i64 c.k, .int .i64 c.h, .int .i64 c.a, .int .i64 c.b, u, .int .i64 c.t]) (fun f ho hl => put6_row ho hl (List.getElem?_eq_some_iff.1 hc).1) (fun cs _ hr => ⟨rfl, ?_⟩)
    (fun x cs _ hx => call_move k6.size hB1 (fun _ h _ => h) hx) (fun x cs _ hx => call_move k6.size hB2 (fun _ h _ => h) hx)), hk.transS k6 (T := []) (by simp) (by simp; omega)⟩
  obtain ⟨v, rfl, _, hb⟩ := hr
  refine ⟨u, rfl, sld_move hu k56.size (fun b hb2 hl => k56.block b hl (by simp; intro e; subst e; omega)) (fun b hb2 hl => ⟨?_, ?_⟩) (fun _ _ _ h => h), hb⟩
  · have := hk.size; omega
  · rw [ha]; simp [Value.ownBlock]; omega
end Clone
end Go.Proofs.Ytkmpajdiedpfhaa
