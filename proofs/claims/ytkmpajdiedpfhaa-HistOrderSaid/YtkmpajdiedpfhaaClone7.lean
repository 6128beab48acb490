/- append of a slice to an empty literal; slices that are built up by append. No conditions but those stated. -/
import Derived.Test.YtkmpajdiedpfhaaClone6
import Derived.ArgAppend
import Derived.Deep.RegionLaw
namespace Go.Proofs.Ytkmpajdiedpfhaa
open Go.ChangeShapes Go.WideShapes Go.ChangeAt Go.RowKit
set_option linter.unusedVariables false
set_option linter.unusedSimpArgs false
namespace Clone
open Same
theorem run_append_zero {P : Program} (w : World) (t ty e : TypeId) (i : TypeInfo) (ht : P.underlying t = some (.slice e)) (hi : P.info? e = some i) (g : Nat) (ao : Option Addr) (c : Nat) :
    (Builtin.append_ #[t, t] ty #[.slice (some ⟨g, 0, none⟩) 0 0, .slice ao 0 c]).run P w = .ok (.slice (some ⟨g, 0, none⟩) 0 0) w := by
  have hf : (Builtin.firstCells i.size 0 (.slice ao 0 c)).run P w = .ok #[] w := by
    cases ao with
    | none => exact run_firstCells_none w _ _ _ _
    | some a => exact run_firstCells_some (P := P) w i.size 0 a 0 c [] (by simp) (by simp)
  simp [Builtin.append_, run_underlying ht, sizeOf, typeInfo, hi, Builtin.lenOf, hf, storeCells]
/-- append([]T{}, x...): what comes back reads as x, in new memory. -/
theorem run_append_sl {α : Type} {P : Program} {w0 w : World} {B : Nat → Prop} {Rep : α → List Value → Prop} {v : Value} {l : List α} (t ty e : TypeId) (i : TypeInfo) (z : Value) (size bytes : Nat) (ht : P.underlying t = some (.slice e)) (hi : P.info? e = some i) (hz : i.zero = some z)
    (hsize : i.size = size) (hby : i.bytes = bytes) (hzs : z.cells.size = size) (hsz : 0 < size) (hb64 : bytes ≤ 64)
    (h : SlD B w0 size Rep v l) (kk : Keep [] w0 w) (h1 : ∀ x cs, Rep x cs → ∀ u ∈ cs, u.oneCell' = true) (hb : l.length ≤ 1000) (g : Nat) :
    ∃ ao cap w', (Builtin.append_ #[t, t] ty #[.slice (some ⟨g, 0, none⟩) 0 0, v]).run P w = .ok (.slice ao l.length cap) w' ∧ FreshSl w0.heap.size w' e size Rep (.slice ao l.length cap) l ∧ Keep [] w w' := by
  by_cases hne : l = []
  · subst hne
    obtain ⟨ao, cap, rfl, _⟩ := h
    exact ⟨_, _, w, run_append_zero w t ty e i ht hi g ao cap, .inl ⟨rfl, _, _, rfl, by simp [maxLen]⟩, Keep.refl _ _⟩
  · obtain ⟨b, o, cap, f, rfl, hf, hc⟩ := sld_flat h hne hsz
    have hpos : 0 < l.length := by cases l with | nil => exact absurd rfl hne | cons _ _ => simp
    have hbb : (0 + l.length) * bytes ≤ 140737488355328 := Nat.le_trans (Nat.mul_le_mul (by omega : 0 + l.length ≤ 1000) hb64) (by decide)
    obtain ⟨v', w', hrun, ho, hg⟩ := run_append_arg_grows (P := P) w t ty e i z size bytes ht hi hz hsize hby hzs hsz ⟨g, 0, none⟩ 0 0 [] (by simp) (by simp) ⟨b, o, none⟩ l.length cap (flatR f l.length) (flat_len hf)
      (fun j u hu => by
        have h2 := hc j u hu
        have h3 := World.block_lt_of_cell? w0 _ h2
        rw [World.cell?_of_block (w := w0) (kk.block _ h3 (by simp))]
        exact h2) (by omega) (by unfold maxLen; omega) hbb
    have kg : Keep [] w w' := ⟨hg.os, hg.tape, hg.output, hg.size, fun b hb _ => hg.block b hb (by simp)⟩
    rcases ho with ⟨hl, h2 | ⟨g', cap', cur', e', hb', hh', hn', hc', hz', ht'⟩⟩
    · exact absurd h2.2 (by omega)
    · refine ⟨some ⟨g', 0, none⟩, cap', w', by rw [hrun, e']; simp, .inr ⟨g', cap', rfl, by have := kk.size; omega, by omega, hc', f, ⟨cur', hh', ?_⟩, hf⟩, kg⟩
      simp only [List.nil_append] at ht' hl
      rw [hl]
      exact ht'
theorem wpList_append_sl {α : Type} {P : Program} {w0 w : World} {B : Nat → Prop} {Rep : α → List Value → Prop} {v : Value} {l : List α} {ops : Array Oper} {rest : List Oper} {o : Oper} {a : Act} {Q : Exit → Act → World → Prop} (hgd : o.guard = none) (s x : Operand) (t : TypeId)
    (ho : o.op = .call { callee := .builtin .append, args := #[s, x], argTypes := #[t, t] }) (e : TypeId) (i : TypeInfo) (z : Value) (size bytes : Nat) (ht : P.underlying t = some (.slice e)) (hi : P.info? e = some i) (hz : i.zero = some z)
    (hsize : i.size = size) (hby : i.bytes = bytes) (hzs : z.cells.size = size) (hsz : 0 < size) (hb64 : bytes ≤ 64) (g : Nat) (hs : a.eval s = .slice (some ⟨g, 0, none⟩) 0 0) (hx : a.eval x = v)
    (h : SlD B w0 size Rep v l) (kk : Keep [] w0 w) (h1 : ∀ x cs, Rep x cs → ∀ u ∈ cs, u.oneCell' = true) (hb : l.length ≤ 1000)
    (hK : ∀ ao cap w', FreshSl w0.heap.size w' e size Rep (.slice ao l.length cap) l → Keep [] w w' → wpList P ops Q rest (a.put o.dst (.slice ao l.length cap)) w') : wpList P ops Q (o :: rest) a w := by
  refine wpList_plain hgd fun K hK2 => ?_
  obtain ⟨ao, cap, w', hrun, h2, h3⟩ := run_append_sl (P := P) t o.type e i z size bytes ht hi hz hsize hby hzs hsz hb64 h kk h1 hb g
  unfold Oper.wp execOp
  simp only [ho, resolve, invoke, builtin, Sem.run_bind, Sem.run_pure, Result.andThen_ok, List.map_toArray, List.map_cons, List.map_nil, hs, hx, hrun]
  exact hK2 _ _ (hK ao cap w' h2 h3)
theorem step_append_sl {α : Type} {P : Program} {w0 w : World} {B : Nat → Prop} {Rep : α → List Value → Prop} {v : Value} {l : List α} {ops : Array Oper} {o : Oper} {a : Act} {K : Act → World → Prop} {Q : Exit → Act → World → Prop} {E : Prop} (hgd : o.guard = none) (s x : Operand) (t : TypeId)
    (ho : o.op = .call { callee := .builtin .append, args := #[s, x], argTypes := #[t, t] }) (e : TypeId) (i : TypeInfo) (z : Value) (size bytes : Nat) (ht : P.underlying t = some (.slice e)) (hi : P.info? e = some i) (hz : i.zero = some z)
    (hsize : i.size = size) (hby : i.bytes = bytes) (hzs : z.cells.size = size) (hsz : 0 < size) (hb64 : bytes ≤ 64) (g : Nat) (hs : a.eval s = .slice (some ⟨g, 0, none⟩) 0 0) (hx : a.eval x = v)
    (h : SlD B w0 size Rep v l) (kk : Keep [] w0 w) (h1 : ∀ x cs, Rep x cs → ∀ u ∈ cs, u.oneCell' = true) (hb : l.length ≤ 1000)
    (hK : ∀ ao cap w', FreshSl w0.heap.size w' e size Rep (.slice ao l.length cap) l → Keep [] w w' → K (a.put o.dst (.slice ao l.length cap)) w') : 
    if Region.wanted o (yielded ops a.tmps) = true then Oper.wp P o a w K Q else E := by
  have hw : Region.wanted o (yielded ops a.tmps) = true := by simp [Region.wanted, hgd]
  rw [if_pos hw]
  obtain ⟨ao, cap, w', hrun, h2, h3⟩ := run_append_sl (P := P) t o.type e i z size bytes ht hi hz hsize hby hzs hsz hb64 h kk h1 hb g
  unfold Oper.wp execOp
  simp only [ho, resolve, invoke, builtin, Sem.run_bind, Sem.run_pure, Result.andThen_ok, List.map_toArray, List.map_cons, List.map_nil, hs, hx, hrun]
  exact hK ao cap w' h2 h3
/-- No block of S is a row of type e. -/
def NoRow (w : World) (S : List Nat) (e : TypeId) : Prop := ∀ g, g ∈ S → ∀ cs fz, w.heap[g]? ≠ some (.cells cs e fz)
theorem NoRow.nil (w : World) (e : TypeId) : NoRow w [] e := fun _ h => by cases h
theorem NoRow.one {w : World} {g : Nat} {e T : TypeId} {cs : Array Value} {fz : Nat × Nat} (h : w.heap[g]? = some (.cells cs T fz)) (hT : T ≠ e) : NoRow w [g] e := by
  intro g' hg' cs' fz' h'
  simp at hg'
  subst hg'
  rw [h] at h'
  cases h'
  exact hT rfl
theorem NoRow.append {w : World} {S T : List Nat} {e : TypeId} (h : NoRow w S e) (k : NoRow w T e) : NoRow w (S ++ T) e := by
  intro g hg
  rcases List.mem_append.1 hg with h' | h'
  · exact h g h'
  · exact k g h'
section
variable {α : Type} {w w' : World} {lo e size k : Nat} {Rep Rep' : α → List Value → Prop} {l : List α} {v : Value} {S : List Nat}
theorem _root_.Go.Proofs.Ytkmpajdiedpfhaa.FreshSl.keepT (h : FreshSl lo w e size Rep v l) (kk : Keep S w w') (hS : NoRow w S e) (hR : ∀ x cs, x ∈ l → Rep x cs → Rep' x cs) : FreshSl lo w' e size Rep' v l := by
  rcases h with h | ⟨g, cap, e1, hg, hle, hc, hr⟩
  · exact .inl h
  · obtain ⟨f, ⟨cur, hb, ht⟩, hf⟩ := hr
    exact .inr ⟨g, cap, e1, hg, hle, hc, (show RowD w g e size Rep l from ⟨f, ⟨cur, hb, ht⟩, hf⟩).keep kk (fun hm => hS g hm _ _ hb) hR⟩
theorem _root_.Go.Proofs.Ytkmpajdiedpfhaa.FreshSl.lo_mono {lo' : Nat} (h : FreshSl lo w e size Rep v l) (hl : lo' ≤ lo) : FreshSl lo' w e size Rep v l := by
  rcases h with h | ⟨g, cap, e1, hg, hle, hc, hr⟩
  · exact .inl h
  · exact .inr ⟨g, cap, e1, by omega, hle, hc, hr⟩
theorem _root_.Go.Proofs.Ytkmpajdiedpfhaa.FreshSl.form (h : FreshSl lo w e size Rep v l) : ∃ ao cap, v = .slice ao l.length cap ∧ l.length ≤ cap ∧ cap ≤ maxLen := by
  rcases h with ⟨rfl, ao, cap, rfl, hc⟩ | ⟨g, cap, rfl, _, hle, hc, _⟩
  · exact ⟨ao, cap, rfl, Nat.zero_le _, hc⟩
  · exact ⟨_, cap, rfl, hle, hc⟩
/-- The slice, built up by append in rows from block lo on, reads as the list. -/
def GrowSl {α : Type} (lo : Nat) (w : World) (e size : Nat) (Rep : α → List Value → Prop) (v : Value) (l : List α) : Prop :=
  ∃ f : Nat → List Value, w.ownsRow lo e size v l.length (flatR f l.length) ∧ ∀ (i : Nat) (x : α), l[i]? = some x → (f i).length = size ∧ Rep x (f i)
theorem GrowSl.nil : GrowSl lo w e size Rep (.slice none 0 0) [] := ⟨fun _ => [], ⟨by simp [flatR], .inl ⟨rfl, rfl⟩⟩, fun i x hi => by simp at hi⟩
theorem GrowSl.fresh (h : GrowSl lo w e size Rep v l) : FreshSl lo w e size Rep v l := by
  obtain ⟨f, ⟨hl, h2 | ⟨g, cap, cur, e1, hb, hh, hn, hc, hz, ht⟩⟩, hf⟩ := h
  · exact .inl ⟨List.eq_nil_of_length_eq_zero h2.2, none, 0, by rw [h2.1], by simp [maxLen]⟩
  · exact .inr ⟨g, cap, e1, hb, hn, hc, f, ⟨cur, hh, by rw [hl]; exact ht⟩, hf⟩
theorem GrowSl.push {f : Nat → List Value} {news : List Value} {x : α} {v' : Value} (hf : ∀ (i : Nat) (x : α), l[i]? = some x → (f i).length = size ∧ Rep' x (f i)) (ho : w'.ownsRow lo e size v' (l.length + 1) (flatR f l.length ++ news)) (hn : news.length = size) (hx : Rep' x news) : GrowSl lo w' e size Rep' v' (l ++ [x]) := by
  refine ⟨setF f l.length news, ?_, fun i y hy => ?_⟩
  · have e2 : flatR (setF f l.length news) (l ++ [x]).length = flatR f l.length ++ news := by
      rw [List.length_append, List.length_singleton, flatR_succ, setF_same]
      rw [flatR_congr l.length (f := setF f l.length news) (f' := f) (fun i hi => by unfold setF; rw [if_neg (by omega)])]
    rw [e2]
    simpa using ho
  · by_cases hi : i < l.length
    · rw [List.getElem?_append_left hi] at hy
      have : setF f l.length news i = f i := by unfold setF; rw [if_neg (by omega)]
      rw [this]
      exact hf i y hy
    · rw [List.getElem?_append_right (by omega)] at hy
      have hi2 : i = l.length := by
        have := (List.getElem?_eq_some_iff.1 hy).1
        simp at this
        omega
      subst hi2
      simp at hy
      subst hy
      rw [setF_same]
      exact ⟨hn, hx⟩
end
end Clone
end Go.Proofs.Ytkmpajdiedpfhaa
