/- HistOrder: an event put into a row that is built up by append: the plain law. No conditions but those stated. -/
import Derived.Test.YtkmpajdiedpfhaaOrd4
namespace Go.Proofs.Ytkmpajdiedpfhaa
open Go.ChangeShapes Go.WideShapes Go.ChangeAt Go.RowKit Go.Joins
set_option linter.unusedVariables false
set_option linter.unusedSimpArgs false
namespace Hist
open Same Clone
theorem flatR_add (f : Nat → List Value) (a : Nat) : ∀ b, flatR f (a + b) = flatR f a ++ flatR (fun i => f (a + i)) b
  | 0 => by simp [flatR]
  | b + 1 => by rw [show a + (b + 1) = (a + b) + 1 from rfl, flatR_succ, flatR_add f a b, flatR_succ, List.append_assoc]
def insF (f : Nat → List Value) (at_ : Nat) (cs : List Value) (i : Nat) : List Value := if i < at_ then f i else if i = at_ then cs else f (i - 1)
theorem flatR_ins (f : Nat → List Value) (at_ b : Nat) (cs : List Value) : flatR (insF f at_ cs) (at_ + b + 1) = flatR f at_ ++ cs ++ flatR (fun i => f (at_ + i)) b := by
  rw [show at_ + b + 1 = at_ + 1 + b from by omega, flatR_add, flatR_succ]
  congr 1
  · congr 1
    · exact flatR_congr at_ (fun i hi => by unfold insF; rw [if_pos hi])
    · unfold insF; rw [if_neg (by omega), if_pos rfl]
  · exact flatR_congr b (fun i hi => by unfold insF; rw [if_neg (by omega), if_neg (by omega)]; congr 1; omega)
section
variable {α : Type} {w w' wz : World} {lo e size at_ b : Nat} {Rep : α → List Value → Prop} {l : List α} {f : Nat → List Value}
theorem grow_ins {x : α} {cs xs : List Value} {v' : Value} {N : Nat} (hN : N = at_ + 1 + b) (hxs : xs = flatR f at_ ++ cs ++ flatR (fun i => f (at_ + i)) b) (hb : l.length = at_ + b) (hf : ∀ (i : Nat) (x : α), l[i]? = some x → (f i).length = size ∧ Rep x (f i)) (hc : cs.length = size) (hx : Rep x cs)
    (ho : w'.ownsRow lo e size v' N xs) : GrowSl lo w' e size Rep v' (l.take at_ ++ x :: l.drop at_) := by
  subst hN
  subst hxs
  refine ⟨insF f at_ cs, ?_, fun i y hy => ?_⟩
  · have e1 : (l.take at_ ++ x :: l.drop at_).length = at_ + b + 1 := by simp; omega
    rw [e1, flatR_ins, show at_ + b + 1 = at_ + 1 + b from by omega]; exact ho
  · unfold insF
    have hl : (l.take at_).length = at_ := by simp; omega
    by_cases hi : i < at_
    · rw [List.getElem?_append_left (by omega), List.getElem?_take_of_lt hi] at hy
      rw [if_pos hi]
      exact hf i y hy
    · rw [List.getElem?_append_right (by omega), hl] at hy
      rw [if_neg hi]
      by_cases hia : i = at_
      · subst hia
        simp at hy
        subst hy
        rw [if_pos rfl]
        exact ⟨hc, hx⟩
      · rw [if_neg hia]
        obtain ⟨d, hd⟩ : ∃ d, i - at_ = d + 1 := ⟨i - at_ - 1, by omega⟩
        rw [hd, List.getElem?_cons_succ, List.getElem?_drop] at hy
        have : at_ + d = i - 1 := by omega
        rw [this] at hy
        exact hf _ y hy
theorem owns_cells {n cap : Nat} {ao : Option Addr} {xs : List Value} (h : w.ownsRow lo e size (.slice ao n cap) n xs) : ∀ j u, xs[j]? = some u → ∃ g, ao = some ⟨g, 0, none⟩ ∧ w.cell? ⟨g, j, none⟩ = some u := by
  intro j u hj
  obtain ⟨hl, h2 | ⟨g, cap', cur, e1, hb, hh, hn, hc, hz, ht⟩⟩ := h
  · have : xs = [] := List.eq_nil_of_length_eq_zero (by rw [hl, h2.2]; simp)
    subst this
    simp at hj
  · cases e1
    refine ⟨g, rfl, ?_⟩
    rw [cell_of_row w g j cur e (0, 0) hh]
    rw [← ht] at hj
    have hj2 : j < n * size := by
      rcases Nat.lt_or_ge j (n * size) with h3 | h3
      · exact h3
      · rw [List.getElem?_eq_none (by simp; omega)] at hj; cases hj
    rw [List.getElem?_take_of_lt hj2] at hj
    simpa using hj
/-- The first cells of the row, and those behind them. -/
theorem news_left {cap : Nat} {ao : Option Addr} (h : w.ownsRow lo e size (.slice ao (at_ + b) cap) (at_ + b) (flatR f (at_ + b))) (k : Keep [] w w') : ∀ j u, (flatR f at_)[j]? = some u → ∃ g, ao = some ⟨g, 0, none⟩ ∧ w'.cell? ⟨g, j, none⟩ = some u := by
  intro j u hj
  obtain ⟨g, rfl, hc⟩ := owns_cells h j u (by rw [flatR_add, List.getElem?_append_left (List.getElem?_eq_some_iff.1 hj).1]; exact hj)
  exact ⟨_, rfl, cell_keep k hc (by simp)⟩
theorem news_right {cap : Nat} {ao : Option Addr} (h : w.ownsRow lo e size (.slice ao (at_ + b) cap) (at_ + b) (flatR f (at_ + b))) (hf : ∀ i, i < at_ → (f i).length = size) (k : Keep [] w w') : ∀ j u, (flatR (fun i => f (at_ + i)) b)[j]? = some u → ∃ g, ao = some ⟨g, 0, none⟩ ∧ cap ≠ at_ ∧ w'.cell? ⟨g, at_ * size + j, none⟩ = some u := by
  intro j u hj
  have hl : (flatR f at_).length = at_ * size := flatR_length at_ hf
  obtain ⟨g, rfl, hc⟩ := owns_cells h (at_ * size + j) u (by rw [flatR_add, List.getElem?_append_right (by omega), hl, Nat.add_sub_cancel_left]; exact hj)
  refine ⟨_, rfl, fun hcap => ?_, cell_keep k hc (by simp)⟩
  have hb : b = 0 := by
    rcases h.2 with h2 | ⟨g', cap', cur, e1, _, _, hn, _⟩
    · cases h2.1
    · cases e1; omega
  subst hb
  simp [flatR] at hj
theorem flat_two (h1 : ∀ x cs, Rep x cs → ∀ u ∈ cs, u.oneCell' = true) (hf : ∀ (i : Nat) (x : α), l[i]? = some x → (f i).length = size ∧ Rep x (f i)) (hb : l.length = at_ + b) : (∀ u ∈ flatR f at_, u.oneCell' = true) ∧ ∀ u ∈ flatR (fun i => f (at_ + i)) b, u.oneCell' = true := by
  refine ⟨fun u hu => ?_, fun u hu => ?_⟩
  · obtain ⟨i, hi, hm⟩ := flatR_mem at_ hu
    exact h1 _ _ (hf i _ (List.getElem?_eq_getElem (by omega))).2 u hm
  · obtain ⟨i, hi, hm⟩ := flatR_mem b hu
    exact h1 _ _ (hf (at_ + i) _ (List.getElem?_eq_getElem (by omega))).2 u hm
end
/-- A row that was begun behind the world wz, with n elements. -/
def InsAt (wz w : World) (lo e size g n cap : Nat) (xs : List Value) : Prop := w.ownsRow lo e size (.slice (some ⟨g, 0, none⟩) n cap) n xs ∧ wz.heap.size ≤ g ∧ Keep [] wz w
theorem lit_owns {w : World} {lo e size g : Nat} (hlo : lo ≤ g) (hs : 0 < size) (h : w.heap[g]? = some (.cells #[] e (0, 0))) : w.ownsRow lo e size (.slice (some ⟨g, 0, none⟩) 0 0) 0 [] :=
  ⟨by simp, .inr ⟨g, 0, #[], rfl, hlo, h, Nat.le_refl _, Nat.zero_le _, by simp, by simp⟩⟩
theorem step_ins {P : Program} {wz w : World} {ops : Array Oper} {o : Oper} {a : Act} {K : Act → World → Prop} {Q : Exit → Act → World → Prop} {E : Prop} (hgd : o.guard = none) (s x : Operand) (t : TypeId)
    (ho : o.op = .call { callee := .builtin .append, args := #[s, x], argTypes := #[t, t] })
    (base : Nat) (e : TypeId) (i : TypeInfo) (z : Value) (size bytes : Nat) (ht : P.underlying t = some (.slice e)) (hi : P.info? e = some i) (hz : i.zero = some z)
    (hsize : i.size = size) (hby : i.bytes = bytes) (hzs : z.cells.size = size) (hsz : 0 < size) (hb2 : bytes ≤ 1000)
    (g0 n cap0 : Nat) (xs : List Value) (hs : a.eval s = .slice (some ⟨g0, 0, none⟩) n cap0) (hown : w.ownsRow base e size (.slice (some ⟨g0, 0, none⟩) n cap0) n xs)
    (ao : Option Addr) (m c : Nat) (news : List Value) (hx : a.eval x = .slice ao m c) (hl : news.length = m * size) (hnews : ∀ j u, news[j]? = some u → ∃ ad, ao = some ad ∧ w.cell? (ad.add j) = some u) (h1 : ∀ u ∈ news, u.oneCell' = true)
    (N : Nat) (hN : n + m = N) (hnm : n + m ≤ 1000) (hbase : base ≤ wz.heap.size) (kz : Keep [] wz w) (hg0 : wz.heap.size ≤ g0)
    (hK : ∀ g cap w', InsAt wz w' base e size g N cap (xs ++ news) → Keep [g0] w w' → K (a.put o.dst (.slice (some ⟨g, 0, none⟩) N cap)) w') :
    if Region.wanted o (yielded ops a.tmps) = true then Oper.wp P o a w K Q else E := by
  subst hN
  have hsz2 := kz.size
  refine step_append_any hgd s x t ho base e i z size bytes ht hi hz hsize hby hzs hsz g0 n cap0 xs hs hown ao m c news hx hl hnews h1 (by unfold maxLen; omega) (Nat.le_trans (Nat.mul_le_mul hnm hb2) (by decide)) (by omega) (fun g cap w' h2 h3 h4 => hK g cap w' ⟨h2, ?_, ?_⟩ ?_)
  · rcases h4 with rfl | rfl <;> omega
  · refine kz.transS (T := []) ((Keep.refl [g0] w).of_grown h3 (fun k hk => .inr (by cases hk; simp))) (by simp) (fun y hy hlt => ?_)
    simp at hy
    omega
  · exact (Keep.refl [g0] w).of_grown h3 (fun k hk => .inr (by cases hk; simp))
theorem ev_one {B : Nat → Prop} {w : World} {x : EvD} {cs : List Value} (h : EvRep B w x cs) : ∀ u ∈ cs, u.oneCell' = true := by
  obtain ⟨v1, v2, rfl, h1, h2, _⟩ := h
  obtain ⟨a1, c1, rfl⟩ := h1.form
  obtain ⟨a2, c2, rfl⟩ := h2.form
  exact one_ev
theorem conj13 {w : World} {b o : Nat} {u0 u1 u2 u3 u4 u5 u6 u7 u8 u9 u10 u11 u12 : Value} (h : ∀ j u, [u0, u1, u2, u3, u4, u5, u6, u7, u8, u9, u10, u11, u12][j]? = some u → w.cell? ⟨b, o + j, none⟩ = some u) :
    w.cell? ⟨b, o, none⟩ = some u0 ∧ w.cell? ⟨b, o + 1, none⟩ = some u1 ∧ w.cell? ⟨b, o + 2, none⟩ = some u2 ∧ w.cell? ⟨b, o + 3, none⟩ = some u3 ∧ w.cell? ⟨b, o + 4, none⟩ = some u4 ∧ w.cell? ⟨b, o + 5, none⟩ = some u5 ∧ w.cell? ⟨b, o + 6, none⟩ = some u6 ∧ w.cell? ⟨b, o + 7, none⟩ = some u7 ∧ w.cell? ⟨b, o + 8, none⟩ = some u8 ∧ w.cell? ⟨b, o + 9, none⟩ = some u9 ∧ w.cell? ⟨b, o + 10, none⟩ = some u10 ∧ w.cell? ⟨b, o + 11, none⟩ = some u11 ∧ w.cell? ⟨b, o + 12, none⟩ = some u12 :=
  ⟨by simpa using h 0 _ rfl, h 1 _ rfl, h 2 _ rfl, h 3 _ rfl, h 4 _ rfl, h 5 _ rfl, h 6 _ rfl, h 7 _ rfl, h 8 _ rfl, h 9 _ rfl, h 10 _ rfl, h 11 _ rfl, h 12 _ rfl⟩
theorem ald1 (w : World) (a : Obj) : ((w.alloc a).drew.drew).heap[w.heap.size]? = some a := al1 w a
theorem ald21 (w : World) (a b : Obj) : (((w.alloc a).alloc b).drew.drew).heap[w.heap.size]? = some a := al21 w a b
theorem ald22 (w : World) (a b : Obj) : (((w.alloc a).alloc b).drew.drew).heap[w.heap.size + 1]? = some b := al22 w a b
theorem InsAt.kp {wz w : World} {lo e size g n cap : Nat} {xs : List Value} (h : InsAt wz w lo e size g n cap xs) : Keep [] wz w := h.2.2
end Hist
end Go.Proofs.Ytkmpajdiedpfhaa
