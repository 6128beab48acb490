/- The contract of ClonePart. No conditions but those stated. -/
import Derived.Test.YtkmpajdiedpfhaaClone2
namespace Go.Proofs.Ytkmpajdiedpfhaa
open Go.ChangeShapes Go.WideShapes Go.ChangeAt Go.RowKit
set_option linter.unusedVariables false
set_option linter.unusedSimpArgs false
namespace Clone
open Same
section
variable {B B' : Nat → Prop} {w w' : World}
theorem sld_move {α : Type} {size : Nat} {Rep Rep' : α → List Value → Prop} {v : Value} {l : List α} (h : SlD B w size Rep v l) (hs : w.heap.size ≤ w'.heap.size) (hk : ∀ b, B b → b < w.heap.size → w'.heap[b]? = w.heap[b]?) (hB : ∀ b, B b → b < w.heap.size → B' b)
    (hR : ∀ x cs, x ∈ l → Rep x cs → Rep' x cs) : SlD B' w' size Rep' v l := by
  obtain ⟨ao, cap, e, h1, h2, h3⟩ := h
  refine ⟨ao, cap, e, h1, h2, fun i x hi => ?_⟩
  obtain ⟨b, o, cs, q1, q2, q2', q3, q4, q5⟩ := h3 i x hi
  refine ⟨b, o, cs, q1, hB b q2 q2', Nat.lt_of_lt_of_le q2' hs, q3, fun j u hu => ?_, hR x cs (List.mem_of_getElem? hi) q5⟩
  rw [World.cell?_of_block (w := w) (hk b q2 q2')]
  exact q4 j u hu
theorem call_move (hs : w.heap.size ≤ w'.heap.size) (hk : ∀ b, B b → b < w.heap.size → w'.heap[b]? = w.heap[b]?) (hB : ∀ b, B b → b < w.heap.size → B' b) {x : CallD} {cs : List Value} (h : CallRep B w x cs) : CallRep B' w' x cs :=
  let ⟨v, e, h1, h2⟩ := h
  ⟨v, e, sld_move h1 hs hk hB (fun _ _ _ h => h), h2⟩
theorem thread_move (hs : w.heap.size ≤ w'.heap.size) (hk : ∀ b, B b → b < w.heap.size → w'.heap[b]? = w.heap[b]?) (hB : ∀ b, B b → b < w.heap.size → B' b) {x : ThreadD} {cs : List Value} (h : ThreadRep B w x cs) : ThreadRep B' w' x cs :=
  let ⟨v, e, h1, h2, h3, h4⟩ := h
  ⟨v, e, h1, h2, sld_move h3 hs hk hB (fun _ _ _ h => call_move hs hk hB h), h4⟩
theorem part_move (hs : w.heap.size ≤ w'.heap.size) (hk : ∀ b, B b → b < w.heap.size → w'.heap[b]? = w.heap[b]?) (hB : ∀ b, B b → b < w.heap.size → B' b) {x : PartD} {cs : List Value} (h : PartRep B w x cs) : PartRep B' w' x cs :=
  let ⟨v1, v2, e, h1, h2⟩ := h
  ⟨v1, v2, e, sld_move h1 hs hk hB (fun _ _ _ h => thread_move hs hk hB h), sld_move h2 hs hk hB (fun _ _ _ h => h)⟩
end
/-- A row of which the first k elements read one way, the others another way. -/
def Mix {α : Type} (w : World) (g : Nat) (e : TypeId) (size : Nat) (k : Nat) (Rep Rep' : α → List Value → Prop) (l : List α) : Prop :=
  ∃ f : Nat → List Value, OwnRow w g e (flatR f l.length) ∧ ∀ (i : Nat) (x : α), l[i]? = some x → (f i).length = size ∧ (i < k → Rep x (f i)) ∧ (k ≤ i → Rep' x (f i))
section
variable {α : Type} {w w' : World} {g e size k : Nat} {Rep Rep' R2 R2' : α → List Value → Prop} {l : List α}
theorem Mix.start (h : RowD w g e size Rep' l) : Mix w g e size 0 Rep Rep' l :=
  let ⟨f, ho, hf⟩ := h
  ⟨f, ho, fun i x hi => ⟨(hf i x hi).1, fun h => absurd h (Nat.not_lt_zero _), fun _ => (hf i x hi).2⟩⟩
theorem Mix.done (h : Mix w g e size k Rep Rep' l) (hk : l.length ≤ k) : RowD w g e size Rep l :=
  let ⟨f, ho, hf⟩ := h
  ⟨f, ho, fun i x hi => ⟨(hf i x hi).1, (hf i x hi).2.1 (Nat.lt_of_lt_of_le (List.getElem?_eq_some_iff.1 hi).1 hk)⟩⟩
theorem Mix.keep {S : List Nat} (h : Mix w g e size k Rep Rep' l) (kk : Keep S w w') (hg : g ∉ S) (h1 : ∀ x cs, x ∈ l → Rep x cs → R2 x cs) (h2 : ∀ x cs, x ∈ l → Rep' x cs → R2' x cs) : Mix w' g e size k R2 R2' l :=
  let ⟨f, ho, hf⟩ := h
  ⟨f, ho.keep kk hg, fun i x hi => ⟨(hf i x hi).1, fun h => h1 _ _ (List.mem_of_getElem? hi) ((hf i x hi).2.1 h), fun h => h2 _ _ (List.mem_of_getElem? hi) ((hf i x hi).2.2 h)⟩⟩
theorem Mix.at_ (h : Mix w g e size k Rep Rep' l) {x : α} (hx : l[k]? = some x) : ∃ cs, cs.length = size ∧ (∀ (j : Nat) (u : Value), cs[j]? = some u → w.cell? ⟨g, k * size + j, none⟩ = some u) ∧ Rep' x cs := by
  obtain ⟨f, ho, hf⟩ := h
  have hi : k < l.length := (List.getElem?_eq_some_iff.1 hx).1
  obtain ⟨h1, _, h2⟩ := hf k x hx
  refine ⟨f k, h1, fun j u hu => ?_, h2 (Nat.le_refl _)⟩
  have hj : j < size := by rw [← h1]; exact (List.getElem?_eq_some_iff.1 hu).1
  exact ho.cell _ _ ((flatR_get l.length (fun i' hi' => (hf i' _ (List.getElem?_eq_getElem hi')).1) k j hi hj).trans hu)
theorem Mix.free (h : Mix w g e size k Rep Rep' l) (i : Nat) : w.frozen? ⟨g, i, none⟩ = false := let ⟨_, ho, _⟩ := h; ho.free i
theorem Mix.lt (h : Mix w g e size k Rep Rep' l) : g < w.heap.size := let ⟨_, ho, _⟩ := h; ho.lt
end
theorem flatR_set {f f' : Nat → List Value} {k : Nat} (n i j : Nat) (v : Value) (hk : 0 < k) (hl : ∀ i, i < n → (f i).length = k) (hi : i < n) (hj : j < k) (he : f' i = (f i).set j v) (ho : ∀ i', i' < n → i' ≠ i → f' i' = f i') :
    (flatR f n).set (i * k + j) v = flatR f' n := by
  have hl' : ∀ i', i' < n → (f' i').length = k := by
    intro i' hi'
    by_cases e : i' = i
    · subst e; rw [he, List.length_set]; exact hl _ hi'
    · rw [ho i' hi' e]; exact hl _ hi'
  apply List.ext_getElem?
  intro x
  have hlen1 := flatR_length n hl
  have hlen2 := flatR_length n hl'
  by_cases hx : x < n * k
  · have hq : x / k < n := Nat.div_lt_of_lt_mul (by rw [Nat.mul_comm]; exact hx)
    have hr : x % k < k := Nat.mod_lt _ hk
    have hxe : x / k * k + x % k = x := by rw [Nat.mul_comm]; exact Nat.div_add_mod x k
    rw [List.getElem?_set]
    have e2 : (flatR f' n)[x]? = (f' (x / k))[x % k]? := by conv => lhs; rw [← hxe]
                                                            exact flatR_get n hl' _ _ hq hr
    have e1 : (flatR f n)[x]? = (f (x / k))[x % k]? := by conv => lhs; rw [← hxe]
                                                          exact flatR_get n hl _ _ hq hr
    rw [e2]
    by_cases hxi : x = i * k + j
    · have hdi : x / k = i := by rw [hxi, Nat.mul_comm, Nat.mul_add_div hk, Nat.div_eq_of_lt hj, Nat.add_zero]
      have hmi : x % k = j := by rw [hxi, Nat.mul_comm, Nat.mul_add_mod, Nat.mod_eq_of_lt hj]
      rw [if_pos hxi.symm, hdi, hmi, he, List.getElem?_set_self (by rw [hl i hi]; exact hj), if_pos (by rw [hlen1]; omega)]
    · rw [if_neg (fun e => hxi e.symm), e1]
      by_cases hdi : x / k = i
      · have hmj : j ≠ x % k := fun e => hxi (by rw [← hxe, hdi, e])
        rw [hdi, he, List.getElem?_set_ne hmj]
      · rw [ho _ hq hdi]
  · rw [List.getElem?_eq_none (by rw [List.length_set, hlen1]; omega), List.getElem?_eq_none (by rw [hlen2]; omega)]
def setF (f : Nat → List Value) (k : Nat) (cs : List Value) (i : Nat) : List Value := if i = k then cs else f i
theorem put1_row {w : World} {g : Nat} {e : TypeId} {f : Nat → List Value} {n k size j : Nat} {v : Value} (h : OwnRow w g e (flatR f n)) (hf : ∀ i, i < n → (f i).length = size) (hk : k < n) (hj : j < size) :
    OwnRow (w.setCell ⟨g, k * size + j, none⟩ v) g e (flatR (setF f k ((f k).set j v)) n) := by
  have := h.set (k * size + j) v
  rw [flatR_set (f' := setF f k ((f k).set j v)) n k j v (by omega) hf hk hj (by simp [setF]) (fun i' _ hne => by simp [setF, hne])] at this
  exact this
theorem setF_len {f : Nat → List Value} {n k size : Nat} {cs : List Value} (hf : ∀ i, i < n → (f i).length = size) (hc : cs.length = size) : ∀ i, i < n → (setF f k cs i).length = size := by
  intro i hi
  unfold setF
  split
  · exact hc
  · exact hf i hi
theorem setF_same (f : Nat → List Value) (k : Nat) (cs : List Value) : setF f k cs k = cs := by simp [setF]
theorem setF_twice (f : Nat → List Value) (k : Nat) (cs ds : List Value) : setF (setF f k cs) k ds = setF f k ds := by
  funext i
  unfold setF
  split <;> rfl
def put6 (w : World) (g o : Nat) (a b c d e f : Value) : World := ((((((w.setCell ⟨g, o, none⟩ a).setCell ⟨g, o + 1, none⟩ b).setCell ⟨g, o + 2, none⟩ c).setCell ⟨g, o + 3, none⟩ d).setCell ⟨g, o + 4, none⟩ e).setCell ⟨g, o + 5, none⟩ f)
theorem put6_row {w : World} {g : Nat} {T : TypeId} {f : Nat → List Value} {n k : Nat} {a b c d e u : Value} (h : OwnRow w g T (flatR f n)) (hf : ∀ i, i < n → (f i).length = 6) (hk : k < n) :
    OwnRow (put6 w g (k * 6) a b c d e u) g T (flatR (setF f k [a, b, c, d, e, u]) n) := by
  have h0 := put1_row (j := 0) (v := a) h hf hk (by decide)
  have l0 : ((f k).set 0 a).length = 6 := by rw [List.length_set]; exact hf k hk
  have h1 := put1_row (j := 1) (v := b) h0 (setF_len hf l0) hk (by decide)
  rw [setF_same, setF_twice] at h1
  have l1 : (((f k).set 0 a).set 1 b).length = 6 := by rw [List.length_set]; exact l0
  have h2 := put1_row (j := 2) (v := c) h1 (setF_len hf l1) hk (by decide)
  rw [setF_same, setF_twice] at h2
  have l2 : ((((f k).set 0 a).set 1 b).set 2 c).length = 6 := by rw [List.length_set]; exact l1
  have h3 := put1_row (j := 3) (v := d) h2 (setF_len hf l2) hk (by decide)
  rw [setF_same, setF_twice] at h3
  have l3 : (((((f k).set 0 a).set 1 b).set 2 c).set 3 d).length = 6 := by rw [List.length_set]; exact l2
  have h4 := put1_row (j := 4) (v := e) h3 (setF_len hf l3) hk (by decide)
  rw [setF_same, setF_twice] at h4
  have l4 : ((((((f k).set 0 a).set 1 b).set 2 c).set 3 d).set 4 e).length = 6 := by rw [List.length_set]; exact l3
  have h5 := put1_row (j := 5) (v := u) h4 (setF_len hf l4) hk (by decide)
  rw [setF_same, setF_twice] at h5
  have e6 : (((((((f k).set 0 a).set 1 b).set 2 c).set 3 d).set 4 e).set 5 u) = [a, b, c, d, e, u] := by
    match f k, hf k hk with
    | [_, _, _, _, _, _], _ => rfl
  rw [e6] at h5
  exact h5
theorem keep_put6 {S : List Nat} {w : World} {g o : Nat} {a b c d e u : Value} (hg : g ∈ S) : Keep S w (put6 w g o a b c d e u) :=
  ((((((Keep.refl S w).setCell (.inr hg) _).setCell (.inr hg) _).setCell (.inr hg) _).setCell (.inr hg) _).setCell (.inr hg) _).setCell (.inr hg) _
theorem Mix.step {α : Type} {w w' : World} {g e size k : Nat} {Rep Rep' R2 R2' : α → List Value → Prop} {l : List α} (h : Mix w g e size k Rep Rep' l) {x : α} (hx : l[k]? = some x) (upd : List Value → List Value)
    (hput : ∀ f, OwnRow w g e (flatR f l.length) → (∀ i, i < l.length → (f i).length = size) → OwnRow w' g e (flatR (setF f k (upd (f k))) l.length))
    (hu : ∀ cs, cs.length = size → Rep' x cs → (upd cs).length = size ∧ R2 x (upd cs)) (h1 : ∀ x cs, x ∈ l → Rep x cs → R2 x cs) (h2 : ∀ x cs, x ∈ l → Rep' x cs → R2' x cs) : Mix w' g e size (k + 1) R2 R2' l := by
  obtain ⟨f, ho, hf⟩ := h
  refine ⟨setF f k (upd (f k)), hput f ho (fun i hi => (hf i _ (List.getElem?_eq_getElem hi)).1), fun i y hy => ?_⟩
  obtain ⟨q1, q2, q3⟩ := hf i y hy
  by_cases hik : i = k
  · subst hik
    rw [setF_same]
    rw [hx] at hy
    cases hy
    obtain ⟨u1, u2⟩ := hu (f i) q1 (q3 (Nat.le_refl _))
    exact ⟨u1, fun _ => u2, fun h => absurd h (by omega)⟩
  · have e : setF f k (upd (f k)) i = f i := by simp [setF, hik]
    rw [e]
    exact ⟨q1, fun h => h1 _ _ (List.mem_of_getElem? hy) (q2 (by omega)), fun h => h2 _ _ (List.mem_of_getElem? hy) (q3 (by omega))⟩
end Clone
end Go.Proofs.Ytkmpajdiedpfhaa
