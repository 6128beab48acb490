/- Law 2: FrameTwo's beginning: the frames and records are made one after the other. No conditions but those stated. -/
import Derived.Test.YtkmamebaichboaaTwoState
namespace Go.Proofs.Ytkmamebaichboaa
open Go.ChangeShapes Go.WideShapes Go.ChangeAt Go.RowKit
set_option linter.unusedVariables false
set_option linter.unusedSimpArgs false
namespace Law02
open Prog
structure Lst where
  ao : Option Addr
  cap : Nat
  l : List Ins
def ptr (x : Nat) : Value := .pointer (some ⟨x, 0, none⟩)
def arr3 (k : Nat) (g : Nat → Value) : Array Value := #[if 0 < k then g 0 else .pointer none, if 1 < k then g 1 else .pointer none, if 2 < k then g 2 else .pointer none]
theorem arr3_set {k : Nat} (hk : k < 3) (g : Nat → Value) (v : Value) : (arr3 k g).setIfInBounds k v = arr3 (k + 1) (fun i => if i = k then v else g i) := by
  match k, hk with
  | 0, _ => rfl
  | 1, _ => rfl
  | 2, _ => rfl
theorem arr3_get {k i : Nat} (hi : i < k) (hk : k ≤ 3) (g : Nat → Value) : (arr3 k g)[i]? = some (g i) := by
  have h : i = 0 ∨ i = 1 ∨ i = 2 := by omega
  rcases h with rfl | rfl | rfl
  · simp [arr3, show 0 < k by omega]
  · simp [arr3, show 1 < k by omega]
  · simp [arr3, show 2 < k by omega]
theorem arr3_at {k : Nat} (hk : k < 3) (g : Nat → Value) : (arr3 k g)[k]? = some (.pointer none) := by
  match k, hk with
  | 0, _ => rfl
  | 1, _ => rfl
  | 2, _ => rfl
theorem arr3_none (g : Nat → Value) : arr3 0 g = #[.pointer none, .pointer none, .pointer none] := rfl
def setA (A : Nat → Nat × Nat × Nat) (k : Nat) (a : Nat × Nat × Nat) : Nat → Nat × Nat × Nat := fun i => if i = k then a else A i
def mkF (G : Nat → Lst) (A : Nat → Nat × Nat × Nat) : Nat → Fix := fun i => ⟨(A i).1, (A i).2.1, (A i).2.2, (G i).ao, (G i).cap, (G i).l⟩
/-- k of them are made; n0: where the first one begins; s, s + 1, s + 2: the three arrays. -/
structure Pre (s m b r c : Nat) (Z : List Int) (G : Nat → Lst) (A : Nat → Nat × Nat × Nat) (k : Nat) (w : World) : Prop where
  fr : ∀ i, i < k → FRep w (A i).1 m b (.slice none 0 0) (St.new Z)
  rc : ∀ i, i < k → w.heap[(A i).2.1]? = some (.cells #[.slice (G i).ao (G i).l.length (G i).cap, .slice none 0 0, .int .i64 0] 39 (0, 0))
  pl : ∀ i, i < k → w.heap[(A i).2.2]? = some (.cells #[.slice (G i).ao (G i).l.length (G i).cap, .int .i64 0, .int .i64 0, .slice none 0 0, .int .i64 0, .int .i64 0, .bool false] 77 (0, 0))
  at_ : ∀ i, i < k → s + 3 + 3 * i ≤ (A i).1 ∧ (A i).1 < s + 6 + 3 * i ∧ s + 3 + 3 * i ≤ (A i).2.1 ∧ (A i).2.1 < s + 6 + 3 * i ∧ s + 3 + 3 * i ≤ (A i).2.2 ∧ (A i).2.2 < s + 6 + 3 * i ∧ (A i).1 ≠ (A i).2.1 ∧ (A i).1 ≠ (A i).2.2 ∧ (A i).2.1 ≠ (A i).2.2
  mem : MemRep 134 w m b Z
  ref : RefRep w r c Z
  fa : w.heap[s]? = some (.cells (arr3 k fun i => ptr (A i).1) 72 (0, 0))
  pa : w.heap[s + 1]? = some (.cells (arr3 k fun i => ptr (A i).2.1) 73 (0, 0))
  qa : w.heap[s + 2]? = some (.cells (arr3 k fun i => ptr (A i).2.2) 75 (0, 0))
  size : w.heap.size = s + 3 + 3 * k
  low : m < s ∧ b < s ∧ r < s ∧ c < s
theorem heap_far {w : World} {g i x : Nat} {v : Value} {o : Obj} (h : w.heap[x]? = some o) (hn : g ≠ x) : (w.setCell ⟨g, i, none⟩ v).heap[x]? = some o := by
  rw [Below.heap_setCell _ _ _ _ (Ne.symm hn)]; exact h
variable {s m b r c k f x y : Nat} {Z : List Int} {G : Nat → Lst} {A : Nat → Nat × Nat × Nat} {w w5 : World}
/-- One more: the new frame and the two records, and the arrays set. -/
theorem Pre.step (h : Pre s m b r c Z G A k w) (hk : k < 3) (kk : Keep [s, s + 1, s + 1 + 1] w w5) (hsz : w5.heap.size = w.heap.size + 3)
    (hf : FRep w5 f m b (.slice none 0 0) (St.new Z)) (hx : w5.heap[x]? = some (.cells #[.slice (G k).ao (G k).l.length (G k).cap, .slice none 0 0, .int .i64 0] 39 (0, 0)))
    (hy : w5.heap[y]? = some (.cells #[.slice (G k).ao (G k).l.length (G k).cap, .int .i64 0, .int .i64 0, .slice none 0 0, .int .i64 0, .int .i64 0, .bool false] 77 (0, 0)))
    (hfa : w5.heap[s]? = some (.cells ((arr3 k fun i => ptr (A i).1).setIfInBounds k (.pointer (some ⟨f, 0, none⟩))) 72 (0, 0)))
    (hpa : w5.heap[s + 1]? = some (.cells ((arr3 k fun i => ptr (A i).2.1).setIfInBounds k (.pointer (some ⟨x, 0, none⟩))) 73 (0, 0)))
    (hqa : w5.heap[s + 1 + 1]? = some (.cells ((arr3 k fun i => ptr (A i).2.2).setIfInBounds k (.pointer (some ⟨y, 0, none⟩))) 75 (0, 0)))
    (hb : w.heap.size ≤ f ∧ w.heap.size ≤ x ∧ w.heap.size ≤ y ∧ f ≠ x ∧ f ≠ y ∧ x ≠ y) :
    Pre s m b r c Z G (setA A k (f, x, y)) (k + 1) w5 := by
  obtain ⟨m1, m2, m3, m4⟩ := h.low
  have hsw := h.size
  have hfl := lt_of_block hf.head
  have hxl := lt_of_block hx
  have hyl := lt_of_block hy
  have e1 : (fun i => if i = k then ptr f else ptr (A i).1) = fun i => ptr (setA A k (f, x, y) i).1 := by funext i; unfold setA; split <;> rfl
  have e2 : (fun i => if i = k then ptr x else ptr (A i).2.1) = fun i => ptr (setA A k (f, x, y) i).2.1 := by funext i; unfold setA; split <;> rfl
  have e3 : (fun i => if i = k then ptr y else ptr (A i).2.2) = fun i => ptr (setA A k (f, x, y) i).2.2 := by funext i; unfold setA; split <;> rfl
  have far : ∀ z, z ≠ s → z ≠ s + 1 → z ≠ s + 1 + 1 → z ∉ [s, s + 1, s + 1 + 1] := by intro z h1 h2 h3 hm; simp at hm; omega
  refine ⟨fun i hi => ?_, fun i hi => ?_, fun i hi => ?_, fun i hi => ?_, h.mem.keep kk (far _ (by omega) (by omega) (by omega)) (far _ (by omega) (by omega) (by omega)), h.ref.keep kk (far _ (by omega) (by omega) (by omega)) (far _ (by omega) (by omega) (by omega)), ?_, ?_, ?_, ?_, h.low⟩
  · unfold setA
    by_cases hik : i = k
    · rw [if_pos hik]
      exact hf
    · rw [if_neg hik]
      have := h.at_ i (by omega)
      exact (h.fr i (by omega)).keep kk (far _ (by omega) (by omega) (by omega)) (far _ (by omega) (by omega) (by omega)) (far _ (by omega) (by omega) (by omega)) (by simp [Value.ownBlock])
  · unfold setA
    by_cases hik : i = k
    · subst hik; rw [if_pos rfl]
      exact hx
    · rw [if_neg hik]
      have := h.at_ i (by omega)
      exact kk.to (h.rc i (by omega)) (far _ (by omega) (by omega) (by omega))
  · unfold setA
    by_cases hik : i = k
    · subst hik; rw [if_pos rfl]
      exact hy
    · rw [if_neg hik]
      have := h.at_ i (by omega)
      exact kk.to (h.pl i (by omega)) (far _ (by omega) (by omega) (by omega))
  · unfold setA
    by_cases hik : i = k
    · subst hik; rw [if_pos rfl]
      dsimp only
      omega
    · rw [if_neg hik]
      exact h.at_ i (by omega)
  · rw [← e1, ← arr3_set hk]
    exact hfa
  · rw [← e2, ← arr3_set hk]
    exact hpa
  · rw [← e3, ← arr3_set hk]
    exact hqa
  · rw [hsz, hsw]
    omega
/-- An array of three. -/
def A3 (w : World) (g : Nat) (T : TypeId) : Prop := ∃ cs : Array Value, w.heap[g]? = some (.cells cs T (0, 0)) ∧ cs.size = 3
theorem A3.drew {w : World} {g : Nat} {T : TypeId} (h : A3 w g T) : A3 w.drew g T := h
theorem A3.alloc {w : World} {g : Nat} {T : TypeId} {o : Obj} (h : A3 w g T) : A3 (w.alloc o) g T := let ⟨cs, h1, h2⟩ := h; ⟨cs, ((Keep.refl [] w).alloc o).to h1 (by simp), h2⟩
theorem A3.set {w : World} {g g' i : Nat} {v : Value} {T : TypeId} (h : A3 w g T) : A3 (w.setCell ⟨g', i, none⟩ v) g T := by
  obtain ⟨cs, h1, h2⟩ := h
  by_cases he : g' = g
  · subst he
    exact ⟨_, block_set i v h1, by simpa using h2⟩
  · exact ⟨cs, heap_far h1 he, h2⟩
theorem A3.kept {w w' : World} {g : Nat} {T : TypeId} (h : A3 w g T) (k : Keep [] w w') : A3 w' g T := let ⟨cs, h1, h2⟩ := h; ⟨cs, k.to h1 (by simp), h2⟩
theorem A3.st {w : World} {g k : Nat} {T : TypeId} (h : A3 w g T) (hk : k < 3) : (w.cell? ⟨g, k, none⟩).isSome = true ∧ w.frozen? ⟨g, k, none⟩ = false := by
  obtain ⟨cs, h1, h2⟩ := h
  exact ⟨by rw [cell_of h1 (Array.getElem?_eq_getElem (by omega))]; rfl, free_of h1⟩
theorem A3.ghost {g k : Nat} {T : TypeId} (hk : k < 3) : ∃ gs : World → Value, ∀ w : World, A3 w g T → w.cell? ⟨g, k, none⟩ = some (gs w) := by
  refine ⟨fun w => (w.cell? ⟨g, k, none⟩).getD undef, fun w h => ?_⟩
  obtain ⟨u, hu⟩ := Option.isSome_iff_exists.1 (h.st hk).1
  show w.cell? ⟨g, k, none⟩ = some ((w.cell? ⟨g, k, none⟩).getD undef)
  rw [hu]
  rfl
theorem heap_old2 {w : World} {o : Obj} {b : Nat} {x : Obj} (h : w.heap[b]? = some x) : (w.alloc o).heap[b]? = some x := ((Keep.refl [] w).alloc o).to h (by simp)
theorem Pre.kept {w' : World} (h : Pre s m b r c Z G A k w) (k' : Keep [] w w') (hs : w'.heap.size = w.heap.size) : Pre s m b r c Z G A k w' :=
  ⟨fun i hi => (h.fr i hi).keep k' (by simp) (by simp) (by simp) (by simp), fun i hi => k'.to (h.rc i hi) (by simp), fun i hi => k'.to (h.pl i hi) (by simp), h.at_, h.mem.keep k' (by simp) (by simp), h.ref.keep k' (by simp) (by simp), k'.to h.fa (by simp), k'.to h.pa (by simp), k'.to h.qa (by simp), hs.trans h.size, h.low⟩
set_option maxHeartbeats 1000000 in
/-- All are made. -/
theorem Pre.trio {w0 : World} {n : Nat} (h : Pre s m b r c Z G A n w) (hkk : Keep [] w0 w) (hG : ∀ i, i < n → LAt w (G i).ao (G i).cap (G i).l ∧ (G i).l.length ≤ 1000 ∧ ∀ j ∈ roOf (G i).ao, j < w0.heap.size) (hlow : w0.heap.size ≤ m ∧ w0.heap.size ≤ b ∧ w0.heap.size ≤ r ∧ w0.heap.size ≤ c) (hap : r ≠ m ∧ r ≠ b ∧ c ≠ m ∧ c ≠ b) :
    Trio n w0 (s + 3 + 3 * n) m b r c (mkF G A) (fun _ => ⟨(⟨[], 0⟩, St.new Z), Pl.new, .slice none 0 0, [], []⟩) Z Z w := by
  obtain ⟨m1, m2, m3, m4⟩ := h.low
  have hsz := h.size
  have ids : ∀ i, i < n → Ids w0.heap.size (s + 3 + 3 * n) (mkF G A i).f (mkF G A i).x m b (mkF G A i).y r c (mkF G A i).ao := by
    intro i hi
    have h1 := h.at_ i hi
    refine ⟨(hG i hi).2.2, ?_, ?_, ?_⟩ <;> (unfold mkF; dsimp only; omega)
  refine ⟨fun i hi => ?_, ids, fun i hi => rfl, fun i j hi hj hij z hz hm => ?_, fun i j hi hj hij z hz => ?_, fun i hi => ?_⟩
  · have h1 := h.at_ i hi
    have hro : ∀ j ∈ roOf (G i).ao, j < w0.heap.size := (hG i hi).2.2
    have hP : PRep (A i).2.1 (G i).ao (G i).cap (G i).l ⟨[], 0⟩ [] w := ⟨_, h.rc i hi, ⟨rfl, .inl ⟨rfl, rfl⟩⟩, rfl, (hG i hi).1, fun hm => by have := hro _ hm; omega, (hG i hi).2.1⟩
    have hY : PlRep (A i).2.2 (G i).ao (G i).cap (G i).l Pl.new [] w := ⟨_, h.pl i hi, ⟨rfl, .inl ⟨rfl, rfl⟩⟩, rfl, (hG i hi).1, (hG i hi).2.1⟩
    have hA : Apart (A i).2.1 (A i).1 m b (.slice none 0 0) [] := ⟨by omega, by omega, by omega, by simp [blk, Value.ownBlock], by simp, by simp, by simp, by simp, by simp⟩
    have hro2 : RoOK (roOf (G i).ao) w (A i).1 b (.slice none 0 0) [] := by
      intro j hj
      have := hro j hj
      have h9 := hkk.size
      exact ⟨by omega, by omega, by omega, by simp [blk, Value.ownBlock], by simp⟩
    exact ⟨h.fr i hi, hP, hA, by simp, hro2, hY, h.ref, by simp [blk, Value.ownBlock], by simp, hkk, by omega⟩
  · have h1 := h.at_ i hi
    have h2 := h.at_ j hj
    unfold mkF at hz hm
    simp at hz hm
    omega
  · simp [Dyn.own, blk, Value.ownBlock] at hz
  · have h1 := h.at_ i hi
    unfold mkF
    dsimp only
    omega
end Law02
end Go.Proofs.Ytkmamebaichboaa
