/- Small laws on worlds: 'Keep S w w2': all old blocks but those of S are as they were. No conditions. -/
import Derived.Test.YtkmamebaichboaaRows
import Derived.WalkKit
import Derived.ProofKit
import Derived.OpenShut
import Derived.Outline
import Derived.Lib.Hide
import Derived.Deep.Draws
import Derived.WalkLawsBesides
import Derived.WalkSpells
import Derived.BigQuiet
import Derived.Deep.QuietTactic
import Derived.Deep.RegionWith
import Derived.Deep.LoopGhost
namespace Go.Proofs.Ytkmamebaichboaa
open Go.ChangeShapes Go.WideShapes Go.ChangeAt Go.RowKit
set_option linter.unusedVariables false

/-- All blocks that were there, but those of S, are as they were. -/
structure Keep (S : List Nat) (w w' : World) : Prop where
  os : w'.os = w.os
  tape : w'.tape = w.tape
  output : w'.output = w.output
  size : w.heap.size ≤ w'.heap.size
  block : ∀ b, b < w.heap.size → b ∉ S → w'.heap[b]? = w.heap[b]?

theorem Keep.refl (S : List Nat) (w : World) : Keep S w w := ⟨rfl, rfl, rfl, Nat.le_refl _, fun _ _ _ => rfl⟩
theorem Keep.trans {S : List Nat} {a b c : World} (h : Keep S a b) (k : Keep S b c) : Keep S a c :=
  ⟨k.os.trans h.os, k.tape.trans h.tape, k.output.trans h.output, Nat.le_trans h.size k.size,
   fun x hx hs => (k.block x (Nat.lt_of_lt_of_le hx h.size) hs).trans (h.block x hx hs)⟩
theorem Keep.mono {S S' : List Nat} {w w' : World} (h : Keep S w w') (hs : ∀ x, x ∈ S → x < w.heap.size → x ∈ S') : Keep S' w w' :=
  ⟨h.os, h.tape, h.output, h.size, fun b hb hn => h.block b hb (fun hm => hn (hs b hm hb))⟩
theorem Keep.transS {S S' T : List Nat} {a b c : World} (h : Keep S a b) (k : Keep S' b c)
    (h1 : ∀ x, x ∈ S → x < a.heap.size → x ∈ T) (h2 : ∀ x, x ∈ S' → x < a.heap.size → x ∈ T) : Keep T a c :=
  ⟨k.os.trans h.os, k.tape.trans h.tape, k.output.trans h.output, Nat.le_trans h.size k.size,
   fun x hx hs => (k.block x (Nat.lt_of_lt_of_le hx h.size) (fun hm => hs (h2 x hm hx))).trans (h.block x hx (fun hm => hs (h1 x hm hx)))⟩
theorem Keep.alloc {S : List Nat} {a w : World} (h : Keep S a w) (o : Obj) : Keep S a (w.alloc o) :=
  h.trans ⟨rfl, rfl, rfl, by simp, fun k hk _ => Below.heap_alloc _ _ _ hk⟩
theorem Keep.drew {S : List Nat} {a w : World} (h : Keep S a w) : Keep S a w.drew := ⟨h.os, h.tape, h.output, h.size, h.block⟩
theorem Keep.drewN {S : List Nat} {a w : World} (h : Keep S a w) (n : Nat) : Keep S a (w.drewN n) := ⟨h.os, h.tape, h.output, h.size, h.block⟩
theorem Keep.ofDrewN (S : List Nat) (w : World) (n : Nat) : Keep S w (w.drewN n) := ⟨rfl, rfl, rfl, Nat.le_refl _, fun _ _ _ => rfl⟩
theorem Keep.setCell {S : List Nat} {a w : World} (h : Keep S a w) {p : Addr} (hp : a.heap.size ≤ p.block ∨ p.block ∈ S) (u : Value) : Keep S a (w.setCell p u) :=
  ⟨h.os, h.tape, h.output, by simpa [World.setCell] using h.size,
   fun k hk hs => (Below.heap_setCell _ _ _ _ (fun e => by subst e; rcases hp with hp | hp; omega; exact hs hp)).trans (h.block k hk hs)⟩
theorem Keep.below {w w' : World} (h : Keep [] w w') : Below w.heap.size w w' := ⟨h.os, h.tape, h.output, h.size, fun k hk => h.block k hk (by simp)⟩
theorem Keep.of_grown {S : List Nat} {a w w' : World} {row : Option Nat} (h : Keep S a w) (g : w.grownBy w' row) (hr : ∀ k, row = some k → a.heap.size ≤ k ∨ k ∈ S) : Keep S a w' :=
  ⟨g.os.trans h.os, g.tape.trans h.tape, g.output.trans h.output, Nat.le_trans h.size g.size,
   fun k hk hs => (g.block k (Nat.lt_of_lt_of_le hk h.size) (fun e => by rcases hr k e.symm with hh | hh; omega; exact hs hh)).trans (h.block k hk hs)⟩
theorem Keep.to {S : List Nat} {w w' : World} (h : Keep S w w') {b : Nat} {o : Obj} (hb : w.heap[b]? = some o) (hn : b ∉ S) : w'.heap[b]? = some o := by
  rw [h.block b (by rcases Nat.lt_or_ge b w.heap.size with q | q; exact q; rw [Array.getElem?_eq_none q] at hb; cases hb) hn]; exact hb
theorem lt_of_block {w : World} {b : Nat} {o : Obj} (hb : w.heap[b]? = some o) : b < w.heap.size := by
  rcases Nat.lt_or_ge b w.heap.size with q | q
  · exact q
  · rw [Array.getElem?_eq_none q] at hb; cases hb
theorem Keep.lt {S : List Nat} {w w' : World} (h : Keep S w w') {b : Nat} (hb : b < w.heap.size) : b < w'.heap.size := Nat.lt_of_lt_of_le hb h.size

theorem cell_of {w : World} {b : Nat} {c : Array Value} {t : TypeId} {i : Nat} {v : Value} (h : w.heap[b]? = some (.cells c t (0, 0))) (hv : c[i]? = some v) :
    w.cell? ⟨b, i, none⟩ = some v := by simp [World.cell?, h, hv]
theorem free_of {w : World} {b : Nat} {c : Array Value} {t : TypeId} {i : Nat} (h : w.heap[b]? = some (.cells c t (0, 0))) :
    w.frozen? ⟨b, i, none⟩ = false := by simp [World.frozen?, h]
theorem block_set {w : World} {b : Nat} {c : Array Value} {t : TypeId} (i : Nat) (v : Value) (h : w.heap[b]? = some (.cells c t (0, 0))) :
    (w.setCell ⟨b, i, none⟩ v).heap[b]? = some (.cells (c.setIfInBounds i v) t (0, 0)) := by
  simp [World.setCell, Array.getElem?_modify, h]
/-- The i-th of a list, 0 behind its end (a plain word, so that no simp set opens it). -/
def nth (l : List Int) (i : Nat) : Int := l.getD i 0
theorem ints_cell (l : List Int) (i : Nat) (h : i < l.length) : ((l.map (Value.int .i64)).toArray)[i]? = some (.int .i64 (nth l i)) := by
  simp [h, nth]
theorem ints_set (l : List Int) (i : Nat) (v : Int) : ((l.map (Value.int .i64)).toArray).setIfInBounds i (.int .i64 v) = ((l.set i v).map (Value.int .i64)).toArray := by
  simp [List.map_set]
/-- The row's cells begin with xs. -/
def OwnRow (w : World) (g : Nat) (e : TypeId) (xs : List Value) : Prop := ∃ cur, w.heap[g]? = some (.cells cur e (0, 0)) ∧ cur.toList.take xs.length = xs
theorem OwnRow.keep {w w' : World} {g : Nat} {e : TypeId} {xs : List Value} {S : List Nat} (h : OwnRow w g e xs) (k : Keep S w w') (hn : g ∉ S) : OwnRow w' g e xs :=
  let ⟨cur, h1, h2⟩ := h
  ⟨cur, k.to h1 hn, h2⟩
theorem OwnRow.lt {w : World} {g : Nat} {e : TypeId} {xs : List Value} (h : OwnRow w g e xs) : g < w.heap.size := let ⟨_, h1, _⟩ := h; lt_of_block h1
theorem OwnRow.cell {w : World} {g : Nat} {e : TypeId} {xs : List Value} (h : OwnRow w g e xs) (i : Nat) (v : Value) (hv : xs[i]? = some v) : w.cell? ⟨g, i, none⟩ = some v := by
  obtain ⟨cur, h1, h2⟩ := h
  refine cell_of h1 ?_
  rw [← h2, List.getElem?_take] at hv
  split at hv
  · simpa using hv
  · cases hv
theorem OwnRow.free {w : World} {g : Nat} {e : TypeId} {xs : List Value} (h : OwnRow w g e xs) (i : Nat) : w.frozen? ⟨g, i, none⟩ = false := let ⟨_, h1, _⟩ := h; free_of h1
theorem OwnRow.int {w : World} {g : Nat} {e : TypeId} {l : List Int} (h : OwnRow w g e (l.map (Value.int .i64))) (i : Nat) (hi : i < l.length) : w.cell? ⟨g, i, none⟩ = some (.int .i64 (nth l i)) :=
  h.cell i _ (by simp [hi, nth])
theorem OwnRow.set {w : World} {g : Nat} {e : TypeId} {xs : List Value} (h : OwnRow w g e xs) (i : Nat) (v : Value) : OwnRow (w.setCell ⟨g, i, none⟩ v) g e (xs.set i v) := by
  obtain ⟨cur, h1, h2⟩ := h
  refine ⟨_, block_set i v h1, ?_⟩
  conv => rhs; rw [← h2]
  simp [List.take_set, List.length_set]
theorem OwnRow.setInt {w : World} {g : Nat} {e : TypeId} {l : List Int} (h : OwnRow w g e (l.map (Value.int .i64))) (i : Nat) (v : Int) :
    OwnRow (w.setCell ⟨g, i, none⟩ (.int .i64 v)) g e ((l.set i v).map (Value.int .i64)) := by
  have := h.set i (.int .i64 v)
  rwa [← List.map_set] at this
theorem neg_test {z : Int} (h : 0 ≤ z) : decide (z < 0) = false := by simp; omega
theorem ret_int {k : IntKind} {a b : Int} (h : a = b) : Ending.returned (.int k a) = .returned (.int k b) := by rw [h]
theorem ret_bool {a b : Bool} (h : a = b) : Ending.returned (.bool a) = .returned (.bool b) := by rw [h]
end Go.Proofs.Ytkmamebaichboaa
