/- A set of ints, as a map of bools that the call makes. No conditions. -/
import Derived.Test.YtkmpajdiedpfhaaBase
import Derived.Maps.OwnOps
import Derived.Maps.Views
namespace Go.Proofs.Ytkmpajdiedpfhaa
open Go.ChangeShapes Go.WideShapes Go.ChangeAt Go.RowKit Go.Maps
set_option linter.unusedVariables false
theorem seen_keyed : Keyed Try.prog 3 := int_keyed Try.underlying3
/-- Block b is a map of at most n ints: those of S. -/
def SeenIs (w : World) (b n : Nat) (S : List Int) : Prop :=
  ∃ D : DataW Unit, w.ownsMap Try.prog 3 (plainElem Try.prog 4) b n D ∧ IsMap D ∧ ∀ k : Int, D.atKey (.int .i64 k) (.lit (.bool false)) = .lit (.bool (decide (k ∈ S)))
theorem SeenIs.made (w : World) : SeenIs (w.alloc (.map #[] 0)) w.heap.size 0 [] :=
  ⟨.map [], World.ownsMap_made w _ _ _, ⟨_, rfl⟩, fun k => by simp [DataW.atKey]⟩
theorem SeenIs.block {w : World} {b n : Nat} {S : List Int} (h : SeenIs w b n S) : ∃ es clock, w.heap[b]? = some (.map es clock) := by
  obtain ⟨D, ⟨es, clock, hb, _⟩, _⟩ := h
  exact ⟨es, clock, hb⟩
theorem SeenIs.keep {w w' : World} {b n : Nat} {S : List Int} (h : SeenIs w b n S) {T : List Nat} (k : Keep T w w') (hn : b ∉ T) : SeenIs w' b n S := by
  obtain ⟨es, clock, hb⟩ := h.block
  have hlt := lt_of_block hb
  obtain ⟨D, ⟨es, clock, hb, r⟩, h2⟩ := h
  exact ⟨D, ⟨es, clock, k.to hb hn, r⟩, h2⟩
theorem zero_bool (w : World) : (zeroValue 4).run Try.prog w = .ok (.bool false) w := by kernel_rfl
theorem plainElem_bool_inv {P : Program} {e : TypeId} (he : P.underlying e = some .bool) {v : Value} {z : DataW Unit × List MemPlace} (h : plainElem P e v = some z) : ∃ x, v = .bool x ∧ z = (.lit (.bool x), []) := by
  unfold plainElem at h
  rw [he] at h
  cases v <;> simp at h
  exact ⟨_, rfl, h.symm⟩
theorem SeenIs.look {w : World} {b n : Nat} {S : List Int} (h : SeenIs w b n S) (k : Int) (hk : (Lit.int .i64 k).wf = true) :
    (Instr.lookup 63 (.map (some b)) (.int .i64 k) false).run Try.prog w = .ok (.bool (decide (k ∈ S))) w := by
  obtain ⟨D, h1, h2, h3⟩ := h
  obtain ⟨v, ps, hrun, hv⟩ := h1.lookup seen_keyed Try.underlying63 (zero_bool w) (plainElem_bool Try.underlying4 false) (keyOf_int_mk Try.underlying3 hk)
  rw [h3 k] at hv
  obtain ⟨x, rfl, hx⟩ := plainElem_bool_inv Try.underlying4 hv
  simp only [Prod.mk.injEq, DataW.lit.injEq, Lit.bool.injEq] at hx
  rw [hrun, hx.1]
theorem SeenIs.put {w : World} {b n : Nat} {S : List Int} (h : SeenIs w b n S) (hn : n < maxLen) (k : Int) (hk : (Lit.int .i64 k).wf = true) :
    ∃ w', (Instr.mapUpdate 63 (.map (some b)) (.int .i64 k) (.bool true)).run Try.prog w = .ok () w' ∧ SeenIs w' b (n + 1) (k :: S) ∧ Keep [b] w w' := by
  obtain ⟨D, h1, h2, h3⟩ := h
  obtain ⟨w', hrun, ho, hg⟩ := h1.update seen_keyed Try.underlying63 hn (keyOf_int_mk Try.underlying3 hk) (plainElem_bool Try.underlying4 true)
  refine ⟨w', hrun, ⟨_, ho, (let ⟨_, _, _, _, _, e⟩ := ho; ⟨_, e⟩), fun x => ?_⟩, ⟨hg.os, hg.tape, hg.output, hg.size, fun y hy hs => hg.block y hy (by simpa using hs)⟩⟩
  by_cases hx : x = k
  · subst hx
    rw [atKey_put_same h2 (by simp [WideAt.IsKeyLit])]
    simp
  · rw [atKey_put_other (by simpa using hx), h3]
    simp [hx]
theorem wpList_seen_put {w : World} {ops : Array Oper} {rest : List Oper} {o : Oper} {a : Act} {Q : Exit → Act → World → Prop} (hg : o.guard = none) (m x v : Operand)
    (hop : o.op = Op.mapUpdate 63 m x v ∨ o.op = Op.insert 63 m x v) {b n : Nat} {S : List Int} (h : SeenIs w b n S) (hn : n < maxLen) (k : Int) (hk : (Lit.int .i64 k).wf = true)
    (hm : a.eval m = .map (some b)) (hx : a.eval x = .int .i64 k) (hv : a.eval v = .bool true)
    (hK : ∀ w', SeenIs w' b (n + 1) (k :: S) → Keep [b] w w' → wpList Try.prog ops Q rest (a.put o.dst undef) w') : wpList Try.prog ops Q (o :: rest) a w := by
  refine wpList_plain hg fun K hK' => ?_
  obtain ⟨w', hrun, h1, h2⟩ := h.put hn k hk
  rcases hop with hop | hop
  all_goals
    unfold Oper.wp
    simp [execOp, hop, hm, hx, hv, hrun, Result.andThen]
    exact hK' _ _ (hK w' h1 h2)
end Go.Proofs.Ytkmpajdiedpfhaa
