/- Law 2: FrameRuns: the plain law; a list of accesses as an argument. No conditions but those stated. -/
import Derived.Test.YtkmamebaichboaaPlainLaw
import Derived.Test.YtkmamebaichboaaRef
import Derived.Test.YtkmamebaichboaaArgs
import Derived.Test.YtkmamebaichboaaWords
namespace Go.Proofs.Ytkmamebaichboaa
open Go.ChangeShapes Go.WideShapes Go.ChangeAt Go.RowKit
set_option linter.unusedVariables false
set_option linter.unusedSimpArgs false
namespace Law02
open Prog
theorem plStep_bounds {l : List Ins} {p : Pl} {m : List Int} {now : Int} (h1 : p.i ≤ l.length + 1) (h2 : p.n ≤ p.i) (h3 : p.got.length = p.n) :
    (plStep l now p m).1.i ≤ l.length + 1 ∧ (plStep l now p m).1.n ≤ (plStep l now p m).1.i ∧ (plStep l now p m).1.got.length = (plStep l now p m).1.n := by
  by_cases hi : p.i < l.length
  · obtain ⟨x, hx⟩ : ∃ x, l[p.i]? = some x := ⟨_, List.getElem?_eq_getElem hi⟩
    have hpl : plStep l now p m = (p.next x ((insOp x p.last).eff m).1 now, ((insOp x p.last).eff m).2) := by unfold plStep; rw [hx]
    rw [hpl]
    refine ⟨?_, ?_, by simp [Pl.next, h3]⟩
    · show p.i + 1 + _ ≤ _
      split <;> omega
    · show p.n + 1 ≤ p.i + 1 + _
      omega
  · rw [plStep_end (by omega)]
    exact ⟨h1, h2, h3⟩
theorem plStep_mem {l : List Ins} {p : Pl} {m : List Int} {now : Int} : (plStep l now p m).2.length = m.length := by
  unfold plStep
  split
  · rfl
  · rename_i x _
    show ((insOp x p.last).eff m).2.length = _
    unfold insOp
    split
    · rfl
    · split
      · exact wordPut_length _ _ _
      · split
        · exact wordPut_length _ _ _
        · exact wordSwap_length _ _ _ _
theorem plRun_bounds (l : List Ins) (m : List Int) : ∀ n : Nat, (plRun l n (Pl.new, m)).1.i ≤ l.length + 1 ∧ (plRun l n (Pl.new, m)).1.n ≤ (plRun l n (Pl.new, m)).1.i ∧ (plRun l n (Pl.new, m)).1.got.length = (plRun l n (Pl.new, m)).1.n ∧ (plRun l n (Pl.new, m)).2.length = m.length
  | 0 => ⟨Nat.zero_le _, Nat.le_refl _, rfl, rfl⟩
  | n + 1 => by
    obtain ⟨h1, h2, h3, h4⟩ := plRun_bounds l m n
    obtain ⟨g1, g2, g3⟩ := plStep_bounds (now := n) (m := (plRun l n (Pl.new, m)).2) h1 h2 h3
    exact ⟨g1, g2, g3, (plStep_mem (now := n)).trans h4⟩
theorem plRun_grows (l : List Ins) (m : List Int) (k : Nat) (h : (plRun l k (Pl.new, m)).1.i < l.length) : (plRun l k (Pl.new, m)).1.i + 1 ≤ (plRun l (k + 1) (Pl.new, m)).1.i := by
  obtain ⟨x, hx⟩ : ∃ x, l[(plRun l k (Pl.new, m)).1.i]? = some x := ⟨_, List.getElem?_eq_getElem h⟩
  show _ ≤ (plStep l k _ _).1.i
  unfold plStep
  rw [hx]
  show _ ≤ _ + 1 + _
  omega
theorem plRun_stable (l : List Ins) (m : List Int) (k : Nat) (h : l.length ≤ (plRun l k (Pl.new, m)).1.i) : ∀ d, plRun l (k + d) (Pl.new, m) = plRun l k (Pl.new, m)
  | 0 => rfl
  | d + 1 => by
    show plStep l (k + d : Nat) (plRun l (k + d) (Pl.new, m)).1 (plRun l (k + d) (Pl.new, m)).2 = _
    rw [plRun_stable l m k h d, plStep_end h]
/-- What is run, when the loop has ended at k. -/
theorem runs_end {l : List Ins} {m : List Int} {most : Int} {k : Nat} (h1 : (k : Int) ≤ most ∨ k = 0) (h2 : ¬ (k : Int) < most ∨ (k ≠ 0 ∧ l.length ≤ (plRun l k (Pl.new, m)).1.i)) :
    (runP (pB l) most.toNat (⟨[], 0⟩, St.new m)).2.over = (decide (0 < most) && decide (l.length ≤ (plRun l k (Pl.new, m)).1.i)) ∧ (runP (pB l) most.toNat (⟨[], 0⟩, St.new m)).2.mem = (plRun l k (Pl.new, m)).2 := by
  obtain ⟨hr, ho⟩ := Rel.run (l := l) (m := m) most.toNat
  have e : plRun l most.toNat (Pl.new, m) = plRun l k (Pl.new, m) := by
    rcases h2 with h2 | ⟨_, h2⟩
    · have : most.toNat = k := by omega
      rw [this]
    · by_cases hle : k ≤ most.toNat
      · obtain ⟨d, hd⟩ := Nat.exists_eq_add_of_le hle
        rw [hd, plRun_stable l m k h2 d]
      · have : most.toNat = k := by omega
        rw [this]
  rw [e] at hr ho
  refine ⟨?_, hr.mem⟩
  by_cases hm : 0 < most
  · rw [ho (by omega), decide_eq_true hm, Bool.true_and]
  · rw [decide_eq_false hm, Bool.false_and]
    have : most.toNat = 0 := by omega
    rw [this]
    rfl
theorem runs_log (l : List Ins) (m : List Int) (n : Nat) : (runP (pB l) n (⟨[], 0⟩, St.new m)).2.log.length ≤ l.length + 1 := by
  obtain ⟨hr, _⟩ := Rel.run (l := l) (m := m) n
  rw [hr.len]
  obtain ⟨h1, h2, _⟩ := plRun_bounds l m n
  omega
theorem RefRep.ints {w : World} {m b : Nat} {l : List Int} (h : RefRep w m b l) : ∃ ao, w.cell? ⟨m, 0, none⟩ = some (.slice ao l.length l.length) ∧ IntsAt w ao l := by
  obtain ⟨ao, h1, _, h3⟩ := h.head
  refine ⟨ao, h1, fun i hi => ?_⟩
  obtain ⟨e, hc, _⟩ := h3 i hi
  exact ⟨b, 0, e, by simpa using hc⟩
section
variable {H : Type} {enc : TypeId × Value → H} {w : World} {base b0 : Nat} {spare : Nat → Bool} {held : Bool}
theorem slice_block {P : Program} {t e : TypeId} {a : Addr} {len cap : Nat} {r : Reach} (ht : P.underlying t = some (.slice e)) (hv : Value.okWide P w r b0 t (.slice (some a) len cap)) : a.block < w.heap.size := by
  unfold Value.okWide at hv
  rw [ht] at hv
  simp only [Cell.okWide, ht, Cell.ok] at hv
  obtain ⟨_, _, _, _, row, cells, hs, _⟩ := hv
  rcases Nat.lt_or_ge a.block w.heap.size with h | h
  · exact h
  · simp [World.shape?, Array.getElem?_eq_none h] at hs
/-- A list of accesses among the arguments. -/
def InsArg (w : World) (v : Value) (l : List Ins) : Prop := ∃ ao cap, v = .slice ao l.length cap ∧ LAt w ao cap l ∧ ∀ j ∈ roOf ao, j < w.heap.size
set_option maxRecDepth 100000 in
theorem ins_arg {v : Value} {d : DataW H} {q : List MemPlace} (hv : Value.okWide Try.prog w .any b0 35 v) (h : DataW.Trod enc Try.prog w base spare held 35 v d q) : ∃ l, InsArg w v l := by
  obtain ⟨ao, len, cap, V, rfl, hs⟩ := open_sl_struct [.int .u8, .int .i64, .int .i64, .int .i64, .bool, .bool, .bool] Try.underlying35 Try.underlying34 (by kernel_rfl) (by decide) (by kernel_rfl) hv h
  have hlen : ((List.range len).map (fun i => (⟨vInt (V i 0), vInt (V i 1), vInt (V i 2), vInt (V i 3), vBool (V i 4), vBool (V i 5), vBool (V i 6)⟩ : Ins))).length = len := by simp
  refine ⟨(List.range len).map (fun i => ⟨vInt (V i 0), vInt (V i 1), vInt (V i 2), vInt (V i 3), vBool (V i 4), vBool (V i 5), vBool (V i 6)⟩), ao, cap, by rw [hlen], ⟨by rw [hlen]; exact hs.le, hs.most, fun e => ⟨?_, (hs.nil e).2⟩, fun i x hx => ?_⟩, fun j hj => ?_⟩
  · have := (hs.nil e).1
    subst this
    rfl
  · have hi : i < len := by have := (List.getElem?_eq_some_iff.1 hx).1; omega
    rw [List.getElem?_map, List.getElem?_range hi] at hx
    simp only [Option.map_some, Option.some.injEq] at hx
    subst hx
    obtain ⟨b, o, e, hc⟩ := hs.cell i hi
    obtain ⟨c0, h0⟩ := hc 0 _ rfl
    obtain ⟨c1, h1⟩ := hc 1 _ rfl
    obtain ⟨c2, h2⟩ := hc 2 _ rfl
    obtain ⟨c3, h3⟩ := hc 3 _ rfl
    obtain ⟨c4, h4⟩ := hc 4 _ rfl
    obtain ⟨c5, h5⟩ := hc 5 _ rfl
    obtain ⟨c6, h6⟩ := hc 6 _ rfl
    simp only [List.length_cons, List.length_nil, Nat.zero_add, Nat.reduceAdd] at c0 c1 c2 c3 c4 c5 c6
    rw [h0.1] at c0
    rw [h1.1] at c1
    rw [h2.1] at c2
    rw [h3.1] at c3
    rw [show V i 4 = .bool (vBool (V i 4)) from h4] at c4
    rw [show V i 5 = .bool (vBool (V i 5)) from h5] at c5
    rw [show V i 6 = .bool (vBool (V i 6)) from h6] at c6
    exact ⟨b, o, e, c0, by simpa [Nat.add_assoc] using c1, by simpa [Nat.add_assoc] using c2, by simpa [Nat.add_assoc] using c3, by simpa [Nat.add_assoc] using c4, by simpa [Nat.add_assoc] using c5, by simpa [Nat.add_assoc] using c6⟩
  · cases ao with
    | none => simp [roOf] at hj
    | some a =>
      simp [roOf] at hj
      subst hj
      exact slice_block Try.underlying35 hv
end
end Law02
end Go.Proofs.Ytkmamebaichboaa
