/- Arguments opened: slices of integers and of structs of integers and bools; such structs by value. No conditions. -/
import Derived.Test.YtkmamebaichboaaLift
import Derived.Deep.Slices
import Derived.Deep.Fields
import Derived.ChangeSame
import Derived.Lib.SmallJoins
namespace Go.Proofs.Ytkmamebaichboaa
open Go.ChangeShapes Go.WideShapes Go.Deep Go.Joins
set_option linter.unusedVariables false

/-- What a cell holds: an integer of a kind, or a bool. -/
inductive Kd where
  | int (k : IntKind)
  | bool
  deriving DecidableEq
def vInt : Value → Int | .int _ n => n | _ => 0
def vBool : Value → Bool | .bool b => b | _ => false
def Kd.ok : Kd → Value → Prop
  | .int k, v => v = .int k (vInt v) ∧ (Lit.int k (vInt v)).wf = true
  | .bool, v => v = .bool (vBool v)
def Kd.fits (P : Program) (kd : Kd) (t : TypeId) : Bool := match kd, P.underlying t with
  | .int k, some (.int k') => decide (k = k')
  | .bool, some .bool => true
  | _, _ => false

/-- The slice (ao, len, cap): element i's cell j is V i j, of the kind ks[j]; an element has ks.length cells. -/
structure SlOf (w : World) (ao : Option Addr) (len cap : Nat) (ks : List Kd) (V : Nat → Nat → Value) : Prop where
  le : len ≤ cap
  most : cap ≤ maxLen
  nil : ao = none → len = 0 ∧ cap = 0
  cell : ∀ i, i < len → ∃ b o, ao = some ⟨b, o, none⟩ ∧ ∀ (j : Nat) (k : Kd), ks[j]? = some k → w.cell? ⟨b, o + (i * ks.length + j), none⟩ = some (V i j) ∧ k.ok (V i j)

theorem SlOf.keep {w w' : World} {ao : Option Addr} {len cap : Nat} {ks : List Kd} {V : Nat → Nat → Value} (h : SlOf w ao len cap ks V) (k : ∀ b, b < w.heap.size → w'.heap[b]? = w.heap[b]?) : SlOf w' ao len cap ks V :=
  ⟨h.le, h.most, h.nil, fun i hi => let ⟨b, o, e, hc⟩ := h.cell i hi; ⟨b, o, e, fun j kk hj => ⟨by
    have hcell := (hc j kk hj).1
    rw [World.cell?_of_block (w := w) (k _ (World.block_lt_of_cell? w _ hcell))]; exact hcell, (hc j kk hj).2⟩⟩⟩
theorem SlOf.keepK {w w' : World} {ao : Option Addr} {len cap : Nat} {ks : List Kd} {V : Nat → Nat → Value} (h : SlOf w ao len cap ks V) (k : Keep [] w w') : SlOf w' ao len cap ks V :=
  h.keep fun b hb => k.block b hb (by simp)

section
variable {H : Type} {enc : TypeId × Value → H} {P : Program} {w : World} {base : Nat} {spare : Nat → Bool} {held : Bool}

theorem spot_none {a : Addr} {v : Value} (h : w.cell? (a.add 0) = some v) : a = ⟨a.block, a.off, none⟩ := by
  obtain ⟨b, o, sp⟩ := a
  cases sp with
  | none => rfl
  | some s =>
    simp only [Addr.add, if_true, World.cell?] at h
    split at h <;> simp at h

theorem kd_ok {t : TypeId} {kd : Kd} {fuel : Nat} {v : Value} {y : DataW H × List MemPlace} (hf : kd.fits P t = true) (h : DataW.trod enc P w base spare held fuel t [v] = some y) : kd.ok v := by
  unfold Kd.fits at hf
  split at hf
  · rename_i k k' hu
    obtain rfl := of_decide_eq_true hf
    obtain ⟨n, e, _, hw⟩ := DataW.trod_int hu h
    simp at e
    subst e
    exact ⟨rfl, hw⟩
  · rename_i hu
    obtain ⟨b, e, _⟩ := DataW.trod_bool hu h
    simp at e
    subst e
    rfl
  · cases hf

/-- The struct's fields, one cell each, are of the kinds ks. -/
def fieldsFit (P : Program) (fs : Array Field) (ks : List Kd) : Bool :=
  decide (fs.size = ks.length) && (List.range ks.length).all fun j => match (fs[j]? : Option Field), (ks[j]? : Option Kd) with | some f, some k => k.fits P f.type && decide (P.cellsOf f.type = 1) && decide (f.offset = j) | _, _ => false

theorem fieldsFit_at {fs : Array Field} {ks : List Kd} (h : fieldsFit P fs ks = true) : fs.size = ks.length ∧ ∀ (j : Nat) (k : Kd), ks[j]? = some k → ∃ f, fs[j]? = some f ∧ k.fits P f.type = true ∧ P.cellsOf f.type = 1 ∧ f.offset = j := by
  simp only [fieldsFit, Bool.and_eq_true, decide_eq_true_eq] at h
  refine ⟨h.1, fun j k hj => ?_⟩
  have hlt : j < ks.length := (List.getElem?_eq_some_iff.1 hj).1
  have h2 := List.all_eq_true.1 h.2 j (List.mem_range.2 hlt)
  have hfj : fs[j]? = some (fs[j]'(by omega)) := Array.getElem?_eq_getElem (by omega)
  rw [hj, hfj] at h2
  simp only [Bool.and_eq_true, decide_eq_true_eq] at h2
  exact ⟨_, hfj, h2.1.1, h2.1.2, h2.2⟩

theorem struct_cells {e : TypeId} {fs : Array Field} {ks : List Kd} (he : P.underlying e = some (.struct fs)) (hfit : fieldsFit P fs ks = true) {fuel : Nat} {cs : List Value} {y : DataW H × List MemPlace}
    (h : DataW.trod enc P w base spare held fuel e cs = some y) (hl : cs.length = ks.length) : ∀ (j : Nat) (k : Kd), ks[j]? = some k → ∃ v, cs[j]? = some v ∧ k.ok v := by
  obtain ⟨hn, hat⟩ := fieldsFit_at hfit
  obtain ⟨xs, n', _, hy, hlen, hyl, hf⟩ := DataW.trod_struct he h
  intro j k hj
  obtain ⟨f, hfj, hk, hc1, ho⟩ := hat j k hj
  have hlt : j < ks.length := (List.getElem?_eq_some_iff.1 hj).1
  have h1 := hf j f hfj
  rw [ho, hc1, List.drop_eq_getElem_cons (by omega)] at h1
  simp only [List.take_succ_cons, List.take_zero] at h1
  rw [List.getElem?_eq_getElem (by omega)] at h1
  exact ⟨cs[j], List.getElem?_eq_getElem (by omega), kd_ok hk h1⟩

theorem open_sl_struct {t e : TypeId} {fs : Array Field} {r : Reach} {b0 : Nat} {v : Value} {d : DataW H} {p : List MemPlace} (ks : List Kd) (ht : P.underlying t = some (.slice e)) (he : P.underlying e = some (.struct fs))
    (hC : P.cellsOf e = ks.length) (hpos : 0 < ks.length) (hfit : fieldsFit P fs ks = true)
    (hv : Value.okWide P w r b0 t v) (h : DataW.Trod enc P w base spare held t v d p) : ∃ ao len cap V, v = .slice ao len cap ∧ SlOf w ao len cap ks V := by
  obtain ⟨a0, len0, cap0, rfl⟩ := okWide_slice ht hv
  obtain ⟨fuel, hf⟩ := h
  rcases open_slice ht hf with ⟨hcs, _⟩ | ⟨a, len, cap, m, n, D, Pl, hcs, hb, hl, hm, hmm, _, hx⟩
  · simp [Value.cells] at hcs
    obtain ⟨rfl, rfl, rfl⟩ := hcs
    exact ⟨none, 0, 0, fun _ _ => .nilFunc, rfl, ⟨Nat.le_refl _, Nat.zero_le _, fun _ => ⟨rfl, rfl⟩, fun i hi => absurd hi (Nat.not_lt_zero _)⟩⟩
  · simp [Value.cells] at hcs
    obtain ⟨rfl, rfl, rfl⟩ := hcs
    have hlm : len0 ≤ m := by rw [hmm]; split <;> omega
    obtain ⟨V, hV⟩ := choose_lt (α := List Value) (p := fun i cs => w.cells? base (a.add (i * P.cellsOf e)) (P.cellsOf e) = some cs ∧ DataW.trod enc P w base spare held n e cs = some (D i, Pl i)) hx
    refine ⟨some a, len0, cap0, fun i j => (V i).getD j .nilFunc, rfl, ⟨hl, hm, (fun e => by cases e), fun i hi => ?_⟩⟩
    obtain ⟨h1, h2⟩ := hV i (by omega)
    obtain ⟨_, hcl, hat⟩ := World.cells?_some h1
    have hall := struct_cells he hfit h2 (hcl.trans hC)
    have hspot : a = ⟨a.block, a.off, none⟩ := by
      obtain ⟨h1', h2'⟩ := hV 0 (by omega)
      obtain ⟨_, hcl', hat'⟩ := World.cells?_some h1'
      have h0 := hat' (i := 0) (by omega)
      rw [Go.Deep.add_add, Nat.zero_mul, List.getElem?_eq_getElem (by omega)] at h0
      exact spot_none h0
    refine ⟨a.block, a.off, by rw [← hspot], fun j k hj => ?_⟩
    have hlt : j < ks.length := (List.getElem?_eq_some_iff.1 hj).1
    obtain ⟨v, hv1, hv2⟩ := hall j k hj
    have hcell := hat (i := j) (by omega)
    rw [Go.Deep.add_add, hspot, Addr.add_lit, hv1, hC] at hcell
    have hg : (V i).getD j .nilFunc = v := by simp [List.getD, hv1]
    exact ⟨by rw [hg]; exact hcell, by rw [hg]; exact hv2⟩

theorem open_sl_one {t e : TypeId} {r : Reach} {b0 : Nat} {v : Value} {d : DataW H} {p : List MemPlace} (kd : Kd) (ht : P.underlying t = some (.slice e)) (hfit : kd.fits P e = true) (hC : P.cellsOf e = 1)
    (hv : Value.okWide P w r b0 t v) (h : DataW.Trod enc P w base spare held t v d p) : ∃ ao len cap V, v = .slice ao len cap ∧ SlOf w ao len cap [kd] V := by
  obtain ⟨a0, len0, cap0, rfl⟩ := okWide_slice ht hv
  obtain ⟨fuel, hf⟩ := h
  rcases open_slice1 ht hC hf with ⟨hcs, _⟩ | ⟨a, len, cap, m, n, V, D, Pl, hcs, hb, hl, hm, hmm, _, hx⟩
  · simp [Value.cells] at hcs
    obtain ⟨rfl, rfl, rfl⟩ := hcs
    exact ⟨none, 0, 0, fun _ _ => .nilFunc, rfl, ⟨Nat.le_refl _, Nat.zero_le _, fun _ => ⟨rfl, rfl⟩, fun i hi => absurd hi (Nat.not_lt_zero _)⟩⟩
  · simp [Value.cells] at hcs
    obtain ⟨rfl, rfl, rfl⟩ := hcs
    have hlm : len0 ≤ m := by rw [hmm]; split <;> omega
    refine ⟨some a, len0, cap0, fun i _ => V i, rfl, ⟨hl, hm, (fun e => by cases e), fun i hi => ?_⟩⟩
    obtain ⟨h1, h2⟩ := hx i (by omega)
    have hspot : a = ⟨a.block, a.off, none⟩ := spot_none (hx 0 (by omega)).1
    refine ⟨a.block, a.off, by rw [← hspot], fun j k hj => ?_⟩
    match j, hj with
    | 0, hj =>
      simp only [List.length_singleton, List.getElem?_cons_zero, Option.some.injEq] at hj
      subst hj
      rw [hspot, Addr.add_lit] at h1
      exact ⟨by simpa using h1, kd_ok hfit h2⟩

theorem open_st {t : TypeId} {fs : Array Field} {r : Reach} {b0 : Nat} {v : Value} {d : DataW H} {p : List MemPlace} (ks : List Kd) (he : P.underlying t = some (.struct fs)) (hC : P.cellsOf t = ks.length) (hfit : fieldsFit P fs ks = true)
    (hv : Value.okWide P w r b0 t v) (h : DataW.Trod enc P w base spare held t v d p) : ∃ cs : List Value, v = .agg cs.toArray ∧ cs.length = ks.length ∧ ∀ (j : Nat) (k : Kd), ks[j]? = some k → ∃ u, cs[j]? = some u ∧ k.ok u := by
  obtain ⟨cs, rfl, hsz⟩ := okWide_struct he hv
  obtain ⟨l⟩ := cs
  obtain ⟨fuel, hf⟩ := h
  have hl : l.length = ks.length := by simpa [hC] using hsz
  exact ⟨l, rfl, hl, struct_cells he hfit (by simpa [Value.cells] using hf) hl⟩
end
section
variable {P : Program} {w : World}
/-- Where an argument's slice begins. -/
theorem okWide_at {t e : TypeId} {r : Reach} {b0 : Nat} {a : Addr} {len cap : Nat} (ht : P.underlying t = some (.slice e)) (hv : Value.okWide P w r b0 t (.slice (some a) len cap)) : a.spot = none ∧ a.block < w.heap.size := by
  simp only [Value.okWide, ht, Cell.okWide, Cell.ok] at hv
  obtain ⟨_, _, _, h2, row, cells, h3, _⟩ := hv
  refine ⟨h2, ?_⟩
  rcases Nat.lt_or_ge a.block w.heap.size with q | q
  · exact q
  · simp [World.shape?, Array.getElem?_eq_none q] at h3
end
end Go.Proofs.Ytkmamebaichboaa
