/- Arguments opened: slices in structs in slices. No conditions. -/
import Derived.Test.YtkmamebaichboaaArgs
namespace Go.Proofs.Ytkmamebaichboaa
open Go.ChangeShapes Go.WideShapes Go.Deep Go.Joins
set_option linter.unusedVariables false
set_option linter.unusedSimpArgs false
/-- The value is a slice whose elements, of so many cells each, are as R says. -/
structure SlX (w : World) (size : Nat) (R : List Value → Prop) (ao : Option Addr) (len cap : Nat) : Prop where
  le : len ≤ cap
  most : cap ≤ maxLen
  nil : ao = none → len = 0 ∧ cap = 0
  elem : ∀ i, i < len → ∃ b o cs, ao = some ⟨b, o, none⟩ ∧ cs.length = size ∧ (∀ (j : Nat) (v : Value), cs[j]? = some v → w.cell? ⟨b, o + i * size + j, none⟩ = some v) ∧ R cs
def SlR (w : World) (size : Nat) (R : List Value → Prop) (v : Value) : Prop := ∃ ao len cap, v = .slice ao len cap ∧ SlX w size R ao len cap
theorem SlX.imp {w w' : World} {size : Nat} {R R' : List Value → Prop} {ao : Option Addr} {len cap : Nat} (h : SlX w size R ao len cap) (k : ∀ b, b < w.heap.size → w'.heap[b]? = w.heap[b]?) (hR : ∀ cs, R cs → R' cs) : SlX w' size R' ao len cap := by
  refine ⟨h.le, h.most, h.nil, fun i hi => ?_⟩
  obtain ⟨b, o, cs, e, hl, hc, hr⟩ := h.elem i hi
  refine ⟨b, o, cs, e, hl, fun j v hv => ?_, hR cs hr⟩
  have := hc j v hv
  rw [World.cell?_of_block (w := w) (k _ (World.block_lt_of_cell? w _ this))]
  exact this
theorem SlR.imp {w w' : World} {size : Nat} {R R' : List Value → Prop} {v : Value} (h : SlR w size R v) (k : ∀ b, b < w.heap.size → w'.heap[b]? = w.heap[b]?) (hR : ∀ cs, R cs → R' cs) : SlR w' size R' v := by
  obtain ⟨ao, len, cap, rfl, hx⟩ := h
  exact ⟨ao, len, cap, rfl, hx.imp k hR⟩
section
variable {H : Type} {enc : TypeId × Value → H} {P : Program} {w : World} {base : Nat} {spare : Nat → Bool} {held : Bool}
def TrodOk (enc : TypeId × Value → H) (P : Program) (w : World) (base : Nat) (spare : Nat → Bool) (held : Bool) (t : TypeId) (cs : List Value) : Prop := ∃ n y, DataW.trod enc P w base spare held n t cs = some y
theorem open_slR {t e : TypeId} {R : List Value → Prop} {v : Value} (size : Nat) (ht : P.underlying t = some (.slice e)) (hC : P.cellsOf e = size) (hpos : 0 < size)
    (hR : ∀ cs, TrodOk enc P w base spare held e cs → cs.length = size → R cs) (h : TrodOk enc P w base spare held t [v]) : SlR w size R v := by
  obtain ⟨fuel, y, hf⟩ := h
  rcases open_slice ht hf with ⟨hcs, _⟩ | ⟨a, len, cap, m, n, D, Pl, hcs, hb, hl, hm, hmm, _, hx⟩
  · simp at hcs
    subst hcs
    exact ⟨none, 0, 0, rfl, ⟨Nat.le_refl _, Nat.zero_le _, fun _ => ⟨rfl, rfl⟩, fun i hi => absurd hi (Nat.not_lt_zero _)⟩⟩
  · simp at hcs
    subst hcs
    have hlm : len ≤ m := by rw [hmm]; split <;> omega
    refine ⟨some a, len, cap, rfl, ⟨hl, hm, (fun e => by cases e), fun i hi => ?_⟩⟩
    obtain ⟨cs, h1, h2⟩ := hx i (by omega)
    obtain ⟨_, hcl, hat⟩ := World.cells?_some h1
    have hspot : a = ⟨a.block, a.off, none⟩ := by
      obtain ⟨cs', h1', h2'⟩ := hx 0 (by omega)
      obtain ⟨_, hcl', hat'⟩ := World.cells?_some h1'
      have h0 := hat' (i := 0) (by omega)
      rw [Go.Deep.add_add, Nat.zero_mul, List.getElem?_eq_getElem (by omega)] at h0
      exact spot_none h0
    refine ⟨a.block, a.off, cs, by rw [← hspot], hcl.trans hC, fun j u hj => ?_, hR cs ⟨n, _, h2⟩ (hcl.trans hC)⟩
    have hlt : j < cs.length := (List.getElem?_eq_some_iff.1 hj).1
    have hcell := hat (i := j) (by omega)
    rw [Go.Deep.add_add, hspot, Addr.add_lit, hC, hj] at hcell
    rw [Nat.add_assoc]
    exact hcell
theorem nest_int {t : TypeId} {k : IntKind} {v : Value} (ht : P.underlying t = some (.int k)) (h : TrodOk enc P w base spare held t [v]) : ∃ n : Int, v = .int k n ∧ (Lit.int k n).wf = true := by
  obtain ⟨m, y, h⟩ := h
  obtain ⟨n, e, _, hw⟩ := DataW.trod_int ht h
  simp at e
  exact ⟨n, e, hw⟩
theorem nest_bool {t : TypeId} {v : Value} (ht : P.underlying t = some .bool) (h : TrodOk enc P w base spare held t [v]) : ∃ b : Bool, v = .bool b := by
  obtain ⟨m, y, h⟩ := h
  obtain ⟨n, e, _⟩ := DataW.trod_bool ht h
  simp at e
  exact ⟨n, e⟩
/-- The struct's fields, one cell each, are of these types. -/
def fieldsAre (P : Program) (fs : Array Field) (ts : List TypeId) : Bool :=
  decide (fs.size = ts.length) && (List.range ts.length).all fun j => match (fs[j]? : Option Field), (ts[j]? : Option TypeId) with | some f, some t => decide (f.type = t) && decide (P.cellsOf t = 1) && decide (f.offset = j) | _, _ => false
theorem struct_fields {e : TypeId} {fs : Array Field} {ts : List TypeId} (he : P.underlying e = some (.struct fs)) (hfit : fieldsAre P fs ts = true) {cs : List Value} (h : TrodOk enc P w base spare held e cs) (hl : cs.length = ts.length) :
    ∀ (j : Nat) (t : TypeId), ts[j]? = some t → ∃ v, cs[j]? = some v ∧ TrodOk enc P w base spare held t [v] := by
  obtain ⟨fuel, y, h⟩ := h
  simp only [fieldsAre, Bool.and_eq_true, decide_eq_true_eq] at hfit
  obtain ⟨xs, n', _, hy, hlen, hyl, hf⟩ := DataW.trod_struct he h
  intro j t hj
  have hlt : j < ts.length := (List.getElem?_eq_some_iff.1 hj).1
  have h2 := List.all_eq_true.1 hfit.2 j (List.mem_range.2 hlt)
  have hfj : fs[j]? = some (fs[j]'(by omega)) := Array.getElem?_eq_getElem (by omega)
  rw [hj, hfj] at h2
  simp only [Bool.and_eq_true, decide_eq_true_eq] at h2
  obtain ⟨⟨q1, q2⟩, q3⟩ := h2
  have h1 := hf j _ hfj
  rw [q3, q1, q2, List.drop_eq_getElem_cons (by omega)] at h1
  simp only [List.take_succ_cons, List.take_zero] at h1
  exact ⟨cs[j], List.getElem?_eq_getElem (by omega), n', xs[j]'(by omega), by rw [h1, List.getElem?_eq_getElem]⟩
/-- A struct by value. -/
theorem open_str {t : TypeId} {fs : Array Field} {r : Reach} {b0 : Nat} {v : Value} {d : DataW H} {p : List MemPlace} (he : P.underlying t = some (.struct fs))
    (hv : Value.okWide P w r b0 t v) (h : DataW.Trod enc P w base spare held t v d p) : ∃ cs : List Value, v = .agg cs.toArray ∧ cs.length = P.cellsOf t ∧ TrodOk enc P w base spare held t cs := by
  obtain ⟨cs, rfl, hsz⟩ := okWide_struct he hv
  obtain ⟨l⟩ := cs
  obtain ⟨fuel, hf⟩ := h
  exact ⟨l, rfl, by simpa using hsz, fuel, _, by simpa [Value.cells] using hf⟩
end
end Go.Proofs.Ytkmamebaichboaa
