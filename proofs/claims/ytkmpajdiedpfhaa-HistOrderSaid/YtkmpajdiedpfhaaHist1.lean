/- How an event lies in memory, what it reads as, and the contract of hist's clone. No conditions but those stated. -/
import Derived.Test.YtkmpajdiedpfhaaClone7
namespace Go.Proofs.Ytkmpajdiedpfhaa
open Go.ChangeShapes Go.WideShapes Go.ChangeAt Go.RowKit Go.Joins
set_option linter.unusedVariables false
set_option linter.unusedSimpArgs false
structure EvD where
  k : Int
  step : Int
  core : Int
  thr : Int
  call : CallD
  code : Int
  cnt : Int
  words : List Int
/-- An event's cells, with its two slices. -/
def evCells (x : EvD) (v1 v2 : Value) : List Value :=
  [.int .i64 x.k, .int .i64 x.step, .int .i64 x.core, .int .i64 x.thr, .int .i64 x.call.k, .int .i64 x.call.h, .int .i64 x.call.a, .int .i64 x.call.b, v1, .int .i64 x.call.t, .int .i64 x.code, .int .i64 x.cnt, v2]
def EvRep (B : Nat → Prop) (w : World) (x : EvD) (cs : List Value) : Prop := ∃ v1 v2, cs = evCells x v1 v2 ∧ SlD B w 1 WordRep v1 x.call.words ∧ SlD B w 1 WordRep v2 x.words ∧
  inI64 x.k ∧ inI64 x.step ∧ inI64 x.core ∧ inI64 x.thr ∧ inI64 x.call.k ∧ inI64 x.call.h ∧ inI64 x.call.a ∧ inI64 x.call.b ∧ inI64 x.call.t ∧ inI64 x.code ∧ inI64 x.cnt
def EvF (lo : Nat) (w : World) (x : EvD) (cs : List Value) : Prop := ∃ v1 v2, cs = evCells x v1 v2 ∧ FreshSl lo w 2 1 WordRep v1 x.call.words ∧ FreshSl lo w 2 1 WordRep v2 x.words ∧
  inI64 x.k ∧ inI64 x.step ∧ inI64 x.core ∧ inI64 x.thr ∧ inI64 x.call.k ∧ inI64 x.call.h ∧ inI64 x.call.a ∧ inI64 x.call.b ∧ inI64 x.call.t ∧ inI64 x.code ∧ inI64 x.cnt
theorem EvF.keepT {lo : Nat} {w w' : World} {S : List Nat} (k : Keep S w w') (hS : Clone.NoRow w S 2) {x : EvD} {cs : List Value} (h : EvF lo w x cs) : EvF lo w' x cs :=
  let ⟨v1, v2, e, h1, h2, h3⟩ := h
  ⟨v1, v2, e, FreshSl.keepT h1 k hS (fun _ _ _ h => h), FreshSl.keepT h2 k hS (fun _ _ _ h => h), h3⟩
theorem EvF.rep {lo : Nat} {w : World} {x : EvD} {cs : List Value} (h : EvF lo w x cs) : EvRep (fun b => lo ≤ b) w x cs :=
  let ⟨v1, v2, e, h1, h2, h3⟩ := h
  ⟨v1, v2, e, FreshSl.sld h1, FreshSl.sld h2, h3⟩
theorem EvRep.keep {B B' : Nat → Prop} {w w' : World} (hs : w.heap.size ≤ w'.heap.size) (hk : ∀ b, B b → b < w.heap.size → w'.heap[b]? = w.heap[b]?) (hB : ∀ b, B b → B' b) {x : EvD} {cs : List Value} (h : EvRep B w x cs) : EvRep B' w' x cs :=
  let ⟨v1, v2, e, h1, h2, h3⟩ := h
  ⟨v1, v2, e, h1.keep hs hk hB (fun _ _ _ h => h), h2.keep hs hk hB (fun _ _ _ h => h), h3⟩
theorem EvRep.kept {B : Nat → Prop} {w w' : World} (k : Keep [] w w') {x : EvD} {cs : List Value} (h : EvRep B w x cs) : EvRep B w' x cs := h.keep k.size (fun b _ hb => k.block b hb (by simp)) (fun _ h => h)
section
variable {H : Type} {enc : TypeId × Value → H} {P : Program} {w : World} {base : Nat} {spare : Nat → Bool} {held : Bool}
/-- The struct's fields are of these types, at these offsets, of so many cells. -/
def fieldsAt (P : Program) (fs : Array Field) (ts : List (TypeId × Nat × Nat)) : Bool :=
  decide (fs.size = ts.length) && (List.range ts.length).all fun j => match (fs[j]? : Option Field), (ts[j]? : Option (TypeId × Nat × Nat)) with | some f, some t => decide (f.type = t.1) && decide (f.offset = t.2.1) && decide (P.cellsOf t.1 = t.2.2) | _, _ => false
theorem struct_fieldsN {e : TypeId} {fs : Array Field} {ts : List (TypeId × Nat × Nat)} (he : P.underlying e = some (.struct fs)) (hfit : fieldsAt P fs ts = true) {cs : List Value} (h : TrodOk enc P w base spare held e cs) :
    ∀ (j : Nat) (t : TypeId × Nat × Nat), ts[j]? = some t → TrodOk enc P w base spare held t.1 ((cs.drop t.2.1).take t.2.2) := by
  obtain ⟨fuel, y, h⟩ := h
  simp only [fieldsAt, Bool.and_eq_true, decide_eq_true_eq] at hfit
  obtain ⟨xs, n', _, hy, hlen, hyl, hf⟩ := DataW.trod_struct he h
  intro j t hj
  have hlt : j < ts.length := (List.getElem?_eq_some_iff.1 hj).1
  have h2 := List.all_eq_true.1 hfit.2 j (List.mem_range.2 hlt)
  have hfj : fs[j]? = some (fs[j]'(by omega)) := Array.getElem?_eq_getElem (by omega)
  rw [hj, hfj] at h2
  simp only [Bool.and_eq_true, decide_eq_true_eq] at h2
  obtain ⟨⟨q1, q2⟩, q3⟩ := h2
  have h1 := hf j _ hfj
  rw [q1, q2, q3] at h1
  exact ⟨n', xs[j]'(by omega), by rw [h1, List.getElem?_eq_getElem]⟩
theorem ev_r {cs : List Value} (h : TrodOk enc Try.prog w base spare held 44 cs) (hl : cs.length = 13) : ∃ x, EvRep All w x cs := by
  match cs, hl with
  | [c0, c1, c2, c3, c4, c5, c6, c7, c8, c9, c10, c11, c12], _ =>
    have hf := struct_fieldsN (ts := [(3, 0, 1), (3, 1, 1), (3, 2, 1), (3, 3, 1), (42, 4, 6), (31, 10, 1), (3, 11, 1), (40, 12, 1)]) Try.underlying44 (by kernel_rfl) h
    have f0 := hf 0 _ rfl
    have f1 := hf 1 _ rfl
    have f2 := hf 2 _ rfl
    have f3 := hf 3 _ rfl
    have f4 := hf 4 _ rfl
    have f5 := hf 5 _ rfl
    have f6 := hf 6 _ rfl
    have f7 := hf 7 _ rfl
    simp only [List.drop_succ_cons, List.drop_zero, List.take_succ_cons, List.take_zero] at f0 f1 f2 f3 f4 f5 f6 f7
    obtain ⟨n0, rfl, w0⟩ := nest_int Try.underlying3 f0
    obtain ⟨n1, rfl, w1⟩ := nest_int Try.underlying3 f1
    obtain ⟨n2, rfl, w2⟩ := nest_int Try.underlying3 f2
    obtain ⟨n3, rfl, w3⟩ := nest_int Try.underlying3 f3
    obtain ⟨c, vw, hcs, hcw, e0, e1, e2, e3, e4⟩ := call_r f4 rfl
    obtain ⟨n5, rfl, w5⟩ := nest_int Try.underlying31 f5
    obtain ⟨n6, rfl, w6⟩ := nest_int Try.underlying3 f6
    obtain ⟨l, hw⟩ := sld_of_slr (by decide) (open_slR 1 Try.underlying40 (by kernel_rfl) (by decide) (fun cs h1 h2 => word_r h1 h2) f7)
    simp only [List.cons.injEq, and_true] at hcs
    obtain ⟨rfl, rfl, rfl, rfl, rfl, rfl⟩ := hcs
    exact ⟨⟨n0, n1, n2, n3, c, n5, n6, l⟩, c8, c12, rfl, hcw, hw, w0, w1, w2, w3, e0, e1, e2, e3, e4, w5, w6⟩
end
namespace Clone
open Same
theorem cells13 {w : World} {g : Nat} {T : TypeId} {v0 v1 v2 v3 v4 v5 v6 v7 v8 v9 v10 v11 v12 : Value} (h : w.heap[g]? = some (.cells #[v0, v1, v2, v3, v4, v5, v6, v7, v8, v9, v10, v11, v12] T (0, 0))) : w.cell? ⟨g, 0, none⟩ = some v0 ∧ w.cell? ⟨g, 1, none⟩ = some v1 ∧ w.cell? ⟨g, 2, none⟩ = some v2 ∧ w.cell? ⟨g, 3, none⟩ = some v3 ∧ w.cell? ⟨g, 4, none⟩ = some v4 ∧ w.cell? ⟨g, 5, none⟩ = some v5 ∧ w.cell? ⟨g, 6, none⟩ = some v6 ∧ w.cell? ⟨g, 7, none⟩ = some v7 ∧ w.cell? ⟨g, 8, none⟩ = some v8 ∧ w.cell? ⟨g, 9, none⟩ = some v9 ∧ w.cell? ⟨g, 10, none⟩ = some v10 ∧ w.cell? ⟨g, 11, none⟩ = some v11 ∧ w.cell? ⟨g, 12, none⟩ = some v12 :=
  ⟨cell_of h rfl, cell_of h rfl, cell_of h rfl, cell_of h rfl, cell_of h rfl, cell_of h rfl, cell_of h rfl, cell_of h rfl, cell_of h rfl, cell_of h rfl, cell_of h rfl, cell_of h rfl, cell_of h rfl⟩
theorem block13 {w : World} {g : Nat} {T : TypeId} {a0 a1 a2 a3 a4 a5 a6 a7 a8 a9 a10 a11 a12 b0 b1 b2 b3 b4 b5 b6 b7 b8 b9 b10 b11 b12 : Value} (h : w.heap[g]? = some (.cells #[a0, a1, a2, a3, a4, a5, a6, a7, a8, a9, a10, a11, a12] T (0, 0))) : (((((((((((((w.setCell ⟨g, 0, none⟩ b0).setCell ⟨g, 1, none⟩ b1).setCell ⟨g, 2, none⟩ b2).setCell ⟨g, 3, none⟩ b3).setCell ⟨g, 4, none⟩ b4).setCell ⟨g, 5, none⟩ b5).setCell ⟨g, 6, none⟩ b6).setCell ⟨g, 7, none⟩ b7).setCell ⟨g, 8, none⟩ b8).setCell ⟨g, 9, none⟩ b9).setCell ⟨g, 10, none⟩ b10).setCell ⟨g, 11, none⟩ b11).setCell ⟨g, 12, none⟩ b12).heap[g]? = some (.cells #[b0, b1, b2, b3, b4, b5, b6, b7, b8, b9, b10, b11, b12] T (0, 0)) := by
  have s0 : (w.setCell ⟨g, 0, none⟩ b0).heap[g]? = some (.cells #[b0, a1, a2, a3, a4, a5, a6, a7, a8, a9, a10, a11, a12] T (0, 0)) := block_set 0 b0 h
  have s1 : ((w.setCell ⟨g, 0, none⟩ b0).setCell ⟨g, 1, none⟩ b1).heap[g]? = some (.cells #[b0, b1, a2, a3, a4, a5, a6, a7, a8, a9, a10, a11, a12] T (0, 0)) := block_set 1 b1 s0
  have s2 : (((w.setCell ⟨g, 0, none⟩ b0).setCell ⟨g, 1, none⟩ b1).setCell ⟨g, 2, none⟩ b2).heap[g]? = some (.cells #[b0, b1, b2, a3, a4, a5, a6, a7, a8, a9, a10, a11, a12] T (0, 0)) := block_set 2 b2 s1
  have s3 : ((((w.setCell ⟨g, 0, none⟩ b0).setCell ⟨g, 1, none⟩ b1).setCell ⟨g, 2, none⟩ b2).setCell ⟨g, 3, none⟩ b3).heap[g]? = some (.cells #[b0, b1, b2, b3, a4, a5, a6, a7, a8, a9, a10, a11, a12] T (0, 0)) := block_set 3 b3 s2
  have s4 : (((((w.setCell ⟨g, 0, none⟩ b0).setCell ⟨g, 1, none⟩ b1).setCell ⟨g, 2, none⟩ b2).setCell ⟨g, 3, none⟩ b3).setCell ⟨g, 4, none⟩ b4).heap[g]? = some (.cells #[b0, b1, b2, b3, b4, a5, a6, a7, a8, a9, a10, a11, a12] T (0, 0)) := block_set 4 b4 s3
  have s5 : ((((((w.setCell ⟨g, 0, none⟩ b0).setCell ⟨g, 1, none⟩ b1).setCell ⟨g, 2, none⟩ b2).setCell ⟨g, 3, none⟩ b3).setCell ⟨g, 4, none⟩ b4).setCell ⟨g, 5, none⟩ b5).heap[g]? = some (.cells #[b0, b1, b2, b3, b4, b5, a6, a7, a8, a9, a10, a11, a12] T (0, 0)) := block_set 5 b5 s4
  have s6 : (((((((w.setCell ⟨g, 0, none⟩ b0).setCell ⟨g, 1, none⟩ b1).setCell ⟨g, 2, none⟩ b2).setCell ⟨g, 3, none⟩ b3).setCell ⟨g, 4, none⟩ b4).setCell ⟨g, 5, none⟩ b5).setCell ⟨g, 6, none⟩ b6).heap[g]? = some (.cells #[b0, b1, b2, b3, b4, b5, b6, a7, a8, a9, a10, a11, a12] T (0, 0)) := block_set 6 b6 s5
  have s7 : ((((((((w.setCell ⟨g, 0, none⟩ b0).setCell ⟨g, 1, none⟩ b1).setCell ⟨g, 2, none⟩ b2).setCell ⟨g, 3, none⟩ b3).setCell ⟨g, 4, none⟩ b4).setCell ⟨g, 5, none⟩ b5).setCell ⟨g, 6, none⟩ b6).setCell ⟨g, 7, none⟩ b7).heap[g]? = some (.cells #[b0, b1, b2, b3, b4, b5, b6, b7, a8, a9, a10, a11, a12] T (0, 0)) := block_set 7 b7 s6
  have s8 : (((((((((w.setCell ⟨g, 0, none⟩ b0).setCell ⟨g, 1, none⟩ b1).setCell ⟨g, 2, none⟩ b2).setCell ⟨g, 3, none⟩ b3).setCell ⟨g, 4, none⟩ b4).setCell ⟨g, 5, none⟩ b5).setCell ⟨g, 6, none⟩ b6).setCell ⟨g, 7, none⟩ b7).setCell ⟨g, 8, none⟩ b8).heap[g]? = some (.cells #[b0, b1, b2, b3, b4, b5, b6, b7, b8, a9, a10, a11, a12] T (0, 0)) := block_set 8 b8 s7
  have s9 : ((((((((((w.setCell ⟨g, 0, none⟩ b0).setCell ⟨g, 1, none⟩ b1).setCell ⟨g, 2, none⟩ b2).setCell ⟨g, 3, none⟩ b3).setCell ⟨g, 4, none⟩ b4).setCell ⟨g, 5, none⟩ b5).setCell ⟨g, 6, none⟩ b6).setCell ⟨g, 7, none⟩ b7).setCell ⟨g, 8, none⟩ b8).setCell ⟨g, 9, none⟩ b9).heap[g]? = some (.cells #[b0, b1, b2, b3, b4, b5, b6, b7, b8, b9, a10, a11, a12] T (0, 0)) := block_set 9 b9 s8
  have s10 : (((((((((((w.setCell ⟨g, 0, none⟩ b0).setCell ⟨g, 1, none⟩ b1).setCell ⟨g, 2, none⟩ b2).setCell ⟨g, 3, none⟩ b3).setCell ⟨g, 4, none⟩ b4).setCell ⟨g, 5, none⟩ b5).setCell ⟨g, 6, none⟩ b6).setCell ⟨g, 7, none⟩ b7).setCell ⟨g, 8, none⟩ b8).setCell ⟨g, 9, none⟩ b9).setCell ⟨g, 10, none⟩ b10).heap[g]? = some (.cells #[b0, b1, b2, b3, b4, b5, b6, b7, b8, b9, b10, a11, a12] T (0, 0)) := block_set 10 b10 s9
  have s11 : ((((((((((((w.setCell ⟨g, 0, none⟩ b0).setCell ⟨g, 1, none⟩ b1).setCell ⟨g, 2, none⟩ b2).setCell ⟨g, 3, none⟩ b3).setCell ⟨g, 4, none⟩ b4).setCell ⟨g, 5, none⟩ b5).setCell ⟨g, 6, none⟩ b6).setCell ⟨g, 7, none⟩ b7).setCell ⟨g, 8, none⟩ b8).setCell ⟨g, 9, none⟩ b9).setCell ⟨g, 10, none⟩ b10).setCell ⟨g, 11, none⟩ b11).heap[g]? = some (.cells #[b0, b1, b2, b3, b4, b5, b6, b7, b8, b9, b10, b11, a12] T (0, 0)) := block_set 11 b11 s10
  have s12 : (((((((((((((w.setCell ⟨g, 0, none⟩ b0).setCell ⟨g, 1, none⟩ b1).setCell ⟨g, 2, none⟩ b2).setCell ⟨g, 3, none⟩ b3).setCell ⟨g, 4, none⟩ b4).setCell ⟨g, 5, none⟩ b5).setCell ⟨g, 6, none⟩ b6).setCell ⟨g, 7, none⟩ b7).setCell ⟨g, 8, none⟩ b8).setCell ⟨g, 9, none⟩ b9).setCell ⟨g, 10, none⟩ b10).setCell ⟨g, 11, none⟩ b11).setCell ⟨g, 12, none⟩ b12).heap[g]? = some (.cells #[b0, b1, b2, b3, b4, b5, b6, b7, b8, b9, b10, b11, b12] T (0, 0)) := block_set 12 b12 s11
  exact s12
theorem keep13 {w : World} {g : Nat} {b0 b1 b2 b3 b4 b5 b6 b7 b8 b9 b10 b11 b12 : Value} : Keep [g] w (((((((((((((w.setCell ⟨g, 0, none⟩ b0).setCell ⟨g, 1, none⟩ b1).setCell ⟨g, 2, none⟩ b2).setCell ⟨g, 3, none⟩ b3).setCell ⟨g, 4, none⟩ b4).setCell ⟨g, 5, none⟩ b5).setCell ⟨g, 6, none⟩ b6).setCell ⟨g, 7, none⟩ b7).setCell ⟨g, 8, none⟩ b8).setCell ⟨g, 9, none⟩ b9).setCell ⟨g, 10, none⟩ b10).setCell ⟨g, 11, none⟩ b11).setCell ⟨g, 12, none⟩ b12) := ((((((((((((((Keep.refl [g] w).setCell (.inr (by simp)) b0).setCell (.inr (by simp)) b1).setCell (.inr (by simp)) b2).setCell (.inr (by simp)) b3).setCell (.inr (by simp)) b4).setCell (.inr (by simp)) b5).setCell (.inr (by simp)) b6).setCell (.inr (by simp)) b7).setCell (.inr (by simp)) b8).setCell (.inr (by simp)) b9).setCell (.inr (by simp)) b10).setCell (.inr (by simp)) b11).setCell (.inr (by simp)) b12)
theorem keep_at (w : World) (b i : Nat) (v : Value) : Keep [b] w (w.setCell ⟨b, i, none⟩ v) := (Keep.refl [b] w).setCell (.inr (by simp)) v
def CallPostF (w : World) (x : CallD) (e : Ending) (w' : World) : Prop := ∃ v', e = .returned (.agg #[.int .i64 x.k, .int .i64 x.h, .int .i64 x.a, .int .i64 x.b, v', .int .i64 x.t]) ∧ FreshSl w.heap.size w' 2 1 WordRep v' x.words ∧ Keep [] w w'
theorem norow2 {w : World} {g g2 : Nat} {e T : TypeId} {cs cs2 : Array Value} {fz fz2 : Nat × Nat} (h : w.heap[g]? = some (.cells cs T fz)) (h2 : w.heap[g2]? = some (.cells cs2 T fz2)) (hT : T ≠ e) : NoRow w [g, g2] e :=
  (NoRow.one h hT).append (NoRow.one h2 hT)
set_option maxHeartbeats 1000000 in
theorem clone_call_f {B : Nat → Prop} {w : World} {x : CallD} {v : Value} (h : SlD B w 1 WordRep v x.words) (hb : x.words.length ≤ 1000) :
    Calls Try.prog 52 #[.agg #[.int .i64 x.k, .int .i64 x.h, .int .i64 x.a, .int .i64 x.b, v, .int .i64 x.t]] w (CallPostF w x) := by
  obtain ⟨k, hh, a, b, ws, t⟩ := x
  simp only at h hb ⊢
  have KK : Hid (Keep [] w ((w.alloc (.cells #[.int .i64 k, .int .i64 hh, .int .i64 a, .int .i64 b, v, .int .i64 t] 42)).alloc (.cells #[.int .i64 0, .int .i64 0, .int .i64 0, .int .i64 0, .slice none 0 0, .int .i64 0] 42))) := Lib.hid (((Keep.refl _ _).alloc _).alloc _)
  have BX := Lib.hid (two_fst w (.cells #[.int .i64 k, .int .i64 hh, .int .i64 a, .int .i64 b, v, .int .i64 t] 42) (.cells #[.int .i64 0, .int .i64 0, .int .i64 0, .int .i64 0, .slice none 0 0, .int .i64 0] 42))
  have BY := Lib.hid (two_snd w (.cells #[.int .i64 k, .int .i64 hh, .int .i64 a, .int .i64 b, v, .int .i64 t] 42) (.cells #[.int .i64 0, .int .i64 0, .int .i64 0, .int .i64 0, .slice none 0 0, .int .i64 0] 42))
  have HS := Lib.hid (h.kept KK.out)
  clear h
  go_enter Try.func52, Try.ntmps52
  go_wp2_with fail
  refine (cloneI_sl HS.out WordRep.one hb).mono ?_
  rintro e w2 ⟨v', rfl, hfr, k2⟩
  have K2 := Lib.hid (KK.out.trans k2)
  have HF := Lib.hid hfr
  have X2 := Lib.hid (k2.to BX.out (by simp))
  have Y2 := Lib.hid (k2.to BY.out (by simp))
  have hz2 := k2.size
  simp only [World.size_alloc] at hz2
  have Z2 : Hid (w.heap.size + 2 ≤ w2.heap.size) := Lib.hid (by omega)
  clear k2 hfr hz2
  obtain ⟨vo, vc, rfl, _⟩ := FreshSl.form HF.out
  obtain ⟨e0, e1, e2, e3, e4, e5⟩ := cells6 X2.out
  have f4 := free_of (i := 4) X2.out
  have X3 := Lib.hid (block_set 4 (.slice vo ws.length vc) X2.out)
  have Y3 := Lib.hid (show (w2.setCell ⟨w.heap.size, 4, none⟩ (.slice vo ws.length vc)).heap[w.heap.size + 1]? = _ from Keep.to ((Keep.refl [w.heap.size] w2).setCell (.inr (by simp)) (.slice vo ws.length vc)) Y2.out (by simp))
  obtain ⟨g0, g1, g2, g3, g4, g5⟩ := cells6 (show (w2.setCell ⟨w.heap.size, 4, none⟩ (.slice vo ws.length vc)).heap[w.heap.size]? = some (.cells #[.int .i64 k, .int .i64 hh, .int .i64 a, .int .i64 b, .slice vo ws.length vc, .int .i64 t] 42 (0, 0)) from X3.out)
  obtain ⟨m0, m1, m2, m3, m4, m5⟩ := cells6 Y3.out
  have n0 := free_of (i := 0) Y3.out
  have n1 := free_of (i := 1) Y3.out
  have n2 := free_of (i := 2) Y3.out
  have n3 := free_of (i := 3) Y3.out
  have n4 := free_of (i := 4) Y3.out
  have n5 := free_of (i := 5) Y3.out
  have HW : Hid ((((((((w2.setCell ⟨w.heap.size, 4, none⟩ (.slice vo ws.length vc)).setCell ⟨w.heap.size + 1, 0, none⟩ (.int .i64 k)).setCell ⟨w.heap.size + 1, 1, none⟩ (.int .i64 hh)).setCell ⟨w.heap.size + 1, 2, none⟩ (.int .i64 a)).setCell ⟨w.heap.size + 1, 3, none⟩ (.int .i64 b)).setCell ⟨w.heap.size + 1, 4, none⟩ (.slice vo ws.length vc)).setCell ⟨w.heap.size + 1, 5, none⟩ (.int .i64 t)).heap[w.heap.size + 1]? = some (.cells #[.int .i64 k, .int .i64 hh, .int .i64 a, .int .i64 b, .slice vo ws.length vc, .int .i64 t] 42 (0, 0))) :=
    Lib.hid (block_set 5 _ (block_set 4 _ (block_set 3 _ (block_set 2 _ (block_set 1 _ (block_set 0 _ Y3.out))))))
  have HK : Hid (Keep [w.heap.size, w.heap.size + 1] w2 (((((((w2.setCell ⟨w.heap.size, 4, none⟩ (.slice vo ws.length vc)).setCell ⟨w.heap.size + 1, 0, none⟩ (.int .i64 k)).setCell ⟨w.heap.size + 1, 1, none⟩ (.int .i64 hh)).setCell ⟨w.heap.size + 1, 2, none⟩ (.int .i64 a)).setCell ⟨w.heap.size + 1, 3, none⟩ (.int .i64 b)).setCell ⟨w.heap.size + 1, 4, none⟩ (.slice vo ws.length vc)).setCell ⟨w.heap.size + 1, 5, none⟩ (.int .i64 t))) :=
    Lib.hid (((((((((Keep.refl _ w2).setCell (.inr (by simp)) _).setCell (.inr (by simp)) _).setCell (.inr (by simp)) _).setCell (.inr (by simp)) _).setCell (.inr (by simp)) _).setCell (.inr (by simp)) _).setCell (.inr (by simp)) _))
  go_wp2_with fail
  generalize (((((((w2.setCell ⟨w.heap.size, 4, none⟩ (.slice vo ws.length vc)).setCell ⟨w.heap.size + 1, 0, none⟩ (.int .i64 k)).setCell ⟨w.heap.size + 1, 1, none⟩ (.int .i64 hh)).setCell ⟨w.heap.size + 1, 2, none⟩ (.int .i64 a)).setCell ⟨w.heap.size + 1, 3, none⟩ (.int .i64 b)).setCell ⟨w.heap.size + 1, 4, none⟩ (.slice vo ws.length vc)).setCell ⟨w.heap.size + 1, 5, none⟩ (.int .i64 t)) = wF at *
  obtain ⟨z0, z1, z2, z3, z4, z5⟩ := cells6 HW.out
  exact bodyPost_ret (v := .agg #[.int .i64 k, .int .i64 hh, .int .i64 a, .int .i64 b, .slice vo ws.length vc, .int .i64 t]) (by simp [results, Try.results52, go_sem, z0, z1, z2, z3, z4, z5]) rfl
    ⟨_, rfl, (HF.out.keepT HK.out (norow2 X2.out Y2.out (by decide)) (fun _ _ _ h => h)).lo_mono (by simp; omega), K2.out.transS HK.out (T := []) (by simp) (by simp)⟩
set_option maxHeartbeats 2000000 in
theorem clone_ev {B : Nat → Prop} {w : World} {x : EvD} {v1 v2 : Value} (h : EvRep B w x (evCells x v1 v2)) (hb1 : x.call.words.length ≤ 1000) (hb2 : x.words.length ≤ 1000) :
    Calls Try.prog 34 #[.agg (evCells x v1 v2).toArray] w fun e w' => ∃ u1 u2, e = .returned (.agg (evCells x u1 u2).toArray) ∧ EvF w.heap.size w' x (evCells x u1 u2) ∧ Keep [] w w' := by
  obtain ⟨k, st, co, th, ⟨ck, ch, ca, cb, cw, ct⟩, cd, cn, ws⟩ := x
  obtain ⟨_, _, he, h1, h2, hin⟩ := h
  simp only [evCells, List.cons.injEq, and_true, true_and] at he
  obtain ⟨rfl, rfl⟩ := he
  simp only [evCells] at h1 h2 hin hb1 hb2 ⊢
  have HIN := Lib.hid hin
  clear hin
  have KK : Hid (Keep [] w ((w.alloc (.cells #[.int .i64 k, .int .i64 st, .int .i64 co, .int .i64 th, .int .i64 ck, .int .i64 ch, .int .i64 ca, .int .i64 cb, v1, .int .i64 ct, .int .i64 cd, .int .i64 cn, v2] 44)).alloc (.cells #[.int .i64 0, .int .i64 0, .int .i64 0, .int .i64 0, .int .i64 0, .int .i64 0, .int .i64 0, .int .i64 0, .slice none 0 0, .int .i64 0, .int .i64 0, .int .i64 0, .slice none 0 0] 44))) := Lib.hid (((Keep.refl _ _).alloc _).alloc _)
  have BX := Lib.hid (two_fst w (.cells #[.int .i64 k, .int .i64 st, .int .i64 co, .int .i64 th, .int .i64 ck, .int .i64 ch, .int .i64 ca, .int .i64 cb, v1, .int .i64 ct, .int .i64 cd, .int .i64 cn, v2] 44) (.cells #[.int .i64 0, .int .i64 0, .int .i64 0, .int .i64 0, .int .i64 0, .int .i64 0, .int .i64 0, .int .i64 0, .slice none 0 0, .int .i64 0, .int .i64 0, .int .i64 0, .slice none 0 0] 44))
  have BY := Lib.hid (two_snd w (.cells #[.int .i64 k, .int .i64 st, .int .i64 co, .int .i64 th, .int .i64 ck, .int .i64 ch, .int .i64 ca, .int .i64 cb, v1, .int .i64 ct, .int .i64 cd, .int .i64 cn, v2] 44) (.cells #[.int .i64 0, .int .i64 0, .int .i64 0, .int .i64 0, .int .i64 0, .int .i64 0, .int .i64 0, .int .i64 0, .slice none 0 0, .int .i64 0, .int .i64 0, .int .i64 0, .slice none 0 0] 44))
  have H1 := Lib.hid (sld_move (B' := Old w) (Rep' := WordRep) h1 KK.out.size (fun b _ hl => KK.out.block b hl (by simp)) (fun b _ hl => hl) (fun _ _ _ h => h))
  have H2 := Lib.hid (sld_move (B' := Old w) (Rep' := WordRep) h2 (Nat.le_refl _) (fun _ _ _ => rfl) (fun b _ hl => hl) (fun _ _ _ h => h))
  clear h1 h2
  obtain ⟨qa, qc, rfl⟩ := H1.out.form
  obtain ⟨ra, rc, rfl⟩ := H2.out.form
  go_enter Try.func34, Try.ntmps34
  go_wp2_with fail
  refine (clone_call_f (x := ⟨ck, ch, ca, cb, cw, ct⟩) H1.out hb1).mono ?_
  rintro e w2 ⟨u, rfl, hu, k2⟩
  obtain ⟨ua, uc, rfl, _⟩ := FreshSl.form hu
  have HU := Lib.hid hu
  have K2 := Lib.hid k2
  have X2 := Lib.hid (k2.to BX.out (by simp))
  have Y2 := Lib.hid (k2.to BY.out (by simp))
  have Z2 : w.heap.size + 2 ≤ w2.heap.size := by have := k2.size; simp at this; omega
  clear hu k2
  obtain ⟨e0, e1, e2, e3, e4, e5, e6, e7, e8, e9, e10, e11, e12⟩ := cells13 X2.out
  have f4 := free_of (i := 4) X2.out
  have f5 := free_of (i := 5) X2.out
  have f6 := free_of (i := 6) X2.out
  have f7 := free_of (i := 7) X2.out
  have f8 := free_of (i := 8) X2.out
  have f9 := free_of (i := 9) X2.out
  have X3 : Hid (((((((w2.setCell ⟨w.heap.size, 4, none⟩ (.int .i64 ck)).setCell ⟨w.heap.size, 5, none⟩ (.int .i64 ch)).setCell ⟨w.heap.size, 6, none⟩ (.int .i64 ca)).setCell ⟨w.heap.size, 7, none⟩ (.int .i64 cb)).setCell ⟨w.heap.size, 8, none⟩ (.slice ua cw.length uc)).setCell ⟨w.heap.size, 9, none⟩ (.int .i64 ct)).heap[w.heap.size]? = some (.cells #[.int .i64 k, .int .i64 st, .int .i64 co, .int .i64 th, .int .i64 ck, .int .i64 ch, .int .i64 ca, .int .i64 cb, .slice ua cw.length uc, .int .i64 ct, .int .i64 cd, .int .i64 cn, .slice ra ws.length rc] 44 (0, 0))) := Lib.hid (block_set 9 _ (block_set 8 _ (block_set 7 _ (block_set 6 _ (block_set 5 _ (block_set 4 _ X2.out))))))
  have K23 : Hid (Keep [w.heap.size] w2 ((((((w2.setCell ⟨w.heap.size, 4, none⟩ (.int .i64 ck)).setCell ⟨w.heap.size, 5, none⟩ (.int .i64 ch)).setCell ⟨w.heap.size, 6, none⟩ (.int .i64 ca)).setCell ⟨w.heap.size, 7, none⟩ (.int .i64 cb)).setCell ⟨w.heap.size, 8, none⟩ (.slice ua cw.length uc)).setCell ⟨w.heap.size, 9, none⟩ (.int .i64 ct))) := Lib.hid (((((((Keep.refl [w.heap.size] w2).setCell (.inr (by simp)) _).setCell (.inr (by simp)) _).setCell (.inr (by simp)) _).setCell (.inr (by simp)) _).setCell (.inr (by simp)) _).setCell (.inr (by simp)) _)
  have Y3 := Lib.hid (K23.out.to Y2.out (by simp))
  obtain ⟨g0, g1, g2, g3, g4, g5, g6, g7, g8, g9, g10, g11, g12⟩ := cells13 X3.out
  go_wp2_with fail
  clear e0 e1 e2 e3 e4 e5 e6 e7 e8 e9 e10 e11 e12 g0 g1 g2 g3 g4 g5 g6 g7 g8 g9 g10 g11 g12 f4 f5 f6 f7 f8 f9
  generalize ((((((w2.setCell ⟨w.heap.size, 4, none⟩ (.int .i64 ck)).setCell ⟨w.heap.size, 5, none⟩ (.int .i64 ch)).setCell ⟨w.heap.size, 6, none⟩ (.int .i64 ca)).setCell ⟨w.heap.size, 7, none⟩ (.int .i64 cb)).setCell ⟨w.heap.size, 8, none⟩ (.slice ua cw.length uc)).setCell ⟨w.heap.size, 9, none⟩ (.int .i64 ct)) = w3 at *
  have KW3 := Lib.hid ((KK.out.trans K2.out).transS K23.out (T := []) (by simp) (by simp))
  have H3 := Lib.hid (H2.out.keep (B' := Old w) KW3.out.size (fun b hb hl => KW3.out.block b hl (by simp)) (fun b hb => hb) (fun _ _ _ h => h))
  have HU3 := Lib.hid (HU.out.keepT K23.out (NoRow.one X2.out (by decide)) (fun _ _ _ h => h))
  refine (cloneI_sl H3.out WordRep.one hb2).mono ?_
  rintro e w4 ⟨u2, rfl, hfr, k4⟩
  obtain ⟨xa, xc, rfl, _⟩ := FreshSl.form hfr
  have HV := Lib.hid hfr
  have HU4 := Lib.hid (HU3.out.keepT k4 (NoRow.nil _ _) (fun _ _ _ h => h))
  have K4 := Lib.hid k4
  have X4 := Lib.hid (k4.to X3.out (by simp))
  have Y4 := Lib.hid (k4.to Y3.out (by simp))
  have Z4 := k4.size
  have Z3 := KW3.out.size
  clear hfr k4
  obtain ⟨e0, e1, e2, e3, e4, e5, e6, e7, e8, e9, e10, e11, e12⟩ := cells13 X4.out
  have f12 := free_of (i := 12) X4.out
  have X5 : Hid ((w4.setCell ⟨w.heap.size, 12, none⟩ (.slice xa ws.length xc)).heap[w.heap.size]? = some (.cells #[.int .i64 k, .int .i64 st, .int .i64 co, .int .i64 th, .int .i64 ck, .int .i64 ch, .int .i64 ca, .int .i64 cb, .slice ua cw.length uc, .int .i64 ct, .int .i64 cd, .int .i64 cn, .slice xa ws.length xc] 44 (0, 0))) := Lib.hid (block_set 12 _ X4.out)
  have Y5 := Lib.hid ((keep_at w4 w.heap.size 12 (.slice xa ws.length xc)).to Y4.out (by simp))
  obtain ⟨g0, g1, g2, g3, g4, g5, g6, g7, g8, g9, g10, g11, g12⟩ := cells13 X5.out
  obtain ⟨m0, m1, m2, m3, m4, m5, m6, m7, m8, m9, m10, m11, m12⟩ := cells13 Y5.out
  have n0 := free_of (i := 0) Y5.out
  have n1 := free_of (i := 1) Y5.out
  have n2 := free_of (i := 2) Y5.out
  have n3 := free_of (i := 3) Y5.out
  have n4 := free_of (i := 4) Y5.out
  have n5 := free_of (i := 5) Y5.out
  have n6 := free_of (i := 6) Y5.out
  have n7 := free_of (i := 7) Y5.out
  have n8 := free_of (i := 8) Y5.out
  have n9 := free_of (i := 9) Y5.out
  have n10 := free_of (i := 10) Y5.out
  have n11 := free_of (i := 11) Y5.out
  have n12 := free_of (i := 12) Y5.out
  have HW : Hid (((((((((((((((w4.setCell ⟨w.heap.size, 12, none⟩ (.slice xa ws.length xc)).setCell ⟨w.heap.size + 1, 0, none⟩ (.int .i64 k)).setCell ⟨w.heap.size + 1, 1, none⟩ (.int .i64 st)).setCell ⟨w.heap.size + 1, 2, none⟩ (.int .i64 co)).setCell ⟨w.heap.size + 1, 3, none⟩ (.int .i64 th)).setCell ⟨w.heap.size + 1, 4, none⟩ (.int .i64 ck)).setCell ⟨w.heap.size + 1, 5, none⟩ (.int .i64 ch)).setCell ⟨w.heap.size + 1, 6, none⟩ (.int .i64 ca)).setCell ⟨w.heap.size + 1, 7, none⟩ (.int .i64 cb)).setCell ⟨w.heap.size + 1, 8, none⟩ (.slice ua cw.length uc)).setCell ⟨w.heap.size + 1, 9, none⟩ (.int .i64 ct)).setCell ⟨w.heap.size + 1, 10, none⟩ (.int .i64 cd)).setCell ⟨w.heap.size + 1, 11, none⟩ (.int .i64 cn)).setCell ⟨w.heap.size + 1, 12, none⟩ (.slice xa ws.length xc)).heap[w.heap.size + 1]? = some (.cells #[.int .i64 k, .int .i64 st, .int .i64 co, .int .i64 th, .int .i64 ck, .int .i64 ch, .int .i64 ca, .int .i64 cb, .slice ua cw.length uc, .int .i64 ct, .int .i64 cd, .int .i64 cn, .slice xa ws.length xc] 44 (0, 0))) := Lib.hid (block13 Y5.out)
  have HKF : Hid (Keep [w.heap.size, w.heap.size + 1] w4 ((((((((((((((w4.setCell ⟨w.heap.size, 12, none⟩ (.slice xa ws.length xc)).setCell ⟨w.heap.size + 1, 0, none⟩ (.int .i64 k)).setCell ⟨w.heap.size + 1, 1, none⟩ (.int .i64 st)).setCell ⟨w.heap.size + 1, 2, none⟩ (.int .i64 co)).setCell ⟨w.heap.size + 1, 3, none⟩ (.int .i64 th)).setCell ⟨w.heap.size + 1, 4, none⟩ (.int .i64 ck)).setCell ⟨w.heap.size + 1, 5, none⟩ (.int .i64 ch)).setCell ⟨w.heap.size + 1, 6, none⟩ (.int .i64 ca)).setCell ⟨w.heap.size + 1, 7, none⟩ (.int .i64 cb)).setCell ⟨w.heap.size + 1, 8, none⟩ (.slice ua cw.length uc)).setCell ⟨w.heap.size + 1, 9, none⟩ (.int .i64 ct)).setCell ⟨w.heap.size + 1, 10, none⟩ (.int .i64 cd)).setCell ⟨w.heap.size + 1, 11, none⟩ (.int .i64 cn)).setCell ⟨w.heap.size + 1, 12, none⟩ (.slice xa ws.length xc))) := Lib.hid (((keep_at w4 w.heap.size 12 _).mono (S' := [w.heap.size, w.heap.size + 1]) (by simp)).trans ((keep13 (g := w.heap.size + 1)).mono (S' := [w.heap.size, w.heap.size + 1]) (by simp)))
  go_wp2_with fail
  generalize ((((((((((((((w4.setCell ⟨w.heap.size, 12, none⟩ (.slice xa ws.length xc)).setCell ⟨w.heap.size + 1, 0, none⟩ (.int .i64 k)).setCell ⟨w.heap.size + 1, 1, none⟩ (.int .i64 st)).setCell ⟨w.heap.size + 1, 2, none⟩ (.int .i64 co)).setCell ⟨w.heap.size + 1, 3, none⟩ (.int .i64 th)).setCell ⟨w.heap.size + 1, 4, none⟩ (.int .i64 ck)).setCell ⟨w.heap.size + 1, 5, none⟩ (.int .i64 ch)).setCell ⟨w.heap.size + 1, 6, none⟩ (.int .i64 ca)).setCell ⟨w.heap.size + 1, 7, none⟩ (.int .i64 cb)).setCell ⟨w.heap.size + 1, 8, none⟩ (.slice ua cw.length uc)).setCell ⟨w.heap.size + 1, 9, none⟩ (.int .i64 ct)).setCell ⟨w.heap.size + 1, 10, none⟩ (.int .i64 cd)).setCell ⟨w.heap.size + 1, 11, none⟩ (.int .i64 cn)).setCell ⟨w.heap.size + 1, 12, none⟩ (.slice xa ws.length xc)) = wF at *
  obtain ⟨z0, z1, z2, z3, z4, z5, z6, z7, z8, z9, z10, z11, z12⟩ := cells13 HW.out
  exact bodyPost_ret (v := .agg #[.int .i64 k, .int .i64 st, .int .i64 co, .int .i64 th, .int .i64 ck, .int .i64 ch, .int .i64 ca, .int .i64 cb, .slice ua cw.length uc, .int .i64 ct, .int .i64 cd, .int .i64 cn, .slice xa ws.length xc]) (by simp [results, Try.results34, go_sem, z0, z1, z2, z3, z4, z5, z6, z7, z8, z9, z10, z11, z12]) rfl
    ⟨.slice ua cw.length uc, .slice xa ws.length xc, rfl, ⟨_, _, rfl, (HU4.out.keepT HKF.out (norow2 X4.out Y4.out (by decide)) (fun _ _ _ h => h)).lo_mono (by simp; omega), (HV.out.keepT HKF.out (norow2 X4.out Y4.out (by decide)) (fun _ _ _ h => h)).lo_mono (by omega), HIN.out⟩, (KW3.out.trans K4.out).transS HKF.out (T := []) (by simp) (by simp)⟩
end Clone
end Go.Proofs.Ytkmpajdiedpfhaa
