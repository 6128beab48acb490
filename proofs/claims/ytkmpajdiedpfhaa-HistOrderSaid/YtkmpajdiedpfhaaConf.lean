/- How a configuration lies in memory, and what it reads as. No conditions. -/
import Derived.Test.YtkmpajdiedpfhaaNest
import Derived.Test.YtkmpajdiedpfhaaLift
namespace Go.Proofs.Ytkmpajdiedpfhaa
open Go.ChangeShapes Go.WideShapes Go.ChangeAt Go.RowKit Go.Joins
set_option linter.unusedVariables false
set_option linter.unusedSimpArgs false
structure CallD where
  k : Int
  h : Int
  a : Int
  b : Int
  words : List Int
  t : Int
structure ThreadD where
  prio : Int
  caps : Int
  ctl : Bool
  prog : List CallD
structure ObjD where
  kind : Int
  size : Int
  prio : Bool
structure PartD where
  threads : List ThreadD
  objs : List ObjD
structure WinD where
  part : Int
  ticks : Int
structure ChanD where
  src : Int
  out : Int
  dst : Int
  inn : Int
structure ConfD where
  parts : List PartD
  wins : List WinD
  chans : List ChanD
def inI64 (n : Int) : Prop := (Lit.int .i64 n).wf = true
/-- The value is a slice in blocks of B that reads as the list. -/
def SlD {α : Type} (B : Nat → Prop) (w : World) (size : Nat) (Rep : α → List Value → Prop) (v : Value) (l : List α) : Prop :=
  ∃ ao cap, v = .slice ao l.length cap ∧ l.length ≤ cap ∧ cap ≤ maxLen ∧ ∀ (i : Nat) (x : α), l[i]? = some x → ∃ b o cs, ao = some ⟨b, o, none⟩ ∧ B b ∧ b < w.heap.size ∧ cs.length = size ∧
    (∀ (j : Nat) (u : Value), cs[j]? = some u → w.cell? ⟨b, o + i * size + j, none⟩ = some u) ∧ Rep x cs
theorem SlD.keep {α : Type} {B B' : Nat → Prop} {w w' : World} {size : Nat} {Rep Rep' : α → List Value → Prop} {v : Value} {l : List α} (h : SlD B w size Rep v l) (hs : w.heap.size ≤ w'.heap.size) (hk : ∀ b, B b → b < w.heap.size → w'.heap[b]? = w.heap[b]?) (hB : ∀ b, B b → B' b)
    (hR : ∀ x cs, x ∈ l → Rep x cs → Rep' x cs) : SlD B' w' size Rep' v l := by
  obtain ⟨ao, cap, e, h1, h2, h3⟩ := h
  refine ⟨ao, cap, e, h1, h2, fun i x hi => ?_⟩
  obtain ⟨b, o, cs, q1, q2, q2', q3, q4, q5⟩ := h3 i x hi
  refine ⟨b, o, cs, q1, hB b q2, Nat.lt_of_lt_of_le q2' hs, q3, fun j u hu => ?_, hR x cs (List.mem_of_getElem? hi) q5⟩
  have := q4 j u hu
  rw [World.cell?_of_block (w := w) (hk b q2 q2')]
  exact this
def WordRep (x : Int) (cs : List Value) : Prop := cs = [.int .i64 x] ∧ inI64 x
def CallRep (B : Nat → Prop) (w : World) (x : CallD) (cs : List Value) : Prop := ∃ v, cs = [.int .i64 x.k, .int .i64 x.h, .int .i64 x.a, .int .i64 x.b, v, .int .i64 x.t] ∧ SlD B w 1 WordRep v x.words ∧ inI64 x.k ∧ inI64 x.h ∧ inI64 x.a ∧ inI64 x.b ∧ inI64 x.t
def ThreadRep (B : Nat → Prop) (w : World) (x : ThreadD) (cs : List Value) : Prop := ∃ v, cs = [.int .i64 x.prio, .int .u32 x.caps, .bool x.ctl, v] ∧ 0 ≤ x.caps ∧ x.caps ≤ 4294967295 ∧ SlD B w 6 (CallRep B w) v x.prog ∧ inI64 x.prio
def ObjRep (x : ObjD) (cs : List Value) : Prop := cs = [.int .i64 x.kind, .int .i64 x.size, .bool x.prio] ∧ inI64 x.kind ∧ inI64 x.size
def PartRep (B : Nat → Prop) (w : World) (x : PartD) (cs : List Value) : Prop := ∃ v1 v2, cs = [v1, v2] ∧ SlD B w 4 (ThreadRep B w) v1 x.threads ∧ SlD B w 3 ObjRep v2 x.objs
def WinRep (x : WinD) (cs : List Value) : Prop := cs = [.int .i64 x.part, .int .i64 x.ticks] ∧ inI64 x.part ∧ inI64 x.ticks
def ChanRep (x : ChanD) (cs : List Value) : Prop := cs = [.int .i64 x.src, .int .i64 x.out, .int .i64 x.dst, .int .i64 x.inn] ∧ inI64 x.src ∧ inI64 x.out ∧ inI64 x.dst ∧ inI64 x.inn
def ConfRep (B : Nat → Prop) (w : World) (x : ConfD) (v : Value) : Prop := ∃ v1 v2 v3, v = .agg #[v1, v2, v3] ∧ SlD B w 2 (PartRep B w) v1 x.parts ∧ SlD B w 2 WinRep v2 x.wins ∧ SlD B w 4 ChanRep v3 x.chans
section
variable {B B' : Nat → Prop} {w w' : World}
theorem CallRep.keep (hs : w.heap.size ≤ w'.heap.size) (hk : ∀ b, B b → b < w.heap.size → w'.heap[b]? = w.heap[b]?) (hB : ∀ b, B b → B' b) {x : CallD} {cs : List Value} (h : CallRep B w x cs) : CallRep B' w' x cs :=
  let ⟨v, e, h1, h2⟩ := h
  ⟨v, e, h1.keep hs hk hB (fun _ _ _ h => h), h2⟩
theorem ThreadRep.keep (hs : w.heap.size ≤ w'.heap.size) (hk : ∀ b, B b → b < w.heap.size → w'.heap[b]? = w.heap[b]?) (hB : ∀ b, B b → B' b) {x : ThreadD} {cs : List Value} (h : ThreadRep B w x cs) : ThreadRep B' w' x cs :=
  let ⟨v, e, h1, h2, h3, h4⟩ := h
  ⟨v, e, h1, h2, h3.keep hs hk hB (fun _ _ _ h => h.keep hs hk hB), h4⟩
theorem PartRep.keep (hs : w.heap.size ≤ w'.heap.size) (hk : ∀ b, B b → b < w.heap.size → w'.heap[b]? = w.heap[b]?) (hB : ∀ b, B b → B' b) {x : PartD} {cs : List Value} (h : PartRep B w x cs) : PartRep B' w' x cs :=
  let ⟨v1, v2, e, h1, h2⟩ := h
  ⟨v1, v2, e, h1.keep hs hk hB (fun _ _ _ h => h.keep hs hk hB), h2.keep hs hk hB (fun _ _ _ h => h)⟩
theorem ConfRep.keep (hs : w.heap.size ≤ w'.heap.size) (hk : ∀ b, B b → b < w.heap.size → w'.heap[b]? = w.heap[b]?) (hB : ∀ b, B b → B' b) {x : ConfD} {v : Value} (h : ConfRep B w x v) : ConfRep B' w' x v :=
  let ⟨v1, v2, v3, e, h1, h2, h3⟩ := h
  ⟨v1, v2, v3, e, h1.keep hs hk hB (fun _ _ _ h => h.keep hs hk hB), h2.keep hs hk hB (fun _ _ _ h => h), h3.keep hs hk hB (fun _ _ _ h => h)⟩
theorem ConfRep.kept (k : Keep [] w w') {x : ConfD} {v : Value} (h : ConfRep B w x v) : ConfRep B w' x v := h.keep k.size (fun b _ hb => k.block b hb (by simp)) (fun _ h => h)
theorem PartRep.kept (k : Keep [] w w') {x : PartD} {cs : List Value} (h : PartRep B w x cs) : PartRep B w' x cs := h.keep k.size (fun b _ hb => k.block b hb (by simp)) (fun _ h => h)
theorem ThreadRep.kept (k : Keep [] w w') {x : ThreadD} {cs : List Value} (h : ThreadRep B w x cs) : ThreadRep B w' x cs := h.keep k.size (fun b _ hb => k.block b hb (by simp)) (fun _ h => h)
theorem CallRep.kept (k : Keep [] w w') {x : CallD} {cs : List Value} (h : CallRep B w x cs) : CallRep B w' x cs := h.keep k.size (fun b _ hb => k.block b hb (by simp)) (fun _ h => h)
theorem SlD.kept {α : Type} {size : Nat} {Rep : α → List Value → Prop} {v : Value} {l : List α} (k : Keep [] w w') (h : SlD B w size Rep v l) : SlD B w' size Rep v l := h.keep k.size (fun b _ hb => k.block b hb (by simp)) (fun _ h => h) (fun _ _ _ h => h)
end
/-- A slice whose elements each read as something reads as a list. -/
theorem sld_of_slr {α : Type} {w : World} {size : Nat} (hpos : 0 < size) {Rep : α → List Value → Prop} {v : Value} (h : SlR w size (fun cs => ∃ x, Rep x cs) v) : ∃ l : List α, SlD (fun _ => True) w size Rep v l := by
  obtain ⟨ao, len, cap, rfl, hx⟩ := h
  have hc : ∀ i : Fin len, ∃ x : α, ∃ b o cs, ao = some ⟨b, o, none⟩ ∧ cs.length = size ∧ (∀ (j : Nat) (v : Value), cs[j]? = some v → w.cell? ⟨b, o + i * size + j, none⟩ = some v) ∧ Rep x cs := by
    intro i
    obtain ⟨b, o, cs, h1, h2, h3, x, h4⟩ := hx.elem i i.2
    exact ⟨x, b, o, cs, h1, h2, h3, h4⟩
  obtain ⟨f, hf⟩ := Classical.axiomOfChoice hc
  refine ⟨List.ofFn f, ao, cap, by simp, by simpa using hx.le, hx.most, fun i x hi => ?_⟩
  have hlt : i < len := by have := (List.getElem?_eq_some_iff.1 hi).1; simpa using this
  rw [List.getElem?_ofFn, dif_pos hlt] at hi
  cases hi
  obtain ⟨b, o, cs, h1, h2, h3, h4⟩ := hf ⟨i, hlt⟩
  refine ⟨b, o, cs, h1, trivial, ?_, h2, h3, h4⟩
  have h0 := h3 0 cs[0] (by rw [List.getElem?_eq_getElem])
  exact World.block_lt_of_cell? w _ h0
theorem list2 {cs : List Value} (h : cs.length = 2) {a b : Value} (h0 : cs[0]? = some a) (h1 : cs[1]? = some b) : cs = [a, b] := by
  match cs, h with
  | [x, y], _ => simp at h0 h1; simp [h0, h1]
theorem list3 {cs : List Value} (h : cs.length = 3) {a b c : Value} (h0 : cs[0]? = some a) (h1 : cs[1]? = some b) (h2 : cs[2]? = some c) : cs = [a, b, c] := by
  match cs, h with
  | [x, y, z], _ => simp at h0 h1 h2; simp [h0, h1, h2]
theorem list4 {cs : List Value} (h : cs.length = 4) {a b c d : Value} (h0 : cs[0]? = some a) (h1 : cs[1]? = some b) (h2 : cs[2]? = some c) (h3 : cs[3]? = some d) : cs = [a, b, c, d] := by
  match cs, h with
  | [x, y, z, u], _ => simp at h0 h1 h2 h3; simp [h0, h1, h2, h3]
theorem list6 {cs : List Value} (h : cs.length = 6) {a b c d e f : Value} (h0 : cs[0]? = some a) (h1 : cs[1]? = some b) (h2 : cs[2]? = some c) (h3 : cs[3]? = some d) (h4 : cs[4]? = some e) (h5 : cs[5]? = some f) : cs = [a, b, c, d, e, f] := by
  match cs, h with
  | [x, y, z, u, v, w], _ => simp at h0 h1 h2 h3 h4 h5; simp [h0, h1, h2, h3, h4, h5]
section
variable {H : Type} {enc : TypeId × Value → H} {w : World} {base : Nat} {spare : Nat → Bool} {held : Bool}
abbrev All : Nat → Prop := fun _ => True
theorem word_r {cs : List Value} (h : TrodOk enc Try.prog w base spare held 2 cs) (hl : cs.length = 1) : ∃ x, WordRep x cs := by
  match cs, hl with
  | [v], _ =>
    obtain ⟨n, rfl, w1⟩ := nest_int Try.underlying2 h
    exact ⟨n, rfl, w1⟩
theorem call_r {cs : List Value} (h : TrodOk enc Try.prog w base spare held 42 cs) (hl : cs.length = 6) : ∃ x, CallRep All w x cs := by
  have hf := struct_fields (ts := [3, 3, 2, 2, 40, 3]) Try.underlying42 (by kernel_rfl) h hl
  obtain ⟨v0, g0, f0⟩ := hf 0 _ rfl
  obtain ⟨v1, g1, f1⟩ := hf 1 _ rfl
  obtain ⟨v2, g2, f2⟩ := hf 2 _ rfl
  obtain ⟨v3, g3, f3⟩ := hf 3 _ rfl
  obtain ⟨v4, g4, f4⟩ := hf 4 _ rfl
  obtain ⟨v5, g5, f5⟩ := hf 5 _ rfl
  obtain ⟨n0, rfl, w0⟩ := nest_int Try.underlying3 f0
  obtain ⟨n1, rfl, w1⟩ := nest_int Try.underlying3 f1
  obtain ⟨n2, rfl, w2⟩ := nest_int Try.underlying2 f2
  obtain ⟨n3, rfl, w3⟩ := nest_int Try.underlying2 f3
  obtain ⟨n5, rfl, w5⟩ := nest_int Try.underlying3 f5
  obtain ⟨l, hw⟩ := sld_of_slr (by decide) (open_slR 1 Try.underlying40 (by kernel_rfl) (by decide) (fun cs h1 h2 => word_r h1 h2) f4)
  exact ⟨⟨n0, n1, n2, n3, l, n5⟩, v4, list6 hl g0 g1 g2 g3 g4 g5, hw, w0, w1, w2, w3, w5⟩
theorem thread_r {cs : List Value} (h : TrodOk enc Try.prog w base spare held 58 cs) (hl : cs.length = 4) : ∃ x, ThreadRep All w x cs := by
  have hf := struct_fields (ts := [3, 55, 4, 56]) Try.underlying58 (by kernel_rfl) h hl
  obtain ⟨v0, g0, f0⟩ := hf 0 _ rfl
  obtain ⟨v1, g1, f1⟩ := hf 1 _ rfl
  obtain ⟨v2, g2, f2⟩ := hf 2 _ rfl
  obtain ⟨v3, g3, f3⟩ := hf 3 _ rfl
  obtain ⟨n0, rfl, w0⟩ := nest_int Try.underlying3 f0
  obtain ⟨n1, rfl, w1⟩ := nest_int Try.underlying55 f1
  obtain ⟨b2, rfl⟩ := nest_bool Try.underlying4 f2
  obtain ⟨l, hw⟩ := sld_of_slr (by decide) (open_slR 6 Try.underlying56 (by kernel_rfl) (by decide) (fun cs h1 h2 => call_r h1 h2) f3)
  exact ⟨⟨n0, n1, b2, l⟩, v3, list4 hl g0 g1 g2 g3, (bounds_u32 w1).1, (bounds_u32 w1).2, hw, w0⟩
theorem obj_r {cs : List Value} (h : TrodOk enc Try.prog w base spare held 99 cs) (hl : cs.length = 3) : ∃ x, ObjRep x cs := by
  have hf := struct_fields (ts := [3, 3, 4]) Try.underlying99 (by kernel_rfl) h hl
  obtain ⟨v0, g0, f0⟩ := hf 0 _ rfl
  obtain ⟨v1, g1, f1⟩ := hf 1 _ rfl
  obtain ⟨v2, g2, f2⟩ := hf 2 _ rfl
  obtain ⟨n0, rfl, w0⟩ := nest_int Try.underlying3 f0
  obtain ⟨n1, rfl, w1⟩ := nest_int Try.underlying3 f1
  obtain ⟨b2, rfl⟩ := nest_bool Try.underlying4 f2
  exact ⟨⟨n0, n1, b2⟩, list3 hl g0 g1 g2, w0, w1⟩
theorem part_r {cs : List Value} (h : TrodOk enc Try.prog w base spare held 54 cs) (hl : cs.length = 2) : ∃ x, PartRep All w x cs := by
  have hf := struct_fields (ts := [51, 52]) Try.underlying54 (by kernel_rfl) h hl
  obtain ⟨v0, g0, f0⟩ := hf 0 _ rfl
  obtain ⟨v1, g1, f1⟩ := hf 1 _ rfl
  obtain ⟨l1, h1⟩ := sld_of_slr (by decide) (open_slR 4 Try.underlying51 (by kernel_rfl) (by decide) (fun cs h1 h2 => thread_r h1 h2) f0)
  obtain ⟨l2, h2⟩ := sld_of_slr (by decide) (open_slR 3 Try.underlying52 (by kernel_rfl) (by decide) (fun cs h1 h2 => obj_r h1 h2) f1)
  exact ⟨⟨l1, l2⟩, v0, v1, list2 hl g0 g1, h1, h2⟩
theorem win_r {cs : List Value} (h : TrodOk enc Try.prog w base spare held 60 cs) (hl : cs.length = 2) : ∃ x, WinRep x cs := by
  have hf := struct_fields (ts := [3, 3]) Try.underlying60 (by kernel_rfl) h hl
  obtain ⟨v0, g0, f0⟩ := hf 0 _ rfl
  obtain ⟨v1, g1, f1⟩ := hf 1 _ rfl
  obtain ⟨n0, rfl, w0⟩ := nest_int Try.underlying3 f0
  obtain ⟨n1, rfl, w1⟩ := nest_int Try.underlying3 f1
  exact ⟨⟨n0, n1⟩, list2 hl g0 g1, w0, w1⟩
theorem chan_r {cs : List Value} (h : TrodOk enc Try.prog w base spare held 66 cs) (hl : cs.length = 4) : ∃ x, ChanRep x cs := by
  have hf := struct_fields (ts := [3, 3, 3, 3]) Try.underlying66 (by kernel_rfl) h hl
  obtain ⟨v0, g0, f0⟩ := hf 0 _ rfl
  obtain ⟨v1, g1, f1⟩ := hf 1 _ rfl
  obtain ⟨v2, g2, f2⟩ := hf 2 _ rfl
  obtain ⟨v3, g3, f3⟩ := hf 3 _ rfl
  obtain ⟨n0, rfl, w0⟩ := nest_int Try.underlying3 f0
  obtain ⟨n1, rfl, w1⟩ := nest_int Try.underlying3 f1
  obtain ⟨n2, rfl, w2⟩ := nest_int Try.underlying3 f2
  obtain ⟨n3, rfl, w3⟩ := nest_int Try.underlying3 f3
  exact ⟨⟨n0, n1, n2, n3⟩, list4 hl g0 g1 g2 g3, w0, w1, w2, w3⟩
theorem conf_r {cs : List Value} (h : TrodOk enc Try.prog w base spare held 26 cs) (hl : cs.length = 3) : ∃ x, ConfRep All w x (.agg cs.toArray) := by
  have hf := struct_fields (ts := [22, 23, 24]) Try.underlying26 (by kernel_rfl) h hl
  obtain ⟨v0, g0, f0⟩ := hf 0 _ rfl
  obtain ⟨v1, g1, f1⟩ := hf 1 _ rfl
  obtain ⟨v2, g2, f2⟩ := hf 2 _ rfl
  obtain ⟨l1, h1⟩ := sld_of_slr (by decide) (open_slR 2 Try.underlying22 (by kernel_rfl) (by decide) (fun cs h1 h2 => part_r h1 h2) f0)
  obtain ⟨l2, h2⟩ := sld_of_slr (by decide) (open_slR 2 Try.underlying23 (by kernel_rfl) (by decide) (fun cs h1 h2 => win_r h1 h2) f1)
  obtain ⟨l3, h3⟩ := sld_of_slr (by decide) (open_slR 4 Try.underlying24 (by kernel_rfl) (by decide) (fun cs h1 h2 => chan_r h1 h2) f2)
  exact ⟨⟨l1, l2, l3⟩, v0, v1, v2, by rw [list3 hl g0 g1 g2], h1, h2, h3⟩
set_option maxRecDepth 100000 in
theorem conf_arg {b0 : Nat} {v : Value} {d : DataW H} {q : List MemPlace} (hv : Value.okWide Try.prog w .any b0 26 v) (h : DataW.Trod enc Try.prog w base spare held 26 v d q) : ∃ x, ConfRep All w x v := by
  obtain ⟨cs, rfl, hl, ht⟩ := open_str Try.underlying26 hv h
  exact conf_r ht (hl.trans (by kernel_rfl))
end
end Go.Proofs.Ytkmpajdiedpfhaa
