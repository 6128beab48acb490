/- The door laws of the package call: the listed variable opened, the arguments opened. No conditions. -/
import Derived.Test.YtkmpajdiedpfhaaDoorCall9
import Derived.Test.YtkmpajdiedpfhaaDoorLift
import Derived.LaidMore
import Derived.LaidLaws
import Derived.MakeChecks
import Derived.OpenShut
namespace Go.Proofs.YtkmpajdiedpfhaaDoor
open Go.ChangeShapes Go.WideShapes Go.ChangeAt Go.RowKit Go.Joins
set_option linter.unusedVariables false
set_option linter.unusedSimpArgs false
namespace Call24
theorem gNames : Tryd.prog.globalNamed "septum/call.names" = some 0 := by kernel_rfl
theorem tNames : (Tryd.prog.globals[0]?).map (·.type) = some 44 := by kernel_rfl
theorem laid_len : ∀ i, i < 24 → (nm i).data.toList = (nmL.map (fun s => s.data.toList)).getD i [] := by
  intro i hi
  match i, hi with
  | 0, _ => rfl
  | 1, _ => rfl
  | 2, _ => rfl
  | 3, _ => rfl
  | 4, _ => rfl
  | 5, _ => rfl
  | 6, _ => rfl
  | 7, _ => rfl
  | 8, _ => rfl
  | 9, _ => rfl
  | 10, _ => rfl
  | 11, _ => rfl
  | 12, _ => rfl
  | 13, _ => rfl
  | 14, _ => rfl
  | 15, _ => rfl
  | 16, _ => rfl
  | 17, _ => rfl
  | 18, _ => rfl
  | 19, _ => rfl
  | 20, _ => rfl
  | 21, _ => rfl
  | 22, _ => rfl
  | 23, _ => rfl
  | n + 24, h => exact absurd h (by omega)
theorem laid_at (i : Nat) (hi : i < 24) : ∀ l : List (DataW Unit), Rows.laid_septum_call_names (H := Unit) = .agg l → l[i]? = some (.lit (.string (nm i).data.toList)) := by
  intro l hl
  unfold Rows.laid_septum_call_names at hl
  injection hl with hl
  subst hl
  match i, hi with
  | 0, _ => rfl
  | 1, _ => rfl
  | 2, _ => rfl
  | 3, _ => rfl
  | 4, _ => rfl
  | 5, _ => rfl
  | 6, _ => rfl
  | 7, _ => rfl
  | 8, _ => rfl
  | 9, _ => rfl
  | 10, _ => rfl
  | 11, _ => rfl
  | 12, _ => rfl
  | 13, _ => rfl
  | 14, _ => rfl
  | 15, _ => rfl
  | 16, _ => rfl
  | 17, _ => rfl
  | 18, _ => rfl
  | 19, _ => rfl
  | 20, _ => rfl
  | 21, _ => rfl
  | 22, _ => rfl
  | 23, _ => rfl
  | n + 24, h => exact absurd h (by omega)
abbrev laidL : List (String × DataW Unit) := [("septum/call.names", Rows.laid_septum_call_names)]
theorem of_laid {W : World} (h : laidMetH Tryd.prog laidL W) : NamesAt W := by
  rw [MakeChecks.laidMetH_plain _ _ _ (by kernel_rfl)] at h
  obtain ⟨ps, ⟨g0, t0, cs0, f0, p0, q0, hg0, ht0, hv0, hd0, _, _⟩, _, _⟩ := h
  obtain rfl := Option.some.inj (gNames.symm.trans hg0)
  obtain rfl := Option.some.inj (tNames.symm.trans ht0)
  intro i hi
  obtain ⟨xs, m1, rfl, hx1, hlen, hn3, hel⟩ := DataW.trod_array Tryd.underlying44 hd0
  have c3 : Tryd.prog.cellsOf 9 = 1 := by kernel_rfl
  have c24 : Tryd.prog.cellsOf 44 = 24 := by kernel_rfl
  have h0 := hel i hi
  rw [c3, Nat.mul_one] at h0
  rw [c24] at hlen
  have hlt : i < cs0.toList.length := by omega
  rw [List.drop_eq_getElem_cons hlt] at h0
  simp only [List.take_succ_cons, List.take_zero] at h0
  rw [List.getElem?_eq_getElem (by omega)] at h0
  obtain ⟨s, e1, e2, _⟩ := DataW.trod_string Tryd.underlying9 h0
  have e3 := laid_at i hi _ (Prod.mk.inj hx1).1
  rw [List.getElem?_map, List.getElem?_eq_getElem (by omega), e2] at e3
  simp only [Option.map_some, Option.some.injEq, DataW.lit.injEq, Lit.string.injEq] at e3
  have hs : s = nm i := ByteArray.ext (Array.toList_inj.1 e3)
  simp only [List.cons.injEq, and_true] at e1
  have := World.var?_cell hg0 hv0 i
  rw [this]
  rw [Array.getElem?_toList.symm, List.getElem?_eq_getElem hlt, e1, hs]
/-- The door's own heap meets the condition. -/
theorem door_met (os : Os) (args : Array Value) : laidMetH Tryd.prog laidL ((World.doorLaid Tryd.prog 14 os).forCall (fun _ _ => 0) ⟨#[], args, []⟩).memory :=
  laidMetH_of_parts3 (fuel := 8) (laidMet_of_run' 8 (by kernel_rfl) (by kernel_rfl)) (by kernel_rfl) (by kernel_rfl)

set_option maxRecDepth 100000 in
theorem law_laid {os : Os} (started : os.Started) {H : Type} {enc : TypeId × Value → H} {f : FuncId} {fn : Func} {s : ChangeSpec} {conds : List PathCond} {tb : TypeId}
    (hvars : s.vars = []) (htrue : ∀ ds : List (DataW H), ds.length = fn.params.size → (s.fn H ds).results = [.lit (.bool true)] ∧ (s.fn H ds).args = ds ∧ (s.fn H ds).vars = [])
    (hb : Tryd.prog.underlying tb = some .bool) (hres : fn.resultTypes = #[tb])
    (noInit : Tryd.prog.inits.idxOf? f = none) (hfn : Tryd.prog.funcs[f]? = some fn) (hread : fn.params.toList.all (fun t => Tryd.prog.readableRec t && decide (t < Tryd.prog.types.size)) = true)
    (witness : ∃ (w : World) (tape : Tape) (i : Input), w.os = os ∧ (w.forCall tape i).Shaped Tryd.prog ∧ i.vars = [] ∧ Input.okWide Tryd.prog (w.forCall tape i) .any w.heap.size f i ∧
      ((s.pre enc Tryd.prog fn conds false (w.forCall tape i).memory i.args ∧ laidMetH Tryd.prog laidL (w.forCall tape i).memory) ∧ sizedMet enc Tryd.prog fn (OpenSpec.ofChange s) false (w.forCall tape i).memory i.args) ∧ ({} : Assume).holds Tryd.prog (lone (Frame.enter Tryd.prog f i.args .normal) [] (w.forCall tape i)))
    (walk : ∀ (W : World) (base : Nat) (args : Array Value) (ds : List (DataW H)) (p : List MemPlace), Handed enc Tryd.prog fn base W args ds p → NamesAt W →
      Calls Tryd.prog f args W fun e W' => e = .returned (.bool true) ∧ Below W.heap.size W W') :
    ReturnsInHanded {} Tryd.checked os f .any (fun w args => (s.pre enc Tryd.prog fn conds false w args ∧ laidMetH Tryd.prog laidL w) ∧ sizedMet enc Tryd.prog fn (OpenSpec.ofChange s) false w args) (s.post enc Tryd.prog fn false true false false) := by
  refine returnsInHanded_of_change_and (C := Tryd.checked) (X := fun w _ => laidMetH Tryd.prog laidL w) (fun _ _ _ hh h => h.of_heap hh) own started noInit hfn witness ?_
  intro W base args ds gs before hval hW hcnd _ hL _
  have hW' := hW
  have hlt := DataW.Whole.lt hW'
  obtain ⟨p, q, hA, hV, rfl, hfz, hnd⟩ := hW
  rw [hvars] at hV
  obtain ⟨rfl, rfl⟩ := trodVars_none hV
  simp only [List.append_nil] at hlt hfz
  refine (walk W base args ds p ⟨hval, hA, hfz⟩ (of_laid hL)).mono fun e W' ⟨he, bel⟩ => ?_
  subst he
  have hn : ∀ (ts : List TypeId) (vs : List Value) (ds : List (DataW H)) (ps : List MemPlace), DataW.TrodAll enc Tryd.prog W 0 (fun _ => true) true ts vs ds ps → ds.length = ts.length := by
    intro ts
    induction ts with
    | nil => intro vs ds ps h; obtain ⟨_, rfl, _⟩ := trodAll_nil h; rfl
    | cons t ts ih => intro vs ds ps h; obtain ⟨_, _, _, _, _, _, _, rfl, _, _, r0⟩ := trodAll_cons h; simp [ih _ _ _ r0]
  obtain ⟨e1, e2, e3⟩ := htrue ds (by simpa using hn _ _ _ _ hA)
  have hargs := trodAll_below laidOut bel _ _ _ _ (fun t ht => by have := List.all_eq_true.1 hread t ht; simpa using this) hlt hA
  refine ⟨_, rfl, ds, [], p ++ [], [], p, [], hW', ?_, ?_, ?_, bel.frame _, fun h => by cases h⟩
  · rw [List.append_nil, e1, hres]; exact trodAll_mk1 (shut_bool hb _)
  · rw [List.append_nil, e2]; exact hargs
  · rw [List.append_nil, e3, hvars]; rfl

/-! ### the arguments -/
def WordR (cs : List Value) : Prop := ∃ n : Int, cs = [.int .i64 n]
def CallR (w : World) (cs : List Value) : Prop := ∃ (k h a b : Int) (v : Value) (t : Int), cs = [.int .i64 k, .int .i64 h, .int .i64 a, .int .i64 b, v, .int .i64 t] ∧ SlR w 1 WordR v
def ThreadR (w : World) (cs : List Value) : Prop := ∃ (pr cp : Int) (ct : Bool) (v : Value), cs = [.int .i64 pr, .int .u32 cp, .bool ct, v] ∧ 0 ≤ cp ∧ cp ≤ 4294967295 ∧ SlR w 6 (CallR w) v
def ObjR (cs : List Value) : Prop := ∃ (k s : Int) (b : Bool), cs = [.int .i64 k, .int .i64 s, .bool b]
def PartR (w : World) (cs : List Value) : Prop := ∃ v1 v2 : Value, cs = [v1, v2] ∧ SlR w 4 (ThreadR w) v1 ∧ SlR w 3 ObjR v2
theorem list2 {cs : List Value} (h : cs.length = 2) {a b : Value} (h0 : cs[0]? = some a) (h1 : cs[1]? = some b) : cs = [a, b] := by
  match cs, h with
  | [x, y], _ => simp at h0 h1; simp [h0, h1]
theorem list3 {cs : List Value} (h : cs.length = 3) {a b c : Value} (h0 : cs[0]? = some a) (h1 : cs[1]? = some b) (h2 : cs[2]? = some c) : cs = [a, b, c] := by
  match cs, h with
  | [x, y, z], _ => simp at h0 h1 h2; simp [h0, h1, h2]
theorem list4 {cs : List Value} (h : cs.length = 4) {a b c d : Value} (h0 : cs[0]? = some a) (h1 : cs[1]? = some b) (h2 : cs[2]? = some c) (h3 : cs[3]? = some d) : cs = [a, b, c, d] := by
  match cs, h with
  | [x, y, z, u], _ => simp at h0 h1 h2 h3; simp [h0, h1, h2, h3]
theorem list6 {cs : List Value} (h : cs.length = 6) {a b c d e f : Value} (h0 : cs[0]? = some a) (h1 : cs[1]? = some b) (h2 : cs[2]? = some c) (h3 : cs[3]? = some d) (h4 : cs[4]? = some e) (h5 : cs[5]? = some f) : cs = [a, b, c, d, e, f] := by
  match cs, h with
  | [x, y, z, u, v, w], _ => simp at h0 h1 h2 h3 h4 h5; simp [h0, h1, h2, h3, h4, h5]
section
variable {H : Type} {enc : TypeId × Value → H} {w : World} {base : Nat} {spare : Nat → Bool} {held : Bool}
theorem word_r {cs : List Value} (h : TrodOk enc Tryd.prog w base spare held 2 cs) (hl : cs.length = 1) : WordR cs := by
  match cs, hl with
  | [v], _ =>
    obtain ⟨n, rfl, _⟩ := nest_int Tryd.underlying2 h
    exact ⟨n, rfl⟩
theorem call_r {cs : List Value} (h : TrodOk enc Tryd.prog w base spare held 31 cs) (hl : cs.length = 6) : CallR w cs := by
  have hf := struct_fields (ts := [3, 3, 2, 2, 29, 3]) Tryd.underlying31 (by kernel_rfl) h hl
  obtain ⟨v0, g0, f0⟩ := hf 0 _ rfl
  obtain ⟨v1, g1, f1⟩ := hf 1 _ rfl
  obtain ⟨v2, g2, f2⟩ := hf 2 _ rfl
  obtain ⟨v3, g3, f3⟩ := hf 3 _ rfl
  obtain ⟨v4, g4, f4⟩ := hf 4 _ rfl
  obtain ⟨v5, g5, f5⟩ := hf 5 _ rfl
  obtain ⟨n0, rfl, _⟩ := nest_int Tryd.underlying3 f0
  obtain ⟨n1, rfl, _⟩ := nest_int Tryd.underlying3 f1
  obtain ⟨n2, rfl, _⟩ := nest_int Tryd.underlying2 f2
  obtain ⟨n3, rfl, _⟩ := nest_int Tryd.underlying2 f3
  obtain ⟨n5, rfl, _⟩ := nest_int Tryd.underlying3 f5
  exact ⟨n0, n1, n2, n3, v4, n5, list6 hl g0 g1 g2 g3 g4 g5, open_slR 1 Tryd.underlying29 (by kernel_rfl) (by decide) (fun cs h1 h2 => word_r h1 h2) f4⟩
theorem thread_r {cs : List Value} (h : TrodOk enc Tryd.prog w base spare held 39 cs) (hl : cs.length = 4) : ThreadR w cs := by
  have hf := struct_fields (ts := [3, 36, 4, 37]) Tryd.underlying39 (by kernel_rfl) h hl
  obtain ⟨v0, g0, f0⟩ := hf 0 _ rfl
  obtain ⟨v1, g1, f1⟩ := hf 1 _ rfl
  obtain ⟨v2, g2, f2⟩ := hf 2 _ rfl
  obtain ⟨v3, g3, f3⟩ := hf 3 _ rfl
  obtain ⟨n0, rfl, _⟩ := nest_int Tryd.underlying3 f0
  obtain ⟨n1, rfl, w1⟩ := nest_int Tryd.underlying36 f1
  obtain ⟨b2, rfl⟩ := nest_bool Tryd.underlying4 f2
  exact ⟨n0, n1, b2, v3, list4 hl g0 g1 g2 g3, (bounds_u32 w1).1, (bounds_u32 w1).2, open_slR 6 Tryd.underlying37 (by kernel_rfl) (by decide) (fun cs h1 h2 => call_r h1 h2) f3⟩
theorem obj_r {cs : List Value} (h : TrodOk enc Tryd.prog w base spare held 48 cs) (hl : cs.length = 3) : ObjR cs := by
  have hf := struct_fields (ts := [3, 3, 4]) Tryd.underlying48 (by kernel_rfl) h hl
  obtain ⟨v0, g0, f0⟩ := hf 0 _ rfl
  obtain ⟨v1, g1, f1⟩ := hf 1 _ rfl
  obtain ⟨v2, g2, f2⟩ := hf 2 _ rfl
  obtain ⟨n0, rfl, _⟩ := nest_int Tryd.underlying3 f0
  obtain ⟨n1, rfl, _⟩ := nest_int Tryd.underlying3 f1
  obtain ⟨b2, rfl⟩ := nest_bool Tryd.underlying4 f2
  exact ⟨n0, n1, b2, list3 hl g0 g1 g2⟩
theorem part_r {cs : List Value} (h : TrodOk enc Tryd.prog w base spare held 28 cs) (hl : cs.length = 2) : PartR w cs := by
  have hf := struct_fields (ts := [25, 26]) Tryd.underlying28 (by kernel_rfl) h hl
  obtain ⟨v0, g0, f0⟩ := hf 0 _ rfl
  obtain ⟨v1, g1, f1⟩ := hf 1 _ rfl
  exact ⟨v0, v1, list2 hl g0 g1, open_slR 4 Tryd.underlying25 (by kernel_rfl) (by decide) (fun cs h1 h2 => thread_r h1 h2) f0,
    open_slR 3 Tryd.underlying26 (by kernel_rfl) (by decide) (fun cs h1 h2 => obj_r h1 h2) f1⟩
end
theorem part_views {w : World} {cs : List Value} (h : PartR w cs) : ∃ (p : Pt) (caps : Nat → Int) (ctl : Nat → Bool) (prio : Nat → Int) (pg : Nat → Option Addr × Nat × Nat),
    cs.toArray = p.cells ∧ Ob w p ∧ Th w p caps ctl prio pg ∧ Pg w p pg := by
  obtain ⟨v1, v2, rfl, ⟨ta, tl, tc, rfl, h1⟩, ⟨oa, ol, oc, rfl, h2⟩⟩ := h
  have hk : ∀ i, ∃ k : Int, i < ol → ∃ b o, oa = some ⟨b, o, none⟩ ∧ w.cell? ⟨b, o + i * 3, none⟩ = some (.int .i64 k) := by
    intro i
    by_cases hi : i < ol
    · obtain ⟨b, o, cs, e, _, hc, k, s, q, rfl⟩ := h2.elem i hi
      exact ⟨k, fun _ => ⟨b, o, e, hc 0 _ rfl⟩⟩
    · exact ⟨0, fun h => absurd h hi⟩
  obtain ⟨kd, hkd⟩ := Classical.axiomOfChoice hk
  have ht : ∀ i, ∃ x : Int × Bool × Int × (Option Addr × Nat × Nat), i < tl → 0 ≤ x.1 ∧ x.1 ≤ 4294967295 ∧ (∃ b o, ta = some ⟨b, o, none⟩ ∧ w.cell? ⟨b, o + i * 4, none⟩ = some (.int .i64 x.2.2.1) ∧ w.cell? ⟨b, o + i * 4 + 1, none⟩ = some (.int .u32 x.1) ∧ w.cell? ⟨b, o + i * 4 + 2, none⟩ = some (.bool x.2.1) ∧ w.cell? ⟨b, o + i * 4 + 3, none⟩ = some (.slice x.2.2.2.1 x.2.2.2.2.1 x.2.2.2.2.2)) ∧
      (x.2.2.2.2.1 ≤ x.2.2.2.2.2 ∧ x.2.2.2.2.2 ≤ maxLen ∧ ∀ j, j < x.2.2.2.2.1 → ∃ b o wo wl wc, x.2.2.2.1 = some ⟨b, o, none⟩ ∧ w.cell? ⟨b, o + j * 6 + 4, none⟩ = some (.slice wo wl wc) ∧ wl ≤ wc ∧ wc ≤ maxLen) := by
    intro i
    by_cases hi : i < tl
    · obtain ⟨b, o, cs, e, _, hc, pr, cp, ct, v, rfl, u1, u2, pa, pl, pc, rfl, hp⟩ := h1.elem i hi
      refine ⟨⟨cp, ct, pr, pa, pl, pc⟩, fun _ => ⟨u1, u2, ⟨b, o, e, hc 0 _ rfl, hc 1 _ rfl, hc 2 _ rfl, hc 3 _ rfl⟩, hp.le, hp.most, fun j hj => ?_⟩⟩
      obtain ⟨b2, o2, cs2, e2, _, hc2, k, h, a, b3, v2, t, rfl, wo, wl, wc, rfl, hw⟩ := hp.elem j hj
      exact ⟨b2, o2, wo, wl, wc, e2, hc2 4 _ rfl, hw.le, hw.most⟩
    · exact ⟨⟨0, false, 0, none, 0, 0⟩, fun h => absurd h hi⟩
  obtain ⟨x, hx⟩ := Classical.axiomOfChoice ht
  exact ⟨⟨ta, tl, tc, oa, ol, oc, kd⟩, fun i => (x i).1, fun i => (x i).2.1, fun i => (x i).2.2.1, fun i => (x i).2.2.2, rfl, ⟨h2.le, h2.most, fun i hi => hkd i hi⟩,
    ⟨h1.le, h1.most, fun i hi => ⟨(hx i hi).1, (hx i hi).2.1, (hx i hi).2.2.1⟩⟩, fun i hi => (hx i hi).2.2.2⟩
theorem call_views {w : World} {cs : List Value} (h : CallR w cs) : ∃ c : Cl, cs.toArray = c.cells ∧ c.wl ≤ c.wc ∧ c.wc ≤ maxLen := by
  obtain ⟨k, hh, a, b, v, t, rfl, wo, wl, wc, rfl, hw⟩ := h
  exact ⟨⟨k, hh, a, b, wo, wl, wc, t⟩, rfl, hw.le, hw.most⟩
end Call24
end Go.Proofs.YtkmpajdiedpfhaaDoor
