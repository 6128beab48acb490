/- The contracts of the order's Pop and Push. No conditions but those stated. -/
import Derived.Test.YtkmpajdiedpfhaaHeap2
import Derived.Deep.RegionLaw
import Derived.BigRegion
import Derived.Deep.AppendLies
namespace Go.Proofs.Ytkmpajdiedpfhaa
open Go.ChangeShapes Go.WideShapes Go.ChangeAt Go.RowKit Go.Joins
set_option linter.unusedVariables false
set_option linter.unusedSimpArgs false
namespace Hist
open Same Clone
theorem NE.cells_eq (e : NE) : e.cells = [.int .i64 e.x.k, .int .i64 e.x.step, .int .i64 e.x.core, .int .i64 e.x.thr, .int .i64 e.x.call.k, .int .i64 e.x.call.h, .int .i64 e.x.call.a, .int .i64 e.x.call.b, e.v1, .int .i64 e.x.call.t, .int .i64 e.x.code, .int .i64 e.x.cnt, e.v2, .int .i64 (e.at_ : Int)] := rfl
theorem cells14 {w : World} {g : Nat} {T : TypeId} {v0 v1 v2 v3 v4 v5 v6 v7 v8 v9 v10 v11 v12 v13 : Value} (h : w.heap[g]? = some (.cells #[v0, v1, v2, v3, v4, v5, v6, v7, v8, v9, v10, v11, v12, v13] T (0, 0))) : w.cell? ⟨g, 0, none⟩ = some v0 ∧ w.cell? ⟨g, 1, none⟩ = some v1 ∧ w.cell? ⟨g, 2, none⟩ = some v2 ∧ w.cell? ⟨g, 3, none⟩ = some v3 ∧ w.cell? ⟨g, 4, none⟩ = some v4 ∧ w.cell? ⟨g, 5, none⟩ = some v5 ∧ w.cell? ⟨g, 6, none⟩ = some v6 ∧ w.cell? ⟨g, 7, none⟩ = some v7 ∧ w.cell? ⟨g, 8, none⟩ = some v8 ∧ w.cell? ⟨g, 9, none⟩ = some v9 ∧ w.cell? ⟨g, 10, none⟩ = some v10 ∧ w.cell? ⟨g, 11, none⟩ = some v11 ∧ w.cell? ⟨g, 12, none⟩ = some v12 ∧ w.cell? ⟨g, 13, none⟩ = some v13 :=
  ⟨cell_of h rfl, cell_of h rfl, cell_of h rfl, cell_of h rfl, cell_of h rfl, cell_of h rfl, cell_of h rfl, cell_of h rfl, cell_of h rfl, cell_of h rfl, cell_of h rfl, cell_of h rfl, cell_of h rfl, cell_of h rfl⟩
theorem OrdRow.cut {lo n : Nat} {w : World} {g cap : Nat} {f : Nat → NE} (h : OrdRow lo w (.slice (some ⟨g, 0, none⟩) (n + 1) cap) (n + 1) f) : OrdRow lo w (.slice (some ⟨g, 0, none⟩) n cap) n f := by
  obtain ⟨h1, h2 | ⟨g', cap', cur, e1, hb, hh, hn, hc, hz, ht⟩⟩ := h
  · cases h2.1
  · cases e1
    refine ⟨flatR_length n fun i _ => (f i).cells_length, .inr ⟨g, cap, cur, rfl, hb, hh, by omega, hc, hz, ?_⟩⟩
    rw [flatR_succ] at ht
    have := congrArg (List.take (n * 14)) ht
    rw [List.take_take, Nat.min_eq_left (by omega), List.take_append_of_le_length (by rw [flatR_length n (k := 14) fun i _ => (f i).cells_length]; omega)] at this
    rw [this, List.take_of_length_le (by rw [flatR_length n (k := 14) fun i _ => (f i).cells_length]; omega)]
theorem noted_info : (Try.prog.info? 75).map (fun i => (i.zero, i.size, i.bytes)) = some (some (.agg #[.int .i64 0, .int .i64 0, .int .i64 0, .int .i64 0, .int .i64 0, .int .i64 0, .int .i64 0, .int .i64 0, .slice none 0 0, .int .i64 0, .int .i64 0, .int .i64 0, .slice none 0 0, .int .i64 0]), 14, 144) := by kernel_rfl
set_option maxHeartbeats 2000000 in
set_option maxRecDepth 100000 in
theorem ord_pop {lo n q : Nat} {w : World} {g cap : Nat} {f : Nat → NE} (h : OrdRep lo w q (.slice (some ⟨g, 0, none⟩) (n + 1) cap) (n + 1) f) (hn : n ≤ 1000) :
    Calls Try.prog 90 #[.pointer (some ⟨q, 0, none⟩)] w fun e w' => e = .returned (.iface 75 (.agg (f n).cells.toArray)) ∧ OrdRep lo w' q (.slice (some ⟨g, 0, none⟩) n cap) n f ∧ Keep [q] w w' := by
  obtain ⟨hb, hr⟩ := h
  obtain ⟨_, _, e1, hc1, hc2⟩ := hr.form
  cases e1
  have HR := Lib.hid hr.cut
  have HB := Lib.hid hb
  have c0 := cells1 hb
  have hrg := hr.range (i := n) (by omega)
  have hgq : g ≠ q := by
    rintro rfl
    obtain ⟨g', _, e2, _, cur, hh, _⟩ := hr.row (by omega)
    cases e2
    rw [hb] at hh
    cases hh
  generalize (f n) = e at *
  have g0 := hrg 0 _ rfl
  have g1 := hrg 1 _ rfl
  have g2 := hrg 2 _ rfl
  have g3 := hrg 3 _ rfl
  have g4 := hrg 4 _ rfl
  have g5 := hrg 5 _ rfl
  have g6 := hrg 6 _ rfl
  have g7 := hrg 7 _ rfl
  have g8 := hrg 8 _ rfl
  have g9 := hrg 9 _ rfl
  have g10 := hrg 10 _ rfl
  have g11 := hrg 11 _ rfl
  have g12 := hrg 12 _ rfl
  have g13 := hrg 13 _ rfl
  simp only [Nat.add_zero] at g0
  have hbx := (Keep.refl [] w).alloc (.cells #[.int .i64 e.x.k, .int .i64 e.x.step, .int .i64 e.x.core, .int .i64 e.x.thr, .int .i64 e.x.call.k, .int .i64 e.x.call.h, .int .i64 e.x.call.a, .int .i64 e.x.call.b, e.v1, .int .i64 e.x.call.t, .int .i64 e.x.code, .int .i64 e.x.cnt, e.v2, .int .i64 (e.at_ : Int)] 75)
  have BA := Lib.hid (hbx.to hb (by simp))
  have cA := cells1 BA.out
  have fA := free_of (i := 0) BA.out
  obtain ⟨x0, x1, x2, x3, x4, x5, x6, x7, x8, x9, x10, x11, x12, x13⟩ := cells14 (heap_alloc_new w (.cells #[.int .i64 e.x.k, .int .i64 e.x.step, .int .i64 e.x.core, .int .i64 e.x.thr, .int .i64 e.x.call.k, .int .i64 e.x.call.h, .int .i64 e.x.call.a, .int .i64 e.x.call.b, e.v1, .int .i64 e.x.call.t, .int .i64 e.x.code, .int .i64 e.x.cnt, e.v2, .int .i64 (e.at_ : Int)] 75))
  have hqs := lt_of_block hb
  have hn0 : (0 : Int) ≤ (n : Int) := by omega
  clear hrg hr
  generalize hm : n + 1 = m at *
  have hmi : (m : Int) - 1 = (n : Int) := by omega
  have hnm : (n : Int) < (m : Int) := by omega
  have hnc : (n : Int) ≤ (cap : Int) := by omega
  unfold maxLen at hc2
  clear hb hbx
  have KX := Lib.hid (keep_at (w.alloc (.cells #[.int .i64 e.x.k, .int .i64 e.x.step, .int .i64 e.x.core, .int .i64 e.x.thr, .int .i64 e.x.call.k, .int .i64 e.x.call.h, .int .i64 e.x.call.a, .int .i64 e.x.call.b, e.v1, .int .i64 e.x.call.t, .int .i64 e.x.code, .int .i64 e.x.cnt, e.v2, .int .i64 (e.at_ : Int)] 75)) q 0 (.slice (some ⟨g, 0, none⟩) n cap))
  have XB := Lib.hid (KX.out.to (heap_alloc_new w (.cells #[.int .i64 e.x.k, .int .i64 e.x.step, .int .i64 e.x.core, .int .i64 e.x.thr, .int .i64 e.x.call.k, .int .i64 e.x.call.h, .int .i64 e.x.call.a, .int .i64 e.x.call.b, e.v1, .int .i64 e.x.call.t, .int .i64 e.x.code, .int .i64 e.x.cnt, e.v2, .int .i64 (e.at_ : Int)] 75)) (by simp; omega))
  obtain ⟨y0, y1, y2, y3, y4, y5, y6, y7, y8, y9, y10, y11, y12, y13⟩ := cells14 XB.out
  unfold NE.v1 NE.v2 at *
  go_enter Try.func90, Try.ntmps90
  go_wp2_with fail
  go_ret
  have KS := keep_at w q 0 (.slice (some ⟨g, 0, none⟩) n cap)
  exact ⟨rfl, ⟨heap_old (block_set 0 _ HB.out), (HR.out.keepT KS (NoRow.one HB.out (by decide))).keepT ((Keep.refl [] _).alloc _) (NoRow.nil _ _)⟩, KS.alloc _⟩
theorem push_row {n : Nat} {f : Nat → NE} {e : NE} : flatR (fun i => ((fun i => if i = n then e else f i) i).cells) (n + 1) = flatR (fun i => (f i).cells) n ++ e.cells := by
  rw [flatR_succ]
  simp only [if_true]
  rw [flatR_congr n (f' := fun i => (f i).cells) (fun i hi => by rw [if_neg (by omega)])]
theorem push_ord {lo q n : Nat} {w w5 w7 : World} {v v' : Value} {f : Nat → NE} {e : NE} {lit : Obj} (h : OrdRep lo w q v n f) (k5 : Keep [] w w5)
    (hown : w7.ownsRow lo 75 14 v' (n + 1) (flatR (fun i => (f i).cells) n ++ e.cells)) (hg : (w5.alloc lit).grownBy w7 v.ownBlock) :
    OrdRep lo (w7.setCell ⟨q, 0, none⟩ v') q v' (n + 1) (fun i => if i = n then e else f i) ∧ Keep (q :: v.ownBlock.toList) w (w7.setCell ⟨q, 0, none⟩ v') := by
  obtain ⟨hb, ho⟩ := h
  have k2 : Keep [] w (w5.alloc lit) := k5.alloc lit
  have oA := owns_move ho k2 (NoRow.nil _ _)
  have kg := grown_keep hg
  have b7 := box_grown (k2.to hb (by simp)) oA (by decide) hg
  have kx := keep_at w7 q 0 v'
  refine ⟨⟨block_set 0 v' b7, ?_⟩, ((k2.mono (S' := q :: v.ownBlock.toList) (by simp)).trans (kg.mono (S' := q :: v.ownBlock.toList) (fun g hg _ => List.mem_cons_of_mem _ hg))).trans (kx.mono (S' := q :: v.ownBlock.toList) (by simp))⟩
  have h7 : OrdRow lo w7 v' (n + 1) (fun i => if i = n then e else f i) := by
    unfold OrdRow
    rw [push_row]
    exact hown
  exact h7.keepT kx (NoRow.one b7 (by decide))
theorem noted_assert (v : Value) (w : World) : (Instr.typeAssert (.iface 75 v) 20 75 false).run Try.prog w = .ok v w := by kernel_rfl
set_option maxHeartbeats 4000000 in
set_option maxRecDepth 100000 in
theorem ord_push {lo n q : Nat} {w : World} {v : Value} {f : Nat → NE} {e : NE} (h : OrdRep lo w q v n f) (hn : n ≤ 1000) (hlo : lo ≤ w.heap.size) :
    Calls Try.prog 91 #[.pointer (some ⟨q, 0, none⟩), .iface 75 (.agg e.cells.toArray)] w fun e' w' => e' = .returned (.tuple #[]) ∧ ∃ v', OrdRep lo w' q v' (n + 1) (fun i => if i = n then e else f i) ∧ Keep (q :: v.ownBlock.toList) w w' ∧ (∀ g, v'.ownBlock = some g → v.ownBlock = some g ∨ w.heap.size ≤ g) := by
  have H := Lib.hid h
  obtain ⟨hb, ho⟩ := h
  have HB := Lib.hid hb
  have HO := Lib.hid ho
  obtain ⟨ao, cap, rfl, _, _⟩ := ho.form
  have c0 := cells1 hb
  have EC : Hid (e.cells = [.int .i64 e.x.k, .int .i64 e.x.step, .int .i64 e.x.core, .int .i64 e.x.thr, .int .i64 e.x.call.k, .int .i64 e.x.call.h, .int .i64 e.x.call.a, .int .i64 e.x.call.b, e.v1, .int .i64 e.x.call.t, .int .i64 e.x.code, .int .i64 e.x.cnt, e.v2, .int .i64 (e.at_ : Int)]) := Lib.hid rfl
  have H1 := Lib.hid (NE.cells_one e)
  obtain ⟨i0, hi0, hz0, hz1, hz2⟩ := info_parts noted_info
  clear hb ho
  rw [EC.out]
  unfold NE.v1 NE.v2 at *
  have K5 : Hid (Keep [] w w.drew) := Lib.hid (Keep.refl [] w).drew
  have c6 := cell_keep ((Keep.refl [] w).alloc (.cells #[.int .i64 e.x.k, .int .i64 e.x.step, .int .i64 e.x.core, .int .i64 e.x.thr, .int .i64 e.x.call.k, .int .i64 e.x.call.h, .int .i64 e.x.call.a, .int .i64 e.x.call.b, .slice e.p1 e.x.call.words.length e.k1, .int .i64 e.x.call.t, .int .i64 e.x.code, .int .i64 e.x.cnt, .slice e.p2 e.x.words.length e.k2, .int .i64 (e.at_ : Int)] 75)) c0 (by simp)
  have qa := noted_assert
  have hm1 : n + 1 ≤ maxLen := by unfold maxLen; omega
  have hm2 : (n + 1) * 144 ≤ 140737488355328 := by omega
  go_enter Try.func91, Try.ntmps91
  go_wp2_with fail
  go_region_law (refine step_append_lies _ (by rfl) _ _ _ (by rfl) lo 75 i0 _ 14 144 Try.underlying72 hi0 hz0 hz1 hz2 rfl (by omega) (.slice ao n cap) n (flatR (fun i => (f i).cells) n) (by rfl) (owns_move HO.out (K5.out.alloc _) (NoRow.nil _ _)) _ 1 1 e.cells (by rfl) (by rw [NE.cells_length]) (World.news_of_block (al1 w.drew _)) H1.out (by omega) hm1 hm2 (Nat.le_trans hlo (K5.out.alloc _).size) _ rfl ?_; intro gg cap7 w7 hown hgrow hat hlt; have HOW := Lib.hid hown; have HGR := Lib.hid hgrow; have HAT := Lib.hid hat; have B7 := Lib.hid (box_grown (heap_old (K5.out.to HB.out (by simp))) (owns_move HO.out (K5.out.alloc _) (NoRow.nil _ _)) (by decide) hgrow); have c7 := cells1 B7.out; have f7 := free_of (i := 0) B7.out; clear hown hgrow hat hlt)
  all_goals
    go_end0
    obtain ⟨p1, p2⟩ := push_ord H.out K5.out HOW.out HGR.out
    refine ⟨rfl, _, p1, p2, fun g hg => ?_⟩
    simp only [Value.ownBlock, Option.some.injEq] at hg
    rcases HAT.out with q | q
    · exact .inl (q.trans (congrArg some hg))
    · exact .inr (by simp at q; omega)
end Hist
end Go.Proofs.Ytkmpajdiedpfhaa
