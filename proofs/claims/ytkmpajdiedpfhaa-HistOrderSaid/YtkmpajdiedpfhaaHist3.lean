/- The contracts of Len and Add. No conditions but those stated. -/
import Derived.Test.YtkmpajdiedpfhaaHist2
import Derived.Test.YtkmpajdiedpfhaaClone8
import Derived.Deep.RegionLaw
import Derived.BigRegion
import Derived.Deep.AppendLies
namespace Go.Proofs.Ytkmpajdiedpfhaa
open Go.ChangeShapes Go.WideShapes Go.ChangeAt Go.RowKit Go.Joins
set_option linter.unusedVariables false
set_option linter.unusedSimpArgs false
namespace Hist
open Same Clone
/-- A history at block h with the slice v: its events, and their words, in rows from block lo on. -/
def HRep (lo : Nat) (w : World) (h : Nat) (v : Value) (l : List EvD) : Prop :=
  w.heap[h]? = some (.cells #[v] 38 (0, 0)) ∧ GrowSl lo w 44 13 (EvF lo w) v l
theorem cells1 {w : World} {g : Nat} {T : TypeId} {v : Value} (h : w.heap[g]? = some (.cells #[v] T (0, 0))) : w.cell? ⟨g, 0, none⟩ = some v := cell_of h rfl
theorem HRep.kept {lo h : Nat} {v : Value} {w w' : World} {l : List EvD} (k : Keep [] w w') (hr : HRep lo w h v l) : HRep lo w' h v l := by
  obtain ⟨h1, h2⟩ := hr
  exact ⟨k.to h1 (by simp), h2.keepT k (NoRow.nil _ _) (fun _ _ _ hx => hx.keepT k (NoRow.nil _ _))⟩
theorem hist_len {lo h : Nat} {v : Value} {w : World} {l : List EvD} (hr : HRep lo w h v l) (hl : l.length ≤ 1000) :
    Calls Try.prog 23 #[.pointer (some ⟨h, 0, none⟩)] w fun e w' => e = .returned (.int .i64 l.length) ∧ Keep [] w w' := by
  obtain ⟨h1, h2⟩ := hr
  obtain ⟨ao, cap, rfl⟩ := h2.form
  have c0 := cells1 h1
  clear h1 h2
  go_enter Try.func23, Try.ntmps23
  go_wp2_with fail
  go_ret
  exact ⟨rfl, Keep.refl _ _⟩
theorem hist_len_nil (w : World) :
    Calls Try.prog 23 #[.pointer none] w fun e w' => e = .returned (.int .i64 0) ∧ Keep [] w w' := by
  go_enter Try.func23, Try.ntmps23
  go_wp2_with fail
  go_ret
  exact ⟨rfl, Keep.refl _ _⟩
theorem hist_add_nil {w : World} {x : EvD} {v1 v2 : Value} :
    Calls Try.prog 20 #[.pointer none, .agg (evCells x v1 v2).toArray] w fun e w' => e = .returned (.tuple #[]) ∧ Keep [] w w' := by
  have KK : Hid (Keep [] w (w.alloc (.cells (evCells x v1 v2).toArray 44))) := Lib.hid ((Keep.refl _ _).alloc _)
  unfold evCells at KK ⊢
  go_enter Try.func20, Try.ntmps20
  go_wp2_with fail
  go_end0
  exact ⟨rfl, KK.out⟩
theorem one_ev {x : EvD} {v1 v2 : Value} (h1 : v1.oneCell' = true := by rfl) (h2 : v2.oneCell' = true := by rfl) : ∀ u ∈ ([.int .i64 x.k, .int .i64 x.step, .int .i64 x.core, .int .i64 x.thr, .int .i64 x.call.k, .int .i64 x.call.h, .int .i64 x.call.a, .int .i64 x.call.b, v1, .int .i64 x.call.t, .int .i64 x.code, .int .i64 x.cnt, v2] : List Value), u.oneCell' = true := by
  intro u hu
  simp only [List.mem_cons, List.not_mem_nil, or_false] at hu
  rcases hu with rfl | rfl | rfl | rfl | rfl | rfl | rfl | rfl | rfl | rfl | rfl | rfl | rfl
  all_goals first | rfl | exact h1 | exact h2
theorem clone_ev' {B : Nat → Prop} {w : World} {x : EvD} {v1 v2 : Value} (h : EvRep B w x (evCells x v1 v2)) (hb1 : x.call.words.length ≤ 1000) (hb2 : x.words.length ≤ 1000) :
    Calls Try.prog 34 #[.agg #[.int .i64 x.k, .int .i64 x.step, .int .i64 x.core, .int .i64 x.thr, .int .i64 x.call.k, .int .i64 x.call.h, .int .i64 x.call.a, .int .i64 x.call.b, v1, .int .i64 x.call.t, .int .i64 x.code, .int .i64 x.cnt, v2]] w fun e w' => ∃ a1 n1 c1 a2 n2 c2, e = .returned (.agg #[.int .i64 x.k, .int .i64 x.step, .int .i64 x.core, .int .i64 x.thr, .int .i64 x.call.k, .int .i64 x.call.h, .int .i64 x.call.a, .int .i64 x.call.b, .slice a1 n1 c1, .int .i64 x.call.t, .int .i64 x.code, .int .i64 x.cnt, .slice a2 n2 c2]) ∧ EvF w.heap.size w' x (evCells x (.slice a1 n1 c1) (.slice a2 n2 c2)) ∧ Keep [] w w' := by
  refine (clone_ev h hb1 hb2).mono ?_
  rintro e w' ⟨u1, u2, rfl, hev, k⟩
  have h0 := hev
  obtain ⟨_, _, hcs, h1, h2, _⟩ := hev
  simp only [evCells, List.cons.injEq, and_true, true_and] at hcs
  obtain ⟨rfl, rfl⟩ := hcs
  obtain ⟨a1, c1, rfl, _⟩ := FreshSl.form h1
  obtain ⟨a2, c2, rfl, _⟩ := FreshSl.form h2
  exact ⟨_, _, _, _, _, _, rfl, h0, k⟩
theorem event_info : (Try.prog.info? 44).map (fun i => (i.zero, i.size, i.bytes)) = some (some (.agg #[.int .i64 0, .int .i64 0, .int .i64 0, .int .i64 0, .int .i64 0, .int .i64 0, .int .i64 0, .int .i64 0, .slice none 0 0, .int .i64 0, .int .i64 0, .int .i64 0, .slice none 0 0]), 13, 136) := by kernel_rfl
/-- One event more. -/
theorem push_ev {lo h : Nat} {w w1 w5 w7 : World} {v v' : Value} {l : List EvD} {x : EvD} {f : Nat → List Value} {news : List Value} {lit : Obj} (hb : w.heap[h]? = some (.cells #[v] 38 (0, 0))) (ho : w.ownsRow lo 44 13 v l.length (flatR f l.length))
    (hf : ∀ (i : Nat) (x : EvD), l[i]? = some x → (f i).length = 13 ∧ EvF lo w x (f i)) (hlo : lo ≤ w.heap.size) (k1 : Keep [] w w1) (k5 : Keep [] w1 w5) (hn : news.length = 13) (hev : EvF w1.heap.size w5 x news)
    (hown : w7.ownsRow lo 44 13 v' (l.length + 1) (flatR f l.length ++ news)) (hg : (w5.alloc lit).grownBy w7 v.ownBlock) :
    HRep lo (w7.setCell ⟨h, 0, none⟩ v') h v' (l ++ [x]) ∧ Keep (h :: v.ownBlock.toList) w (w7.setCell ⟨h, 0, none⟩ v') := by
  have k2 : Keep [] w (w5.alloc lit) := (k1.trans k5).alloc lit
  have oA := owns_move ho k2 (NoRow.nil _ _)
  have kg := grown_keep hg
  have b7 := box_grown (k2.to hb (by simp)) oA (by decide) hg
  have kx := keep_at w7 h 0 v'
  refine ⟨⟨block_set 0 v' b7, ?_⟩, ((k2.mono (S' := h :: v.ownBlock.toList) (by simp)).trans (kg.mono (S' := h :: v.ownBlock.toList) (fun g hg _ => List.mem_cons_of_mem _ hg))).trans (kx.mono (S' := h :: v.ownBlock.toList) (by simp))⟩
  refine (GrowSl.push (Rep' := EvF lo w7) (fun i y hi => ⟨(hf i y hi).1, ?_⟩) hown hn ?_).keepT kx (NoRow.one b7 (by decide)) (fun _ _ _ hx => hx.keepT kx (NoRow.one b7 (by decide)))
  · exact ((hf i y hi).2.keepT k2 (NoRow.nil _ _)).keepT kg (owns_norow oA (by decide))
  · obtain ⟨u1, u2, e, q1, q2, q3⟩ := (hev.keepT ((Keep.refl [] w5).alloc lit) (NoRow.nil _ _)).keepT kg (owns_norow oA (by decide))
    exact ⟨u1, u2, e, FreshSl.lo_mono q1 (Nat.le_trans hlo k1.size), FreshSl.lo_mono q2 (Nat.le_trans hlo k1.size), q3⟩
set_option maxHeartbeats 4000000 in
set_option maxRecDepth 100000 in
theorem hist_add {lo h : Nat} {B' : Nat → Prop} {w : World} {l : List EvD} {x : EvD} {v v1 v2 : Value} (hr : HRep lo w h v l) (hl : l.length ≤ 1000) (hlo : lo ≤ w.heap.size) (he : EvRep B' w x (evCells x v1 v2)) (hb1 : x.call.words.length ≤ 1000) (hb2 : x.words.length ≤ 1000) :
    Calls Try.prog 20 #[.pointer (some ⟨h, 0, none⟩), .agg (evCells x v1 v2).toArray] w fun e w' => e = .returned (.tuple #[]) ∧ ∃ v', HRep lo w' h v' (l ++ [x]) ∧ Keep (h :: v.ownBlock.toList) w w' ∧ (∀ g, v'.ownBlock = some g → v.ownBlock = some g ∨ w.heap.size ≤ g) := by
  obtain ⟨hb, f, ho, hf⟩ := hr
  have HO := Lib.hid ho
  have HF := Lib.hid hf
  have HB := Lib.hid hb
  have KK : Hid (Keep [] w (w.alloc (.cells (evCells x v1 v2).toArray 44))) := Lib.hid ((Keep.refl _ _).alloc _)
  have BX := Lib.hid (al1 w (.cells (evCells x v1 v2).toArray 44))
  have HE := Lib.hid (he.kept (KK.out.trans (Keep.refl [] _).drew))
  have HBA := Lib.hid (KK.out.to hb (by simp))
  have HOA := Lib.hid (owns_move ho KK.out (NoRow.nil _ _))
  clear ho hf he hb
  obtain ⟨_, _, hev, hs1, hs2, _⟩ := HE.out
  simp only [evCells, List.cons.injEq, and_true, true_and] at hev
  obtain ⟨rfl, rfl⟩ := hev
  obtain ⟨qa, qc, rfl⟩ := hs1.form
  obtain ⟨ra, rc, rfl⟩ := hs2.form
  clear hs1 hs2
  unfold evCells at BX KK HE HBA HOA ⊢
  have c0 := cells1 HBA.out
  obtain ⟨e0, e1, e2, e3, e4, e5, e6, e7, e8, e9, e10, e11, e12⟩ := cells13 BX.out
  obtain ⟨i0, hi0, hz0, hz1, hz2⟩ := info_parts event_info
  go_enter Try.func20, Try.ntmps20
  go_upto_region 2 with fail
  generalize w.alloc (.cells #[.int .i64 x.k, .int .i64 x.step, .int .i64 x.core, .int .i64 x.thr, .int .i64 x.call.k, .int .i64 x.call.h, .int .i64 x.call.a, .int .i64 x.call.b, .slice qa x.call.words.length qc, .int .i64 x.call.t, .int .i64 x.code, .int .i64 x.cnt, .slice ra x.words.length rc] 44) = w1 at *
  have hlo1 : lo ≤ w1.heap.size := Nat.le_trans hlo KK.out.size
  have hm1 : l.length + 1 ≤ maxLen := by unfold maxLen; omega
  have hm2 : (l.length + 1) * 136 ≤ 140737488355328 := by omega
  have H1 := Lib.hid (one_ev (x := x) (v1 := .slice qa x.call.words.length qc) (v2 := .slice ra x.words.length rc))
  go_region_law (first
    | (go_simp; go_at_call 34; ((with_reducible refine (clone_ev' HE.out hb1 hb2).mono ?_); rintro e w5 ⟨a1, n1, k1, a2, n2, k2, rfl, hev, k5⟩; have HEV := Lib.hid hev; have K5 : Hid (Keep [] w1 w5) := Lib.hid ((Keep.refl [] w1).drew.trans k5); have c5 := cell_keep K5.out c0 (by simp); have c6 := cell_keep (K5.out.alloc (.cells #[.int .i64 x.k, .int .i64 x.step, .int .i64 x.core, .int .i64 x.thr, .int .i64 x.call.k, .int .i64 x.call.h, .int .i64 x.call.a, .int .i64 x.call.b, .slice a1 n1 k1, .int .i64 x.call.t, .int .i64 x.code, .int .i64 x.cnt, .slice a2 n2 k2] 44)) c0 (by simp); clear hev k5))
    | (refine step_append_lies _ (by rfl) _ _ _ (by rfl) lo 44 i0 _ 13 136 Try.underlying35 hi0 hz0 hz1 hz2 rfl (by omega) v l.length (flatR f l.length) (by rfl) (owns_move HOA.out (K5.out.alloc _) (NoRow.nil _ _)) _ 1 1 _ (by rfl) (by rfl) (World.news_of_block (al1 w5 _)) one_ev (by omega) hm1 hm2 (Nat.le_trans hlo1 (K5.out.alloc _).size) _ rfl ?_; intro gg cap w7 hown hgrow hat hlt; have HOW := Lib.hid hown; have HGR := Lib.hid hgrow; have HAT := Lib.hid hat; have B7 := Lib.hid (box_grown (heap_old (K5.out.to HBA.out (by simp))) (owns_move HOA.out (K5.out.alloc _) (NoRow.nil _ _)) (by decide) hgrow); have c7 := cells1 B7.out; have f7 := free_of (i := 0) B7.out; clear hown hgrow hat hlt))
  all_goals
    go_end0
    obtain ⟨p1, p2⟩ := push_ev HB.out HO.out HF.out hlo KK.out K5.out rfl HEV.out HOW.out HGR.out
    refine ⟨rfl, _, p1, p2, fun g hg => ?_⟩
    simp only [Value.ownBlock, Option.some.injEq] at hg
    rcases HAT.out with q | q
    · exact .inl (q.trans (congrArg some hg))
    · have := (KK.out.trans K5.out).size
      exact .inr (by simp at q; omega)
end Hist
end Go.Proofs.Ytkmpajdiedpfhaa
