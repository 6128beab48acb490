/- The plain law of Order, and its loops' invariants. No conditions but those stated. -/
import Derived.Test.YtkmpajdiedpfhaaHeap6
import Derived.Test.YtkmpajdiedpfhaaHist5
namespace Go.Proofs.Ytkmpajdiedpfhaa
open Go.ChangeShapes Go.WideShapes Go.ChangeAt Go.RowKit Go.Joins
set_option linter.unusedVariables false
set_option linter.unusedSimpArgs false
namespace Hist
open Same Clone
def keepB (x : EvD) : Bool := x.k == 1 || x.k == 3 || x.k == 4
def klt (a b : EvD × Nat) : Prop := a.1.step < b.1.step ∨ (a.1.step = b.1.step ∧ a.2 < b.2)
def keepP (p : EvD × Nat) : Bool := keepB p.1
def notedOf (l : List EvD) : List (EvD × Nat) := l.zipIdx.filter keepP
def NE.pr (e : NE) : EvD × Nat := (e.x, e.at_)
theorem zip_take {l : List EvD} {k : Nat} {x : EvD} (hx : l[k]? = some x) : l.zipIdx.take (k + 1) = l.zipIdx.take k ++ [(x, k)] := by
  rw [List.take_add_one, List.getElem?_zipIdx, hx]
  simp
theorem zip_keep {l : List EvD} {k : Nat} {x : EvD} (hx : l[k]? = some x) (hk : keepB x = true) : (l.zipIdx.take (k + 1)).filter keepP = (l.zipIdx.take k).filter keepP ++ [(x, k)] := by
  rw [zip_take hx, List.filter_append]
  simp [keepP, hk]
theorem zip_drop {l : List EvD} {k : Nat} {x : EvD} (hx : l[k]? = some x) (hk : keepB x = false) : (l.zipIdx.take (k + 1)).filter keepP = (l.zipIdx.take k).filter keepP := by
  rw [zip_take hx, List.filter_append]
  simp [keepP, hk]
theorem noted_nodup (l : List EvD) : ((notedOf l).map (·.2)).Nodup := by
  have h : (l.zipIdx.map (·.2)).Nodup := by
    have : l.zipIdx.map (·.2) = List.range l.length := by
      refine List.ext_getElem? fun i => ?_
      rw [List.getElem?_map, List.getElem?_zipIdx]
      by_cases hi : i < l.length
      · rw [List.getElem?_eq_getElem hi]; simp [hi]
      · rw [List.getElem?_eq_none (by omega)]; simp; omega
    rw [this]
    exact List.nodup_range
  exact List.Nodup.sublist ((List.filter_sublist (l := l.zipIdx) (p := keepP)).map _) h
/-- What is popped, and what is left. -/
structure L2 (l : List EvD) (es : List (EvD × Nat)) (f : Nat → NE) (n : Nat) : Prop where
  sorted : es.Pairwise klt
  perm : (es ++ (HeapL.toL f n).map NE.pr).Perm (notedOf l)
  ahead : ∀ y, y ∈ es → ∀ i, i < n → klt y (f i).pr
  heap : HeapL.Hp NE.lt f n
theorem L2.start {l : List EvD} {f : Nat → NE} {n : Nat} (h : HeapL.Hp NE.lt f n) (p : ((HeapL.toL f n).map NE.pr).Perm (notedOf l)) : L2 l [] f n :=
  ⟨List.Pairwise.nil, by simpa using p, fun y hy => (by cases hy), h⟩
theorem L2.pop {l : List EvD} {es : List (EvD × Nat)} {f f' : Nat → NE} {n : Nat} (h : L2 l es f (n + 1)) (h0 : f' n = f 0) (hs : HeapL.SameF (n + 1) f f') (hh : HeapL.Hp NE.lt f (n + 1) → HeapL.Hp NE.lt f' n) : L2 l (es ++ [(f 0).pr]) f' n := by
  have hp : ((HeapL.toL f' n).map NE.pr ++ [(f 0).pr]).Perm ((HeapL.toL f (n + 1)).map NE.pr) := by
    have h1 : (HeapL.toL f' n).map NE.pr ++ [(f 0).pr] = (HeapL.toL f' (n + 1)).map NE.pr := by rw [HeapL.toL_succ, List.map_append, h0]; rfl
    rw [h1]
    exact hs.perm.map _
  have hperm : ((es ++ [(f 0).pr]) ++ (HeapL.toL f' n).map NE.pr).Perm (notedOf l) := by
    rw [List.append_assoc]
    exact ((List.Perm.append_left es ((List.perm_append_comm (l₁ := [(f 0).pr])).trans hp))).trans h.perm
  have hnd : (((es ++ [(f 0).pr]) ++ (HeapL.toL f' n).map NE.pr).map (·.2)).Nodup := (hperm.map _).nodup_iff.2 (noted_nodup l)
  refine ⟨?_, hperm, fun y hy i hi => ?_, hh h.heap⟩
  · rw [List.pairwise_append]
    refine ⟨h.sorted, List.pairwise_singleton _ _, fun a ha b hb => ?_⟩
    simp at hb
    subst hb
    exact h.ahead a ha 0 (by omega)
  · have hmem : (f' i).pr ∈ (HeapL.toL f' n).map NE.pr := List.mem_map.2 ⟨f' i, List.mem_map.2 ⟨i, List.mem_range.2 hi, rfl⟩, rfl⟩
    obtain ⟨s, s1, s2, s3⟩ := hs
    have hfi := s3 i (by omega)
    rcases List.mem_append.1 hy with hy | hy
    · rw [hfi]
      exact h.ahead y hy (s i) (s1 i (by omega))
    · simp at hy
      subst hy
      have hm := h.heap.min NE.wk (fun a h => NE.wk.asymm _ _ h h) (s i) (s1 i (by omega))
      rw [← hfi] at hm
      have hne : (f 0).at_ ≠ (f' i).at_ := by
        rw [List.map_append, List.nodup_append] at hnd
        exact hnd.2.2 (f 0).at_ (by simp [NE.pr]) (f' i).at_ (List.mem_map.2 ⟨_, hmem, rfl⟩)
      unfold NE.lt at hm
      unfold klt NE.pr
      simp only
      omega
theorem L2.done {l : List EvD} {es : List (EvD × Nat)} {f : Nat → NE} (h : L2 l es f 0) : es.Pairwise klt ∧ es.Perm (notedOf l) :=
  ⟨h.sorted, by simpa [HeapL.toL] using h.perm⟩
theorem OrdRow.own_ge {lo n g : Nat} {w : World} {v : Value} {f : Nat → NE} (h : OrdRow lo w v n f) (hg : g ∈ v.ownBlock.toList) : lo ≤ g := by
  rcases h.2 with ⟨rfl, rfl⟩ | ⟨g', cap, cur, rfl, hb, _⟩
  · simp [Value.ownBlock] at hg
  · simp [Value.ownBlock] at hg
    omega
theorem OrdRep.norow {lo n q : Nat} {e : TypeId} {w : World} {v : Value} {f : Nat → NE} (h : OrdRep lo w q v n f) (h1 : 72 ≠ e) (h2 : 75 ≠ e) : NoRow w (q :: v.ownBlock.toList) e :=
  (NoRow.one h.1 h1).append (owns_norow h.2 h2)
/-- All elements' words lie in rows of the call's own. -/
def EvAll (lo : Nat) (w : World) (n : Nat) (f : Nat → NE) : Prop := ∀ i, i < n → EvF lo w (f i).x (evCells (f i).x (f i).v1 (f i).v2)
theorem EvAll.keepT {lo n : Nat} {w w' : World} {S : List Nat} {f : Nat → NE} (h : EvAll lo w n f) (k : Keep S w w') (hS : NoRow w S 2) : EvAll lo w' n f := fun i hi => (h i hi).keepT k hS
/-- The first loop. -/
structure L1 (w : World) (q : Nat) (l : List EvD) (ve : Value) (k : Nat) (wr : World) : Prop where
  ord : ∃ v n f, OrdRep w.heap.size wr q v n f ∧ n ≤ k ∧ HeapL.Hp NE.lt f n ∧ ((HeapL.toL f n).map NE.pr).Perm ((l.zipIdx.take k).filter keepP) ∧ EvAll w.heap.size wr n f
  evs : FreshSl w.heap.size wr 44 13 (EvF w.heap.size wr) ve l
  keep : Keep [] w wr
theorem L1.start {w wr : World} {q g : Nat} {l : List EvD} {ve : Value} (hq : wr.heap[q]? = some (.cells #[.slice (some ⟨g, 0, none⟩) 0 0] 72 (0, 0))) (hg : wr.heap[g]? = some (.cells #[] 75 (0, 0))) (hl : w.heap.size ≤ g) (hE : FreshSl w.heap.size wr 44 13 (EvF w.heap.size wr) ve l) (hk : Keep [] w wr) : L1 w q l ve 0 wr :=
  ⟨⟨_, 0, fun _ => ⟨⟨0, 0, 0, 0, ⟨0, 0, 0, 0, [], 0⟩, 0, 0, []⟩, 0, none, 0, none, 0⟩, ⟨hq, by simp [flatR], .inr ⟨g, 0, #[], rfl, hl, hg, Nat.le_refl _, by simp [maxLen], by simp, by simp [flatR]⟩⟩, Nat.le_refl _, fun i h0 hi => by omega, by simp [HeapL.toL], fun i hi => by omega⟩, hE, hk⟩
theorem L1.skip {w wr wA : World} {q k : Nat} {l : List EvD} {ve : Value} {x : EvD} (h : L1 w q l ve k wr) (kA : Keep [] wr wA) (hx : l[k]? = some x) (hkx : keepB x = false) : L1 w q l ve (k + 1) wA := by
  obtain ⟨⟨v, n, f, h1, h2, h3, h4, h5⟩, h6, h7⟩ := h
  exact ⟨⟨v, n, f, h1.kept kA, by omega, h3, by rw [zip_drop hx hkx]; exact h4, h5.keepT kA (NoRow.nil _ _)⟩, FreshSl.keepT h6 kA (NoRow.nil _ _) (fun _ _ _ h => h.keepT kA (NoRow.nil _ _)), h7.trans kA⟩
theorem L1.push {w wr wA wB : World} {q k n : Nat} {l : List EvD} {ve v v' : Value} {x : EvD} {f f' : Nat → NE} {e : NE} (hx : l[k]? = some x) (hkx : keepB x = true) (he : e.pr = (x, k)) (hq : w.heap.size ≤ q)
    (h1 : OrdRep w.heap.size wr q v n f) (h2 : n ≤ k) (h3 : HeapL.Hp NE.lt f n) (h4 : ((HeapL.toL f n).map NE.pr).Perm ((l.zipIdx.take k).filter keepP)) (h5 : EvAll w.heap.size wr n f)
    (h6 : FreshSl w.heap.size wr 44 13 (EvF w.heap.size wr) ve l) (h7 : Keep [] w wr) (hev : EvF w.heap.size wr x (evCells e.x e.v1 e.v2)) (kA : Keep [] wr wA)
    (p1 : OrdRep w.heap.size wB q v' (n + 1) f') (p2 : HeapL.SameF (n + 1) (updN f n e) f') (p3 : HeapL.Hp NE.lt f n → HeapL.Hp NE.lt f' (n + 1)) (p4 : Keep (q :: v.ownBlock.toList) wA wB) : L1 w q l ve (k + 1) wB := by
  have hA := h1.kept kA
  have nr : ∀ {e}, 72 ≠ e → 75 ≠ e → NoRow wA (q :: v.ownBlock.toList) e := fun a b => hA.norow a b
  have hx0 : e.x = x := congrArg Prod.fst he
  refine ⟨⟨v', n + 1, f', p1, by omega, p3 h3, ?_, ?_⟩, ?_, ?_⟩
  · rw [zip_keep hx hkx]
    refine (p2.perm.map NE.pr).trans ?_
    have : (List.range (n + 1)).map (updN f n e) = HeapL.toL f n ++ [e] := by
      show HeapL.toL (updN f n e) (n + 1) = _
      rw [HeapL.toL_succ, HeapL.toL_congr (g := f) (fun i hi => by unfold updN; rw [if_neg (by omega)])]
      simp [updN]
    rw [this, List.map_append, List.map_cons, List.map_nil, he]
    exact h4.append_right _
  · refine p2.all (P := fun e => EvF w.heap.size wB e.x (evCells e.x e.v1 e.v2)) (fun i hi => ?_)
    unfold updN
    split
    · rw [hx0] at hev ⊢
      exact (hev.keepT kA (NoRow.nil _ _)).keepT p4 (nr (by decide) (by decide))
    · exact ((h5 i (by omega)).keepT kA (NoRow.nil _ _)).keepT p4 (nr (by decide) (by decide))
  · exact FreshSl.keepT (FreshSl.keepT h6 kA (NoRow.nil _ _) (fun _ _ _ h => h.keepT kA (NoRow.nil _ _))) p4 (nr (by decide) (by decide)) (fun _ _ _ h => h.keepT p4 (nr (by decide) (by decide)))
  · refine (h7.trans kA).transS p4 (T := []) (by simp) (fun y hy hlt => ?_)
    rcases List.mem_cons.1 hy with rfl | hy
    · omega
    · have := h1.2.own_ge hy
      omega
end Hist
end Go.Proofs.Ytkmpajdiedpfhaa
