/- The contracts of the heap's Push and Pop. No conditions but those stated. -/
import Derived.Test.YtkmpajdiedpfhaaHeap5
namespace Go.Proofs.Ytkmpajdiedpfhaa
open Go.ChangeShapes Go.WideShapes Go.ChangeAt Go.RowKit Go.Joins
set_option linter.unusedVariables false
set_option linter.unusedSimpArgs false
namespace Hist
open Same Clone
def updN (f : Nat → NE) (n : Nat) (e : NE) : Nat → NE := fun i => if i = n then e else f i
set_option maxHeartbeats 1000000 in
set_option maxRecDepth 100000 in
theorem heap_push {lo n q : Nat} {w : World} {v : Value} {f : Nat → NE} {e : NE} (h : OrdRep lo w q v n f) (hn : n ≤ 500) (hlo : lo ≤ w.heap.size) :
    Calls Try.prog 35 #[.iface 70 (.pointer (some ⟨q, 0, none⟩)), .iface 75 (.agg e.cells.toArray)] w fun e' w' => e' = .returned (.tuple #[]) ∧ ∃ v' f', OrdRep lo w' q v' (n + 1) f' ∧ HeapL.SameF (n + 1) (updN f n e) f' ∧ (HeapL.Hp NE.lt f n → HeapL.Hp NE.lt f' (n + 1)) ∧ Keep (q :: v.ownBlock.toList) w w' ∧ (∀ g, v'.ownBlock = some g → v.ownBlock = some g ∨ w.heap.size ≤ g) := by
  have H := Lib.hid h
  clear h
  have mp := m_push q w
  go_enter Try.func35, Try.ntmps35
  go_wp2_with fail
  refine (ord_push H.out (by omega) hlo).mono ?_
  rintro _ w2 ⟨rfl, v2, hr2, k2, hb2⟩
  obtain ⟨g, cap, rfl, hg, _⟩ := hr2.2.row (by omega)
  have HR2 := Lib.hid hr2
  have K2 := Lib.hid k2
  have HB2 := Lib.hid hb2
  clear hr2 k2 hb2 mp
  have hml := m_len (cells1 HR2.out.1)
  have e1 : ((n + 1 : Nat) : Int) - 1 = (n : Int) := by omega
  generalize hm : n + 1 = m at *
  go_wp2_with fail
  refine ord_len.mono ?_
  rintro _ _ ⟨rfl, rfl⟩
  go_wp2_with fail
  refine (heap_up (j := n) HR2.out (by omega) (by omega)).mono ?_
  rintro _ w3 ⟨rfl, f3, hr3, hs3, hu3, k3⟩
  have HR3 := Lib.hid hr3
  have HS3 := Lib.hid hs3
  have HU3 := Lib.hid hu3
  have K3 := Lib.hid k3
  clear hr3 hs3 hu3 k3
  go_wp2_with fail
  go_end0
  have hgb := HB2.out g rfl
  subst hm
  refine ⟨rfl, _, f3, HR3.out, HS3.out, fun hh => HU3.out ?_, K2.out.transS K3.out (T := q :: v.ownBlock.toList) (fun _ h _ => h) ?_, HB2.out⟩
  · refine HeapL.UpI.start (fun i h0 hi => ?_)
    have hp : HeapL.par i < i := by unfold HeapL.par; omega
    show ¬ NE.lt (if i = n then e else f i) (if HeapL.par i = n then e else f (HeapL.par i))
    rw [if_neg (by omega), if_neg (by omega)]
    exact hh i h0 hi
  · intro x hx hlt
    simp at hx
    subst hx
    rcases hgb with hgb | hgb
    · rw [hgb]; simp
    · omega
set_option maxHeartbeats 1000000 in
set_option maxRecDepth 100000 in
theorem heap_pop {lo n q g cap : Nat} {w : World} {f : Nat → NE} (h : OrdRep lo w q (.slice (some ⟨g, 0, none⟩) (n + 1) cap) (n + 1) f) (hn : n ≤ 500) :
    Calls Try.prog 37 #[.iface 70 (.pointer (some ⟨q, 0, none⟩))] w fun e' w' => ∃ f', e' = .returned (.iface 75 (.agg (f 0).cells.toArray)) ∧ OrdRep lo w' q (.slice (some ⟨g, 0, none⟩) n cap) n f' ∧ f' n = f 0 ∧ HeapL.SameF (n + 1) f f' ∧ (HeapL.Hp NE.lt f (n + 1) → HeapL.Hp NE.lt f' n) ∧ Keep [q, g] w w' := by
  have H := Lib.hid h
  clear h
  have hml := m_len (cells1 H.out.1)
  have hms := m_swap (cells1 H.out.1)
  generalize hm : n + 1 = m at *
  have e1 : (m : Int) - 1 = (n : Int) := by omega
  go_enter Try.func37, Try.ntmps37
  go_wp2_with fail
  refine ord_len.mono ?_
  rintro _ _ ⟨rfl, rfl⟩
  go_wp2_with fail
  refine (ord_swap (i := 0) (j := n) H.out.2 (by omega) (by omega) (by omega)).mono ?_
  rintro _ w2 ⟨rfl, hr2, k2⟩
  have HR2 := Lib.hid (H.out.swapped hr2 k2)
  have K2 := Lib.hid k2
  clear hr2 k2 hml hms
  go_wp2_with fail
  refine (heap_down (m := n) HR2.out (by omega) (by omega)).mono ?_
  rintro _ w3 ⟨⟨b, rfl⟩, f3, hr3, hs3, ho3, hd3, k3⟩
  have HR3 := Lib.hid hr3
  have K3 := Lib.hid k3
  have hpo := m_pop q w3
  have HS3 := Lib.hid hs3
  have HO3 := Lib.hid ho3
  have HD3 := Lib.hid hd3
  clear hr3 k3 hs3 ho3 hd3
  subst hm
  go_wp2_with fail
  refine (ord_pop HR3.out (by omega)).mono ?_
  rintro _ w4 ⟨rfl, hr4, k4⟩
  have HR4 := Lib.hid hr4
  have K4 := Lib.hid k4
  clear hr4 k4 hpo
  have e0 : f3 n = f 0 := (HO3.out n (Nat.le_refl _)).trans (HeapL.swp_r f 0 n)
  have HE0 := Lib.hid e0
  rw [e0]
  clear e0
  go_wp2_with fail
  go_ret
  exact ⟨f3, rfl, HR4.out, HE0.out, (HeapL.SameF.swp f (by omega) (by omega)).trans (HS3.out.up HO3.out 1), fun hh => HD3.out hh.popped, ((K2.out.mono (S' := [q, g]) (by simp)).trans (K3.out.mono (S' := [q, g]) (by simp))).trans (K4.out.mono (S' := [q, g]) (by simp))⟩
end Hist
end Go.Proofs.Ytkmpajdiedpfhaa
