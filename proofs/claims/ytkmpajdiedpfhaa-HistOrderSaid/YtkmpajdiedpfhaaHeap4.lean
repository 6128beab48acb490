/- The methods that the interface of the heap means, and the contract of up. No conditions but those stated. -/
import Derived.Test.YtkmpajdiedpfhaaHeap3
namespace Go.Proofs.Ytkmpajdiedpfhaa
open Go.ChangeShapes Go.WideShapes Go.ChangeAt Go.RowKit Go.Joins
set_option linter.unusedVariables false
set_option linter.unusedSimpArgs false
namespace Hist
open Same Clone
theorem m_push (q : Nat) (w : World) : (method 229 70 (.pointer (some ⟨q, 0, none⟩)) "Push").run Try.prog w = .ok (91, .pointer (some ⟨q, 0, none⟩)) w := by kernel_rfl
theorem m_pop (q : Nat) (w : World) : (method 229 70 (.pointer (some ⟨q, 0, none⟩)) "Pop").run Try.prog w = .ok (90, .pointer (some ⟨q, 0, none⟩)) w := by kernel_rfl
theorem m_val {q : Nat} {w : World} {v : Value} (h : w.cell? ⟨q, 0, none⟩ = some v) : ((loadVar 72 ⟨q, 0, none⟩).run Try.prog w) = .ok v w := by
  simp [loadVar, go_sem, h]
theorem m_recv (q : Nat) (w : World) (s : String) : (receiverAt 70 (.val (.pointer (some ⟨q, 0, none⟩))) false (some s)).run Try.prog w = ((loadVar 72 ⟨q, 0, none⟩).run Try.prog w) := by kernel_rfl
theorem m_any (q : Nat) (w : World) (v : Value) (name : String) (k : Nat) (hm0 : (Try.t70.methods.find? (·.name == name)).map (fun m => (m.path.toList, m.func)) = some ([], some (k, false))) (h : w.cell? ⟨q, 0, none⟩ = some v) : (method 229 70 (.pointer (some ⟨q, 0, none⟩)) name).run Try.prog w = .ok (k, v) w := by
  have h := m_val h
  obtain ⟨m, hm, hx⟩ := Option.map_eq_some_iff.1 hm0
  obtain ⟨hp0, hf⟩ := Prod.mk.inj hx
  have hp : m.path = #[] := Array.toList_inj.1 hp0
  rw [method]
  simp only [Sem.run_bind, Try.typeInfo70, Result.andThen_ok, hm, hp, follow, Sem.run_pure, hf]
  simp only [Array.isEmpty, Array.size_empty, decide_true, if_true, Sem.run_bind, m_recv, h, Result.andThen_ok, Sem.run_pure]
theorem m_len {q : Nat} {w : World} {v : Value} (h : w.cell? ⟨q, 0, none⟩ = some v) : (method 229 70 (.pointer (some ⟨q, 0, none⟩)) "Len").run Try.prog w = .ok (36, v) w := m_any q w v "Len" _ (by kernel_rfl) h
theorem m_less {q : Nat} {w : World} {v : Value} (h : w.cell? ⟨q, 0, none⟩ = some v) : (method 229 70 (.pointer (some ⟨q, 0, none⟩)) "Less").run Try.prog w = .ok (89, v) w := m_any q w v "Less" _ (by kernel_rfl) h
theorem m_swap {q : Nat} {w : World} {v : Value} (h : w.cell? ⟨q, 0, none⟩ = some v) : (method 229 70 (.pointer (some ⟨q, 0, none⟩)) "Swap").run Try.prog w = .ok (92, v) w := m_any q w v "Swap" _ (by kernel_rfl) h
theorem OrdRep.kept {lo n q : Nat} {w w' : World} {v : Value} {f : Nat → NE} (h : OrdRep lo w q v n f) (k : Keep [] w w') : OrdRep lo w' q v n f :=
  ⟨k.to h.1 (by simp), h.2.keepT k (NoRow.nil _ _)⟩
theorem OrdRep.ne {lo n q g cap : Nat} {w : World} {f : Nat → NE} (h : OrdRep lo w q (.slice (some ⟨g, 0, none⟩) n cap) n f) : g ≠ q := by
  rintro rfl
  obtain ⟨hb, hl, h2 | ⟨g', cap', cur, e1, _, hh, _⟩⟩ := h
  · cases h2.1
  · cases e1
    rw [hb] at hh
    cases hh
theorem OrdRep.swapped {lo n q g cap i j : Nat} {w w' : World} {f : Nat → NE} (h : OrdRep lo w q (.slice (some ⟨g, 0, none⟩) n cap) n f) (hr : OrdRow lo w' (.slice (some ⟨g, 0, none⟩) n cap) n (HeapL.swp f i j)) (k : Keep [g] w w') : OrdRep lo w' q (.slice (some ⟨g, 0, none⟩) n cap) n (HeapL.swp f i j) :=
  ⟨k.to h.1 (by have := h.ne; simp; omega), hr⟩
def UpPost (lo : Nat) (w : World) (q g cap n : Nat) (f : Nat → NE) (j : Nat) (e : Ending) (w' : World) : Prop :=
  e = .returned (.tuple #[]) ∧ ∃ f', OrdRep lo w' q (.slice (some ⟨g, 0, none⟩) n cap) n f' ∧ HeapL.SameF n f f' ∧ (HeapL.UpI NE.lt f n j → HeapL.Hp NE.lt f' n) ∧ Keep [g] w w'
set_option maxHeartbeats 2000000 in
set_option maxRecDepth 100000 in
theorem heap_up {lo n q g cap j : Nat} {w : World} {f : Nat → NE} (h : OrdRep lo w q (.slice (some ⟨g, 0, none⟩) n cap) n f) (hn : n ≤ 1000) (hj : j < n) :
    Calls Try.prog 54 #[.iface 70 (.pointer (some ⟨q, 0, none⟩)), .int .i64 j] w (UpPost lo w q g cap n f j) := by
  have H := Lib.hid h
  clear h
  go_enter Try.func54, Try.ntmps54
  go_wp2_with fail
  go_loopw [1] (fun c wr => ∃ (k : Nat) (fr : Nat → NE), c = .int .i64 k ∧ k < n ∧ OrdRep lo wr q (.slice (some ⟨g, 0, none⟩) n cap) n fr ∧ HeapL.SameF n f fr ∧ (HeapL.UpI NE.lt f n j → HeapL.UpI NE.lt fr n k) ∧ Keep [g] w wr) (fun c _ => (intOf c).toNat)
  case atStart => exact ⟨j, f, rfl, hj, H.out, HeapL.SameF.refl _ _, fun h => h, Keep.refl _ _⟩
  case round =>
    obtain ⟨k, fr, rfl, hk, hr, hs, hu, hkp⟩ := hrel
    have HR := Lib.hid hr
    have HS := Lib.hid hs
    have HU := Lib.hid hu
    have HK := Lib.hid hkp
    clear hr hs hu hkp
    have ml := m_less (cells1 HR.out.1)
    by_cases hk0 : k = 0
    · subst hk0
      go_wp2_with fail
      go_end0
      exact ⟨rfl, fr, HR.out, HS.out, fun h => (HU.out h).done (.inl rfl), HK.out⟩
    · obtain ⟨p, hp⟩ : ∃ p, p = HeapL.par k := ⟨_, rfl⟩
      have hpk : p < k := by rw [hp]; unfold HeapL.par; omega
      have hdiv : ((k : Int) - 1).tdiv 2 = (p : Int) := by
        rw [hp, Int.tdiv_eq_ediv_of_nonneg (by omega)]
        unfold HeapL.par
        omega
      have hpn : p < n := by omega
      have hbq : ((p : Int) == (k : Int)) = false := by simp; omega
      have HP := Lib.hid hp
      clear hp
      by_cases hlt : NE.lt (fr k) (fr p)
      · have hd : decide (NE.lt (fr k) (fr p)) = true := by simp [hlt]
        go_wp2_with fail
        refine (ord_less HR.out.2 hk hpn hn).mono ?_
        rintro e w2 ⟨rfl, k2⟩
        rw [hd]
        have HR2 := Lib.hid (HR.out.kept k2)
        have K2 := Lib.hid k2
        have ms := m_swap (cells1 HR2.out.1)
        clear k2 ml
        go_wp2_with fail
        refine (ord_swap HR2.out.2 hpn hk hn).mono ?_
        rintro e w3 ⟨rfl, hr3, k3⟩
        have HR3 := Lib.hid (HR2.out.swapped hr3 k3)
        have K3 := Lib.hid ((HK.out.trans (K2.out.mono (S' := [g]) (by simp))).trans k3)
        clear hr3 k3 ms
        go_wp2_with fail
        go_roundw
        case rel => exact ⟨p, HeapL.swp fr p k, rfl, hpn, HR3.out, HS.out.trans (HeapL.SameF.swp fr hpn hk), fun h => by have h2 := HeapL.UpI.step NE.wk (HU.out h) (by omega) hk (by rw [← HP.out]; exact hlt); rw [← HP.out] at h2; exact h2, K3.out⟩
        case measure => simp [intOf]; omega
      · have hd : decide (NE.lt (fr k) (fr p)) = false := by simp [hlt]
        go_wp2_with fail
        refine (ord_less HR.out.2 hk hpn hn).mono ?_
        rintro e w2 ⟨rfl, k2⟩
        rw [hd]
        have HR2 := Lib.hid (HR.out.kept k2)
        have K2 := Lib.hid (HK.out.trans (k2.mono (S' := [g]) (by simp)))
        clear k2 ml
        go_wp2_with fail
        go_end0
        exact ⟨rfl, fr, HR2.out, HS.out, fun h => (HU.out h).done (.inr (by rw [← HP.out]; exact hlt)), K2.out⟩
end Hist
end Go.Proofs.Ytkmpajdiedpfhaa
