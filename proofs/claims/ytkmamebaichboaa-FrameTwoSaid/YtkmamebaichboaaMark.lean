/- frame.Mark, frame.Marked. No conditions but those stated. -/
import Derived.Test.YtkmamebaichboaaRunR
import Derived.BigRegion
namespace Go.Proofs.Ytkmamebaichboaa
open Go.ChangeShapes Go.WideShapes Go.ChangeAt Go.RowKit
set_option linter.unusedVariables false
set_option linter.unusedSimpArgs false
set_option maxRecDepth 100000 in
theorem frame_mark {w : World} {f m b : Nat} {sl : Value} {s : St} (h : FRep w f m b sl s) :
    Calls Try.prog 73 #[.pointer (some ⟨f, 0, none⟩)] w (FPost f m b sl w (.tuple #[]) s.markIt) := by
  have H := Lib.hid h
  have c4 := h.c4
  have c2 := h.c2
  have hpos := h.le
  have c6 := h.c6
  have c7 := h.c7
  have f6 := h.freeAt 6
  have f7 := h.freeAt 7
  cases ho : s.off with
  | true =>
    have e : s.markIt = s := by simp [St.markIt, ho]
    rw [e]
    rw [ho] at c4
    clear h ho e c2 c6 c7 f6 f7
    go_enter Try.func73, Try.ntmps73
    go_wp2_with fail
    go_end0
    exact ⟨_, rfl, H.out, Ev.refl _ _ _⟩
  | false =>
    rw [ho] at c4
    by_cases hp : 0 < s.pos
    · have e : s.markIt = { s with mark := (s.log.getD (s.pos - 1) (0, 0)).2, marked := true } := by simp [St.markIt, ho, hp]
      obtain ⟨g, cap, hsl, hcap, l1, l2⟩ := h.logCell (s.pos - 1) (by omega)
      have c1 := h.c1
      rw [hsl] at c1
      have hpp : (0 : Int) < s.pos := by omega
      generalize hT : (s.log.getD (s.pos - 1) (0, 0)).2 = T at *
      have ez : (s.pos - 1) * 2 + 1 = (s.pos - 1) * 2 + 1 := rfl
      have E := Lib.hid e
      have hgf0 : g ≠ f := (h.ne.2.2.2 g (by rw [hsl]; rfl)).1
      have hgf : (⟨g, (s.pos - 1) * 2 + 1, none⟩ : Addr) ≠ ⟨f, 6, none⟩ ∧ (⟨g, (s.pos - 1) * 2 + 1, none⟩ : Addr) ≠ ⟨f, 7, none⟩ := ⟨fun e => hgf0 (congrArg Addr.block e), fun e => hgf0 (congrArg Addr.block e)⟩
      have hsm : s.log.length ≤ 1000000 := by have := h.small; omega
      clear e h ho hT hsl l1 ez
      generalize hP : s.pos = P at *
      obtain ⟨p, rfl⟩ : ∃ p, P = p + 1 := ⟨P - 1, by omega⟩
      simp only [Nat.add_sub_cancel] at l2 hgf
      have hlen : p < s.log.length := by omega
      generalize s.log.length = n at *
      have fin : ∀ w', w' = (w.setCell ⟨f, 6, none⟩ (.int .i64 T)).setCell ⟨f, 7, none⟩ (.bool true) ∨ w' = (w.setCell ⟨f, 7, none⟩ (.bool true)).setCell ⟨f, 6, none⟩ (.int .i64 T) → True := fun _ _ => trivial
      clear fin
      have hw1 : IntKind.i64.wrap (p : Int) = p := by simp [IntKind.wrap, IntKind.signed, IntKind.bits]; omega
      have hw2 : wrap64 (p : Int) = p := IntWalk.wrap64_in _ (by omega)
      have hb1 : (0 : Int) ≤ p ∧ (p : Int) < n := by omega
      have hb2 : ((p : Int)).toNat = p := by simp
      go_enter Try.func73, Try.ntmps73
      go_wp2_with fail
      go_region
      all_goals
        have e2 := E.out
        rw [← hP] at e2
        have P1 := H.out.put 6 (.int .i64 T) { s with mark := T } (by simp [frameCells]) rfl rfl H.out.le H.out.small
        have P2 := P1.put 7 (.bool true) { s with mark := T, marked := true } (by simp [frameCells]) rfl rfl H.out.le H.out.small
        have P3 := P2.drewN 1
        have K3 : Keep [f] w (((w.setCell ⟨f, 6, none⟩ (.int .i64 T)).setCell ⟨f, 7, none⟩ (.bool true)).drewN 1) := (((Keep.refl [f] w).setCell (.inr (by simp)) _).setCell (.inr (by simp)) _).drewN 1
        have EV := Lib.hid (Ev.ofKeep (X := [f, b]) (sl := sl) K3 (by simp))
        have PP := Lib.hid P3
        have E2 := Lib.hid e2
        clear e2 P1 P2 P3 K3
        go_end0
        rw [E2.out]
        exact ⟨_, rfl, PP.out, EV.out⟩
    · have e : s.markIt = s := by simp [St.markIt, hp]
      have hz : s.pos = 0 := by omega
      rw [e]
      rw [hz] at c2
      clear h ho e c6 c7 f6 f7
      go_enter Try.func73, Try.ntmps73
      go_wp2_with fail
      go_end0
      exact ⟨_, rfl, H.out, Ev.refl _ _ _⟩
end Go.Proofs.Ytkmamebaichboaa
