/- The contracts of the package frame, on: Mark, Step, Run. No conditions but those stated. -/
import Derived.Test.YtkmamebaichboaaFrame2
namespace Go.Proofs.Ytkmamebaichboaa
open Go.ChangeShapes Go.WideShapes Go.ChangeAt Go.RowKit
set_option linter.unusedVariables false
set_option linter.unusedSimpArgs false

/-- A step begins. -/
def St.start (s : St) (now : Int) : St := { s with pos := 0, fresh := true, off := false, now := now, mark := 0, marked := false }
/-- A step ends. -/
def St.stop (s : St) : St := { s with over := !s.off, off := true }
/-- A method value x.body, x a pointer. -/
def method (K x : Nat) : Value := .func (.func K) #[.pointer (some ⟨x, 0, none⟩)] #[]

theorem frame_step_over {w : World} {f m b : Nat} {sl : Value} {s : St} (h : FRep w f m b sl s) (ho : s.over = true) (now : Int) (fv : Value) :
    Calls Try.prog 29 #[.pointer (some ⟨f, 0, none⟩), .int .i64 now, fv] w fun e w' => e = .returned (.bool true) ∧ w = w' := by
  have c8 := h.c8
  rw [ho] at c8
  clear ho h
  go_enter Try.func29, Try.ntmps29
  go_wp2
  go_ret
  exact ⟨rfl, rfl⟩

theorem eql_func_nil (K x : Nat) (w : World) : (binOp .eql 135 (.func (.func K) #[.pointer (some ⟨x, 0, none⟩)] #[]) .nilFunc).run Try.prog w = .ok (.bool false) w := by kernel_rfl
set_option maxRecDepth 100000 in
theorem frame_step {w : World} {f m b : Nat} {sl : Value} {s : St} (h : FRep w f m b sl s) (ho : s.over = false) (hn : s.log.length + 1 ≤ 1000000) (now : Int) (K x : Nat) (hK : ∀ (y z : Addr) (wx : World), (callFunc K #[.pointer (some y), .pointer (some z)]).run Try.prog wx = .ok (.enter K #[.pointer (some y), .pointer (some z)]) wx)
    {Post : World → Value → St → World → Prop}
    (hb : ∀ w0, Keep [f] w w0 → FRep w0 f m b sl (s.start now) → Calls Try.prog K #[.pointer (some ⟨x, 0, none⟩), .pointer (some ⟨f, 0, none⟩)] w0 fun e w1 => e = .returned (.tuple #[]) ∧ ∃ sl1 s1, FRep w1 f m b sl1 s1 ∧ Post w0 sl1 s1 w1) :
    Calls Try.prog 29 #[.pointer (some ⟨f, 0, none⟩), .int .i64 now, .func (.func K) #[.pointer (some ⟨x, 0, none⟩)] #[]] w fun e w' =>
      ∃ w0 w1 sl1 s1, Keep [f] w w0 ∧ Post w0 sl1 s1 w1 ∧ e = .returned (.bool (!s1.off)) ∧ FRep w' f m b sl1 s1.stop ∧ Keep [f] w1 w' := by
  have c8 := h.c8
  rw [ho] at c8
  have c2 := h.c2
  have c3 := h.c3
  have c4 := h.c4
  have c5 := h.c5
  have c6 := h.c6
  have c7 := h.c7
  have ff := fun i => h.freeAt i
  have f2 := ff 2
  have f3 := ff 3
  have f4 := ff 4
  have f5 := ff 5
  have f6 := ff 6
  have f7 := ff 7
  have H := Lib.hid h
  have Hb := Lib.hid hb
  clear h hb ho ff
  have hq := eql_func_nil K x
  go_enter Try.func29, Try.ntmps29
  have h0 : FRep ((((((w.setCell ⟨f, 2, none⟩ (.int .i64 0)).setCell ⟨f, 3, none⟩ (.bool true)).setCell ⟨f, 4, none⟩ (.bool false)).setCell ⟨f, 5, none⟩ (.int .i64 now)).setCell ⟨f, 7, none⟩ (.bool false)).setCell ⟨f, 6, none⟩ (.int .i64 0)) f m b sl (s.start now) := by
    have i1 := H.out.put 2 (.int .i64 0) { s with pos := 0 } (by simp [frameCells]) rfl rfl (Nat.zero_le _) H.out.small
    have i2 := i1.put 3 (.bool true) { s with pos := 0, fresh := true } (by simp [frameCells]) rfl rfl (Nat.zero_le _) (by simpa using hn)
    have i3 := i2.put 4 (.bool false) { s with pos := 0, fresh := true, off := false } (by simp [frameCells]) rfl rfl (Nat.zero_le _) (by simpa using hn)
    have i4 := i3.put 5 (.int .i64 now) { s with pos := 0, fresh := true, off := false, now := now } (by simp [frameCells]) rfl rfl (Nat.zero_le _) (by simpa using hn)
    have i5 := i4.put 7 (.bool false) { s with pos := 0, fresh := true, off := false, now := now, marked := false } (by simp [frameCells]) rfl rfl (Nat.zero_le _) (by simpa using hn)
    exact i5.put 6 (.int .i64 0) _ (by simp [frameCells, St.start]) rfl rfl (Nat.zero_le _) (by simpa [St.start] using hn)
  have k0 : Keep [f] w ((((((w.setCell ⟨f, 2, none⟩ (.int .i64 0)).setCell ⟨f, 3, none⟩ (.bool true)).setCell ⟨f, 4, none⟩ (.bool false)).setCell ⟨f, 5, none⟩ (.int .i64 now)).setCell ⟨f, 7, none⟩ (.bool false)).setCell ⟨f, 6, none⟩ (.int .i64 0)) :=
    ((((((Keep.refl _ w).setCell (.inr (by simp)) _).setCell (.inr (by simp)) _).setCell (.inr (by simp)) _).setCell (.inr (by simp)) _).setCell (.inr (by simp)) _).setCell (.inr (by simp)) _
  have H0 := Lib.hid h0
  have K0 := Lib.hid k0
  clear h0 k0
  go_wp2_with fail
  clear c2 c3 c4 c5 c6 c7 c8 f2 f3 f4 f5 f6 f7 hK hq
  generalize ((((((w.setCell ⟨f, 2, none⟩ (.int .i64 0)).setCell ⟨f, 3, none⟩ (.bool true)).setCell ⟨f, 4, none⟩ (.bool false)).setCell ⟨f, 5, none⟩ (.int .i64 now)).setCell ⟨f, 7, none⟩ (.bool false)).setCell ⟨f, 6, none⟩ (.int .i64 0)) = w0 at *
  refine (Hb.out w0 K0.out H0.out).mono ?_
  rintro e w1 ⟨rfl, sl1, s1, h1, hp⟩
  have d4 := h1.c4
  have d8 := h1.c8
  have e4 := h1.freeAt 4
  have e8 := h1.freeAt 8
  have H1 := Lib.hid h1
  have Hp := Lib.hid hp
  clear h1 hp
  have hfin : FRep ((w1.setCell ⟨f, 8, none⟩ (.bool (!s1.off))).setCell ⟨f, 4, none⟩ (.bool true)) f m b sl1 s1.stop := by
    have i1 := H1.out.put 8 (.bool (!s1.off)) { s1 with over := !s1.off } (by simp [frameCells]) rfl rfl H1.out.le H1.out.small
    exact i1.put 4 (.bool true) _ (by simp [frameCells, St.stop]) rfl rfl H1.out.le H1.out.small
  have Hfin := Lib.hid hfin
  clear hfin
  go_wp2_with fail
  go_ret
  exact ⟨w0, w1, sl1, s1, K0.out, Hp.out, rfl, Hfin.out, ((Keep.refl _ w1).setCell (.inr (by simp)) _).setCell (.inr (by simp)) _⟩
end Go.Proofs.Ytkmamebaichboaa
