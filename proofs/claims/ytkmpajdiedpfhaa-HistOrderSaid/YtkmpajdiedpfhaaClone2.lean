/- The contracts of CloneCall and ClonePart. No conditions but those stated. -/
import Derived.Test.YtkmpajdiedpfhaaClone1
import Derived.Test.YtkmpajdiedpfhaaSame3
namespace Go.Proofs.Ytkmpajdiedpfhaa
open Go.ChangeShapes Go.WideShapes Go.ChangeAt Go.RowKit
set_option linter.unusedVariables false
set_option linter.unusedSimpArgs false
namespace Clone
open Same
theorem _root_.Go.Proofs.Ytkmpajdiedpfhaa.SlD.form {α : Type} {B : Nat → Prop} {w : World} {size : Nat} {Rep : α → List Value → Prop} {v : Value} {l : List α} (h : SlD B w size Rep v l) : ∃ ao cap, v = .slice ao l.length cap := by
  obtain ⟨ao, cap, rfl, _⟩ := h
  exact ⟨ao, cap, rfl⟩
/-- What comes back reads as the call, in blocks from B on. -/
def CallPost (w : World) (x : CallD) (e : Ending) (w' : World) : Prop := ∃ v', e = .returned (.agg #[.int .i64 x.k, .int .i64 x.h, .int .i64 x.a, .int .i64 x.b, v', .int .i64 x.t]) ∧ SlD (fun b => w.heap.size ≤ b) w' 1 WordRep v' x.words ∧ Keep [] w w'
set_option maxHeartbeats 1000000 in
theorem clone_call {B : Nat → Prop} {w : World} {x : CallD} {v : Value} (h : SlD B w 1 WordRep v x.words) (hb : x.words.length ≤ 1000) :
    Calls Try.prog 52 #[.agg #[.int .i64 x.k, .int .i64 x.h, .int .i64 x.a, .int .i64 x.b, v, .int .i64 x.t]] w (CallPost w x) := by
  obtain ⟨k, hh, a, b, ws, t⟩ := x
  simp only at h hb ⊢
  have KK : Hid (Keep [] w ((w.alloc (.cells #[.int .i64 k, .int .i64 hh, .int .i64 a, .int .i64 b, v, .int .i64 t] 42)).alloc (.cells #[.int .i64 0, .int .i64 0, .int .i64 0, .int .i64 0, .slice none 0 0, .int .i64 0] 42))) := Lib.hid (((Keep.refl _ _).alloc _).alloc _)
  have BX := Lib.hid (two_fst w (.cells #[.int .i64 k, .int .i64 hh, .int .i64 a, .int .i64 b, v, .int .i64 t] 42) (.cells #[.int .i64 0, .int .i64 0, .int .i64 0, .int .i64 0, .slice none 0 0, .int .i64 0] 42))
  have BY := Lib.hid (two_snd w (.cells #[.int .i64 k, .int .i64 hh, .int .i64 a, .int .i64 b, v, .int .i64 t] 42) (.cells #[.int .i64 0, .int .i64 0, .int .i64 0, .int .i64 0, .slice none 0 0, .int .i64 0] 42))
  have HS := Lib.hid (h.kept KK.out)
  clear h
  go_enter Try.func52, Try.ntmps52
  go_wp2_with fail
  refine (cloneI_sl HS.out WordRep.one hb).mono ?_
  rintro e w2 ⟨v', rfl, hfr, k2⟩
  have K2 := Lib.hid (KK.out.trans k2)
  have HF := Lib.hid (hfr.sld.keep (B' := fun b => w.heap.size + 2 ≤ b) (Nat.le_refl _) (fun _ _ _ => rfl) (fun b hb => by simpa using hb) (fun _ _ _ h => h))
  have X2 := Lib.hid (k2.to BX.out (by simp))
  have Y2 := Lib.hid (k2.to BY.out (by simp))
  have hz2 := k2.size
  simp only [World.size_alloc] at hz2
  have Z2 : Hid (w.heap.size + 2 ≤ w2.heap.size) := Lib.hid (by omega)
  clear k2 hfr hz2
  obtain ⟨vo, vc, rfl⟩ := HF.out.form
  obtain ⟨e0, e1, e2, e3, e4, e5⟩ := cells6 X2.out
  have f4 := free_of (i := 4) X2.out
  have X3 := Lib.hid (block_set 4 (.slice vo ws.length vc) X2.out)
  have Y3 := Lib.hid (show (w2.setCell ⟨w.heap.size, 4, none⟩ (.slice vo ws.length vc)).heap[w.heap.size + 1]? = _ from Keep.to ((Keep.refl [w.heap.size] w2).setCell (.inr (by simp)) (.slice vo ws.length vc)) Y2.out (by simp))
  obtain ⟨g0, g1, g2, g3, g4, g5⟩ := cells6 (show (w2.setCell ⟨w.heap.size, 4, none⟩ (.slice vo ws.length vc)).heap[w.heap.size]? = some (.cells #[.int .i64 k, .int .i64 hh, .int .i64 a, .int .i64 b, .slice vo ws.length vc, .int .i64 t] 42 (0, 0)) from X3.out)
  obtain ⟨m0, m1, m2, m3, m4, m5⟩ := cells6 Y3.out
  have n0 := free_of (i := 0) Y3.out
  have n1 := free_of (i := 1) Y3.out
  have n2 := free_of (i := 2) Y3.out
  have n3 := free_of (i := 3) Y3.out
  have n4 := free_of (i := 4) Y3.out
  have n5 := free_of (i := 5) Y3.out
  have HW : Hid ((((((((w2.setCell ⟨w.heap.size, 4, none⟩ (.slice vo ws.length vc)).setCell ⟨w.heap.size + 1, 0, none⟩ (.int .i64 k)).setCell ⟨w.heap.size + 1, 1, none⟩ (.int .i64 hh)).setCell ⟨w.heap.size + 1, 2, none⟩ (.int .i64 a)).setCell ⟨w.heap.size + 1, 3, none⟩ (.int .i64 b)).setCell ⟨w.heap.size + 1, 4, none⟩ (.slice vo ws.length vc)).setCell ⟨w.heap.size + 1, 5, none⟩ (.int .i64 t)).heap[w.heap.size + 1]? = some (.cells #[.int .i64 k, .int .i64 hh, .int .i64 a, .int .i64 b, .slice vo ws.length vc, .int .i64 t] 42 (0, 0))) :=
    Lib.hid (block_set 5 _ (block_set 4 _ (block_set 3 _ (block_set 2 _ (block_set 1 _ (block_set 0 _ Y3.out))))))
  have HK : Hid (Keep [w.heap.size, w.heap.size + 1] w2 (((((((w2.setCell ⟨w.heap.size, 4, none⟩ (.slice vo ws.length vc)).setCell ⟨w.heap.size + 1, 0, none⟩ (.int .i64 k)).setCell ⟨w.heap.size + 1, 1, none⟩ (.int .i64 hh)).setCell ⟨w.heap.size + 1, 2, none⟩ (.int .i64 a)).setCell ⟨w.heap.size + 1, 3, none⟩ (.int .i64 b)).setCell ⟨w.heap.size + 1, 4, none⟩ (.slice vo ws.length vc)).setCell ⟨w.heap.size + 1, 5, none⟩ (.int .i64 t))) :=
    Lib.hid (((((((((Keep.refl _ w2).setCell (.inr (by simp)) _).setCell (.inr (by simp)) _).setCell (.inr (by simp)) _).setCell (.inr (by simp)) _).setCell (.inr (by simp)) _).setCell (.inr (by simp)) _).setCell (.inr (by simp)) _))
  go_wp2_with fail
  generalize (((((((w2.setCell ⟨w.heap.size, 4, none⟩ (.slice vo ws.length vc)).setCell ⟨w.heap.size + 1, 0, none⟩ (.int .i64 k)).setCell ⟨w.heap.size + 1, 1, none⟩ (.int .i64 hh)).setCell ⟨w.heap.size + 1, 2, none⟩ (.int .i64 a)).setCell ⟨w.heap.size + 1, 3, none⟩ (.int .i64 b)).setCell ⟨w.heap.size + 1, 4, none⟩ (.slice vo ws.length vc)).setCell ⟨w.heap.size + 1, 5, none⟩ (.int .i64 t)) = wF at *
  obtain ⟨z0, z1, z2, z3, z4, z5⟩ := cells6 HW.out
  exact bodyPost_ret (v := .agg #[.int .i64 k, .int .i64 hh, .int .i64 a, .int .i64 b, .slice vo ws.length vc, .int .i64 t]) (by simp [results, Try.results52, go_sem, z0, z1, z2, z3, z4, z5]) rfl
    ⟨_, rfl, HF.out.keep HK.out.size (fun b hb hl => HK.out.block b hl (by simp; omega)) (fun b hb => by omega) (fun _ _ _ h => h), K2.out.transS HK.out (T := []) (by simp) (by simp)⟩
end Clone
end Go.Proofs.Ytkmpajdiedpfhaa
