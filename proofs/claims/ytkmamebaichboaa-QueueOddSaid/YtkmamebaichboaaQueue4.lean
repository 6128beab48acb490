/- Law 6: the body of an After. No conditions but those stated. -/
import Derived.Test.YtkmamebaichboaaQueue3
import Derived.Deep.RegionHeld3
import Derived.Deep.DeepCutAuto
namespace Go.Proofs.Ytkmamebaichboaa
open Go.ChangeShapes Go.WideShapes Go.ChangeAt Go.RowKit
set_option linter.unusedVariables false
set_option linter.unusedSimpArgs false
namespace Law06
open LinkL Prog
/-- The record of an After. -/
def AfRep (n p : Int) (x : Nat) (r : Int × Int × Bool) (o : List Nat) (w : World) : Prop := o = [] ∧ w.heap[x]? = some (.cells #[.int .i64 n, .int .i64 p, .int .i64 r.1, .int .i64 r.2.1, .bool r.2.2] 131 (0, 0))
theorem afStays (n p : Int) (x : Nat) : RStays x (AfRep n p x) := fun r o w w' S h k hx _ => ⟨h.1, k.to h.2 hx⟩
theorem afK : ∀ (y z : Addr) (wx : World), (callFunc 68 #[.pointer (some y), .pointer (some z)]).run Try.prog wx = .ok (.enter 68 #[.pointer (some y), .pointer (some z)]) wx := fun _ _ _ => by kernel_rfl
def afP : Prog (Int × Int × Bool) := pure (0, 0, false)
set_option maxHeartbeats 400000 in
theorem afOK (n p : Int) (x : Nat) (hp : ¬ (0 ≤ p ∧ p < 16)) : BodyOK 68 x (AfRep n p x) (progB (fun _ => afP) (fun _ q => q)) := by
  rintro f m b w sl s ⟨r1, r2, r3⟩ o hf ⟨rfl, hr⟩ ha _
  have e2 : progB (fun _ : Int × Int × Bool => afP) (fun _ q => q) (r1, r2, r3) s = ((0, 0, false), s) := by simp only [progB, afP, r_pure]
  rw [e2]
  have hxl := lt_of_block hr
  have c0 : w.cell? ⟨x, 0, none⟩ = some (.int .i64 n) := cell_of hr rfl
  have c1 : w.cell? ⟨x, 1, none⟩ = some (.int .i64 p) := cell_of hr rfl
  have H := Lib.hid hf; have Ha := Lib.hid ha; have Hr := Lib.hid hr; have HP := Lib.hid hp
  have Hn : Hid (x ∉ [f, b] ++ blk sl) := Lib.hid (by simp; exact ⟨ha.xf, ha.xb, ha.xl⟩)
  have SA : Hid (w.drew.cell? ⟨x, 0, none⟩ = some (.int .i64 n) ∧ w.drew.cell? ⟨x, 1, none⟩ = some (.int .i64 p)) := Lib.hid ⟨c0, c1⟩
  have SS : ∀ (w' : World) (cs : Array Value), w'.heap[x]? = some (.cells cs 131 (0, 0)) → cs[0]? = some (.int .i64 n) → cs[1]? = some (.int .i64 p) → w'.cell? ⟨x, 0, none⟩ = some (.int .i64 n) ∧ w'.cell? ⟨x, 1, none⟩ = some (.int .i64 p) := fun w' cs h1 h2 h3 => ⟨cell_of h1 h2, cell_of h1 h3⟩
  clear hf ha hr hp e2
  go_enter Try.func68, Try.ntmps68
  go_wp2_with fail
  go_region_held3 (fun w' => w'.cell? ⟨x, 0, none⟩ = some (.int .i64 n) ∧ w'.cell? ⟨x, 1, none⟩ = some (.int .i64 p))
    (first | with_reducible exact SA.out | with_reducible exact SB.out | with_reducible exact SC.out | with_reducible exact SD.out | with_reducible exact SE.out)
    (first
      | (go_at_call 107; refine (q_after_odd (H.out.drewN 1) n p HP.out).mono ?_; rintro e w1 ⟨sl1, rfl, h1, e1⟩; have hx1 := Lib.hid (e1.keep.to Hr.out Hn.out); have H1 := Lib.hid h1; have E1 : Hid (Ev [f, b] sl w sl1 w1) := Lib.hid ((Ev.ofKeep (Keep.ofDrewN [] w 1) (by simp)).trans e1); have f2 := free_of (i := 2) hx1.out; have d2 := cell_of (i := 2) (v := .int .i64 r1) hx1.out rfl; have f3 := free_of (i := 3) hx1.out; have d3 := cell_of (i := 3) (v := .int .i64 r2) hx1.out rfl; have f4 := free_of (i := 4) hx1.out; have d4 := cell_of (i := 4) (v := .bool r3) hx1.out rfl; have SB := Lib.hid (SS w1 _ hx1.out rfl rfl); have SC := Lib.hid (SS (w1.setCell ⟨x, 2, none⟩ (.int .i64 0)) _ (block_set 2 (.int .i64 0) hx1.out) rfl rfl); have SD := Lib.hid (SS ((w1.setCell ⟨x, 2, none⟩ (.int .i64 0)).setCell ⟨x, 3, none⟩ (.int .i64 0)) _ (block_set 3 (.int .i64 0) (block_set 2 (.int .i64 0) hx1.out)) rfl rfl); have SE := Lib.hid (SS (((w1.setCell ⟨x, 2, none⟩ (.int .i64 0)).setCell ⟨x, 3, none⟩ (.int .i64 0)).setCell ⟨x, 4, none⟩ (.bool false)) _ (block_set 4 (.bool false) (block_set 3 (.int .i64 0) (block_set 2 (.int .i64 0) hx1.out))) rfl rfl); clear h1 e1))
  have Ha1 := Lib.hid (apart_ev Ha.out hxl E1.out H1.out)
  have hk : Keep [x] w1 (((w1.setCell ⟨x, 2, none⟩ (.int .i64 0)).setCell ⟨x, 3, none⟩ (.int .i64 0)).setCell ⟨x, 4, none⟩ (.bool false)) := (((Keep.refl _ _).setCell (.inr (by simp)) _).setCell (.inr (by simp)) _).setCell (.inr (by simp)) _
  have Hfin : Hid (FRep (((w1.setCell ⟨x, 2, none⟩ (.int .i64 0)).setCell ⟨x, 3, none⟩ (.int .i64 0)).setCell ⟨x, 4, none⟩ (.bool false)) f m b sl1 s ∧ (((w1.setCell ⟨x, 2, none⟩ (.int .i64 0)).setCell ⟨x, 3, none⟩ (.int .i64 0)).setCell ⟨x, 4, none⟩ (.bool false)).heap[x]? = some (.cells #[.int .i64 n, .int .i64 p, .int .i64 0, .int .i64 0, .bool false] 131 (0, 0)) ∧ Ev [x, f, b] sl w sl1 (((w1.setCell ⟨x, 2, none⟩ (.int .i64 0)).setCell ⟨x, 3, none⟩ (.int .i64 0)).setCell ⟨x, 4, none⟩ (.bool false)) ∧ Apart x f m b sl1 []) :=
    Lib.hid ⟨H1.out.keep hk (by simpa using Ha1.out.xf.symm) (by simpa using Ha1.out.xm.symm) (by simpa using Ha1.out.xb.symm) (own_ne Ha1.out.xl), block_set 4 _ (block_set 3 _ (block_set 2 _ hx1.out)), (E1.out.mono (by simp)).trans (Ev.ofKeep hk (by simp)), Ha1.out⟩
  go_wp2_with fail
  go_end0
  obtain ⟨g1, g2, g3, g4⟩ := Hfin.out
  exact ⟨rfl, sl1, [], g1, ⟨rfl, g2⟩, g3.toO [], g4, by simp⟩
end Law06
end Go.Proofs.Ytkmamebaichboaa
