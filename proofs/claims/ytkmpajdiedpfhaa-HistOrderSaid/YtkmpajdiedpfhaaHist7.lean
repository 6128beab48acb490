/- The law HistEqual walked. No conditions but those stated. -/
import Derived.Test.YtkmpajdiedpfhaaHist6
import Derived.Deep.RegionHeld3
namespace Go.Proofs.Ytkmpajdiedpfhaa
open Go.ChangeShapes Go.WideShapes Go.ChangeAt Go.RowKit Go.Joins
set_option linter.unusedVariables false
set_option linter.unusedSimpArgs false
namespace Hist
open Same Clone
section
variable {H : Type} {enc : TypeId × Value → H} {P : Program} {w : World} {base : Nat} {spare : Nat → Bool} {held : Bool}
set_option maxRecDepth 100000 in
theorem ev_arg {b0 : Nat} {v : Value} {d : DataW H} {q : List MemPlace} (hv : Value.okWide Try.prog w .any b0 44 v) (h : DataW.Trod enc Try.prog w base spare held 44 v d q) : ∃ x cs, v = .agg cs.toArray ∧ EvRep All w x cs := by
  obtain ⟨cs, rfl, hl, ht⟩ := open_str Try.underlying44 hv h
  obtain ⟨x, hx⟩ := ev_r ht (hl.trans (by kernel_rfl))
  exact ⟨x, cs, rfl, hx⟩
end
/-- A row that was just made reads as the events. -/
theorem lit_sld {w : World} {g n : Nat} {l : List EvD} {f : Nat → List Value} {xs : Array Value} (hg : w.heap[g]? = some (.cells xs 44 (0, 0))) (hn : l.length = n) (hx : xs.toList = flatR f n) (hm : n ≤ 1000) (hf : ∀ (i : Nat) (x : EvD), l[i]? = some x → (f i).length = 13 ∧ EvRep All w x (f i)) :
    SlD All w 13 (EvRep All w) (.slice (some ⟨g, 0, none⟩) n n) l := by
  subst hn
  have h : FreshSl 0 w 44 13 (EvRep All w) (.slice (some ⟨g, 0, none⟩) l.length l.length) l :=
    .inr ⟨g, l.length, rfl, Nat.zero_le _, Nat.le_refl _, by unfold maxLen; omega, f, ⟨xs, hg, by rw [← hx]; exact List.take_of_length_le (Nat.le_refl _)⟩, hf⟩
  exact h.sld.keep (Nat.le_refl _) (fun _ _ _ => rfl) (fun _ _ => trivial) (fun _ _ _ h => h)
set_option maxHeartbeats 8000000 in
set_option maxRecDepth 100000 in
theorem histEqual_walk {w : World} {x y : EvD} {cs ds : List Value} (h1 : EvRep All w x cs) (h2 : EvRep All w y ds) :
    Calls Try.prog 9 #[.agg cs.toArray, .agg ds.toArray] w fun e w' => e = .returned (.bool true) ∧ Keep [] w w' := by
  have E1 := Lib.hid h1
  have E2 := Lib.hid h2
  obtain ⟨_, _, rfl, s1, s2, _⟩ := h1
  obtain ⟨_, _, rfl, t1, t2, _⟩ := h2
  obtain ⟨xp, xq, rfl⟩ := s1.form
  obtain ⟨xr, xs, rfl⟩ := s2.form
  obtain ⟨yp, yq, rfl⟩ := t1.form
  obtain ⟨yr, ys, rfl⟩ := t2.form
  clear s1 s2 t1 t2
  unfold evCells at *
  have KK := Lib.hid (((Keep.refl [] w).alloc (.cells #[.int .i64 x.k, .int .i64 x.step, .int .i64 x.core, .int .i64 x.thr, .int .i64 x.call.k, .int .i64 x.call.h, .int .i64 x.call.a, .int .i64 x.call.b, .slice xp x.call.words.length xq, .int .i64 x.call.t, .int .i64 x.code, .int .i64 x.cnt, .slice xr x.words.length xs] 44)).alloc (.cells #[.int .i64 y.k, .int .i64 y.step, .int .i64 y.core, .int .i64 y.thr, .int .i64 y.call.k, .int .i64 y.call.h, .int .i64 y.call.a, .int .i64 y.call.b, .slice yp y.call.words.length yq, .int .i64 y.call.t, .int .i64 y.code, .int .i64 y.cnt, .slice yr y.words.length ys] 44))
  have BX := Lib.hid (two_fst w (.cells #[.int .i64 x.k, .int .i64 x.step, .int .i64 x.core, .int .i64 x.thr, .int .i64 x.call.k, .int .i64 x.call.h, .int .i64 x.call.a, .int .i64 x.call.b, .slice xp x.call.words.length xq, .int .i64 x.call.t, .int .i64 x.code, .int .i64 x.cnt, .slice xr x.words.length xs] 44) (.cells #[.int .i64 y.k, .int .i64 y.step, .int .i64 y.core, .int .i64 y.thr, .int .i64 y.call.k, .int .i64 y.call.h, .int .i64 y.call.a, .int .i64 y.call.b, .slice yp y.call.words.length yq, .int .i64 y.call.t, .int .i64 y.code, .int .i64 y.cnt, .slice yr y.words.length ys] 44))
  have BY := Lib.hid (two_snd w (.cells #[.int .i64 x.k, .int .i64 x.step, .int .i64 x.core, .int .i64 x.thr, .int .i64 x.call.k, .int .i64 x.call.h, .int .i64 x.call.a, .int .i64 x.call.b, .slice xp x.call.words.length xq, .int .i64 x.call.t, .int .i64 x.code, .int .i64 x.cnt, .slice xr x.words.length xs] 44) (.cells #[.int .i64 y.k, .int .i64 y.step, .int .i64 y.core, .int .i64 y.thr, .int .i64 y.call.k, .int .i64 y.call.h, .int .i64 y.call.a, .int .i64 y.call.b, .slice yp y.call.words.length yq, .int .i64 y.call.t, .int .i64 y.code, .int .i64 y.cnt, .slice yr y.words.length ys] 44))
  go_enter Try.func9, Try.ntmps9
  go_wp2_with fail
  refine (awake26 _).mono ?_
  rintro _ w2 ⟨rfl, k2⟩
  have K2 := Lib.hid (KK.out.trans k2)
  have X2 := Lib.hid (k2.to BX.out (by simp))
  have Y2 := Lib.hid (k2.to BY.out (by simp))
  clear k2
  obtain ⟨a0, a1, a2, a3, a4, a5, a6, a7, a8, a9, a10, a11, a12⟩ := cells13 X2.out
  obtain ⟨b0, b1, b2, b3, b4, b5, b6, b7, b8, b9, b10, b11, b12⟩ := cells13 Y2.out
  go_wp2_with fail
  have KL := Lib.hid ((Keep.refl [] w2).alloc (.cells #[.int .i64 x.k, .int .i64 x.step, .int .i64 x.core, .int .i64 x.thr, .int .i64 x.call.k, .int .i64 x.call.h, .int .i64 x.call.a, .int .i64 x.call.b, .slice xp x.call.words.length xq, .int .i64 x.call.t, .int .i64 x.code, .int .i64 x.cnt, .slice xr x.words.length xs, .int .i64 y.k, .int .i64 y.step, .int .i64 y.core, .int .i64 y.thr, .int .i64 y.call.k, .int .i64 y.call.h, .int .i64 y.call.a, .int .i64 y.call.b, .slice yp y.call.words.length yq, .int .i64 y.call.t, .int .i64 y.code, .int .i64 y.cnt, .slice yr y.words.length ys] 44))
  have FL := Lib.hid (lit_sld (l := [x, y]) (n := 2) (f := fun i => if i = 0 then [.int .i64 x.k, .int .i64 x.step, .int .i64 x.core, .int .i64 x.thr, .int .i64 x.call.k, .int .i64 x.call.h, .int .i64 x.call.a, .int .i64 x.call.b, .slice xp x.call.words.length xq, .int .i64 x.call.t, .int .i64 x.code, .int .i64 x.cnt, .slice xr x.words.length xs] else [.int .i64 y.k, .int .i64 y.step, .int .i64 y.core, .int .i64 y.thr, .int .i64 y.call.k, .int .i64 y.call.h, .int .i64 y.call.a, .int .i64 y.call.b, .slice yp y.call.words.length yq, .int .i64 y.call.t, .int .i64 y.code, .int .i64 y.cnt, .slice yr y.words.length ys]) (heap_alloc_new w2 (.cells #[.int .i64 x.k, .int .i64 x.step, .int .i64 x.core, .int .i64 x.thr, .int .i64 x.call.k, .int .i64 x.call.h, .int .i64 x.call.a, .int .i64 x.call.b, .slice xp x.call.words.length xq, .int .i64 x.call.t, .int .i64 x.code, .int .i64 x.cnt, .slice xr x.words.length xs, .int .i64 y.k, .int .i64 y.step, .int .i64 y.core, .int .i64 y.thr, .int .i64 y.call.k, .int .i64 y.call.h, .int .i64 y.call.a, .int .i64 y.call.b, .slice yp y.call.words.length yq, .int .i64 y.call.t, .int .i64 y.code, .int .i64 y.cnt, .slice yr y.words.length ys] 44)) rfl rfl (by omega) (by
    intro i z hi
    match i, hi with
    | 0, hi => cases hi; exact ⟨rfl, (E1.out.kept K2.out).kept KL.out⟩
    | 1, hi => cases hi; exact ⟨rfl, (E2.out.kept K2.out).kept KL.out⟩))
  refine (few_ev FL.out).mono ?_
  rintro _ w3 ⟨r, rfl, hfew, k3⟩
  have K3 := Lib.hid ((K2.out.trans KL.out).trans k3)
  have X3 := Lib.hid ((KL.out.trans k3).to X2.out (by simp))
  have Y3 := Lib.hid ((KL.out.trans k3).to Y2.out (by simp))
  clear k3 a0 a1 a2 a3 a4 a5 a6 a7 a8 a9 a10 a11 a12 b0 b1 b2 b3 b4 b5 b6 b7 b8 b9 b10 b11 b12
  cases r
  · go_wp2_with fail
    refine (awake26 _).mono ?_
    rintro _ w4 ⟨rfl, k4⟩
    have K4 := Lib.hid (K3.out.trans k4)
    clear k4
    go_wp2_with fail
    go_ret
    exact ⟨rfl, K4.out⟩
  · clear hfew
    have E13 := Lib.hid (E1.out.kept K3.out)
    have E23 := Lib.hid (E2.out.kept K3.out)
    obtain ⟨a0, a1, a2, a3, a4, a5, a6, a7, a8, a9, a10, a11, a12⟩ := cells13 X3.out
    obtain ⟨b0, b1, b2, b3, b4, b5, b6, b7, b8, b9, b10, b11, b12⟩ := cells13 Y3.out
    have hre := sameE_refl x
    generalize hse : sameE x y = se at *
    go_wp2_with fail
    have KA := Lib.hid (Keep.refl [] w3).drew
    have EA1 := Lib.hid (E13.out.kept KA.out)
    have EA2 := Lib.hid (E23.out.kept KA.out)
    have XA := Lib.hid (KA.out.to X3.out (by simp))
    have YA := Lib.hid (KA.out.to Y3.out (by simp))
    have KWA := Lib.hid (K3.out.trans KA.out)
    clear a0 a1 a2 a3 a4 a5 a6 a7 a8 a9 a10 a11 a12 b0 b1 b2 b3 b4 b5 b6 b7 b8 b9 b10 b11 b12
    have SA := Lib.hid (And.intro (cells13 XA.out) (cells13 YA.out))
    go_region_held3 (fun w' => (w'.cell? ⟨w.heap.size, 0, none⟩ = some (.int .i64 x.k) ∧ w'.cell? ⟨w.heap.size, 1, none⟩ = some (.int .i64 x.step) ∧ w'.cell? ⟨w.heap.size, 2, none⟩ = some (.int .i64 x.core) ∧ w'.cell? ⟨w.heap.size, 3, none⟩ = some (.int .i64 x.thr) ∧ w'.cell? ⟨w.heap.size, 4, none⟩ = some (.int .i64 x.call.k) ∧ w'.cell? ⟨w.heap.size, 5, none⟩ = some (.int .i64 x.call.h) ∧ w'.cell? ⟨w.heap.size, 6, none⟩ = some (.int .i64 x.call.a) ∧ w'.cell? ⟨w.heap.size, 7, none⟩ = some (.int .i64 x.call.b) ∧ w'.cell? ⟨w.heap.size, 8, none⟩ = some (.slice xp x.call.words.length xq) ∧ w'.cell? ⟨w.heap.size, 9, none⟩ = some (.int .i64 x.call.t) ∧ w'.cell? ⟨w.heap.size, 10, none⟩ = some (.int .i64 x.code) ∧ w'.cell? ⟨w.heap.size, 11, none⟩ = some (.int .i64 x.cnt) ∧ w'.cell? ⟨w.heap.size, 12, none⟩ = some (.slice xr x.words.length xs)) ∧ (w'.cell? ⟨w.heap.size + 1, 0, none⟩ = some (.int .i64 y.k) ∧ w'.cell? ⟨w.heap.size + 1, 1, none⟩ = some (.int .i64 y.step) ∧ w'.cell? ⟨w.heap.size + 1, 2, none⟩ = some (.int .i64 y.core) ∧ w'.cell? ⟨w.heap.size + 1, 3, none⟩ = some (.int .i64 y.thr) ∧ w'.cell? ⟨w.heap.size + 1, 4, none⟩ = some (.int .i64 y.call.k) ∧ w'.cell? ⟨w.heap.size + 1, 5, none⟩ = some (.int .i64 y.call.h) ∧ w'.cell? ⟨w.heap.size + 1, 6, none⟩ = some (.int .i64 y.call.a) ∧ w'.cell? ⟨w.heap.size + 1, 7, none⟩ = some (.int .i64 y.call.b) ∧ w'.cell? ⟨w.heap.size + 1, 8, none⟩ = some (.slice yp y.call.words.length yq) ∧ w'.cell? ⟨w.heap.size + 1, 9, none⟩ = some (.int .i64 y.call.t) ∧ w'.cell? ⟨w.heap.size + 1, 10, none⟩ = some (.int .i64 y.code) ∧ w'.cell? ⟨w.heap.size + 1, 11, none⟩ = some (.int .i64 y.cnt) ∧ w'.cell? ⟨w.heap.size + 1, 12, none⟩ = some (.slice yr y.words.length ys)))
      (first | exact SD.out | exact SC.out | exact SB.out | exact SA.out)
      (first
        | (go_at_call 24; ((with_reducible refine (same_ev EA1.out EA2.out).mono ?_); rintro e wB ⟨rfl, k5⟩; rw [hse]; have KB := Lib.hid k5; have KWB := Lib.hid (KWA.out.trans k5); have EB1 := Lib.hid (EA1.out.kept k5); have EB2 := Lib.hid (EA2.out.kept k5); have XB := Lib.hid (k5.to XA.out (by simp)); have YB := Lib.hid (k5.to YA.out (by simp)); clear k5; have SB := Lib.hid (And.intro (cells13 XB.out) (cells13 YB.out))))
        | (go_at_call 28; ((with_reducible refine (equal_ev EA1.out EA2.out).mono ?_); rintro e wB ⟨rfl, k5⟩; rw [hse]; have KB := Lib.hid k5; have KWB := Lib.hid (KWA.out.trans k5); have EB1 := Lib.hid (EA1.out.kept k5); have EB2 := Lib.hid (EA2.out.kept k5); have XB := Lib.hid (k5.to XA.out (by simp)); have YB := Lib.hid (k5.to YA.out (by simp)); clear k5; have SB := Lib.hid (And.intro (cells13 XB.out) (cells13 YB.out))))
        | (go_at_call 24; ((with_reducible refine (same_ev EB1.out EB2.out).mono ?_); rintro e wC ⟨rfl, k5⟩; rw [hse]; have KC := Lib.hid k5; have KWC := Lib.hid (KWB.out.trans k5); have EC1 := Lib.hid (EB1.out.kept k5); have EC2 := Lib.hid (EB2.out.kept k5); have XC := Lib.hid (k5.to XB.out (by simp)); have YC := Lib.hid (k5.to YB.out (by simp)); clear k5; have SC := Lib.hid (And.intro (cells13 XC.out) (cells13 YC.out))))
        | (go_at_call 28; ((with_reducible refine (equal_ev EB1.out EB2.out).mono ?_); rintro e wC ⟨rfl, k5⟩; rw [hse]; have KC := Lib.hid k5; have KWC := Lib.hid (KWB.out.trans k5); have EC1 := Lib.hid (EB1.out.kept k5); have EC2 := Lib.hid (EB2.out.kept k5); have XC := Lib.hid (k5.to XB.out (by simp)); have YC := Lib.hid (k5.to YB.out (by simp)); clear k5; have SC := Lib.hid (And.intro (cells13 XC.out) (cells13 YC.out))))
        | (go_at_call 28; ((with_reducible refine (equal_ev EC1.out EC1.out).mono ?_); rintro e wD ⟨rfl, k5⟩; rw [hre]; have KD := Lib.hid k5; have KWD := Lib.hid (KWC.out.trans k5); have ED1 := Lib.hid (EC1.out.kept k5); have ED2 := Lib.hid (EC2.out.kept k5); have XD := Lib.hid (k5.to XC.out (by simp)); have YD := Lib.hid (k5.to YC.out (by simp)); clear k5; have SD := Lib.hid (And.intro (cells13 XD.out) (cells13 YD.out)))))
    all_goals
      go_wp2_with fail
      go_ret
      exact ⟨ret_bool (by simp), KWD.out⟩
end Hist
end Go.Proofs.Ytkmpajdiedpfhaa
