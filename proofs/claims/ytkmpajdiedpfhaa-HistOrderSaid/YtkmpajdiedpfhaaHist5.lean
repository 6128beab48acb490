/- The contract of Events. No conditions but those stated. -/
import Derived.Test.YtkmpajdiedpfhaaHist4
namespace Go.Proofs.Ytkmpajdiedpfhaa
open Go.ChangeShapes Go.WideShapes Go.ChangeAt Go.RowKit Go.Joins
set_option linter.unusedVariables false
set_option linter.unusedSimpArgs false
namespace Hist
open Same Clone
theorem EvF.lo_mono {lo lo' : Nat} {w : World} {x : EvD} {cs : List Value} (h : EvF lo w x cs) (hl : lo' ≤ lo) : EvF lo' w x cs :=
  let ⟨v1, v2, e, h1, h2, h3⟩ := h
  ⟨v1, v2, e, FreshSl.lo_mono h1 hl, FreshSl.lo_mono h2 hl, h3⟩
theorem evInv_start {w w4 : World} {l : List EvD} {n : Nat} {xs : List Value} (hn : l.length = n) (h : w4.ownsRow w.heap.size 44 13 (.slice (some ⟨w.heap.size, 0, none⟩) n n) n xs) (hx : xs.length = n * 13) (hm : n ≤ 100) : EvInv w (.slice (some ⟨w.heap.size, 0, none⟩) n n) l 0 w4 := by
  subst hn
  obtain ⟨h1, h2, _, _⟩ := OwnRow.of_owns h rfl
  exact FreshMix.back rfl h2 (Nat.le_refl _) (by unfold maxLen; omega) (mix_any h1 hx)
def EventsPost (w : World) (l : List EvD) (e : Ending) (w' : World) : Prop := ∃ v', e = .returned v' ∧ FreshSl w.heap.size w' 44 13 (EvF w.heap.size w') v' l ∧ Keep [] w w'
theorem events_nil (w : World) : Calls Try.prog 21 #[.pointer none] w fun e w' => e = .returned (.slice none 0 0) ∧ Keep [] w w' := by
  go_enter Try.func21, Try.ntmps21
  go_wp2_with fail
  go_ret
  exact ⟨rfl, Keep.refl _ _⟩
set_option maxHeartbeats 4000000 in
set_option maxRecDepth 100000 in
theorem events_ev {lo h : Nat} {w : World} {l : List EvD} {v : Value} (hr : HRep lo w h v l) (hl : l.length ≤ 100) (hs : ∀ x, x ∈ l → smallE x) :
    Calls Try.prog 21 #[.pointer (some ⟨h, 0, none⟩)] w (EventsPost w l) := by
  obtain ⟨hb, hg⟩ := hr
  obtain ⟨ao, cap, rfl, h1, h2, h3⟩ := hg.fresh.sld
  have H3 := Lib.hid h3
  have HS := Lib.hid hs
  have c0 := cells1 hb
  obtain ⟨i0, hi0, hz0, hz1, hz2⟩ := info_parts event_info
  clear h3 hg hb hs
  unfold maxLen at h2
  generalize hnn : l.length = n at *
  have Hn := Lib.hid hnn
  clear hnn
  go_enter Try.func21, Try.ntmps21
  go_wp2_with (first
    | (at_make; refine wpList_make_full _ rfl _ _ 35 rfl w.heap.size 44 i0 _ 13 Try.underlying35 hi0 hz0 hz1 .i64 .i64 n n n rfl rfl rfl rfl (by rw [hz2]; omega) (by unfold maxLen; omega) (by simp) ?_; intro w4 ho4 hg4; have Ho4 := Lib.hid ho4; have KM := Lib.hid (Keep.of_grown (Keep.refl [] _) hg4 (by simp)); clear ho4 hg4; have q0 := cell_keep KM.out c0 (by simp)))
  have HI := Lib.hid (evInv_start Hn.out Ho4.out (by simp [madeCells]) hl)
  clear Ho4
  go_loopw [19] (fun c wr => ∃ k : Nat, c = .int .i64 k ∧ k ≤ n ∧ EvInv w (.slice (some ⟨w.heap.size, 0, none⟩) n n) l k wr ∧ Keep [] w wr) (fun c _ => n - (intOf c).toNat)
  case atStart => exact ⟨0, rfl, Nat.zero_le _, HI.out, KM.out⟩
  case round =>
    obtain ⟨k, rfl, hk, hi, hkp⟩ := hrel
    have HV := Lib.hid hi
    have HK := Lib.hid hkp
    clear hi hkp q0 c0
    by_cases hkl : k < n
    · have hkl' : (k : Int) < n := by omega
      obtain ⟨x, hx⟩ := get_of Hn hkl
      have HX := Lib.hid hx
      obtain ⟨b, o, cs, rfl, _, _, _, hc, hev⟩ := H3.out k x hx
      have HE0 := (hev.rep).kept HK.out
      obtain ⟨v1, v2, rfl, hs1, hs2, _⟩ := id HE0
      obtain ⟨a1, c1, rfl⟩ := hs1.form
      obtain ⟨a2, c2, rfl⟩ := hs2.form
      clear hs1 hs2 hev hx
      have g0 := cell_keep HK.out (hc 0 _ rfl) (by simp)
      have g1 := cell_keep HK.out (hc 1 _ rfl) (by simp)
      have g2 := cell_keep HK.out (hc 2 _ rfl) (by simp)
      have g3 := cell_keep HK.out (hc 3 _ rfl) (by simp)
      have g4 := cell_keep HK.out (hc 4 _ rfl) (by simp)
      have g5 := cell_keep HK.out (hc 5 _ rfl) (by simp)
      have g6 := cell_keep HK.out (hc 6 _ rfl) (by simp)
      have g7 := cell_keep HK.out (hc 7 _ rfl) (by simp)
      have g8 := cell_keep HK.out (hc 8 _ rfl) (by simp)
      have g9 := cell_keep HK.out (hc 9 _ rfl) (by simp)
      have g10 := cell_keep HK.out (hc 10 _ rfl) (by simp)
      have g11 := cell_keep HK.out (hc 11 _ rfl) (by simp)
      have g12 := cell_keep HK.out (hc 12 _ rfl) (by simp)
      simp only [Nat.add_zero] at g0
      have kA := (Keep.refl [] wr).alloc (.cells #[.int .i64 x.k, .int .i64 x.step, .int .i64 x.core, .int .i64 x.thr, .int .i64 x.call.k, .int .i64 x.call.h, .int .i64 x.call.a, .int .i64 x.call.b, .slice a1 x.call.words.length c1, .int .i64 x.call.t, .int .i64 x.code, .int .i64 x.cnt, .slice a2 x.words.length c2] 44)
      have KA := Lib.hid kA
      have HE := Lib.hid (HE0.kept kA)
      obtain ⟨x0, x1, x2, x3, x4, x5, x6, x7, x8, x9, x10, x11, x12⟩ := cells13 (heap_alloc_new wr (.cells #[.int .i64 x.k, .int .i64 x.step, .int .i64 x.core, .int .i64 x.thr, .int .i64 x.call.k, .int .i64 x.call.h, .int .i64 x.call.a, .int .i64 x.call.b, .slice a1 x.call.words.length c1, .int .i64 x.call.t, .int .i64 x.code, .int .i64 x.cnt, .slice a2 x.words.length c2] 44))
      have hsm := HS.out x (List.mem_of_getElem? HX.out)
      have hb1 : x.call.words.length ≤ 1000 := Nat.le_trans hsm.1 (by decide)
      have hb2 : x.words.length ≤ 1000 := Nat.le_trans hsm.2 (by decide)
      clear kA hc HE0 hsm
      unfold evCells at HE
      go_wp2_with fail
      refine (clone_ev' HE.out hb1 hb2).mono ?_
      rintro e w5 ⟨a3, n3, c3, a4, n4, c4, rfl, hev5, k5⟩
      have K5 := Lib.hid (KA.out.trans k5)
      have HEV := Lib.hid (EvF.lo_mono hev5 KA.out.size)
      obtain ⟨hfr, hce⟩ := ev_free HV.out HX.out K5.out
      obtain ⟨u0, y0⟩ := hce 0 (by decide)
      have z0 := hfr (k * 13 + 0)
      obtain ⟨u1, y1⟩ := hce 1 (by decide)
      have z1 := hfr (k * 13 + 1)
      obtain ⟨u2, y2⟩ := hce 2 (by decide)
      have z2 := hfr (k * 13 + 2)
      obtain ⟨u3, y3⟩ := hce 3 (by decide)
      have z3 := hfr (k * 13 + 3)
      obtain ⟨u4, y4⟩ := hce 4 (by decide)
      have z4 := hfr (k * 13 + 4)
      obtain ⟨u5, y5⟩ := hce 5 (by decide)
      have z5 := hfr (k * 13 + 5)
      obtain ⟨u6, y6⟩ := hce 6 (by decide)
      have z6 := hfr (k * 13 + 6)
      obtain ⟨u7, y7⟩ := hce 7 (by decide)
      have z7 := hfr (k * 13 + 7)
      obtain ⟨u8, y8⟩ := hce 8 (by decide)
      have z8 := hfr (k * 13 + 8)
      obtain ⟨u9, y9⟩ := hce 9 (by decide)
      have z9 := hfr (k * 13 + 9)
      obtain ⟨u10, y10⟩ := hce 10 (by decide)
      have z10 := hfr (k * 13 + 10)
      obtain ⟨u11, y11⟩ := hce 11 (by decide)
      have z11 := hfr (k * 13 + 11)
      obtain ⟨u12, y12⟩ := hce 12 (by decide)
      have z12 := hfr (k * 13 + 12)
      simp only [Nat.add_zero] at y0 z0
      clear hev5 k5 hfr hce g0 g1 g2 g3 g4 g5 g6 g7 g8 g9 g10 g11 g12 x0 x1 x2 x3 x4 x5 x6 x7 x8 x9 x10 x11 x12
      go_wp2_with fail
      go_roundw
      case rel => exact ⟨k + 1, by go_num, by omega, ev_step Hn.out HK.out.size HV.out HX.out K5.out HEV.out, (HK.out.trans K5.out).transS keep_put13 (T := []) (by simp) (by simp)⟩
      case measure => simp [intOf]; omega
    · go_wp2_with fail
      go_ret
      exact ⟨_, rfl, FreshMix.done HV.out (by rw [Hn.out]; omega), HK.out⟩
end Hist
end Go.Proofs.Ytkmpajdiedpfhaa
