/- Law 2: FrameSteps walked. No conditions but those stated. -/
import Derived.Test.YtkmamebaichboaaStepsState
import Derived.Test.YtkmamebaichboaaFrameRuns
import Derived.Deep.RegionHeld3
namespace Go.Proofs.Ytkmamebaichboaa
open Go.ChangeShapes Go.WideShapes Go.ChangeAt Go.RowKit
set_option linter.unusedVariables false
set_option linter.unusedSimpArgs false
namespace Law02
open Prog
theorem PlRep.cells {x : Nat} {ao : Option Addr} {cap : Nat} {l : List Ins} {p : Pl} {o : List Nat} {w : World} (h : PlRep x ao cap l p o w) : w.cell? ⟨x, 1, none⟩ = some (.int .i64 p.i) ∧ w.cell? ⟨x, 4, none⟩ = some (.int .i64 p.n) ∧ w.cell? ⟨x, 5, none⟩ = some (.int .i64 p.mark) ∧ w.cell? ⟨x, 6, none⟩ = some (.bool p.has) :=
  let ⟨_, h1, _⟩ := h
  ⟨cell_of h1 rfl, cell_of h1 rfl, cell_of h1 rfl, cell_of h1 rfl⟩
theorem PlRep.gotAt {x : Nat} {ao : Option Addr} {cap : Nat} {l : List Ins} {p : Pl} {o : List Nat} {w : World} (h : PlRep x ao cap l p o w) : ∃ a c, w.cell? ⟨x, 3, none⟩ = some (.slice a p.got.length c) ∧ IntsAt w a p.got := by
  obtain ⟨slG, h1, h2, _⟩ := h
  obtain ⟨a, c, rfl, hi⟩ := own_ints h2 rfl
  exact ⟨a, c, cell_of h1 rfl, hi⟩
theorem PRep.gotAt {x : Nat} {ao : Option Addr} {cap : Nat} {l : List Ins} {p : Pr} {o : List Nat} {w : World} (h : PRep x ao cap l p o w) : ∃ a c, w.cell? ⟨x, 1, none⟩ = some (.slice a p.got.length c) ∧ IntsAt w a p.got := by
  obtain ⟨slG, h1, h2, _⟩ := h
  obtain ⟨a, c, rfl, hi⟩ := own_ints h2 rfl
  exact ⟨a, c, cell_of h1 rfl, hi⟩
theorem IntsAt.kept {w w' : World} {a : Option Addr} {l : List Int} (h : IntsAt w a l) (k : Keep [] w w') : IntsAt w' a l := fun i hi =>
  let ⟨b, o, e, hc⟩ := h i hi
  ⟨b, o, e, cell_keep k hc (by simp)⟩
theorem steps_start {w0 w3 : World} {f m b r c cap : Nat} {ao : Option Addr} {l : List Ins} {Z : List Int} (hf : FRep w3 f m b (.slice none 0 0) (St.new Z)) (hr : RefRep w3 r c Z) (hl : LAt w3 ao cap l) (h5 : l.length ≤ 1000) (hro : ∀ j ∈ roOf ao, j < w0.heap.size) (hk : Keep [] w0 w3) (hap : m < w3.heap.size ∧ b < w3.heap.size ∧ f < w3.heap.size ∧ r < w3.heap.size ∧ c < w3.heap.size) (hlow : w0.heap.size ≤ f ∧ w0.heap.size ≤ b) :
    SS w0 (w3.heap.size + 2) f w3.heap.size m b (w3.heap.size + 1) r c ao cap l (⟨[], 0⟩, St.new Z) Pl.new Z (.slice none 0 0) [] [] ((w3.alloc (.cells #[.slice ao l.length cap, .slice none 0 0, .int .i64 0] 39)).alloc (.cells #[.slice ao l.length cap, .int .i64 0, .int .i64 0, .slice none 0 0, .int .i64 0, .int .i64 0, .bool false] 77)) := by
  have hz := hk.size
  have k1 := (Keep.refl [] w3).alloc (.cells #[.slice ao l.length cap, .slice none 0 0, .int .i64 0] 39)
  have k2 := (Keep.refl [] (w3.alloc (.cells #[.slice ao l.length cap, .slice none 0 0, .int .i64 0] 39))).alloc (.cells #[.slice ao l.length cap, .int .i64 0, .int .i64 0, .slice none 0 0, .int .i64 0, .int .i64 0, .bool false] 77)
  have k := k1.trans k2
  have hsz : (w3.alloc (.cells #[.slice ao l.length cap, .slice none 0 0, .int .i64 0] 39)).heap.size = w3.heap.size + 1 := by simp
  have hro3 : ∀ j ∈ roOf ao, j < w3.heap.size := fun j hj => by have := hro j hj; omega
  have hy := plain_new (w := w3.alloc (.cells #[.slice ao l.length cap, .slice none 0 0, .int .i64 0] 39)) (hl.keep k1 (by simp)) h5
  rw [hsz] at hy
  refine ⟨hf.keep k (by simp) (by simp) (by simp) (by simp), pStays _ ao cap l _ _ _ _ _ (prog_new hl h5 hro3) k2 (by simp) (by simp) (by simp), ⟨by omega, by omega, by omega, by simp [blk, Value.ownBlock], by simp, by simp, by simp, by simp, by simp⟩, by simp, fun j hj => ?_, hy, hr.keep k (by simp) (by simp), by simp [blk, Value.ownBlock], by simp, hk.trans k, by simp⟩
  have := hro j hj
  exact ⟨by simp; omega, by omega, by omega, by simp [blk, Value.ownBlock], by simp⟩
set_option maxHeartbeats 16000000 in
set_option maxRecDepth 100000 in
theorem frameSteps_walk {w : World} {v : Value} {l : List Ins} (h : InsArg w v l) (n0 : Int) (hn0 : 0 ≤ n0 ∧ n0 ≤ 255) :
    Calls Try.prog 16 #[.int .u8 n0, v] w fun e w' => e = .returned (.bool true) ∧ Keep [] w w' := by
  obtain ⟨ao, cap, rfl, hl, hro⟩ := h
  have HL := Lib.hid hl
  have HRO := Lib.hid hro
  clear hl hro
  go_enter Try.func16, Try.ntmps16
  go_wp2_with fail
  refine (awake02 _).mono ?_
  rintro _ w0 ⟨rfl, hk0⟩
  have K0 := Lib.hid hk0
  clear hk0
  by_cases hlen : (60 : Int) < (l.length : Int)
  · go_wp2_with fail
    refine (awake02 _).mono ?_
    rintro _ w1 ⟨rfl, hk1⟩
    have K1 := Lib.hid (K0.out.trans hk1)
    clear hk1
    go_wp2_with fail
    go_ret
    exact ⟨rfl, K1.out⟩
  · have hl60 : l.length ≤ 60 := by omega
    go_wp2_with fail
    have hnb : 0 ≤ n0 % 20 ∧ n0 % 20 ≤ 19 := by omega
    obtain ⟨n, hn⟩ : ∃ n : Nat, n0 % 20 = n := ⟨(n0 % 20).toNat, by omega⟩
    rw [hn] at hnb
    have Hn := Lib.hid hn
    rw [hn]
    clear hn
    refine (word_new n _ (by omega)).mono ?_
    rintro _ w1 ⟨rfl, hm1, hk1, hs1⟩
    have hsz1 : w0.heap.size + 2 ≤ w1.heap.size := by omega
    generalize hZ : List.replicate (min (max (n : Int) 0) 4000).toNat (0 : Int) = Z at hm1
    have HZ := Lib.hid hZ
    have M1 := Lib.hid hm1
    have K1 := Lib.hid hk1
    clear hm1 hk1 hs1 hZ
    go_wp2_with fail
    rw [Hn.out]
    refine (ref_new n _ (by omega)).mono ?_
    rintro _ w2 ⟨rfl, hm2, hk2, hs2⟩
    rw [HZ.out] at hm2
    have hsz2 : w1.heap.size + 2 ≤ w2.heap.size := by omega
    have M2 := Lib.hid (M1.out.keep hk2 (by simp) (by simp))
    have R2 := Lib.hid hm2
    have K2 := Lib.hid (K1.out.trans hk2)
    clear hm2 hk2 hs2 M1 K1
    go_wp2_with fail
    refine (frame_new M2.out).mono ?_
    rintro _ w3 ⟨rfl, hf3, hk3, hs3⟩
    have hsz3 : w2.heap.size + 1 ≤ w3.heap.size := by omega
    have RO2 : Hid (∀ j ∈ roOf ao, j < w0.heap.size) := Lib.hid (fun j hj => Nat.lt_of_lt_of_le (HRO.out j hj) K0.out.size)
    have S0 := Lib.hid (steps_start (w0 := w0) (r := w1.heap.size + 1) (c := w1.heap.size) hf3 (R2.out.keep hk3 (by simp) (by simp)) (HL.out.keep ((K0.out.trans K2.out).trans hk3) (by simp)) (by omega) RO2.out (K2.out.trans hk3) (by omega) (by omega))
    have ID := Lib.hid (show Ids w0.heap.size (w3.heap.size + 2) w2.heap.size w3.heap.size (w0.heap.size + 1) w0.heap.size (w3.heap.size + 1) (w1.heap.size + 1) w1.heap.size ao from ⟨RO2.out, by omega, by omega, by omega⟩)
    clear hf3 hk3 hs3 M2 R2 K2 RO2
    go_wp2_with fail
    generalize (w3.alloc (.cells #[.slice ao l.length cap, .slice none 0 0, .int .i64 0] 39)).alloc (.cells #[.slice ao l.length cap, .int .i64 0, .int .i64 0, .slice none 0 0, .int .i64 0, .int .i64 0, .bool false] 77) = w5 at *
    generalize hc : w1.heap.size = c at *
    generalize hf : w2.heap.size = f at *
    generalize hx : w3.heap.size = x at *
    go_loopw [39] (fun c_ wr => ∃ k : Nat, c_ = .int .i64 k ∧ ∃ q p lm sl o1 o2, SS w0 (x + 2) f x (w0.heap.size + 1) w0.heap.size (x + 1) (c + 1) c ao cap l q p lm sl o1 o2 wr ∧ Rel l q p lm ∧ Replay l q.2.log p ∧ q.2.over = false ∧ p.n = k ∧ (k = 0 ∨ p.i < l.length) ∧ p.got.length = p.n ∧ p.i ≤ l.length + 1) (fun c_ _ => 70 - (intOf c_).toNat)
    case atStart => exact ⟨0, rfl, _, _, _, _, _, _, S0.out, Rel.new l Z, Replay.new l, rfl, rfl, .inl rfl, rfl, Nat.zero_le _⟩
    case round =>
      obtain ⟨k, rfl, q, p, lm, sl, o1, o2, hs, hrel, hrep, hover, hpn, hk, hgl, hpi⟩ := hrel
      have HS := Lib.hid hs
      have HR := Lib.hid hrel
      have HP := Lib.hid hrep
      have HO := Lib.hid hover
      have hsm := hrel.small
      have hk70 : (k : Int) < 70 := by omega
      have hlog : q.2.log.length ≤ 900000 := by rw [hrel.len]; omega
      obtain ⟨q', hq'⟩ : ∃ q', stepP (pB l) (k : Int) (q.1, q.2) = q' := ⟨_, rfl⟩
      have HQ : Hid (stepP (pB l) (k : Int) (q.1, q.2) = (q'.1, q'.2)) := Lib.hid hq'
      obtain ⟨P, hP⟩ : ∃ P, plStep l (k : Int) p lm = P := ⟨_, rfl⟩
      have HPl := Lib.hid hP
      obtain ⟨hr2, hov2⟩ := hrel.step hover (k : Int)
      rw [show stepP (pB l) (k : Int) q = q' from hq', hP] at hr2 hov2
      have HR2 := Lib.hid hr2
      have hoff : Hid (q'.2.off = true) := Lib.hid (hq' ▸ step_off (now := (k : Int)) hover)
      have HFR := Lib.hid (HS.out.frame ID.out (k : Int) HQ.out hlog)
      have HM2 : Hid (l.length ≤ P.1.i → q'.2.marked = P.1.has ∧ (P.1.has = true → q'.2.mark = P.1.mark)) := Lib.hid (by
        intro he
        have := marks_end hrel hrep hover (k : Int) (by rw [hP]; exact he)
        rw [show stepP (pB l) (k : Int) q = q' from hq', hP] at this
        exact this)
      have HBD : Hid (P.1.i ≤ l.length + 1 ∧ P.1.n ≤ P.1.i ∧ P.1.got.length = P.1.n) := Lib.hid (by rw [← hP]; exact plStep_bounds hpi hsm hgl)
      have hpl1 : p.n ≤ 100000 := by omega
      have hpl2 : p.i ≤ 100000 := by omega
      have hpl3 : p.got.length ≤ 100000 := by omega
      have hk2 : ¬ p.i < l.length → k = 0 := fun h => hk.resolve_right h
      have HK2 := Lib.hid hk2
      have hpn' := Lib.hid hpn
      clear hs hrel hrep hover hq' hP hr2 hk hgl hpi hsm hlog hk2 hpn
      go_wp2_with fail
      with_reducible refine HFR.out.mono ?_
      rintro _ w6 ⟨rfl, sl6, o6, h6⟩
      have HPS := Lib.hid (h6.plain ID.out hpl1 hpl2 hpl3 (k : Int))
      clear h6
      rw [HPl.out] at HPS
      by_cases hdi : p.i < l.length
      rotate_left
      · have hov9 : l.length ≤ P.1.i := by rw [← HPl.out, plStep_end (show l.length ≤ p.i by omega)]; exact (show l.length ≤ p.i by omega)
        have hli : (l.length : Int) ≤ (P.1.i : Int) := by omega
        have hovc : q'.2.over = true := by rw [hov2]; simp; omega
        have hdid : decide (p.i < l.length) = false := by simp; omega
        have HOV := Lib.hid hovc
        have HDI := Lib.hid hdid
        clear hovc hdid hov2
        rw [HOV.out]
        go_wp2_with fail
        with_reducible refine HPS.out.mono ?_
        rintro _ w7 ⟨rfl, o7, h7⟩
        rw [HDI.out]
        have H7 := Lib.hid h7
        have HA := Lib.hid (h7.kept (Keep.refl [] w7).drew)
        obtain ⟨aoR, hcR, hiR⟩ := RefRep.ints (h7.kept (Keep.refl [] w7).drew).ref
        have HIR := Lib.hid hiR
        have MA := Lib.hid (show MemRep 134 w7.drew (w0.heap.size + 1) w0.heap.size P.2 from HR2.out.mem ▸ (h7.kept (Keep.refl [] w7).drew).fr.mem)
        have SA := Lib.hid (And.intro (h7.kept (Keep.refl [] w7).drew).pl.cells.1 (And.intro (h7.kept (Keep.refl [] w7).drew).pl.cells.2.1 hcR))
        have hml := MA.out.most
        have hsl : Hid ((q'.2.log.length : Int) = (P.1.n : Int)) := Lib.hid (by rw [HR2.out.len])
        clear h7 hcR hiR
        go_wp2_with fail
        go_region_held3 (fun w' => w'.cell? ⟨x + 1, 1, none⟩ = some (.int .i64 P.1.i) ∧ w'.cell? ⟨x + 1, 4, none⟩ = some (.int .i64 P.1.n) ∧ w'.cell? ⟨c + 1, 0, none⟩ = some (.slice aoR P.2.length P.2.length))
          (first | exact SC.out | exact SB.out | exact SA.out)
          (first
            | (go_at_call 36; ((with_reducible refine (word_words MA.out).mono ?_); rintro _ w8 ⟨g8, cap8, rfl, hrow, _, _, k8⟩; have I8 := Lib.hid hrow.intsAt; have J8 := Lib.hid (IntsAt.kept HIR.out k8); have H8 := Lib.hid (HA.out.kept k8); have SB := Lib.hid (And.intro (cell_keep k8 SA.out.1 (by simp)) (And.intro (cell_keep k8 SA.out.2.1 (by simp)) (cell_keep k8 SA.out.2.2 (by simp)))); clear hrow k8))
            | (go_at_call 40; ((with_reducible refine (ref_words (some ⟨g8, 0, none⟩) aoR P.2.length P.2.length _ _ P.2 P.2 I8.out J8.out rfl rfl (by omega) (by omega)).mono ?_); rintro _ w9 ⟨rfl, n9, rfl⟩; rw [decide_eq_true (rfl : P.2 = P.2)]; have k9 := (Keep.refl [] w8).drewN n9; have H9 := Lib.hid (H8.out.kept k9); have SC := Lib.hid (And.intro (cell_keep k9 SB.out.1 (by simp)) (And.intro (cell_keep k9 SB.out.2.1 (by simp)) (cell_keep k9 SB.out.2.2 (by simp)))); clear k9))
            | (go_at_call 33; ((with_reducible refine (frame_steps H9.out.fr).mono ?_); rintro _ _ ⟨rfl, rfl⟩; rw [hsl.out]))
            | (go_at_call 32; ((with_reducible refine (frame_done H9.out.fr).mono ?_); rintro _ _ ⟨rfl, rfl⟩; rw [HOV.out]))
            | (go_at_call 52; ((with_reducible refine (frame_off H9.out.fr).mono ?_); rintro _ _ ⟨rfl, rfl⟩; rw [hoff.out])))
        generalize hw9 : w8.drewN n9 = w9 at *
        clear hw9
        go_wp2_with fail
        obtain ⟨aP, cP, hcP, hiP⟩ := (H9.out.kept (Keep.refl [] w9).drew).pr.gotAt
        obtain ⟨aG, cG, hcG, hiG⟩ := (H9.out.kept (Keep.refl [] w9).drew).pl.gotAt
        have heg : q'.1.got = P.1.got := (HR2.out.over HOV.out).2
        rw [heg] at hcP hiP
        have HIP := Lib.hid hiP
        have HIG := Lib.hid hiG
        have hgl : P.1.got.length ≤ 100000 := by have := HBD.out; omega
        have SE := Lib.hid (And.intro hcP hcG)
        clear hcP hcG hiP hiG heg
        go_region_held3 (fun w' => w'.cell? ⟨x, 1, none⟩ = some (.slice aP P.1.got.length cP) ∧ w'.cell? ⟨x + 1, 3, none⟩ = some (.slice aG P.1.got.length cG))
          (first | exact SF.out | exact SE.out)
          (first
            | (go_at_call 40; ((with_reducible refine (ref_words aP aG P.1.got.length P.1.got.length _ _ P.1.got P.1.got HIP.out HIG.out rfl rfl (by omega) (by omega)).mono ?_); rintro _ w10 ⟨rfl, n10, rfl⟩; rw [decide_eq_true (rfl : P.1.got = P.1.got)]; have k10 := (Keep.refl [] w9.drew).drewN n10; have KF := Lib.hid k10; have SF := Lib.hid (And.intro (cell_keep k10 SE.out.1 (by simp)) (cell_keep k10 SE.out.2 (by simp))); clear k10))
            | (fail))
        all_goals
          go_wp2_with fail
          go_ret
          exact ⟨rfl, (K0.out.trans H9.out.keep).drewN _⟩
      · by_cases hov9 : l.length ≤ P.1.i
        · have hli : (l.length : Int) ≤ (P.1.i : Int) := by omega
          have hovc : q'.2.over = true := by rw [hov2]; simp; omega
          have hdid : decide (p.i < l.length) = true := by simp; omega
          have HOV := Lib.hid hovc
          have HDI := Lib.hid hdid
          clear hovc hdid hov2
          rw [HOV.out]
          go_wp2_with fail
          with_reducible refine HPS.out.mono ?_
          rintro _ w7 ⟨rfl, o7, h7⟩
          rw [HDI.out]
          have H7 := Lib.hid h7
          have HA := Lib.hid (h7.kept (Keep.refl [] w7).drew)
          obtain ⟨aoR, hcR, hiR⟩ := RefRep.ints (h7.kept (Keep.refl [] w7).drew).ref
          have HIR := Lib.hid hiR
          have MA := Lib.hid (show MemRep 134 w7.drew (w0.heap.size + 1) w0.heap.size P.2 from HR2.out.mem ▸ (h7.kept (Keep.refl [] w7).drew).fr.mem)
          have SA := Lib.hid (And.intro (h7.kept (Keep.refl [] w7).drew).pl.cells.1 (And.intro (h7.kept (Keep.refl [] w7).drew).pl.cells.2.1 hcR))
          have hml := MA.out.most
          have hsl : Hid ((q'.2.log.length : Int) = (P.1.n : Int)) := Lib.hid (by rw [HR2.out.len])
          clear h7 hcR hiR
          go_wp2_with fail
          go_region_held3 (fun w' => w'.cell? ⟨x + 1, 1, none⟩ = some (.int .i64 P.1.i) ∧ w'.cell? ⟨x + 1, 4, none⟩ = some (.int .i64 P.1.n) ∧ w'.cell? ⟨c + 1, 0, none⟩ = some (.slice aoR P.2.length P.2.length))
            (first | exact SC.out | exact SB.out | exact SA.out)
            (first
              | (go_at_call 36; ((with_reducible refine (word_words MA.out).mono ?_); rintro _ w8 ⟨g8, cap8, rfl, hrow, _, _, k8⟩; have I8 := Lib.hid hrow.intsAt; have J8 := Lib.hid (IntsAt.kept HIR.out k8); have H8 := Lib.hid (HA.out.kept k8); have SB := Lib.hid (And.intro (cell_keep k8 SA.out.1 (by simp)) (And.intro (cell_keep k8 SA.out.2.1 (by simp)) (cell_keep k8 SA.out.2.2 (by simp)))); clear hrow k8))
              | (go_at_call 40; ((with_reducible refine (ref_words (some ⟨g8, 0, none⟩) aoR P.2.length P.2.length _ _ P.2 P.2 I8.out J8.out rfl rfl (by omega) (by omega)).mono ?_); rintro _ w9 ⟨rfl, n9, rfl⟩; rw [decide_eq_true (rfl : P.2 = P.2)]; have k9 := (Keep.refl [] w8).drewN n9; have H9 := Lib.hid (H8.out.kept k9); have SC := Lib.hid (And.intro (cell_keep k9 SB.out.1 (by simp)) (And.intro (cell_keep k9 SB.out.2.1 (by simp)) (cell_keep k9 SB.out.2.2 (by simp)))); clear k9))
              | (go_at_call 33; ((with_reducible refine (frame_steps H9.out.fr).mono ?_); rintro _ _ ⟨rfl, rfl⟩; rw [hsl.out]))
              | (go_at_call 32; ((with_reducible refine (frame_done H9.out.fr).mono ?_); rintro _ _ ⟨rfl, rfl⟩; rw [HOV.out]))
              | (go_at_call 52; ((with_reducible refine (frame_off H9.out.fr).mono ?_); rintro _ _ ⟨rfl, rfl⟩; rw [hoff.out])))
          generalize hw9 : w8.drewN n9 = w9 at *
          clear hw9
          go_wp2_with fail
          with_reducible refine (frame_marked H9.out.fr).mono ?_
          rintro _ w11 ⟨rfl, n11, rfl⟩
          have kM := (Keep.refl [] w9).drewN n11
          have HB := Lib.hid (H9.out.kept kM)
          clear kM
          generalize hw11 : w9.drewN n11 = w11 at *
          clear hw11
          obtain ⟨hmk1, hmk2⟩ := HM2.out hov9
          rw [hmk1]
          obtain ⟨aP, cP, hcP, hiP⟩ := (HB.out.kept (Keep.refl [] w11).drew).pr.gotAt
          obtain ⟨aG, cG, hcG, hiG⟩ := (HB.out.kept (Keep.refl [] w11).drew).pl.gotAt
          obtain ⟨_, _, h5c, h6c⟩ := (HB.out.kept (Keep.refl [] w11).drew).pl.cells
          have heg : q'.1.got = P.1.got := (HR2.out.over HOV.out).2
          rw [heg] at hcP hiP
          have HIP := Lib.hid hiP
          have HIG := Lib.hid hiG
          have hgl : P.1.got.length ≤ 100000 := by have := HBD.out; omega
          rcases hhas : P.1.has with _ | _
          · rw [hhas] at h6c
            have SE := Lib.hid (And.intro hcP (And.intro hcG h6c))
            clear hcP hcG hiP hiG heg hmk1 hmk2 h5c h6c hhas
            go_wp2_with fail
            refine wp_region_held_drew (S := fun w' => w'.cell? ⟨x, 1, none⟩ = some (.slice aP P.1.got.length cP) ∧ w'.cell? ⟨x + 1, 3, none⟩ = some (.slice aG P.1.got.length cG) ∧ w'.cell? ⟨x + 1, 6, none⟩ = some (.bool false)) (by kernel_rfl) SE.out (fun hHeld => ?_)
            refine' wpAnyH_take (i := 0) (oi := { dst := some 107, op := Op.move (Operand.tmp 8), type := 36, pos := "law.go:135", after := #[], guard := none }) (v := _) rfl (by kernel_rfl) (by kernel_rfl) (by kernel_rfl) (fun _ _ _ h => h) (Or.inl ⟨by rfl, ?hy1⟩) hHeld ?rest1
            case hy1 => (intro w hSw; (try dsimp only at hSw); go_simp; first | done | with_reducible rfl | (simp; omega))
            try simp only [Act.put, List.setIfInBounds_toArray, List.set_cons_zero, List.set_cons_succ]
            refine' wpAnyH_take (i := 1) (oi := { dst := some 108, op := Op.nilCheck (Operand.tmp 107), type := 0, pos := "law.go:135", after := #[{ on := 0, ground := Ground.data }], guard := none }) (v := _) rfl (by kernel_rfl) (by kernel_rfl) (by kernel_rfl) (fun _ _ _ h => h) (Or.inl ⟨by rfl, ?hy2⟩) hHeld ?rest2
            case hy2 => (intro w hSw; (try dsimp only at hSw); go_simp; first | done | with_reducible rfl | (simp; omega))
            try simp only [Act.put, List.setIfInBounds_toArray, List.set_cons_zero, List.set_cons_succ]
            refine' wpAnyH_take (i := 2) (oi := { dst := some 109, op := Op.fieldAddr 39 (Operand.tmp 108) 1, type := 0, pos := "law.go:135", after := #[{ on := 1, ground := Ground.data }], guard := none }) (v := _) rfl (by kernel_rfl) (by kernel_rfl) (by kernel_rfl) (fun _ _ _ h => h) (Or.inl ⟨by rfl, ?hy3⟩) hHeld ?rest3
            case hy3 => (intro w hSw; (try dsimp only at hSw); go_simp; first | done | with_reducible rfl | (simp; omega))
            try simp only [Act.put, List.setIfInBounds_toArray, List.set_cons_zero, List.set_cons_succ]
            refine' wpAnyH_take (i := 3) (oi := { dst := some 110, op := Op.load 37 (Operand.tmp 109), type := 37, pos := "law.go:135", after := #[{ on := 2, ground := Ground.data }], guard := none }) (v := _) rfl (by kernel_rfl) (by kernel_rfl) (by kernel_rfl) (fun _ _ _ h => h) (Or.inl ⟨by rfl, ?hy4⟩) hHeld ?rest4
            case hy4 => (intro w hSw; (try dsimp only at hSw); go_simp; first | done | with_reducible rfl | (simp; omega))
            try simp only [Act.put, List.setIfInBounds_toArray, List.set_cons_zero, List.set_cons_succ]
            refine' wpAnyH_take (i := 4) (oi := { dst := some 111, op := Op.move (Operand.tmp 9), type := 74, pos := "law.go:135", after := #[], guard := none }) (v := _) rfl (by kernel_rfl) (by kernel_rfl) (by kernel_rfl) (fun _ _ _ h => h) (Or.inl ⟨by rfl, ?hy5⟩) hHeld ?rest5
            case hy5 => (intro w hSw; (try dsimp only at hSw); go_simp; first | done | with_reducible rfl | (simp; omega))
            try simp only [Act.put, List.setIfInBounds_toArray, List.set_cons_zero, List.set_cons_succ]
            refine' wpAnyH_take (i := 5) (oi := { dst := some 112, op := Op.nilCheck (Operand.tmp 111), type := 0, pos := "law.go:135", after := #[{ on := 4, ground := Ground.data }], guard := none }) (v := _) rfl (by kernel_rfl) (by kernel_rfl) (by kernel_rfl) (fun _ _ _ h => h) (Or.inl ⟨by rfl, ?hy6⟩) hHeld ?rest6
            case hy6 => (intro w hSw; (try dsimp only at hSw); go_simp; first | done | with_reducible rfl | (simp; omega))
            try simp only [Act.put, List.setIfInBounds_toArray, List.set_cons_zero, List.set_cons_succ]
            refine' wpAnyH_take (i := 6) (oi := { dst := some 113, op := Op.fieldAddr 77 (Operand.tmp 112) 3, type := 0, pos := "law.go:135", after := #[{ on := 5, ground := Ground.data }], guard := none }) (v := _) rfl (by kernel_rfl) (by kernel_rfl) (by kernel_rfl) (fun _ _ _ h => h) (Or.inl ⟨by rfl, ?hy7⟩) hHeld ?rest7
            case hy7 => (intro w hSw; (try dsimp only at hSw); go_simp; first | done | with_reducible rfl | (simp; omega))
            try simp only [Act.put, List.setIfInBounds_toArray, List.set_cons_zero, List.set_cons_succ]
            refine' wpAnyH_take (i := 7) (oi := { dst := some 114, op := Op.load 37 (Operand.tmp 113), type := 37, pos := "law.go:135", after := #[{ on := 6, ground := Ground.data }], guard := none }) (v := _) rfl (by kernel_rfl) (by kernel_rfl) (by kernel_rfl) (fun _ _ _ h => h) (Or.inl ⟨by rfl, ?hy8⟩) hHeld ?rest8
            case hy8 => (intro w hSw; (try dsimp only at hSw); go_simp; first | done | with_reducible rfl | (simp; omega))
            try simp only [Act.put, List.setIfInBounds_toArray, List.set_cons_zero, List.set_cons_succ]
            refine wpAnyH_ready (rs := [8]) (by kernel_rfl) (by simp) ?_
            refine AllReadyH.cons (o := { dst := some 115, op := Op.call { callee := Callee.value (Operand.func 40), args := #[Operand.tmp 110, Operand.tmp 114], argTypes := #[37, 37] }, type := 4, pos := "law.go:135", after := #[{ on := 3, ground := Ground.data }, { on := 7, ground := Ground.data }], guard := none }) rfl (fun K hK => ?_) AllReadyH.nil
            go_simp
            with_reducible refine (ref_words aP aG P.1.got.length P.1.got.length _ _ P.1.got P.1.got HIP.out HIG.out rfl rfl (by omega) (by omega)).mono ?_
            rintro _ w10 ⟨rfl, n10, rfl⟩
            rw [decide_eq_true (rfl : P.1.got = P.1.got)]
            have k10 := (Keep.refl [] w11.drew).drewN n10
            have KF := Lib.hid k10
            have SF := Lib.hid (And.intro (cell_keep k10 SE.out.1 (by simp)) (And.intro (cell_keep k10 SE.out.2.1 (by simp)) (cell_keep k10 SE.out.2.2 (by simp))))
            clear k10
            refine hK.out _ _ SF.out (fun hHeld2 => ?_)
            clear hK K
            try simp only [Act.put, List.setIfInBounds_toArray, List.set_cons_zero, List.set_cons_succ]
            refine' wpAnyH_take (i := 9) (oi := { dst := some 116, op := Op.move (Operand.tmp 115), type := 4, pos := "law.go:135", after := #[{ on := 8, ground := Ground.data }, { on := 8, ground := Ground.chain }], guard := none }) (v := _) rfl (by kernel_rfl) (by kernel_rfl) (by kernel_rfl) (fun _ _ _ h => h) (Or.inl ⟨by rfl, ?hy9⟩) hHeld2 ?rest9
            case hy9 => (intro w hSw; (try dsimp only at hSw); go_simp; first | done | with_reducible rfl | (simp; omega))
            try simp only [Act.put, List.setIfInBounds_toArray, List.set_cons_zero, List.set_cons_succ]
            refine' wpAnyH_take (i := 10) (oi := { dst := some 117, op := Op.move (Operand.tmp 14), type := 4, pos := "law.go:135", after := #[{ on := 9, ground := Ground.guard }], guard := some (9, true) }) (v := _) rfl (by kernel_rfl) (by kernel_rfl) (by kernel_rfl) (fun _ _ _ h => h) (Or.inl ⟨by rfl, ?hy10⟩) hHeld2 ?rest10
            case hy10 => (intro w hSw; (try dsimp only at hSw); go_simp; first | done | with_reducible rfl | (simp; omega))
            try simp only [Act.put, List.setIfInBounds_toArray, List.set_cons_zero, List.set_cons_succ]
            refine' wpAnyH_take (i := 11) (oi := { dst := some 118, op := Op.move (Operand.tmp 9), type := 74, pos := "law.go:135", after := #[{ on := 9, ground := Ground.guard }], guard := some (9, true) }) (v := _) rfl (by kernel_rfl) (by kernel_rfl) (by kernel_rfl) (fun _ _ _ h => h) (Or.inl ⟨by rfl, ?hy11⟩) hHeld2 ?rest11
            case hy11 => (intro w hSw; (try dsimp only at hSw); go_simp; first | done | with_reducible rfl | (simp; omega))
            try simp only [Act.put, List.setIfInBounds_toArray, List.set_cons_zero, List.set_cons_succ]
            refine' wpAnyH_take (i := 12) (oi := { dst := some 119, op := Op.nilCheck (Operand.tmp 118), type := 0, pos := "law.go:135", after := #[{ on := 11, ground := Ground.data }, { on := 9, ground := Ground.guard }], guard := some (9, true) }) (v := _) rfl (by kernel_rfl) (by kernel_rfl) (by kernel_rfl) (fun _ _ _ h => h) (Or.inl ⟨by rfl, ?hy12⟩) hHeld2 ?rest12
            case hy12 => (intro w hSw; (try dsimp only at hSw); go_simp; first | done | with_reducible rfl | (simp; omega))
            try simp only [Act.put, List.setIfInBounds_toArray, List.set_cons_zero, List.set_cons_succ]
            refine' wpAnyH_take (i := 13) (oi := { dst := some 120, op := Op.fieldAddr 77 (Operand.tmp 119) 6, type := 0, pos := "law.go:135", after := #[{ on := 12, ground := Ground.data }, { on := 9, ground := Ground.guard }], guard := some (9, true) }) (v := _) rfl (by kernel_rfl) (by kernel_rfl) (by kernel_rfl) (fun _ _ _ h => h) (Or.inl ⟨by rfl, ?hy13⟩) hHeld2 ?rest13
            case hy13 => (intro w hSw; (try dsimp only at hSw); go_simp; first | done | with_reducible rfl | (simp; omega))
            try simp only [Act.put, List.setIfInBounds_toArray, List.set_cons_zero, List.set_cons_succ]
            refine' wpAnyH_take (i := 14) (oi := { dst := some 121, op := Op.load 4 (Operand.tmp 120), type := 4, pos := "law.go:135", after := #[{ on := 13, ground := Ground.data }, { on := 9, ground := Ground.guard }], guard := some (9, true) }) (v := _) rfl (by kernel_rfl) (by kernel_rfl) (by kernel_rfl) (fun _ _ _ h => h) (Or.inl ⟨by rfl, ?hy14⟩) hHeld2 ?rest14
            case hy14 => (intro w hSw; (try dsimp only at hSw); go_simp; first | done | with_reducible rfl | (simp; omega))
            try simp only [Act.put, List.setIfInBounds_toArray, List.set_cons_zero, List.set_cons_succ]
            refine' wpAnyH_take (i := 15) (oi := { dst := some 122, op := Op.binOp BinOp.eql 4 (Operand.tmp 117) (Operand.tmp 121) 4, type := 4, pos := "law.go:135", after := #[{ on := 10, ground := Ground.data }, { on := 14, ground := Ground.data }, { on := 9, ground := Ground.guard }], guard := some (9, true) }) (v := .bool true) rfl (by kernel_rfl) (by kernel_rfl) (by kernel_rfl) (fun _ _ _ h => h) (Or.inl ⟨by rfl, ?hy15⟩) hHeld2 ?rest15
            case hy15 => (intro w hSw; (try dsimp only at hSw); go_simp; first | done | with_reducible rfl | (simp; omega))
            try simp only [Act.put, List.setIfInBounds_toArray, List.set_cons_zero, List.set_cons_succ]
            refine' wpAnyH_take (i := 16) (oi := { dst := some 123, op := Op.pick (Operand.tmp 116) (Operand.tmp 122) (Operand.const (Value.bool false)), type := 4, pos := "law.go:135", after := #[{ on := 9, ground := Ground.data }, { on := 15, ground := Ground.data }], guard := none }) (v := .bool true) rfl (by kernel_rfl) (by kernel_rfl) (by kernel_rfl) (fun _ _ _ h => h) (Or.inl ⟨by rfl, ?hy16⟩) hHeld2 ?rest16
            case hy16 => (intro w hSw; (try dsimp only at hSw); go_simp; first | done | with_reducible rfl | (simp; omega))
            try simp only [Act.put, List.setIfInBounds_toArray, List.set_cons_zero, List.set_cons_succ]
            refine' wpAnyH_take (i := 17) (oi := { dst := some 124, op := Op.move (Operand.tmp 123), type := 4, pos := "law.go:135", after := #[{ on := 16, ground := Ground.data }, { on := 9, ground := Ground.chain }], guard := none }) (v := _) rfl (by kernel_rfl) (by kernel_rfl) (by kernel_rfl) (fun _ _ _ h => h) (Or.inl ⟨by rfl, ?hy17⟩) hHeld2 ?rest17
            case hy17 => (intro w hSw; (try dsimp only at hSw); go_simp; first | done | with_reducible rfl | (simp; omega))
            try simp only [Act.put, List.setIfInBounds_toArray, List.set_cons_zero, List.set_cons_succ]
            refine' wpAnyH_take (i := 18) (oi := { dst := some 125, op := Op.move (Operand.tmp 14), type := 4, pos := "law.go:135", after := #[{ on := 17, ground := Ground.guard }], guard := some (17, true) }) (v := _) rfl (by kernel_rfl) (by kernel_rfl) (by kernel_rfl) (fun _ _ _ h => h) (Or.inl ⟨by rfl, ?hy18⟩) hHeld2 ?rest18
            case hy18 => (intro w hSw; (try dsimp only at hSw); go_simp; first | done | with_reducible rfl | (simp; omega))
            try simp only [Act.put, List.setIfInBounds_toArray, List.set_cons_zero, List.set_cons_succ]
            refine' wpAnyH_take (i := 19) (oi := { dst := some 126, op := Op.unOp UnOp.not 4 (Operand.tmp 125), type := 4, pos := "law.go:135", after := #[{ on := 18, ground := Ground.data }, { on := 17, ground := Ground.guard }], guard := some (17, true) }) (v := .bool true) rfl (by kernel_rfl) (by kernel_rfl) (by kernel_rfl) (fun _ _ _ h => h) (Or.inl ⟨by rfl, ?hy19⟩) hHeld2 ?rest19
            case hy19 => (intro w hSw; (try dsimp only at hSw); go_simp; first | done | with_reducible rfl | (simp; omega))
            try simp only [Act.put, List.setIfInBounds_toArray, List.set_cons_zero, List.set_cons_succ]
            refine' wpAnyH_take (i := 20) (oi := { dst := some 127, op := Op.move (Operand.tmp 126), type := 4, pos := "law.go:135", after := #[{ on := 19, ground := Ground.data }, { on := 17, ground := Ground.chain }, { on := 17, ground := Ground.guard }], guard := some (17, true) }) (v := _) rfl (by kernel_rfl) (by kernel_rfl) (by kernel_rfl) (fun _ _ _ h => h) (Or.inl ⟨by rfl, ?hy20⟩) hHeld2 ?rest20
            case hy20 => (intro w hSw; (try dsimp only at hSw); go_simp; first | done | with_reducible rfl | (simp; omega))
            try simp only [Act.put, List.setIfInBounds_toArray, List.set_cons_zero, List.set_cons_succ]
            refine wpAnyH_take (i := 21) (oi := { dst := some 128, op := Op.move (Operand.tmp 13), type := 3, pos := "law.go:135", after := #[{ on := 20, ground := Ground.guard }], guard := some (20, false) }) (v := undef) rfl (by kernel_rfl) (by kernel_rfl) (by kernel_rfl) (fun _ _ _ h => h) (Or.inr ⟨by rfl, rfl⟩) hHeld2 ?_
            try simp only [Act.put, List.setIfInBounds_toArray, List.set_cons_zero, List.set_cons_succ]
            refine wpAnyH_take (i := 22) (oi := { dst := some 129, op := Op.move (Operand.tmp 9), type := 74, pos := "law.go:135", after := #[{ on := 20, ground := Ground.guard }], guard := some (20, false) }) (v := undef) rfl (by kernel_rfl) (by kernel_rfl) (by kernel_rfl) (fun _ _ _ h => h) (Or.inr ⟨by rfl, rfl⟩) hHeld2 ?_
            try simp only [Act.put, List.setIfInBounds_toArray, List.set_cons_zero, List.set_cons_succ]
            refine wpAnyH_take (i := 23) (oi := { dst := some 130, op := Op.nilCheck (Operand.tmp 129), type := 0, pos := "law.go:135", after := #[{ on := 22, ground := Ground.data }, { on := 20, ground := Ground.guard }], guard := some (20, false) }) (v := undef) rfl (by kernel_rfl) (by kernel_rfl) (by kernel_rfl) (fun _ _ _ h => h) (Or.inr ⟨by rfl, rfl⟩) hHeld2 ?_
            try simp only [Act.put, List.setIfInBounds_toArray, List.set_cons_zero, List.set_cons_succ]
            refine wpAnyH_take (i := 24) (oi := { dst := some 131, op := Op.fieldAddr 77 (Operand.tmp 130) 5, type := 0, pos := "law.go:135", after := #[{ on := 23, ground := Ground.data }, { on := 20, ground := Ground.guard }], guard := some (20, false) }) (v := undef) rfl (by kernel_rfl) (by kernel_rfl) (by kernel_rfl) (fun _ _ _ h => h) (Or.inr ⟨by rfl, rfl⟩) hHeld2 ?_
            try simp only [Act.put, List.setIfInBounds_toArray, List.set_cons_zero, List.set_cons_succ]
            refine wpAnyH_take (i := 25) (oi := { dst := some 132, op := Op.load 3 (Operand.tmp 131), type := 3, pos := "law.go:135", after := #[{ on := 24, ground := Ground.data }, { on := 20, ground := Ground.guard }], guard := some (20, false) }) (v := undef) rfl (by kernel_rfl) (by kernel_rfl) (by kernel_rfl) (fun _ _ _ h => h) (Or.inr ⟨by rfl, rfl⟩) hHeld2 ?_
            try simp only [Act.put, List.setIfInBounds_toArray, List.set_cons_zero, List.set_cons_succ]
            refine wpAnyH_take (i := 26) (oi := { dst := some 133, op := Op.binOp BinOp.eql 3 (Operand.tmp 128) (Operand.tmp 132) 3, type := 4, pos := "law.go:135", after := #[{ on := 21, ground := Ground.data }, { on := 25, ground := Ground.data }, { on := 20, ground := Ground.guard }], guard := some (20, false) }) (v := undef) rfl (by kernel_rfl) (by kernel_rfl) (by kernel_rfl) (fun _ _ _ h => h) (Or.inr ⟨by rfl, rfl⟩) hHeld2 ?_
            try simp only [Act.put, List.setIfInBounds_toArray, List.set_cons_zero, List.set_cons_succ]
            refine' wpAnyH_take (i := 27) (oi := { dst := some 134, op := Op.pick (Operand.tmp 127) (Operand.const (Value.bool true)) (Operand.tmp 133), type := 4, pos := "law.go:135", after := #[{ on := 20, ground := Ground.data }, { on := 26, ground := Ground.data }, { on := 17, ground := Ground.guard }], guard := some (17, true) }) (v := .bool true) rfl (by kernel_rfl) (by kernel_rfl) (by kernel_rfl) (fun _ _ _ h => h) (Or.inl ⟨by rfl, ?hy21⟩) hHeld2 ?rest21
            case hy21 => (intro w hSw; (try dsimp only at hSw); go_simp; first | done | with_reducible rfl | (simp; omega))
            try simp only [Act.put, List.setIfInBounds_toArray, List.set_cons_zero, List.set_cons_succ]
            refine' wpAnyH_take (i := 28) (oi := { dst := some 135, op := Op.pick (Operand.tmp 124) (Operand.tmp 134) (Operand.const (Value.bool false)), type := 4, pos := "law.go:135", after := #[{ on := 17, ground := Ground.data }, { on := 27, ground := Ground.data }], guard := none }) (v := .bool true) rfl (by kernel_rfl) (by kernel_rfl) (by kernel_rfl) (fun _ _ _ h => h) (Or.inl ⟨by rfl, ?hy22⟩) hHeld2 ?rest22
            case hy22 => (intro w hSw; (try dsimp only at hSw); go_simp; first | done | with_reducible rfl | (simp; omega))
            try simp only [Act.put, List.setIfInBounds_toArray, List.set_cons_zero, List.set_cons_succ]
            refine' wpAnyH_take (i := 29) (oi := { dst := some 4, op := Op.assign (Operand.tmp 135), type := 4, pos := "law.go:135", after := #[{ on := 28, ground := Ground.data }, { on := 20, ground := Ground.chain }, { on := 0, ground := Ground.phase }, { on := 1, ground := Ground.phase }, { on := 2, ground := Ground.phase }, { on := 3, ground := Ground.phase }, { on := 4, ground := Ground.phase }, { on := 5, ground := Ground.phase }, { on := 6, ground := Ground.phase }, { on := 7, ground := Ground.phase }, { on := 8, ground := Ground.phase }, { on := 9, ground := Ground.phase }, { on := 10, ground := Ground.phase }, { on := 11, ground := Ground.phase }, { on := 12, ground := Ground.phase }, { on := 13, ground := Ground.phase }, { on := 14, ground := Ground.phase }, { on := 15, ground := Ground.phase }, { on := 16, ground := Ground.phase }, { on := 17, ground := Ground.phase }, { on := 18, ground := Ground.phase }, { on := 19, ground := Ground.phase }, { on := 20, ground := Ground.phase }, { on := 21, ground := Ground.phase }, { on := 22, ground := Ground.phase }, { on := 23, ground := Ground.phase }, { on := 24, ground := Ground.phase }, { on := 25, ground := Ground.phase }, { on := 26, ground := Ground.phase }, { on := 27, ground := Ground.phase }, { on := 28, ground := Ground.phase }], guard := none }) (v := _) rfl (by kernel_rfl) (by kernel_rfl) (by kernel_rfl) (fun _ _ _ h => h) (Or.inl ⟨by rfl, ?hy23⟩) hHeld2 ?rest23
            case hy23 => (intro w hSw; (try dsimp only at hSw); go_simp; first | done | with_reducible rfl | (simp; omega))
            try simp only [Act.put, List.setIfInBounds_toArray, List.set_cons_zero, List.set_cons_succ]
            refine wpAnyH_done (by kernel_rfl) ?_ _
            go_wp2_with fail
            go_ret
            exact ⟨ret_bool (by simp), (K0.out.trans (HB.out.kept (Keep.refl [] w11).drew).keep).trans KF.out⟩
          · rw [hmk2 hhas]
            rw [hhas] at h6c
            have SE := Lib.hid (And.intro hcP (And.intro hcG (And.intro h5c h6c)))
            clear hcP hcG hiP hiG heg hmk1 hmk2 h5c h6c hhas
            go_wp2_with fail
            go_region_held3 (fun w' => w'.cell? ⟨x, 1, none⟩ = some (.slice aP P.1.got.length cP) ∧ w'.cell? ⟨x + 1, 3, none⟩ = some (.slice aG P.1.got.length cG) ∧ w'.cell? ⟨x + 1, 5, none⟩ = some (.int .i64 P.1.mark) ∧ w'.cell? ⟨x + 1, 6, none⟩ = some (.bool true))
              (first | exact SF.out | exact SE.out)
              (first
                | (go_at_call 40; ((with_reducible refine (ref_words aP aG P.1.got.length P.1.got.length _ _ P.1.got P.1.got HIP.out HIG.out rfl rfl (by omega) (by omega)).mono ?_); rintro _ w10 ⟨rfl, n10, rfl⟩; rw [decide_eq_true (rfl : P.1.got = P.1.got)]; have k10 := (Keep.refl [] w11.drew).drewN n10; have KF := Lib.hid k10; have SF := Lib.hid (And.intro (cell_keep k10 SE.out.1 (by simp)) (And.intro (cell_keep k10 SE.out.2.1 (by simp)) (And.intro (cell_keep k10 SE.out.2.2.1 (by simp)) (cell_keep k10 SE.out.2.2.2 (by simp))))); clear k10))
                | (fail))
            all_goals
              go_wp2_with fail
              go_ret
              exact ⟨ret_bool (by simp), (K0.out.trans HB.out.keep).drewN _⟩
        · have hn1 : ¬ l.length ≤ P.1.i := hov9
          have hdb : decide ((l.length : Int) ≤ (P.1.i : Int)) = false := by simp; omega
          have hdc : decide (l.length ≤ P.1.i) = false := by simp; omega
          have hovc : q'.2.over = false := by rw [hov2]; simp; omega
          have hdid : decide (p.i < l.length) = true := by simp; omega
          have HOV := Lib.hid hovc
          have HDI := Lib.hid hdid
          clear hovc hdid hov2
          rw [HOV.out]
          go_wp2_with fail
          with_reducible refine HPS.out.mono ?_
          rintro _ w7 ⟨rfl, o7, h7⟩
          rw [HDI.out]
          have H7 := Lib.hid h7
          have HA := Lib.hid (h7.kept (Keep.refl [] w7).drew)
          obtain ⟨aoR, hcR, hiR⟩ := RefRep.ints (h7.kept (Keep.refl [] w7).drew).ref
          have HIR := Lib.hid hiR
          have MA := Lib.hid (show MemRep 134 w7.drew (w0.heap.size + 1) w0.heap.size P.2 from HR2.out.mem ▸ (h7.kept (Keep.refl [] w7).drew).fr.mem)
          have SA := Lib.hid (And.intro (h7.kept (Keep.refl [] w7).drew).pl.cells.1 (And.intro (h7.kept (Keep.refl [] w7).drew).pl.cells.2.1 hcR))
          have hml := MA.out.most
          have hsl : Hid ((q'.2.log.length : Int) = (P.1.n : Int)) := Lib.hid (by rw [HR2.out.len])
          clear h7 hcR hiR
          go_wp2_with fail
          go_region_held3 (fun w' => w'.cell? ⟨x + 1, 1, none⟩ = some (.int .i64 P.1.i) ∧ w'.cell? ⟨x + 1, 4, none⟩ = some (.int .i64 P.1.n) ∧ w'.cell? ⟨c + 1, 0, none⟩ = some (.slice aoR P.2.length P.2.length))
            (first | exact SC.out | exact SB.out | exact SA.out)
            (first
              | (go_at_call 36; ((with_reducible refine (word_words MA.out).mono ?_); rintro _ w8 ⟨g8, cap8, rfl, hrow, _, _, k8⟩; have I8 := Lib.hid hrow.intsAt; have J8 := Lib.hid (IntsAt.kept HIR.out k8); have H8 := Lib.hid (HA.out.kept k8); have SB := Lib.hid (And.intro (cell_keep k8 SA.out.1 (by simp)) (And.intro (cell_keep k8 SA.out.2.1 (by simp)) (cell_keep k8 SA.out.2.2 (by simp)))); clear hrow k8))
              | (go_at_call 40; ((with_reducible refine (ref_words (some ⟨g8, 0, none⟩) aoR P.2.length P.2.length _ _ P.2 P.2 I8.out J8.out rfl rfl (by omega) (by omega)).mono ?_); rintro _ w9 ⟨rfl, n9, rfl⟩; rw [decide_eq_true (rfl : P.2 = P.2)]; have k9 := (Keep.refl [] w8).drewN n9; have H9 := Lib.hid (H8.out.kept k9); have SC := Lib.hid (And.intro (cell_keep k9 SB.out.1 (by simp)) (And.intro (cell_keep k9 SB.out.2.1 (by simp)) (cell_keep k9 SB.out.2.2 (by simp)))); clear k9))
              | (go_at_call 33; ((with_reducible refine (frame_steps H9.out.fr).mono ?_); rintro _ _ ⟨rfl, rfl⟩; rw [hsl.out]))
              | (go_at_call 32; ((with_reducible refine (frame_done H9.out.fr).mono ?_); rintro _ _ ⟨rfl, rfl⟩; rw [HOV.out]))
              | (go_at_call 52; ((with_reducible refine (frame_off H9.out.fr).mono ?_); rintro _ _ ⟨rfl, rfl⟩; rw [hoff.out])))
          generalize hw9 : w8.drewN n9 = w9 at *
          clear hw9
          go_wp2_with fail
          go_roundw
          case rel =>
            refine ⟨k + 1, by go_num, q', P.1, P.2, _, _, _, H9.out, HR2.out, ?_, HOV.out, ?_, .inr (by omega), HBD.out.2.2, HBD.out.1⟩
            · obtain ⟨y, hy⟩ : ∃ y, l[p.i]? = some y := ⟨l[p.i], List.getElem?_eq_getElem hdi⟩
              have hpy : plStep l (k : Int) p lm = (p.next y ((insOp y p.last).eff lm).1 (k : Int), ((insOp y p.last).eff lm).2) := by unfold plStep; rw [hy]
              rw [HPl.out] at hpy
              have hlg := step_log HR.out HO.out hy (k : Int)
              rw [show stepP (pB l) (k : Int) q = q' from HQ.out] at hlg
              rw [hlg, hpy]
              exact HP.out.step hy (k : Int)
            · obtain ⟨y, hy⟩ : ∃ y, l[p.i]? = some y := ⟨l[p.i], List.getElem?_eq_getElem hdi⟩
              have hpy : plStep l (k : Int) p lm = (p.next y ((insOp y p.last).eff lm).1 (k : Int), ((insOp y p.last).eff lm).2) := by unfold plStep; rw [hy]
              rw [HPl.out] at hpy
              rw [hpy]
              show p.n + 1 = k + 1
              rw [hpn'.out]
          case measure => simp [intOf]; omega
end Law02
end Go.Proofs.Ytkmamebaichboaa
