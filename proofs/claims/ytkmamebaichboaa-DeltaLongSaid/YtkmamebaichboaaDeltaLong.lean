/- Law 7: DeltaLong walked. No conditions but those stated. -/
import Derived.Test.YtkmamebaichboaaDelta6
import Derived.Test.YtkmamebaichboaaIntRow
import Derived.Deep.RegionHeld3
import Derived.Deep.DeepCutAuto
namespace Go.Proofs.Ytkmamebaichboaa
open Go.ChangeShapes Go.WideShapes Go.ChangeAt Go.RowKit
set_option linter.unusedVariables false
set_option linter.unusedSimpArgs false
namespace Law07
open LinkL Prog
theorem actP_ins (k t g : Int) (o : Bool) (m : List Int) : ((actP ⟨0, k, t, g, o⟩).solo m).2 = ((insertP 2 k t).solo m).2 ∧ (actP ⟨0, k, t, g, o⟩).cost m = (insertP 2 k t).cost m := by
  unfold actP
  simp
theorem actP_drop (k t g : Int) (o : Bool) (m : List Int) : ((actP ⟨1, k, t, g, o⟩).solo m).2 = ((dropP 2 k).solo m).2 ∧ (actP ⟨1, k, t, g, o⟩).cost m = (dropP 2 k).cost m := by
  unfold actP
  simp
theorem actP_due (k t g : Int) (o : Bool) (m : List Int) : (actP ⟨3, k, t, g, o⟩).solo m = (dueP 2).solo m ∧ (actP ⟨3, k, t, g, o⟩).cost m = (dueP 2).cost m := by
  unfold actP
  simp
set_option maxHeartbeats 8000000 in
set_option maxRecDepth 100000 in
theorem deltaLong_walk {w : World} {vl : Value} {ls : List Int} (ht : IntRow .u64 w vl ls) :
    Calls Try.prog 20 #[vl] w fun e w' => e = .returned (.bool true) ∧ Keep [] w w' := by
  obtain ⟨ta, tc, rfl, htl, htm, htc⟩ := ht
  unfold maxLen at htm
  have HTC := Lib.hid htc
  clear htc
  go_enter Try.func20, Try.ntmps20
  go_wp2_with fail
  refine (awake07 _).mono ?_
  rintro _ w0 ⟨rfl, hk0⟩
  have K0 := Lib.hid hk0
  clear hk0
  by_cases hsm : (10 : Int) < (ls.length : Int)
  · go_wp2_with fail
    refine (awake07 _).mono ?_
    rintro _ w1 ⟨rfl, hk1⟩
    have K1 := Lib.hid (K0.out.trans hk1)
    clear hk1
    go_wp2_with fail
    go_ret
    exact ⟨rfl, K1.out⟩
  · have hl10 : ls.length ≤ 10 := by omega
    have hdt : decide ((10 : Int) < (ls.length : Int)) = false := by simp; omega
    have hbw := K0.out.size
    go_wp2_with fail
    with_reducible refine (made07 _).mono ?_
    rintro _ w1 ⟨rfl, hm1, hk1⟩
    have b1 := lt_of_block hm1.head
    have M1 := Lib.hid hm1
    have K1 := Lib.hid (K0.out.trans hk1)
    clear hm1 hk1
    go_upto_region 4 with fail
    have KA := Lib.hid ((Keep.refl [] w1).alloc (.cells #[.slice none 0 0] 116))
    have XA := Lib.hid (one_new w1 (.cells #[.slice none 0 0] 116))
    have hsA : w1.heap.size < (w1.alloc (.cells #[.slice none 0 0] 116)).heap.size := by simp
    generalize w1.alloc (.cells #[.slice none 0 0] 116) = w2 at KA XA hsA ⊢
    have M2 := Lib.hid (M1.out.keep KA.out (by simp) (by simp))
    have K2 := Lib.hid (K1.out.trans KA.out)
    have T2 : Hid (TimRep w2 w1.heap.size 0 (.slice none 0 0) []) := Lib.hid ⟨XA.out, TQ.nil⟩
    clear M1 K1 KA XA
    generalize hbE : w0.heap.size = b at *
    generalize hyE : w1.heap.size = y at *
    have hw0 : w.heap.size ≤ b := hbw
    clear hbE hyE
    go_wp2_with fail
    go_loopw [25] (fun c_ wr => ∃ (i : Nat) (N T : Nat → Int) (mm : List Int) (v : Value) (base : Nat), c_ = .int .i64 i ∧ i ≤ ls.length ∧ MemRep 134 wr (b + 1) b mm ∧ Dl i N T mm ∧ (∀ c, c ≤ i → N c < 10 + 3 * (i : Int)) ∧ TimRep wr y base v (rws N T 0 i) ∧ Keep [] w wr ∧ y < wr.heap.size) (fun c_ _ => ls.length - (intOf c_).toNat)
    case atStart => exact ⟨0, _, _, _, _, _, rfl, Nat.zero_le _, M2.out, Dl.start, fun c hc => by show (2 : Int) < _; omega, T2.out, K2.out, hsA⟩
    case round =>
      obtain ⟨i, N, T, mm, v, base, rfl, hi, hmr, hdl, hlow, htr, hkr, hyr⟩ := hrel
      have MR := Lib.hid hmr; have DR := Lib.hid hdl; have LW := Lib.hid hlow; have TR := Lib.hid htr; have KR := Lib.hid hkr
      clear hmr hdl hlow htr hkr
      by_cases hil : i < ls.length
      · have hil' : (i : Int) < (ls.length : Int) := by omega
        have hi0' : (0 : Int) ≤ (i : Int) := by omega
        have hi10 : (i : Int) < 10 := by omega
        obtain ⟨x, hx⟩ : ∃ x, ls[i]? = some x := ⟨_, List.getElem?_eq_getElem hil⟩
        obtain ⟨⟨tb, tof, rfl, _, htc⟩, hwf⟩ := HTC.out i x hx
        have hx64 := bounds_u64 hwf
        have hcell := cell_stays KR.out htc (by simp)
        clear htc hx hwf
        go_wp2_with fail
        have SA : Hid (wr.drew.cell? ⟨tb, tof + i, none⟩ = some (.int .u64 x)) := Lib.hid hcell
        go_region_held3 (fun w' => w'.cell? ⟨tb, tof + i, none⟩ = some (.int .u64 x))
          (first | exact SA.out | go_keep)
          (first
            | (go_at_call 60; ((with_reducible refine (addr07 (i : Int) (by omega) _).mono ?_); rintro _ _ ⟨rfl, rfl⟩))
            | (fail))
        rw [show IntKind.i64.wrap (x / 16) = x / 16 from IntWalk.i64_in _ (by omega)]
        have ht16 : 0 ≤ x / 16 ∧ x / 16 ≤ 1152921504606846976 := by omega
        generalize x / 16 = t at ht16 ⊢
        obtain ⟨k, hke⟩ : ∃ k : Int, 10 + 3 * (i : Int) = k := ⟨_, rfl⟩
        rw [hke]
        have hk : 10 ≤ k ∧ k ≤ 37 ∧ k % 3 = 1 := by omega
        obtain ⟨j, hj, hj1, hj2, hs1, hs2⟩ := DR.out.insertS (by omega) hk (fun c hc => by have := LW.out c hc; omega) ht16
        have D' := Lib.hid (DR.out.ins hj hk (fun c hc => by have := LW.out c hc; omega) ht16.2 hj1 hj2)
        have LW' : Hid (∀ c, c ≤ i + 1 → insF N j k c < 10 + 3 * ((i + 1 : Nat) : Int)) := Lib.hid (fun c hc => by
          unfold insF
          split
          · have := LW.out c (by omega); omega
          · split
            · omega
            · have := LW.out (c - 1) (by omega); omega)
        have RI := Lib.hid (DR.out.rowsI hj hj1 hj2 (k := k))
        have HS1 := Lib.hid hs1
        have HS2 := Lib.hid hs2
        have XA := Lib.hid (one_new wr (.cells (Act.cells ⟨0, k, t, 0, false⟩) 121))
        have KA := Lib.hid ((Keep.refl [] wr).alloc (.cells (Act.cells ⟨0, k, t, 0, false⟩) 121)).drew
        have HKE := Lib.hid hke
        clear hs1 hs2 hj1 hj2 SA hcell hke
        obtain ⟨wA, hwA⟩ : ∃ wA, (wr.alloc (.cells (Act.cells ⟨0, k, t, 0, false⟩) 121)).drew = wA := ⟨_, rfl⟩
        have XA' : Hid (wA.heap[wr.heap.size]? = some (.cells (Act.cells ⟨0, k, t, 0, false⟩) 121 (0, 0))) := Lib.hid (hwA ▸ XA.out)
        rw [hwA] at KA
        rw [show (wr.alloc (.cells #[.int .u8 0, .int .i64 k, .int .i64 t, .int .i64 0, .bool false] 121)).drew = wA from hwA]
        clear hwA XA
        obtain ⟨xb, hxb⟩ : ∃ xb, wr.heap.size = xb := ⟨_, rfl⟩
        rw [hxb] at hyr XA' ⊢
        have c1 : wA.cell? ⟨xb, 1, none⟩ = some (.int .i64 k) := cell_of XA'.out rfl
        have c2 : wA.cell? ⟨xb, 2, none⟩ = some (.int .i64 t) := cell_of XA'.out rfl
        have SB : Hid (wA.drew.cell? ⟨xb, 1, none⟩ = some (.int .i64 k) ∧ wA.drew.cell? ⟨xb, 2, none⟩ = some (.int .i64 t)) := Lib.hid ⟨c1, c2⟩
        have TA : Hid (TimRep wA.drew y base v (rws N T 0 i)) := Lib.hid ⟨(KA.out.drew).to TR.out.1 (by simp), TR.out.2.keep KA.out.drew (by simp)⟩
        have hrl := rws_len N T i 0
        clear c1 c2
        go_wp2_with fail
        go_region_held3 (fun w' => w'.cell? ⟨xb, 1, none⟩ = some (.int .i64 k) ∧ w'.cell? ⟨xb, 2, none⟩ = some (.int .i64 t))
          (first | exact SB.out | exact SC.out | go_keep)
          (first
            | (go_at_call 61; ((with_reducible refine (tim_insert TA.out (by omega) k t).mono ?_); rintro _ w5 ⟨rfl, v5, h5, k5⟩; have T5 := Lib.hid h5; have K5 := Lib.hid k5; have X5 := Lib.hid (k5.to ((Keep.refl [] wA).drew.to XA'.out (by simp)) (by simp; omega)); have SC := Lib.hid (And.intro (cell_of (i := 1) (v := .int .i64 k) X5.out rfl) (cell_of (i := 2) (v := .int .i64 t) X5.out rfl)); clear h5 k5))
            | (fail))
        have M5 : Hid (MemRep 134 w5 (b + 1) b mm) := Lib.hid ((MR.out.keep KA.out.drew (by simp) (by simp)).keep K5.out (by simp; omega) (by simp; omega))
        have RUN := Lib.hid (act_run (a' := ⟨0, k, t, 0, false⟩) M5.out X5.out (by rw [(actP_ins k t 0 false mm).2]; have := HS2.out; omega) (if_neg (show ¬ (0 : Int) = 3 by decide)) ((actP_ins k t 0 false mm).1.trans HS1.out))
        have KW5 : Hid (Keep [] w w5) := Lib.hid (((KR.out.trans KA.out).drew).transS K5.out (T := []) (by simp) (fun z hz hlt => by simp at hz; omega))
        have hy5 := lt_of_block T5.out.1
        clear SB SC TA hrl
        go_wp2_with fail
        with_reducible refine RUN.out.mono ?_
        rintro _ w6 ⟨rfl, hm6, _, hk6⟩
        go_wp2_with fail
        go_roundw
        case rel =>
          refine ⟨i + 1, _, _, _, v5, wA.drew.heap.size, by go_num, by omega, hm6, D'.out, LW'.out, ?_, KW5.out.transS hk6 (T := []) (by simp) (fun z hz hlt => by simp at hz; omega), hk6.lt hy5⟩
          have hs := (KR.out.trans KA.out).size
          have T6 := T5.out
          rw [RI.out] at T6
          exact ⟨hk6.to T6.1 (by simp; omega), T6.2.keep hk6 (fun g hg hm => by
            have := T6.2.low g hg
            have h9 := KA.out.lt (lt_of_block ((Keep.refl [] wr).to MR.out.body (by simp)))
            have h10 := lt_of_block XA'.out
            simp at this hm
            omega)⟩
        case measure => simp [intOf]; omega
      · have hie : i = ls.length := by omega
        have hil' : ¬ (i : Int) < (ls.length : Int) := by omega
        go_wp2_with fail
        go_loopw [56] (fun c_ wr => ∃ (i p : Nat) (N T : Nat → Int) (mm : List Int) (v : Value) (base : Nat), c_ = .int .i64 i ∧ i + p = ls.length ∧ MemRep 134 wr (b + 1) b mm ∧ Dl p N T mm ∧ TimRep wr y base v (rws N T 0 p) ∧ Keep [] w wr) (fun c_ _ => ls.length - (intOf c_).toNat)
        case atStart => exact ⟨0, i, N, T, mm, v, base, rfl, by omega, MR.out, DR.out, TR.out, KR.out⟩
        case round =>
          clear MR DR LW TR KR hyr hi hie hil hil'
          obtain ⟨i, p, N, T, mm, v, base, rfl, hip, hmr, hdl, htr, hkr⟩ := hrel
          have MR := Lib.hid hmr; have DR := Lib.hid hdl; have TR := Lib.hid htr; have KR := Lib.hid hkr
          clear hmr hdl htr hkr
          cases p with
          | zero =>
            have hil' : ¬ (i : Int) < (ls.length : Int) := by omega
            obtain ⟨hs1, hs2⟩ := DR.out.dueS
            have XA := Lib.hid (one_new wr (.cells (Act.cells ⟨3, 0, 0, 0, false⟩) 121))
            have KA := Lib.hid ((Keep.refl [] wr).alloc (.cells (Act.cells ⟨3, 0, 0, 0, false⟩) 121))
            have RUN := Lib.hid (act_run (a' := ⟨3, 0, 0, 0, false⟩) (MR.out.keep KA.out (by simp) (by simp)) XA.out (by rw [(actP_due 0 0 0 false mm).2]; omega) (by rw [(actP_due 0 0 0 false mm).1, hs1]; rfl) rfl)
            have hbr := lt_of_block MR.out.body
            clear hs1 hs2
            go_wp2_with fail
            refine RUN.out.mono ?_
            rintro _ w6 ⟨rfl, _, hx6, hk6⟩
            have c4 := cell_of (i := 4) (v := .bool false) hx6 rfl
            have K6 := Lib.hid ((KR.out.trans KA.out).transS hk6 (T := []) (by simp) (fun z hz hlt => by have := KR.out.size; simp at hz; omega))
            clear hx6 hk6
            go_wp2_with fail
            go_ret
            exact ⟨rfl, K6.out⟩
          | succ p =>
            have hil' : (i : Int) < (ls.length : Int) := by omega
            have hi0' : (0 : Int) ≤ (i : Int) := by omega
            have f1 := DR.out.nd 1 (by omega) (by omega)
            have hd1 : wordGet mm (N 1 + 2) = T 1 := by
              have := DR.out.dl 0 (by omega)
              rw [DR.out.t0, Int.sub_zero] at this
              exact this
            obtain ⟨gv, cv, e1, c1, c2⟩ := TR.out.2.cell (i := 0) (q := (N 1, T 1)) rfl
            subst e1
            have cy : wr.cell? ⟨y, 0, none⟩ = some (.slice (some ⟨gv, 0, none⟩) (rws N T 0 (p + 1)).length cv) := cell_of (i := 0) TR.out.1 rfl
            simp only [Nat.zero_mul, Nat.zero_add] at c1 c2
            rw [rws_len] at cy
            have hpp : (0 : Int) < ((p + 1 : Nat) : Int) := by omega
            have HD1 := Lib.hid hd1
            have htt : (T 1 != T 1) = false := by simp
            clear hd1
            go_wp2_with fail
            with_reducible refine (word_load MR.out _).mono ?_
            rintro _ _ ⟨rfl, rfl⟩
            rw [HD1.out]
            go_wp2_with fail
            have XA := Lib.hid (one_new wr (.cells (Act.cells ⟨1, N 1, 0, 0, false⟩) 121))
            have KA := Lib.hid ((Keep.refl [] wr).alloc (.cells (Act.cells ⟨1, N 1, 0, 0, false⟩) 121))
            have TA := Lib.hid (show TimRep (wr.alloc (.cells (Act.cells ⟨1, N 1, 0, 0, false⟩) 121)) y base _ (rws N T 0 (p + 1)) from ⟨KA.out.to TR.out.1 (by simp), TR.out.2.keep KA.out (by simp)⟩)
            have hyl := lt_of_block TR.out.1
            have hbl := lt_of_block MR.out.body
            have hml := lt_of_block MR.out.head
            have hwr := KR.out.size
            refine (tim_remove TA.out (by rw [rws_len]; omega) (N 1)).mono ?_
            rintro _ w5 ⟨rfl, v5, h5, k5⟩
            have RO := Lib.hid DR.out.rowsO
            have T5 : Hid (TimRep w5 y (wr.alloc (.cells (Act.cells ⟨1, N 1, 0, 0, false⟩) 121)).heap.size v5 (rws (outF N 2) (outF T 0) 0 p)) := Lib.hid (RO.out ▸ h5)
            have X5 := Lib.hid (k5.to XA.out (by simp; omega))
            have M5 := Lib.hid ((MR.out.keep KA.out (by simp) (by simp)).keep k5 (by simp; omega) (by simp; omega))
            obtain ⟨hs1, hs2⟩ := DR.out.dropS
            have RUN := Lib.hid (act_run (a' := ⟨1, N 1, 0, 0, false⟩) M5.out X5.out (by rw [(actP_drop (N 1) 0 0 false mm).2]; omega) (if_neg (show ¬ (1 : Int) = 3 by decide)) ((actP_drop (N 1) 0 0 false mm).1.trans hs1))
            have K5 := Lib.hid ((KR.out.trans KA.out).transS k5 (T := []) (by simp) (fun z hz hlt => by simp at hz; omega))
            clear h5 k5 hs1 hs2 c1 c2 cy
            go_wp2_with fail
            with_reducible refine RUN.out.mono ?_
            rintro _ w6 ⟨rfl, hm6, _, hk6⟩
            go_wp2_with fail
            go_roundw
            case rel =>
              refine ⟨i + 1, p, _, _, _, v5, (wr.alloc (.cells (Act.cells ⟨1, N 1, 0, 0, false⟩) 121)).heap.size, by go_num, by omega, hm6, DR.out.out, ⟨hk6.to T5.out.1 (by simp; omega), T5.out.2.keep hk6 (fun g hg hm => by
                have := T5.out.2.low g hg
                simp at this hm
                omega)⟩, K5.out.transS hk6 (T := []) (by simp) (fun z hz hlt => by simp at hz; omega)⟩
            case measure => simp [intOf]; omega
end Law07
end Go.Proofs.Ytkmamebaichboaa
