/- Law 8: RingPlays walked. No conditions but those stated. -/
import Derived.Test.YtkmamebaichboaaRingPlays2

import Derived.Deep.RegionHeld3
import Derived.Deep.DeepCutAuto
namespace Go.Proofs.Ytkmamebaichboaa
open Go.ChangeShapes Go.WideShapes Go.ChangeAt Go.RowKit
set_option linter.unusedVariables false
set_option linter.unusedSimpArgs false
namespace Law08
open Prog
theorem tmod_small (a c : Int) (hc : 1 ≤ c) : (0 ≤ a → 0 ≤ a.tmod c ∧ a.tmod c ≤ a) ∧ (a < 0 → a ≤ a.tmod c ∧ a.tmod c ≤ 0) := by
  have key : ∀ d : Int, 0 ≤ d → 0 ≤ d.tmod c ∧ d.tmod c ≤ d := by
    intro d hd
    have e : d.tmod c = d % c := Int.tmod_eq_emod_of_nonneg hd
    have h1 := Int.emod_nonneg d (show c ≠ 0 by omega)
    have h2 := Int.mul_nonneg (show 0 ≤ c by omega) (Int.ediv_nonneg hd (show 0 ≤ c by omega))
    have h3 := Int.emod_add_mul_ediv d c
    omega
  refine ⟨key a, fun h => ?_⟩
  have h4 : (-a).tmod c = -(a.tmod c) := Int.neg_tmod ..
  have := key (-a) (by omega)
  omega
set_option maxHeartbeats 4000000 in
set_option maxRecDepth 100000 in
theorem ringPlays_walk {w : World} {v : Value} {l : List ROp} (h : OpArg w v l) (size begin : Int) (hs : 0 ≤ size ∧ size ≤ 255) (hb : -9223372036854775808 ≤ begin ∧ begin ≤ 9223372036854775807) :
    Calls Try.prog 8 #[.int .u8 size, .int .i64 begin, v] w fun e w' => e = .returned (.bool true) ∧ Keep [] w w' := by
  obtain ⟨ao, cap, rfl, hlm, hop⟩ := h
  have HOP := Lib.hid hop
  clear hop
  unfold maxLen at hlm
  obtain ⟨i0, hi0, hz0, hz1, hz2⟩ := info_parts info64
  go_enter Try.func8, Try.ntmps8
  go_wp2_with fail
  refine (awake08 _).mono ?_
  rintro _ w0 ⟨rfl, hk0⟩
  have K0 := Lib.hid hk0
  clear hk0
  by_cases hlen : (200 : Int) < (l.length : Int)
  · go_wp2_with fail
    refine (awake08 _).mono ?_
    rintro _ w1 ⟨rfl, hk1⟩
    have K1 := Lib.hid (K0.out.trans hk1)
    clear hk1
    go_wp2_with fail
    go_ret
    exact ⟨rfl, K1.out⟩
  · have hl200 : l.length ≤ 200 := by omega
    have hbw := K0.out.size
    go_wp2_with fail
    have hc : 1 ≤ 1 + size % 16 ∧ 1 + size % 16 ≤ 16 := by omega
    generalize 1 + size % 16 = c at hc ⊢
    have hc0 : (c == 0) = false := by simp; omega
    refine (word_new 30 _ (by omega)).mono ?_
    rintro e w1 ⟨rfl, hm1, hk1, hs1⟩
    have hsz1 : w0.heap.size + 2 ≤ w1.heap.size := by omega
    have M1 := Lib.hid hm1
    have K1 := Lib.hid (K0.out.trans hk1)
    clear hm1 hk1 hs1
    go_upto_region 6 with fail
    have hk5 : wrap64 (begin - begin.tmod c) = begin - begin.tmod c ∧ begin - begin.tmod c ≤ 9223372036854775807 := by
      have h1 := tmod_small begin c hc.1
      by_cases h0 : 0 ≤ begin
      · have h2 := h1.1 h0
        exact ⟨IntWalk.wrap64_in _ (by omega), by omega⟩
      · have h2 := h1.2 (by omega)
        exact ⟨IntWalk.wrap64_in _ (by omega), by omega⟩
    rw [hk5.1]
    have hk6 := hk5.2
    clear hk5
    generalize begin - begin.tmod c = k0 at hk6 ⊢
    obtain ⟨k, hkd⟩ : ∃ k, (if k0 < 0 then 0 else k0) = k := ⟨_, rfl⟩
    have hk7 : 0 ≤ k ∧ k ≤ 9223372036854775807 := by rw [← hkd]; split <;> omega
    go_upto_if 34 with fail
    go_cut [9] (fun s9 wc => s9 = .int .i64 k ∧ wc = w1)
    case first =>
      by_cases hneg : k0 < 0
      · rw [if_pos hneg] at hkd
        subst hkd
        go_wp2_with fail
        go_meet
        exact ⟨rfl, rfl⟩
      · rw [if_neg hneg] at hkd
        subst hkd
        go_wp2_with fail
        go_meet
        exact ⟨rfl, rfl⟩
    case rest =>
      obtain ⟨rfl, rfl⟩ := hcut
      clear hkd hk6
      go_wp2_with fail
      refine (word_store M1.out 3 k).mono ?_
      rintro _ w2 ⟨rfl, hm2, hk2⟩
      have M2 := Lib.hid hm2
      have K2 := Lib.hid (K1.out.transS hk2 (T := []) (by simp) (by simp; omega))
      have hsz2 := Nat.le_trans hsz1 hk2.size
      clear hm2 hk2
      go_wp2_with fail
      refine (word_store M2.out 4 k).mono ?_
      rintro _ w3 ⟨rfl, hm3, hk3⟩
      have M3 := Lib.hid hm3
      have K3 := Lib.hid (K2.out.transS hk3 (T := []) (by simp) (by simp; omega))
      have hsz3 := Nat.le_trans hsz2 hk3.size
      clear hm3 hk3
      by_cases hbig : 4611686018427387904 < k
      · go_wp2_with fail
        go_ret
        exact ⟨rfl, K3.out⟩
      · have hkk : k ≤ 4611686018427387904 := by omega
        have hR0 : Ring c (wordPut (wordPut (List.replicate (min (max (30 : Int) 0) 4000).toNat (0 : Int)) 3 k) 4 k) [] k := by
          have e30 : (List.replicate (min (max (30 : Int) 0) 4000).toNat (0 : Int)).length = 30 := by decide
          refine Ring.start (by rw [wordPut_length, wordPut_length]; exact e30) hk7.1 ?_ (get_put (by rw [wordPut_length, e30]; omega)) (by omega)
          rw [get_put_ne (by omega)]
          exact get_put (by rw [e30]; omega)
        have R0 := Lib.hid hR0
        clear hR0
        generalize wordPut (wordPut (List.replicate (min (max (30 : Int) 0) 4000).toNat (0 : Int)) 3 k) 4 k = L0 at M3 R0
        generalize w0.heap.size = b at *
        go_wp2_with fail
        go_loopw [10, 45] (fun a c_ wr => ∃ i : Nat, c_ = .int .i64 i ∧ i ≤ l.length ∧ ∃ ws L g, WQ wr (b + 2) a ws ∧ Ring c L ws g ∧ g + ws.length ≤ 4611686018427387904 + i ∧ MemRep 134 wr (b + 1) b L ∧ Keep [] w wr ∧ b + 2 ≤ wr.heap.size) (fun _ c_ _ => l.length - (intOf c_).toNat)
        case atStart => exact ⟨0, rfl, Nat.zero_le _, [], L0, k, WQ.nil, R0.out, by simp; omega, M3.out, K3.out, hsz3⟩
        case round =>
          obtain ⟨i, rfl, hi, ws, L, g, hwq, hring, hgb, hm, hk, hsz⟩ := hrel
          have WQ0 := Lib.hid hwq
          have RG := Lib.hid hring
          have MM := Lib.hid hm
          have KK := Lib.hid hk
          have hgb2 : g + ws.length ≤ 4611686018427388904 := by omega
          have hws : ws.length ≤ 16 := by have := hring.most; omega
          obtain ⟨wa, wcap, rfl, hwc⟩ := hwq.form
          clear hwq hring hm hk
          by_cases hil : i < l.length
          · have hil' : (i : Int) < l.length := by omega
            have hi0' : (0 : Int) ≤ (i : Int) := by omega
            obtain ⟨x, hx⟩ : ∃ x, l[i]? = some x := ⟨_, List.getElem?_eq_getElem hil⟩
            obtain ⟨ob, oo, rfl, hc1, hc2⟩ := HOP.out i x hx
            have g1 := cell_kept KK.out hc1 (by simp)
            have g2 := cell_kept KK.out hc2 (by simp)
            clear hc1 hc2 hx
            obtain ⟨xk, xv⟩ := x
            dsimp only at g1 g2
            have B1 := Lib.hid (two_fst wr (.cells #[.int .u8 xk, .int .i64 xv] 62) (.cells #[.int .u8 xk, .int .i64 c, .int .i64 xv, .int .i64 0, .bool false, .int .i64 0] 65))
            have B2 := Lib.hid (two_snd wr (.cells #[.int .u8 xk, .int .i64 xv] 62) (.cells #[.int .u8 xk, .int .i64 c, .int .i64 xv, .int .i64 0, .bool false, .int .i64 0] 65))
            have KA := Lib.hid (((Keep.refl [] wr).alloc (.cells #[.int .u8 xk, .int .i64 xv] 62)).alloc (.cells #[.int .u8 xk, .int .i64 c, .int .i64 xv, .int .i64 0, .bool false, .int .i64 0] 65))
            have MA := Lib.hid (MM.out.keep KA.out (by simp) (by simp))
            have LOW := Lib.hid WQ0.out.low
            go_upto_region 18 with fail
            clear g1 g2
            generalize (wr.alloc (.cells #[.int .u8 xk, .int .i64 xv] 62)).alloc (.cells #[.int .u8 xk, .int .i64 c, .int .i64 xv, .int .i64 0, .bool false, .int .i64 0] 65) = wA at B1 B2 KA MA ⊢
            by_cases k0 : xk = 0
            · subst k0
              have P := RG.out.putIt (v := xv) hc hgb2
              have HP := Lib.hid P
              clear P
              go_wp2_with fail
              have B3 : Hid (wA.heap[wr.heap.size + 1]? = some (.cells (Act.cells ⟨0, c, xv, 0, false, 0⟩) 65 (0, 0))) := B2
              with_reducible refine (act_run (x := wr.heap.size + 1) (a := ⟨0, c, xv, 0, false, 0⟩) MA.out B3.out HP.out.1).mono ?_
              rintro _ w4 ⟨rfl, hm4, hb4, hk4⟩
              have e4 : ∀ q : Int × Bool, (actU ⟨0, c, xv, 0, false, 0⟩ q).cells = #[.int .u8 0, .int .i64 c, .int .i64 xv, .int .i64 0, .bool q.2, .int .i64 0] := fun q => rfl
              rw [e4] at hb4
              have hb5 := hk4.to B1.out (by simp; omega)
              have M4 := Lib.hid hm4
              have B4 := Lib.hid hb4
              have W4 := Lib.hid ((WQ0.out.keep KA.out (by simp)).keep hk4 (fun g hg hm => by have := LOW.out g hg; simp at hm; omega))
              have K4 := Lib.hid ((KK.out.trans KA.out).transS hk4 (T := []) (by simp) (fun y hy hlt => by have := KK.out.size; simp at hy; omega))
              have hsz4 : b + 2 ≤ w4.heap.size := Nat.le_trans hsz (Nat.le_trans KA.out.size hk4.size)
              have p0 := cell_of (i := 0) hb5 rfl
              have p1 := cell_of (i := 1) hb5 rfl
              rw [HP.out.2.1] at hb4
              have p4 := cell_of (i := 4) hb4 rfl
              clear hm4 hb4 hk4 hb5
              by_cases hfull : (ws.length : Int) < c
              · have hd : decide ((ws.length : Int) < c) = true := by simp; omega
                rw [hd] at p4
                have hring := HP.out.2.2
                rw [if_pos hfull] at hring
                have R4 := Lib.hid hring
                clear hring
                have W5 := Lib.hid (W4.out.keep ((Keep.refl [] w4).alloc (.cells #[.int .i64 xv] 2)) (by simp))
                go_wp2_with (at_builtin; refine wpList_append_wq rfl _ _ rfl i0 hi0 hz0 hz1 hz2 rfl W5.out ⟨w4.heap.size, 0, none⟩ 1 xv (by first | rfl | simp [Act.eval, Act.put]) (World.news_of_block (cs := #[.int .i64 xv]) (t := 2) (fr := (0, 0)) (heap_alloc_new w4 _)) (by omega) (by simp; omega) ?_; intro ao5 cap5 w5 S5 hq5 hk5 hs5)
                have hS5 : ∀ z ∈ S5, b + 2 ≤ z ∧ w.heap.size ≤ z := fun z hz => by have := LOW.out z (hs5 z hz); omega
                have k5 := ((Keep.refl [] w4).alloc (.cells #[.int .i64 xv] 2)).transS hk5 (T := S5) (by simp) (fun y hy _ => hy)
                go_roundw
                case rel => exact ⟨i + 1, by go_num, by omega, ws ++ [xv], _, g, hq5, R4.out, (by simp; omega), M4.out.keep k5 (fun hm => by have := hS5 _ hm; omega) (fun hm => by have := hS5 _ hm; omega), K4.out.transS k5 (T := []) (by simp) (fun y hy hlt => by have := hS5 y hy; omega), Nat.le_trans hsz4 k5.size⟩
                case measure => simp [intOf]; omega
              · have hd : decide ((ws.length : Int) < c) = false := by simp; omega
                rw [hd] at p4
                have hring := HP.out.2.2
                rw [if_neg hfull] at hring
                have R4 := Lib.hid hring
                clear hring
                go_wp2_with fail
                go_roundw
                case rel => exact ⟨i + 1, by go_num, by omega, ws, _, g, W4.out, R4.out, (by omega), M4.out, K4.out, hsz4⟩
                case measure => simp [intOf]; omega
            · by_cases k1 : xk = 1
              · subst k1
                clear k0
                rcases ws with _ | ⟨y, ws⟩
                · have HP := Lib.hid (RG.out.getIt (v := xv) hc hgb2)
                  have e0 : (([] : List Int).length : Int) = 0 := rfl
                  go_wp2_with fail
                  have B3 : Hid (wA.heap[wr.heap.size + 1]? = some (.cells (Act.cells ⟨1, c, xv, 0, false, 0⟩) 65 (0, 0))) := B2
                  with_reducible refine (act_run (x := wr.heap.size + 1) (a := ⟨1, c, xv, 0, false, 0⟩) MA.out B3.out HP.out.1).mono ?_
                  rintro _ w4 ⟨rfl, hm4, hb4, hk4⟩
                  have e4 : ∀ q : Int × Bool, (actU ⟨1, c, xv, 0, false, 0⟩ q).cells = #[.int .u8 1, .int .i64 c, .int .i64 xv, .int .i64 q.1, .bool q.2, .int .i64 0] := fun q => rfl
                  rw [e4] at hb4
                  have hb5 := hk4.to B1.out (by simp; omega)
                  have M4 := Lib.hid hm4
                  have B4 := Lib.hid hb4
                  have W4 := Lib.hid ((WQ0.out.keep KA.out (by simp)).keep hk4 (fun g hg hm => by have := LOW.out g hg; simp at hm; omega))
                  have K4 := Lib.hid ((KK.out.trans KA.out).transS hk4 (T := []) (by simp) (fun y hy hlt => by have := KK.out.size; simp at hy; omega))
                  have hsz4 : b + 2 ≤ w4.heap.size := Nat.le_trans hsz (Nat.le_trans KA.out.size hk4.size)
                  have p0 := cell_of (i := 0) hb5 rfl
                  have p1 := cell_of (i := 1) hb5 rfl
                  rw [HP.out.2.1] at hb4
                  have p4 : w4.cell? ⟨wr.heap.size + 1, 4, none⟩ = some (.bool false) := cell_of (i := 4) hb4 rfl
                  clear hm4 hb4 hk4 hb5
                  obtain ⟨g', hr, hg'⟩ := HP.out.2.2
                  have R4 := Lib.hid hr
                  simp at hg'
                  clear hr
                  go_wp2_with fail
                  go_roundw
                  case rel => exact ⟨i + 1, by go_num, by omega, [], _, g', W4.out, R4.out, (by simp at hgb ⊢; omega), M4.out, K4.out, hsz4⟩
                  case measure => simp [intOf]; omega
                · have HP := Lib.hid (RG.out.getIt (v := xv) hc hgb2)
                  have HN : Hid ((y :: ws).length = ws.length + 1) := Lib.hid rfl
                  generalize hnn : (y :: ws).length = n at *
                  have hn0 : 0 < n := by have := HN.out; omega
                  have hn0i : (0 : Int) < (n : Int) := by omega
                  have hn1i : (1 : Int) ≤ (n : Int) := by omega
                  have hd : decide ((0 : Int) < (n : Int)) = true := by simp; omega
                  have hd2 : decide (0 < n) = true := by simp; omega
                  obtain ⟨wg, wo, rfl, hcw⟩ := WQ0.out.head
                  have HCW := Lib.hid hcw
                  clear hcw hnn
                  go_wp2_with fail
                  have B3 : Hid (wA.heap[wr.heap.size + 1]? = some (.cells (Act.cells ⟨1, c, xv, 0, false, 0⟩) 65 (0, 0))) := B2
                  with_reducible refine (act_run (x := wr.heap.size + 1) (a := ⟨1, c, xv, 0, false, 0⟩) MA.out B3.out HP.out.1).mono ?_
                  rintro _ w4 ⟨rfl, hm4, hb4, hk4⟩
                  have e4 : ∀ q : Int × Bool, (actU ⟨1, c, xv, 0, false, 0⟩ q).cells = #[.int .u8 1, .int .i64 c, .int .i64 xv, .int .i64 q.1, .bool q.2, .int .i64 0] := fun q => rfl
                  rw [e4] at hb4
                  have hb5 := hk4.to B1.out (by simp; omega)
                  have M4 := Lib.hid hm4
                  have B4 := Lib.hid hb4
                  have W4 := Lib.hid ((WQ0.out.keep KA.out (by simp)).keep hk4 (fun g hg hm => by have := LOW.out g hg; simp at hm; omega))
                  have K4 := Lib.hid ((KK.out.trans KA.out).transS hk4 (T := []) (by simp) (fun y hy hlt => by have := KK.out.size; simp at hy; omega))
                  have hsz4 : b + 2 ≤ w4.heap.size := Nat.le_trans hsz (Nat.le_trans KA.out.size hk4.size)
                  have p0 := cell_of (i := 0) hb5 rfl
                  have p1 := cell_of (i := 1) hb5 rfl
                  rw [HP.out.2.1] at hb4
                  have p4 : w4.cell? ⟨wr.heap.size + 1, 4, none⟩ = some (.bool true) := by
                    have := cell_of (i := 4) (v := .bool (decide (0 < n))) hb4 rfl
                    rwa [hd2] at this
                  have p3 : w4.cell? ⟨wr.heap.size + 1, 3, none⟩ = some (.int .i64 y) := cell_of (i := 3) hb4 rfl
                  obtain ⟨wg2, wo2, e9, hcw4⟩ := W4.out.head
                  cases e9
                  clear hm4 hb4 hk4 hb5
                  obtain ⟨g', hr, hg'⟩ := HP.out.2.2
                  have R4 := Lib.hid hr
                  simp at hg'
                  have HG' := Lib.hid hg'
                  have WC := Lib.hid W4.out.cut
                  have SA := Lib.hid (And.intro p3 hcw4)
                  clear hr hg'
                  go_wp2_with fail
                  go_region_held3 (fun w' => w'.cell? ⟨wr.heap.size + 1, 3, none⟩ = some (.int .i64 y) ∧ w'.cell? ⟨wg, wo, none⟩ = some (.int .i64 y)) (first | exact SA.out | go_keep) (fail)
                  all_goals
                    go_wp2_with fail
                    go_roundw
                    case rel => exact ⟨i + 1, by go_num, by omega, ws, _, g', (by have h := WC.out.keep (Keep.refl [] w4).drew (by simp); have hn : n - 1 = ws.length := by {have := HN.out; omega}; rw [hn]; simpa [addr_add] using h), R4.out, (by have := HG'.out; have := HN.out; omega), M4.out.keep (Keep.refl [] w4).drew (by simp) (by simp), K4.out.trans (Keep.refl [] _).drew, hsz4⟩
                    case measure => simp [intOf]; omega
              · by_cases k2 : xk = 2
                · subst k2
                  clear k0 k1
                  have HP := Lib.hid (RG.out.lenIt (v := xv) hc)
                  go_wp2_with fail
                  have B3 : Hid (wA.heap[wr.heap.size + 1]? = some (.cells (Act.cells ⟨2, c, xv, 0, false, 0⟩) 65 (0, 0))) := B2
                  with_reducible refine (act_run (x := wr.heap.size + 1) (a := ⟨2, c, xv, 0, false, 0⟩) MA.out B3.out HP.out.1).mono ?_
                  rintro _ w4 ⟨rfl, hm4, hb4, hk4⟩
                  have e4 : ∀ q : Int × Bool, (actU ⟨2, c, xv, 0, false, 0⟩ q).cells = #[.int .u8 2, .int .i64 c, .int .i64 xv, .int .i64 0, .bool false, .int .i64 q.1] := fun q => rfl
                  rw [e4] at hb4
                  have hb5 := hk4.to B1.out (by simp; omega)
                  have M4 := Lib.hid hm4
                  have B4 := Lib.hid hb4
                  have W4 := Lib.hid ((WQ0.out.keep KA.out (by simp)).keep hk4 (fun g hg hm => by have := LOW.out g hg; simp at hm; omega))
                  have K4 := Lib.hid ((KK.out.trans KA.out).transS hk4 (T := []) (by simp) (fun y hy hlt => by have := KK.out.size; simp at hy; omega))
                  have hsz4 : b + 2 ≤ w4.heap.size := Nat.le_trans hsz (Nat.le_trans KA.out.size hk4.size)
                  have p0 := cell_of (i := 0) hb5 rfl
                  have p1 := cell_of (i := 1) hb5 rfl
                  rw [HP.out.2.1] at hb4
                  have p5 := cell_of (i := 5) hb4 rfl
                  clear hm4 hb4 hk4 hb5
                  go_wp2_with fail
                  go_roundw
                  case rel => exact ⟨i + 1, by go_num, by omega, ws, _, g, W4.out, HP.out.2.2, (by omega), M4.out, K4.out, hsz4⟩
                  case measure => simp [intOf]; omega
                · have HP := Lib.hid (RG.out.clearIt (v := xv) hc k0 k1 k2)
                  have hk0 : (xk == 0) = false := by simp; exact k0
                  have hk1 : (xk == 1) = false := by simp; exact k1
                  have hk2 : (xk == 2) = false := by simp; exact k2
                  go_wp2_with fail
                  have B3 : Hid (wA.heap[wr.heap.size + 1]? = some (.cells (Act.cells ⟨xk, c, xv, 0, false, 0⟩) 65 (0, 0))) := B2
                  with_reducible refine (act_run (x := wr.heap.size + 1) (a := ⟨xk, c, xv, 0, false, 0⟩) MA.out B3.out HP.out.1).mono ?_
                  rintro _ w4 ⟨rfl, hm4, hb4, hk4⟩
                  have e4 : ∀ q : Int × Bool, (actU ⟨xk, c, xv, 0, false, 0⟩ q).cells = #[.int .u8 xk, .int .i64 c, .int .i64 xv, .int .i64 0, .bool false, .int .i64 0] := fun q => by simp [actU, k0, k1, k2, Act.cells]
                  rw [e4] at hb4
                  have hb5 := hk4.to B1.out (by simp; omega)
                  have M4 := Lib.hid hm4
                  have B4 := Lib.hid hb4
                  have W4 := Lib.hid ((WQ0.out.keep KA.out (by simp)).keep hk4 (fun g hg hm => by have := LOW.out g hg; simp at hm; omega))
                  have K4 := Lib.hid ((KK.out.trans KA.out).transS hk4 (T := []) (by simp) (fun y hy hlt => by have := KK.out.size; simp at hy; omega))
                  have hsz4 : b + 2 ≤ w4.heap.size := Nat.le_trans hsz (Nat.le_trans KA.out.size hk4.size)
                  have p0 := cell_of (i := 0) hb5 rfl
                  have p1 := cell_of (i := 1) hb5 rfl
                  clear hm4 hb4 hk4 hb5
                  go_wp2_with fail
                  go_roundw
                  case rel => exact ⟨i + 1, by go_num, by omega, [], _, (g + ws.length), WQ.nil, HP.out.2, (by simp; omega), M4.out, K4.out, hsz4⟩
                  case measure => simp [intOf]; omega
          · go_wp2_with fail
            go_ret
            exact ⟨rfl, KK.out⟩
end Law08
end Go.Proofs.Ytkmamebaichboaa
