/- The contract of the reference's wrong. No conditions but those stated. -/
import Derived.Test.YtkmpajdiedpfhaaValid8
namespace Go.Proofs.Ytkmpajdiedpfhaa
open Go.ChangeShapes Go.WideShapes Go.ChangeAt Go.RowKit
set_option linter.unusedVariables false
set_option linter.unusedSimpArgs false
namespace Valid
theorem winsI_7 {np : Nat} {ws : List WinD} (h : ¬ (ws.length < 1 ∨ 16 < ws.length)) (h2 : ws.any (fun x => !winB np x) = true) : winsI np ws = 7 := by unfold winsI; rw [if_neg h, if_pos h2]
theorem winsI_8 {np : Nat} {ws : List WinD} (h : ¬ (ws.length < 1 ∨ 16 < ws.length)) (h2 : ws.any (fun x => !winB np x) = false) (i : Nat) (hi : i < np) (hn : ws.any (fun x => x.part == (i : Int)) = false) : winsI np ws = 8 := by
  unfold winsI; rw [if_neg h, if_neg (by rw [h2]; simp), if_pos]
  refine List.any_eq_true.2 ⟨false, ?_, rfl⟩
  unfold hasL
  exact List.mem_map.2 ⟨i, List.mem_range.2 hi, hn⟩
theorem winsI_0 {np : Nat} {ws : List WinD} (h : ¬ (ws.length < 1 ∨ 16 < ws.length)) (h2 : ws.any (fun x => !winB np x) = false) (hn : ∀ i : Nat, i < np → ws.any (fun x => x.part == (i : Int)) = true) : winsI np ws = 0 := by
  unfold winsI; rw [if_neg h, if_neg (by rw [h2]; simp), if_neg]
  intro hc
  obtain ⟨b, hb, hb2⟩ := List.any_eq_true.1 hc
  unfold hasL at hb
  obtain ⟨i, hi, rfl⟩ := List.mem_map.1 hb
  rw [hn i (List.mem_range.1 hi)] at hb2
  cases hb2
/-- The box of the configuration. -/
def CBox (w : World) (g : Nat) (v1 v2 v3 : Value) : Prop := w.heap[g]? = some (.cells #[v1, v2, v3] 26 (0, 0))
set_option maxHeartbeats 8000000 in
set_option maxRecDepth 100000 in
theorem ref_wrong {w : World} {B : Nat → Prop} {x : ConfD} {v : Value} (h : ConfRep B w x v) :
    Calls Try.prog 32 #[v] w fun e w' => e = .returned (.int .i64 (wrongI x)) ∧ Keep [] w w' := by
  obtain ⟨v1, v2, v3, rfl, hp, hw, hc⟩ := h
  have HP1 : Hid (∀ w', Keep [] w w' → SlD B w' 2 (PartRep B w') v1 x.parts) := Lib.hid (fun w' k => hp.keep k.size (fun b _ hb => k.block b hb (by simp)) (fun _ h => h) (fun _ _ _ h => h.kept k))
  obtain ⟨pa, pc, rfl, p1, p2, p3⟩ := hp
  obtain ⟨wa, wcp, rfl, w1, w2, w3⟩ := hw
  obtain ⟨ca, cc, rfl, c1, c2, c3⟩ := hc
  obtain ⟨r, hr⟩ : ∃ r, wrongI x = r := ⟨_, rfl⟩
  have HWr : Hid (Wrong x r) := Lib.hid (hr ▸ wrong_is x)
  rw [hr]
  clear hr
  generalize hpl : x.parts.length = pl at *
  generalize hwl : x.wins.length = wl at *
  generalize hcl : x.chans.length = cl at *
  have Hpl := Lib.hid hpl
  have Hwl := Lib.hid hwl
  have Hcl := Lib.hid hcl
  have P3 := Lib.hid p3
  have W3 := Lib.hid w3
  have C3 := Lib.hid c3
  unfold maxLen at p2 w2 c2
  clear hpl hwl hcl p3 w3 c3
  have KK : Hid (Keep [] w (w.alloc (.cells #[.slice pa pl pc, .slice wa wl wcp, .slice ca cl cc] 26))) := Lib.hid ((Keep.refl _ _).alloc _)
  have BX := Lib.hid (heap_alloc_new w (.cells #[.slice pa pl pc, .slice wa wl wcp, .slice ca cl cc] 26))
  by_cases h1 : pl < 1
  · obtain rfl := HWr.out.size (by rw [Hpl.out]; exact .inl h1)
    have h1' : (pl : Int) < 1 := by omega
    go_enter Try.func32, Try.ntmps32
    go_wp2_with fail
    go_ret
    exact ⟨rfl, KK.out⟩
  by_cases h2 : 4 < pl
  · obtain rfl := HWr.out.size (by rw [Hpl.out]; exact .inr h2)
    have h1' : ¬ (pl : Int) < 1 := by omega
    have h2' : (4 : Int) < pl := by omega
    go_enter Try.func32, Try.ntmps32
    go_wp2_with fail
    go_ret
    exact ⟨rfl, KK.out⟩
  have HN1 : Hid (¬ (x.parts.length < 1 ∨ 4 < x.parts.length)) := Lib.hid (by rw [Hpl.out]; omega)
  have h1' : ¬ (pl : Int) < 1 := by omega
  have h2' : ¬ (4 : Int) < pl := by omega
  go_enter Try.func32, Try.ntmps32
  go_wp2_with fail
  generalize w.alloc (.cells #[.slice pa pl pc, .slice wa wl wcp, .slice ca cl cc] 26) = w4 at *
  go_loopw [27] (fun c wr => ∃ i : Nat, c = .int .i64 i ∧ i ≤ pl ∧ Keep [] w wr ∧ wr.heap[w.heap.size]? = some (.cells #[.slice pa pl pc, .slice wa wl wcp, .slice ca cl cc] 26 (0, 0)) ∧ ∀ z, z ∈ x.parts.take i → partI z = 0) (fun c _ => pl - (intOf c).toNat)
  case atStart => exact ⟨0, rfl, Nat.zero_le _, KK.out, BX.out, by simp⟩
  case round =>
    obtain ⟨i, rfl, hi, kr, br, hall⟩ := hrel
    have KR := Lib.hid kr
    have BR := Lib.hid br
    have HAll := Lib.hid hall
    clear kr br hall
    obtain ⟨q0, q1, q2⟩ := cells3 BR.out
    by_cases hlt : i < pl
    · have hlt' : (i : Int) < pl := by omega
      obtain ⟨y, hy⟩ := get_of Hpl hlt
      obtain ⟨b, o, cs, rfl, _, _, hl2, hcs, s1, s2, rfl, hs1, hs2⟩ := P3.out i y hy
      have HY := Lib.hid hy
      have e0 := cell_keep KR.out (hcs 0 _ rfl) (by simp)
      have e1 := cell_keep KR.out (hcs 1 _ rfl) (by simp)
      simp only [Nat.add_zero] at e0
      have kA := KR.out
      have HS1 := Lib.hid (hs1.keep kA.size (fun b _ hb => kA.block b hb (by simp)) (fun _ h => h) (fun _ _ _ h => h.kept kA))
      have HS2 := Lib.hid (hs2.kept kA)
      obtain ⟨ta, tc, e1', t1, t2, _⟩ := hs1
      obtain ⟨oa, oc, e2', o1, o2, _⟩ := hs2
      subst e1' e2'
      generalize y.threads.length = tn at *
      generalize y.objs.length = on at *
      clear hy hcs hl2 kA
      go_wp2_with fail
      refine (ref_part HS1.out HS2.out).mono ?_
      rintro e w5 ⟨rfl, k5⟩
      have K5 := Lib.hid (KR.out.trans k5)
      have B5 := Lib.hid (k5.to BR.out (by simp))
      clear k5
      by_cases hz : partI y = 0
      · have HG := Lib.hid (take_grow (P := fun z => partI z = 0) HY.out HAll.out hz)
        rw [hz]
        clear hz
        go_wp2_with fail
        go_roundw
        case rel => exact ⟨i + 1, by go_num, by omega, K5.out, B5.out, HG.out⟩
        case measure => simp [intOf]; omega
      · have HE := Lib.hid (HWr.out.part HN1.out i y HY.out HAll.out hz)
        have hz2 : (partI y == 0) = false := by simpa using hz
        have hz3 : (partI y != 0) = true := by simpa using hz
        generalize partI y = n at *
        clear hz
        go_wp2_with fail
        go_ret
        exact ⟨ret_int HE.out.symm, K5.out⟩
    · have HZ := Lib.hid (take_all (P := fun z => partI z = 0) (by rw [Hpl.out]; omega) HAll.out)
      have HWW : Hid (∀ n, n ≠ 0 → winsI pl x.wins = n → r = n) := Lib.hid (fun n hn he => by rw [← he, ← Hpl.out]; exact HWr.out.wins HN1.out HZ.out (by rw [Hpl.out, he]; exact hn))
      by_cases g1 : wl < 1
      · obtain rfl := HWW.out 6 (by decide) (by unfold winsI; rw [Hwl.out, if_pos (.inl g1)])
        have g1' : (wl : Int) < 1 := by omega
        go_wp2_with fail
        go_ret
        exact ⟨rfl, KR.out⟩
      by_cases g2 : 16 < wl
      · obtain rfl := HWW.out 6 (by decide) (by unfold winsI; rw [Hwl.out, if_pos (.inr g2)])
        have g1' : ¬ (wl : Int) < 1 := by omega
        have g2' : (16 : Int) < wl := by omega
        go_wp2_with fail
        go_ret
        exact ⟨rfl, KR.out⟩
      have HNW : Hid (¬ (x.wins.length < 1 ∨ 16 < x.wins.length)) := Lib.hid (by rw [Hwl.out]; omega)
      have g1' : ¬ (wl : Int) < 1 := by omega
      have g2' : ¬ (16 : Int) < wl := by omega
      go_wp2_with fail
      obtain ⟨wo, rfl⟩ : ∃ wo : World, wo = wr := ⟨_, rfl⟩
      clear q0 q1 q2
      go_loopw [53] (fun c wr => ∃ k : Nat, c = .int .i64 k ∧ k ≤ wl ∧ Keep [] w wr ∧ wr.heap[w.heap.size]? = some (.cells #[.slice pa pl pc, .slice wa wl wcp, .slice ca cl cc] 26 (0, 0)) ∧ ∀ z, z ∈ x.wins.take k → (!winB pl z) = false) (fun c _ => wl - (intOf c).toNat)
      case atStart => exact ⟨0, rfl, Nat.zero_le _, KR.out, BR.out, by simp⟩
      case round =>
        obtain ⟨k, rfl, hk, kq, bq, hallw⟩ := hrel
        have KQ := Lib.hid kq
        have BQ := Lib.hid bq
        have HAW := Lib.hid hallw
        clear kq bq hallw
        obtain ⟨q0, q1, q2⟩ := cells3 BQ.out
        by_cases hkl : k < wl
        · have hkl' : (k : Int) < wl := by omega
          obtain ⟨y, hy⟩ := get_of Hwl hkl
          obtain ⟨b, o, cs, rfl, _, _, hcl, hcs, rfl, _⟩ := W3.out k y hy
          have HY := Lib.hid hy
          have e0 := cell_keep KQ.out (hcs 0 _ rfl) (by simp)
          have e1 := cell_keep KQ.out (hcs 1 _ rfl) (by simp)
          simp only [Nat.add_zero] at e0
          clear hy hcs hcl
          obtain ⟨yp, yt⟩ := y
          simp only at e0 e1
          have kA := (Keep.refl [] wr).alloc (.cells #[.int .i64 yp, .int .i64 yt] 60)
          have KA := Lib.hid (KQ.out.trans kA)
          have BA := Lib.hid (kA.to BQ.out (by simp))
          obtain ⟨f0, f1, f2⟩ := cells3 BA.out
          clear kA
          have HB : Hid (winB pl ⟨yp, yt⟩ = (withB yp 0 ((pl : Int) - 1) && withB yt 1 100)) := Lib.hid rfl
          by_cases b1 : yp < 0
          · obtain rfl := HWW.out 7 (by decide) (winsI_7 HNW.out (any_hit (p := fun x => !winB pl x) HY.out (by rw [HB.out, withB_false (by omega)]; rfl)))
            go_wp2_with fail
            go_ret
            exact ⟨rfl, KA.out⟩
          by_cases b2 : (pl : Int) ≤ yp
          · obtain rfl := HWW.out 7 (by decide) (winsI_7 HNW.out (any_hit (p := fun x => !winB pl x) HY.out (by rw [HB.out, withB_false (by omega)]; rfl)))
            go_wp2_with fail
            go_ret
            exact ⟨rfl, KA.out⟩
          by_cases b3 : yt < 1
          · obtain rfl := HWW.out 7 (by decide) (winsI_7 HNW.out (any_hit (p := fun x => !winB pl x) HY.out (by rw [HB.out, withB_false (n := yt) (by omega)]; simp)))
            go_wp2_with fail
            go_ret
            exact ⟨rfl, KA.out⟩
          by_cases b4 : 100 < yt
          · obtain rfl := HWW.out 7 (by decide) (winsI_7 HNW.out (any_hit (p := fun x => !winB pl x) HY.out (by rw [HB.out, withB_false (n := yt) (by omega)]; simp)))
            go_wp2_with fail
            go_ret
            exact ⟨rfl, KA.out⟩
          have HG := Lib.hid (take_grow (P := fun x => (!winB pl x) = false) HY.out HAW.out (by rw [HB.out, withB_true (by omega), withB_true (by omega)]; rfl))
          go_wp2_with fail
          go_roundw
          case rel => exact ⟨k + 1, by go_num, by omega, KA.out, BA.out, HG.out⟩
          case measure => simp [intOf]; omega
        · have HNB := Lib.hid (any_none (p := fun x => !winB pl x) (take_all (by rw [Hwl.out]; omega) HAW.out))
          go_wp2_with fail
          obtain ⟨wp, rfl⟩ : ∃ wp : World, wp = wr := ⟨_, rfl⟩
          clear q0 q1 q2
          go_loopw [8, 86] (fun s c wr => ∃ k : Nat, c = .int .i64 k ∧ k ≤ pl ∧ Keep [] w wr ∧ wr.heap[w.heap.size]? = some (.cells #[.slice pa pl pc, .slice wa wl wcp, .slice ca cl cc] 26 (0, 0)) ∧ ∀ i : Nat, i < k → x.wins.any (fun x => x.part == (i : Int)) = true) (fun _ c _ => pl - (intOf c).toNat)
          case atStart => exact ⟨0, rfl, Nat.zero_le _, KQ.out, BQ.out, fun i hi => absurd hi (Nat.not_lt_zero _)⟩
          case round =>
            obtain ⟨m, rfl, hm, km, bm, hallm⟩ := hrel
            have KM := Lib.hid km
            have BM := Lib.hid bm
            have HAM := Lib.hid hallm
            clear km bm hallm
            obtain ⟨q0, q1, q2⟩ := cells3 BM.out
            by_cases hml : m < pl
            · have hml' : (m : Int) < pl := by omega
              go_wp2_with fail
              go_loop [8, 92] (fun s c => ∃ k : Nat, c = .int .i64 k ∧ k ≤ wl ∧ s = .bool ((x.wins.take k).any (fun x => x.part == (m : Int)))) (fun _ c => wl - (intOf c).toNat)
              case atStart => exact ⟨0, rfl, Nat.zero_le _, by simp⟩
              case round =>
                obtain ⟨k2, rfl, hk2, rfl⟩ := hrel
                by_cases hk2l : k2 < wl
                · have hk2l' : (k2 : Int) < wl := by omega
                  obtain ⟨y, hy⟩ := get_of Hwl hk2l
                  obtain ⟨b, o, cs, rfl, _, _, hcl, hcs, rfl, _⟩ := W3.out k2 y hy
                  have e0 := cell_keep KM.out (hcs 0 _ rfl) (by simp)
                  simp only [Nat.add_zero] at e0
                  have HT : Hid ((x.wins.take (k2 + 1)).any (fun x => x.part == (m : Int)) = ((x.wins.take k2).any (fun x => x.part == (m : Int)) || (y.part == (m : Int)))) := Lib.hid (by
                    rw [List.take_add_one, hy]
                    simp [List.any_append])
                  clear hy hcs hcl
                  generalize (x.wins.take k2).any (fun x => x.part == (m : Int)) = bb at *
                  cases bb
                  all_goals
                    go_wp2_with fail
                    go_round
                    case rel => exact ⟨k2 + 1, by go_num, by omega, by rw [HT.out]; simp⟩
                    case measure => simp [intOf]; omega
                · have HT : Hid (x.wins.take k2 = x.wins) := Lib.hid (List.take_of_length_le (by rw [Hwl.out]; omega))
                  obtain ⟨bb, hbb⟩ : ∃ bb, x.wins.any (fun x => x.part == (m : Int)) = bb := ⟨_, rfl⟩
                  have HBB := Lib.hid hbb
                  rw [HT.out, hbb]
                  clear hbb
                  cases bb with
                  | false =>
                    obtain rfl := HWW.out 8 (by decide) (winsI_8 HNW.out HNB.out m hml HBB.out)
                    go_wp2_with fail
                    go_ret
                    exact ⟨rfl, KM.out⟩
                  | true =>
                    have HG : Hid (∀ i : Nat, i < m + 1 → x.wins.any (fun x => x.part == (i : Int)) = true) := Lib.hid (fun i hi => by
                      by_cases e : i = m
                      · subst e; exact HBB.out
                      · exact HAM.out i (by omega))
                    go_wp2_with fail
                    go_roundw
                    case rel => exact ⟨m + 1, by go_num, by omega, KM.out, BM.out, HG.out⟩
                    case measure => simp [intOf]; omega
            · have HZ2 : Hid (winsI x.parts.length x.wins = 0) := Lib.hid (by rw [Hpl.out]; exact winsI_0 HNW.out HNB.out (fun i hi => HAM.out i (by omega)))
              by_cases h8 : 8 < cl
              · obtain rfl := HWr.out.many HN1.out HZ.out HZ2.out (by rw [Hcl.out]; exact h8)
                have h8' : (8 : Int) < cl := by omega
                go_wp2_with fail
                go_ret
                exact ⟨rfl, KM.out⟩
              · have HN8 : Hid (¬ 8 < x.chans.length) := Lib.hid (by rw [Hcl.out]; exact h8)
                have h8' : (cl : Int) ≤ 8 := by omega
                go_wp2_with fail
                obtain ⟨wc, rfl⟩ : ∃ wc : World, wc = wr := ⟨_, rfl⟩
                clear q0 q1 q2
                go_loopw [117] (fun c wr => ∃ k : Nat, c = .int .i64 k ∧ k ≤ cl ∧ Keep [] w wr ∧ wr.heap[w.heap.size]? = some (.cells #[.slice pa pl pc, .slice wa wl wcp, .slice ca cl cc] 26 (0, 0)) ∧ ∀ j, j < k → chanI x.parts x.chans j = 0) (fun c _ => cl - (intOf c).toNat)
                case atStart => exact ⟨0, rfl, Nat.zero_le _, KM.out, BM.out, fun j hj => absurd hj (Nat.not_lt_zero _)⟩
                case round =>
                  obtain ⟨i, rfl, hi, kc, bc, hallc⟩ := hrel
                  have KC := Lib.hid kc
                  have BC := Lib.hid bc
                  have HAC := Lib.hid hallc
                  clear kc bc hallc
                  obtain ⟨q0, q1, q2⟩ := cells3 BC.out
                  by_cases hil : i < cl
                  · have hil' : (i : Int) < cl := by omega
                    obtain ⟨y, hy⟩ := get_of Hcl hil
                    have HY := Lib.hid hy
                    have HCh : Hid (∀ n, n ≠ 0 → chanI x.parts x.chans i = n → r = n) := Lib.hid (fun n hn he => by rw [← he]; exact HWr.out.chan HN1.out HZ.out HZ2.out HN8.out i (by rw [Hcl.out]; exact hil) HAC.out (by rw [he]; exact hn))
                    obtain ⟨b, o, cs, rfl, _, _, hcl, hcs, rfl, _⟩ := C3.out i y hy
                    have e0 := cell_keep KC.out (hcs 0 _ rfl) (by simp)
                    have e1 := cell_keep KC.out (hcs 1 _ rfl) (by simp)
                    have e2 := cell_keep KC.out (hcs 2 _ rfl) (by simp)
                    have e3 := cell_keep KC.out (hcs 3 _ rfl) (by simp)
                    simp only [Nat.add_zero] at e0
                    clear hy hcs hcl
                    obtain ⟨y0, y1, y2, y3⟩ := y
                    simp only at e0 e1 e2 e3
                    have kA := (Keep.refl [] wr).alloc (.cells #[.int .i64 y0, .int .i64 y1, .int .i64 y2, .int .i64 y3] 66)
                    have KA := Lib.hid (KC.out.trans kA)
                    have BA := Lib.hid (kA.to BC.out (by simp))
                    have XA := Lib.hid (heap_alloc_new wr (.cells #[.int .i64 y0, .int .i64 y1, .int .i64 y2, .int .i64 y3] 66))
                    obtain ⟨f0, f1, f2⟩ := cells3 BA.out
                    obtain ⟨x0, x1, x2, x3⟩ := cells4 XA.out
                    clear kA
                    obtain ⟨b1, hb1⟩ : ∃ b, endB x.parts y0 y1 6 = b := ⟨_, rfl⟩
                    obtain ⟨b2, hb2⟩ : ∃ b, endB x.parts y2 y3 7 = b := ⟨_, rfl⟩
                    have HB1 := Lib.hid hb1
                    have HB2 := Lib.hid hb2
                    have HBd : Hid (chanBad x.parts ⟨y0, y1, y2, y3⟩ = ((y0 == y2) || !b1 || !b2)) := Lib.hid (by rw [← hb1, ← hb2]; rfl)
                    clear hb1 hb2
                    go_wp2_with fail
                    refine (ref_end (HP1.out _ KA.out) _ _ _).mono ?_
                    rintro e w3 ⟨rfl, k3⟩
                    rw [HB1.out]
                    have K3 := Lib.hid (KA.out.trans k3)
                    have B3 := Lib.hid (k3.to BA.out (by simp))
                    have X3 := Lib.hid (k3.to XA.out (by simp))
                    clear k3 q0 q1 q2 x0 x1 x2 x3 f0 f1 f2
                    obtain ⟨q0, q1, q2⟩ := cells3 B3.out
                    obtain ⟨x0, x1, x2, x3⟩ := cells4 X3.out
                    cases b1 with
                    | false =>
                      obtain rfl := HCh.out 10 (by decide) (chanI_bad HY.out (by rw [HBd.out]; simp))
                      go_wp2_with fail
                      go_ret
                      exact ⟨rfl, K3.out⟩
                    | true =>
                      go_wp2_with fail
                      refine (ref_end (HP1.out _ K3.out) _ _ _).mono ?_
                      rintro e w6 ⟨rfl, k6⟩
                      rw [HB2.out]
                      have K6 := Lib.hid (K3.out.trans k6)
                      have B6 := Lib.hid (k6.to B3.out (by simp))
                      have X6 := Lib.hid (k6.to X3.out (by simp))
                      clear k6 q0 q1 q2 x0 x1 x2 x3
                      obtain ⟨q0, q1, q2⟩ := cells3 B6.out
                      obtain ⟨x0, x1, x2, x3⟩ := cells4 X6.out
                      cases b2 with
                      | false =>
                        obtain rfl := HCh.out 10 (by decide) (chanI_bad HY.out (by rw [HBd.out]; simp))
                        go_wp2_with fail
                        go_ret
                        exact ⟨rfl, K6.out⟩
                      | true =>
                        by_cases hs : y0 = y2
                        · have hd : (y0 == y2) = true := by simpa using hs
                          obtain rfl := HCh.out 10 (by decide) (chanI_bad HY.out (by rw [HBd.out, hd]; rfl))
                          clear hs
                          go_wp2_with fail
                          go_ret
                          exact ⟨rfl, K6.out⟩
                        · have hd : (y0 == y2) = false := by simpa using hs
                          have HBf : Hid (chanBad x.parts ⟨y0, y1, y2, y3⟩ = false) := Lib.hid (by rw [HBd.out, hd]; rfl)
                          have HI : Hid (r = r) := Lib.hid rfl
                          clear hs
                          go_wp2_with fail
                          have hxs := lt_of_block X6.out
                          obtain ⟨wd, rfl⟩ : ∃ wd : World, wd = wr := ⟨_, rfl⟩
                          clear q0 q1 q2 x0 x1 x2 x3
                          go_loopw [149] (fun c wr => ∃ k : Nat, c = .int .i64 k ∧ k ≤ i ∧ Keep [] w wr ∧ wr.heap[w.heap.size]? = some (.cells #[.slice pa pl pc, .slice wa wl wcp, .slice (some ⟨b, o, none⟩) cl cc] 26 (0, 0)) ∧ wr.heap[wd.heap.size]? = some (.cells #[.int .i64 y0, .int .i64 y1, .int .i64 y2, .int .i64 y3] 66 (0, 0)) ∧ ∀ z, z ∈ (x.chans.take i).take k → clash ⟨y0, y1, y2, y3⟩ z = false) (fun c _ => i - (intOf c).toNat)
                          case atStart => exact ⟨0, rfl, Nat.zero_le _, K6.out, B6.out, X6.out, by simp⟩
                          case round =>
                            obtain ⟨k, rfl, hk, kr2, br2, xr2, hall2⟩ := hrel
                            have KR2 := Lib.hid kr2
                            have BR2 := Lib.hid br2
                            have XR2 := Lib.hid xr2
                            have HA2 := Lib.hid hall2
                            clear kr2 br2 xr2 hall2
                            by_cases hki : k < i
                            · have hki' : (k : Int) < i := by omega
                              obtain ⟨q0, q1, q2⟩ := cells3 BR2.out
                              obtain ⟨z, hz⟩ := get_of Hcl (show k < cl by omega)
                              obtain ⟨b', o', cs, hbo, _, _, hl4, hcs, rfl, _⟩ := C3.out k z hz
                              have hbo1 : b' = b ∧ o' = o := by cases hbo; exact ⟨rfl, rfl⟩
                              obtain ⟨rfl, rfl⟩ := hbo1
                              have HZk : Hid ((x.chans.take i)[k]? = some z) := Lib.hid (by rw [List.getElem?_take, if_pos hki]; exact hz)
                              have e0 := cell_keep KR2.out (hcs 0 _ rfl) (by simp)
                              have e1 := cell_keep KR2.out (hcs 1 _ rfl) (by simp)
                              have e2 := cell_keep KR2.out (hcs 2 _ rfl) (by simp)
                              have e3 := cell_keep KR2.out (hcs 3 _ rfl) (by simp)
                              simp only [Nat.add_zero] at e0
                              clear hz hcs hbo hl4
                              obtain ⟨z0, z1, z2, z3⟩ := z
                              simp only at e0 e1 e2 e3
                              have kA := (Keep.refl [] wr).alloc (.cells #[.int .i64 z0, .int .i64 z1, .int .i64 z2, .int .i64 z3] 66)
                              have KA2 := Lib.hid (KR2.out.trans kA)
                              have BA2 := Lib.hid (kA.to BR2.out (by simp))
                              have XA2 := Lib.hid (kA.to XR2.out (by simp))
                              obtain ⟨x0, x1, x2, x3⟩ := cells4 XA2.out
                              clear kA
                              have HC : Hid (clash ⟨y0, y1, y2, y3⟩ ⟨z0, z1, z2, z3⟩ = (((y0 == z0) && (y1 == z1)) || ((y2 == z2) && (y3 == z3)))) := Lib.hid rfl
                              by_cases f0 : y0 = z0 ∧ y1 = z1
                              · have g0 : (y0 == z0) = true := by simpa using f0.1
                                have g1 : (y1 == z1) = true := by simpa using f0.2
                                obtain rfl := HCh.out 11 (by decide) (chanI_clash HY.out HBf.out (any_hit HZk.out (by rw [HC.out, g0, g1]; rfl)))
                                clear f0
                                go_wp2_with fail
                                go_ret
                                exact ⟨rfl, KA2.out⟩
                              · by_cases f1 : y2 = z2 ∧ y3 = z3
                                · have g2 : (y2 == z2) = true := by simpa using f1.1
                                  have g3 : (y3 == z3) = true := by simpa using f1.2
                                  obtain rfl := HCh.out 11 (by decide) (chanI_clash HY.out HBf.out (any_hit HZk.out (by rw [HC.out, g2, g3]; simp)))
                                  clear f1
                                  by_cases f2 : y0 = z0
                                  · have g0 : (y0 == z0) = true := by simpa using f2
                                    have g1 : (y1 == z1) = false := by simp; exact fun h => f0 ⟨f2, h⟩
                                    clear f0 f2
                                    go_wp2_with fail
                                    go_ret
                                    exact ⟨rfl, KA2.out⟩
                                  · have g0 : (y0 == z0) = false := by simpa using f2
                                    clear f0 f2
                                    go_wp2_with fail
                                    go_ret
                                    exact ⟨rfl, KA2.out⟩
                                · have hno : Hid (clash ⟨y0, y1, y2, y3⟩ ⟨z0, z1, z2, z3⟩ = false) := Lib.hid (by
                                    rw [HC.out]
                                    simp only [Bool.or_eq_false_iff, Bool.and_eq_false_iff, beq_eq_false_iff_ne]
                                    refine ⟨?_, ?_⟩
                                    · by_cases h : y0 = z0
                                      · exact .inr (fun h2 => f0 ⟨h, h2⟩)
                                      · exact .inl h
                                    · by_cases h : y2 = z2
                                      · exact .inr (fun h2 => f1 ⟨h, h2⟩)
                                      · exact .inl h)
                                  have HG := Lib.hid (take_grow (P := fun z => clash ⟨y0, y1, y2, y3⟩ z = false) HZk.out HA2.out hno.out)
                                  have T0 : (y0 == z0) = false ∨ ((y0 == z0) = true ∧ (y1 == z1) = false) := by
                                    by_cases h : y0 = z0
                                    · exact .inr ⟨by simpa using h, by simp; exact fun h2 => f0 ⟨h, h2⟩⟩
                                    · exact .inl (by simpa using h)
                                  have T1 : (y2 == z2) = false ∨ ((y2 == z2) = true ∧ (y3 == z3) = false) := by
                                    by_cases h : y2 = z2
                                    · exact .inr ⟨by simpa using h, by simp; exact fun h2 => f1 ⟨h, h2⟩⟩
                                    · exact .inl (by simpa using h)
                                  clear f0 f1
                                  rcases T0 with g0 | ⟨g0, g1⟩ <;> rcases T1 with g2 | ⟨g2, g3⟩
                                  all_goals
                                    go_wp2_with fail
                                    go_roundw
                                    case rel => exact ⟨k + 1, by go_num, by omega, KA2.out, BA2.out, XA2.out, HG.out⟩
                                    case measure => simp [intOf]; omega
                            · have HE := Lib.hid (any_none (p := clash ⟨y0, y1, y2, y3⟩) (take_all (i := k) (by rw [List.length_take]; omega) HA2.out))
                              have HG : Hid (∀ j, j < i + 1 → chanI x.parts x.chans j = 0) := Lib.hid (fun j hj => by
                                by_cases e : j = i
                                · subst e; exact chanI_fine HY.out HBf.out HE.out
                                · exact HAC.out j (by omega))
                              go_wp2_with fail
                              go_roundw
                              case rel => exact ⟨i + 1, by go_num, by omega, KR2.out, BR2.out, HG.out⟩
                              case measure => simp [intOf]; omega
                  · obtain rfl := HWr.out.fine HN1.out HZ.out HZ2.out HN8.out (fun j hj => HAC.out j (by rw [Hcl.out] at hj; omega))
                    go_wp2_with fail
                    go_ret
                    exact ⟨rfl, KC.out⟩
end Valid
end Go.Proofs.Ytkmpajdiedpfhaa
