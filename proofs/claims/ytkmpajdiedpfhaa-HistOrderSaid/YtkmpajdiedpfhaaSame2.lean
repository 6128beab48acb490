/- The contracts of samePart and same, of what is alike. No conditions but those stated. -/
import Derived.Test.YtkmpajdiedpfhaaSame
import Derived.RegionTactic
import Derived.Deep.CutRange
import Derived.Deep.DeepCutAuto
import Derived.Deep.RegionHeld3
namespace Go.Proofs.Ytkmpajdiedpfhaa
open Go.ChangeShapes Go.WideShapes Go.ChangeAt Go.RowKit
set_option linter.unusedVariables false
set_option linter.unusedSimpArgs false
namespace Same
theorem sameC_refl (x : CallD) : sameC x x = true := by simp [sameC]
theorem same_call' {B B' : Nat → Prop} {w : World} {x : CallD} {v u : Value} (h1 : CallRep B w x [.int .i64 x.k, .int .i64 x.h, .int .i64 x.a, .int .i64 x.b, v, .int .i64 x.t]) (h2 : CallRep B' w x [.int .i64 x.k, .int .i64 x.h, .int .i64 x.a, .int .i64 x.b, u, .int .i64 x.t]) :
    Calls Try.prog 38 #[.agg #[.int .i64 x.k, .int .i64 x.h, .int .i64 x.a, .int .i64 x.b, v, .int .i64 x.t], .agg #[.int .i64 x.k, .int .i64 x.h, .int .i64 x.a, .int .i64 x.b, u, .int .i64 x.t]] w fun e w' => e = .returned (.bool true) ∧ Keep [] w w' := by
  have := same_call h1 h2
  rw [sameC_refl] at this
  exact this
set_option maxHeartbeats 4000000 in
set_option maxRecDepth 100000 in
theorem same_part {B B' : Nat → Prop} {w : World} {x : PartD} {v1 v2 u1 u2 : Value} (h1 : SlD B w 4 (ThreadRep B w) v1 x.threads) (h2 : SlD B w 3 ObjRep v2 x.objs) (k1 : SlD B' w 4 (ThreadRep B' w) u1 x.threads) (k2 : SlD B' w 3 ObjRep u2 x.objs) :
    Calls Try.prog 44 #[.agg #[v1, v2], .agg #[u1, u2]] w fun e w' => e = .returned (.bool true) ∧ Keep [] w w' := by
  obtain ⟨ta, tc, rfl, t1, t2, t3⟩ := h1
  obtain ⟨oa, oc, rfl, o1, o2, o3⟩ := h2
  obtain ⟨sa, sc, rfl, s1, s2, s3⟩ := k1
  obtain ⟨pa, pc, rfl, p1, p2, p3⟩ := k2
  generalize x.threads = ts at *
  generalize x.objs = os at *
  generalize htn : ts.length = tn at *
  generalize hon : os.length = on at *
  have Htn := Lib.hid htn
  have Hon := Lib.hid hon
  have T3 := Lib.hid t3
  have O3 := Lib.hid o3
  have S3 := Lib.hid s3
  have P3 := Lib.hid p3
  unfold maxLen at t2 o2 s2 p2
  clear htn hon t3 o3 s3 p3
  have KK : Hid (Keep [] w ((w.alloc (.cells #[.slice ta tn tc, .slice oa on oc] 54)).alloc (.cells #[.slice sa tn sc, .slice pa on pc] 54))) := Lib.hid (((Keep.refl _ _).alloc _).alloc _)
  have BX := Lib.hid (two_fst w (.cells #[.slice ta tn tc, .slice oa on oc] 54) (.cells #[.slice sa tn sc, .slice pa on pc] 54))
  have BY := Lib.hid (two_snd w (.cells #[.slice ta tn tc, .slice oa on oc] 54) (.cells #[.slice sa tn sc, .slice pa on pc] 54))
  go_enter Try.func44, Try.ntmps44
  go_wp2_with fail
  generalize (w.alloc (.cells #[.slice ta tn tc, .slice oa on oc] 54)).alloc (.cells #[.slice sa tn sc, .slice pa on pc] 54) = w2 at *
  go_loopw [29] (fun c wr => ∃ k : Nat, c = .int .i64 k ∧ k ≤ on ∧ Keep [] w2 wr) (fun c _ => on - (intOf c).toNat)
  case atStart => exact ⟨0, rfl, Nat.zero_le _, Keep.refl _ _⟩
  case round =>
    obtain ⟨k, rfl, hk, kr⟩ := hrel
    have KR := Lib.hid kr
    have KW := Lib.hid (KK.out.trans kr)
    clear kr
    obtain ⟨q0, q1⟩ := cells2 (KR.out.to BX.out (by simp))
    obtain ⟨r0, r1⟩ := cells2 (KR.out.to BY.out (by simp))
    by_cases hkl : k < on
    · have hkl' : (k : Int) < on := by omega
      obtain ⟨y, hy⟩ := get_of Hon hkl
      obtain ⟨b, o, cs, rfl, _, _, _, hc, rfl, _⟩ := O3.out k y hy
      obtain ⟨b2, o2, cs2, rfl, _, _, _, hc2, rfl, _⟩ := P3.out k y hy
      obtain ⟨y0, y1, y2⟩ := y
      have g0 := cell_keep KW.out (hc 0 _ rfl) (by simp)
      have g1 := cell_keep KW.out (hc 1 _ rfl) (by simp)
      have g2 := cell_keep KW.out (hc 2 _ rfl) (by simp)
      have f0 := cell_keep KW.out (hc2 0 _ rfl) (by simp)
      have f1 := cell_keep KW.out (hc2 1 _ rfl) (by simp)
      have f2 := cell_keep KW.out (hc2 2 _ rfl) (by simp)
      simp only [Nat.add_zero] at g0 g1 g2 f0 f1 f2
      clear hy hc hc2
      have d0 : (y0 == y0) = true := by simp
      have d1 : (y1 == y1) = true := by simp
      have d2 : (y2 == y2) = true := by simp
      go_wp2_with fail
      go_quiet (fail)
      go_wp2_with fail
      go_roundw
      case rel => exact ⟨k + 1, by go_num, by omega, KR.out.drewN _⟩
      case measure => simp [intOf]; omega
    · go_wp2_with fail
      obtain ⟨wo, rfl⟩ : ∃ wo : World, wo = wr := ⟨_, rfl⟩
      clear q0 q1 r0 r1
      go_loopw [47] (fun c wr => ∃ k : Nat, c = .int .i64 k ∧ k ≤ tn ∧ Keep [] w2 wr) (fun c _ => tn - (intOf c).toNat)
      case atStart => exact ⟨0, rfl, Nat.zero_le _, KR.out⟩
      case round =>
        obtain ⟨i, rfl, hi, kq⟩ := hrel
        have KQ := Lib.hid kq
        have KV := Lib.hid (KK.out.trans kq)
        clear kq
        have BXQ := Lib.hid (KQ.out.to BX.out (by simp))
        have BYQ := Lib.hid (KQ.out.to BY.out (by simp))
        obtain ⟨q0, q1⟩ := cells2 BXQ.out
        obtain ⟨r0, r1⟩ := cells2 BYQ.out
        by_cases hil : i < tn
        · have hil' : (i : Int) < tn := by omega
          obtain ⟨y, hy⟩ := get_of Htn hil
          obtain ⟨b, o, cs, rfl, _, _, _, hc, pv, rfl, _, _, hpg, _⟩ := T3.out i y hy
          obtain ⟨b2, o2, cs2, rfl, _, _, _, hc2, pu, rfl, _, _, hpg2, _⟩ := S3.out i y hy
          have g0 := cell_keep KV.out (hc 0 _ rfl) (by simp)
          have g1 := cell_keep KV.out (hc 1 _ rfl) (by simp)
          have g2 := cell_keep KV.out (hc 2 _ rfl) (by simp)
          have g3 := cell_keep KV.out (hc 3 _ rfl) (by simp)
          have f0 := cell_keep KV.out (hc2 0 _ rfl) (by simp)
          have f1 := cell_keep KV.out (hc2 1 _ rfl) (by simp)
          have f2 := cell_keep KV.out (hc2 2 _ rfl) (by simp)
          have f3 := cell_keep KV.out (hc2 3 _ rfl) (by simp)
          simp only [Nat.add_zero] at g0 f0
          clear hy hc hc2
          obtain ⟨y0, y1, y2, y3⟩ := y
          simp only at g0 g1 g2 g3 f0 f1 f2 f3 hpg hpg2
          obtain ⟨qa, qc, rfl, w1, w2', w3⟩ := hpg
          obtain ⟨za, zc, rfl, z1, z2, z3⟩ := hpg2
          generalize hpn : y3.length = pn at *
          have Hpn := Lib.hid hpn
          have W3 := Lib.hid w3
          have Z3 := Lib.hid z3
          unfold maxLen at w2' z2
          clear hpn w3 z3
          have d0 : (y0 == y0) = true := by simp
          have d1 : (y1 == y1) = true := by simp
          have d2 : (y2 == y2) = true := by simp
          have d0' : (y0 != y0) = false := by simp
          have d1' : (y1 != y1) = false := by simp
          have d2' : (y2 != y2) = false := by simp
          have KB : Hid (Keep [] wr ((wr.alloc (.cells #[.int .i64 y0, .int .u32 y1, .bool y2, .slice qa pn qc] 58)).alloc (.cells #[.int .i64 y0, .int .u32 y1, .bool y2, .slice za pn zc] 58))) := Lib.hid (((Keep.refl _ _).alloc _).alloc _)
          go_upto_region 12 with fail
          go_cut [7, 8] (fun s7 s8 wx => ∃ g1 g2 : Nat, s7 = .pointer (some ⟨g1, 0, none⟩) ∧ s8 = .pointer (some ⟨g2, 0, none⟩) ∧ Keep [] wr wx ∧ wx.heap[g1]? = some (.cells #[.int .i64 y0, .int .u32 y1, .bool y2, .slice qa pn qc] 58 (0, 0)) ∧ wx.heap[g2]? = some (.cells #[.int .i64 y0, .int .u32 y1, .bool y2, .slice za pn zc] 58 (0, 0)))
          case first =>
            have hne1 : b ≠ wr.heap.size := fun e => by have := World.block_lt_of_cell? wr _ g0; simp at this; omega
            have hne2 : b2 ≠ wr.heap.size := fun e => by have := World.block_lt_of_cell? wr _ f0; simp at this; omega
            go_region_held3 (fun w' => w'.cell? ⟨w.heap.size, 0, none⟩ = some (.slice (some ⟨b, o, none⟩) tn tc) ∧ w'.cell? ⟨w.heap.size + 1, 0, none⟩ = some (.slice (some ⟨b2, o2, none⟩) tn sc) ∧ w'.cell? ⟨b, o + i * 4, none⟩ = some (.int .i64 y0) ∧ w'.cell? ⟨b, o + i * 4 + 1, none⟩ = some (.int .u32 y1) ∧ w'.cell? ⟨b, o + i * 4 + 2, none⟩ = some (.bool y2) ∧ w'.cell? ⟨b, o + i * 4 + 3, none⟩ = some (.slice qa pn qc) ∧ w'.cell? ⟨b2, o2 + i * 4, none⟩ = some (.int .i64 y0) ∧ w'.cell? ⟨b2, o2 + i * 4 + 1, none⟩ = some (.int .u32 y1) ∧ w'.cell? ⟨b2, o2 + i * 4 + 2, none⟩ = some (.bool y2) ∧ w'.cell? ⟨b2, o2 + i * 4 + 3, none⟩ = some (.slice za pn zc)) (go_keep) (fail)
            all_goals
              go_wp2_with fail
              go_meet
              first
                | exact ⟨_, _, rfl, rfl, (((Keep.refl [] wr).alloc _).alloc _).drew, two_fst wr _ _, two_snd wr _ _⟩
                | exact ⟨_, _, rfl, rfl, (((Keep.refl [] wr).alloc _).alloc _).drew, two_snd wr _ _, two_fst wr _ _⟩
          case rest =>
            obtain ⟨ga, gb, rfl, rfl, kx, hx1, hx2⟩ := hcut
            have KX := Lib.hid (KQ.out.trans kx)
            have HX1 := Lib.hid hx1
            have HX2 := Lib.hid hx2
            clear kx hx1 hx2 q0 q1 r0 r1
            obtain ⟨e0, e1, e2, e3⟩ := cells4 HX1.out
            obtain ⟨f0, f1, f2, f3⟩ := cells4 HX2.out
            go_wp2_with fail
            obtain ⟨wp, rfl⟩ : ∃ wp : World, wp = wr := ⟨_, rfl⟩
            clear e0 e1 e2 e3 f0 f1 f2 f3
            go_loopw [91] (fun c wr => ∃ k : Nat, c = .int .i64 k ∧ k ≤ pn ∧ Keep [] w2 wr ∧ wr.heap[ga]? = some (.cells #[.int .i64 y0, .int .u32 y1, .bool y2, .slice qa pn qc] 58 (0, 0)) ∧ wr.heap[gb]? = some (.cells #[.int .i64 y0, .int .u32 y1, .bool y2, .slice za pn zc] 58 (0, 0))) (fun c _ => pn - (intOf c).toNat)
            case atStart => exact ⟨0, rfl, Nat.zero_le _, KX.out, HX1.out, HX2.out⟩
            case round =>
              obtain ⟨k, rfl, hk, kz, hz1, hz2⟩ := hrel
              have KZ := Lib.hid kz
              have KZW := Lib.hid (KK.out.trans kz)
              have HZ1 := Lib.hid hz1
              have HZ2 := Lib.hid hz2
              clear kz hz1 hz2
              obtain ⟨_, _, _, e3⟩ := cells4 HZ1.out
              obtain ⟨_, _, _, f3⟩ := cells4 HZ2.out
              by_cases hkl : k < pn
              · have hkl' : (k : Int) < pn := by omega
                obtain ⟨c, hc0⟩ := get_of Hpn hkl
                obtain ⟨b3, o3, cs3, rfl, _, _, _, hc3, hrep⟩ := W3.out k c hc0
                obtain ⟨b4, o4, cs4, rfl, _, _, _, hc4, hrep2⟩ := Z3.out k c hc0
                have HRep := Lib.hid (hrep.kept KZW.out.drew)
                have HRep2 := Lib.hid (hrep2.kept KZW.out.drew)
                obtain ⟨wv, rfl, _⟩ := hrep
                obtain ⟨wu, rfl, _⟩ := hrep2
                have m0 := cell_keep KZW.out (hc3 0 _ rfl) (by simp)
                have m1 := cell_keep KZW.out (hc3 1 _ rfl) (by simp)
                have m2 := cell_keep KZW.out (hc3 2 _ rfl) (by simp)
                have m3 := cell_keep KZW.out (hc3 3 _ rfl) (by simp)
                have m4 := cell_keep KZW.out (hc3 4 _ rfl) (by simp)
                have m5 := cell_keep KZW.out (hc3 5 _ rfl) (by simp)
                have n0 := cell_keep KZW.out (hc4 0 _ rfl) (by simp)
                have n1 := cell_keep KZW.out (hc4 1 _ rfl) (by simp)
                have n2 := cell_keep KZW.out (hc4 2 _ rfl) (by simp)
                have n3 := cell_keep KZW.out (hc4 3 _ rfl) (by simp)
                have n4 := cell_keep KZW.out (hc4 4 _ rfl) (by simp)
                have n5 := cell_keep KZW.out (hc4 5 _ rfl) (by simp)
                simp only [Nat.add_zero] at m0 n0
                clear hc3 hc4 hc0
                go_wp2_with fail
                go_region_held3 (fun w' => w'.cell? ⟨ga, 3, none⟩ = some (.slice (some ⟨b3, o3, none⟩) pn qc) ∧ w'.cell? ⟨gb, 3, none⟩ = some (.slice (some ⟨b4, o4, none⟩) pn zc) ∧ w'.cell? ⟨b3, o3 + k * 6, none⟩ = some (.int .i64 c.k) ∧ w'.cell? ⟨b3, o3 + k * 6 + 1, none⟩ = some (.int .i64 c.h) ∧ w'.cell? ⟨b3, o3 + k * 6 + 2, none⟩ = some (.int .i64 c.a) ∧ w'.cell? ⟨b3, o3 + k * 6 + 3, none⟩ = some (.int .i64 c.b) ∧ w'.cell? ⟨b3, o3 + k * 6 + 4, none⟩ = some wv ∧ w'.cell? ⟨b3, o3 + k * 6 + 5, none⟩ = some (.int .i64 c.t) ∧
                    w'.cell? ⟨b4, o4 + k * 6, none⟩ = some (.int .i64 c.k) ∧ w'.cell? ⟨b4, o4 + k * 6 + 1, none⟩ = some (.int .i64 c.h) ∧ w'.cell? ⟨b4, o4 + k * 6 + 2, none⟩ = some (.int .i64 c.a) ∧ w'.cell? ⟨b4, o4 + k * 6 + 3, none⟩ = some (.int .i64 c.b) ∧ w'.cell? ⟨b4, o4 + k * 6 + 4, none⟩ = some wu ∧ w'.cell? ⟨b4, o4 + k * 6 + 5, none⟩ = some (.int .i64 c.t))
                  (first | go_keep | exact ⟨cell_keep K5.out e3 (by simp), cell_keep K5.out f3 (by simp), cell_keep K5.out m0 (by simp), cell_keep K5.out m1 (by simp), cell_keep K5.out m2 (by simp), cell_keep K5.out m3 (by simp), cell_keep K5.out m4 (by simp), cell_keep K5.out m5 (by simp), cell_keep K5.out n0 (by simp), cell_keep K5.out n1 (by simp), cell_keep K5.out n2 (by simp), cell_keep K5.out n3 (by simp), cell_keep K5.out n4 (by simp), cell_keep K5.out n5 (by simp)⟩)
                  (first
                    | (go_at_call 38; ((with_reducible refine (same_call' HRep.out HRep2.out).mono ?_); rintro e w5 ⟨rfl, k5⟩; have K5 := Lib.hid ((Keep.refl [] wr).drew.trans k5); clear k5)))
                go_wp2_with fail
                go_roundw
                case rel => exact ⟨k + 1, by go_num, by omega, by first | exact KZ.out.trans K5.out | exact KZ.out.trans (K5.out.drewN _), by first | exact K5.out.to HZ1.out (by simp) | exact (K5.out.drewN _).to HZ1.out (by simp), by first | exact K5.out.to HZ2.out (by simp) | exact (K5.out.drewN _).to HZ2.out (by simp)⟩
                case measure => simp [intOf]; omega
              · go_wp2_with fail
                go_roundw
                case rel => exact ⟨i + 1, by go_num, by omega, KZ.out⟩
                case measure => simp [intOf]; omega
        · go_wp2_with fail
          go_ret
          exact ⟨rfl, KV.out⟩
end Same
end Go.Proofs.Ytkmpajdiedpfhaa
