/- The contract of same, of what is alike. No conditions but those stated. -/
import Derived.Test.YtkmpajdiedpfhaaSame2
namespace Go.Proofs.Ytkmpajdiedpfhaa
open Go.ChangeShapes Go.WideShapes Go.ChangeAt Go.RowKit
set_option linter.unusedVariables false
set_option linter.unusedSimpArgs false
namespace Same
set_option maxHeartbeats 4000000 in
set_option maxRecDepth 100000 in
theorem same_conf {B B' : Nat → Prop} {w : World} {x : ConfD} {v u : Value} (h : ConfRep B w x v) (k : ConfRep B' w x u) :
    Calls Try.prog 27 #[v, u] w fun e w' => e = .returned (.bool true) ∧ Keep [] w w' := by
  obtain ⟨v1, v2, v3, rfl, hp, hw, hc⟩ := h
  obtain ⟨u1, u2, u3, rfl, kp, kw, kc⟩ := k
  obtain ⟨pa, pc, rfl, p1, p2, p3⟩ := hp
  obtain ⟨wa, wcp, rfl, w1, w2, w3⟩ := hw
  obtain ⟨ca, cc, rfl, c1, c2, c3⟩ := hc
  obtain ⟨qa, qc, rfl, q1, q2, q3⟩ := kp
  obtain ⟨xa, xc, rfl, x1, x2, x3⟩ := kw
  obtain ⟨da, dc, rfl, d1, d2, d3⟩ := kc
  obtain ⟨ps, ws, cs⟩ := x
  simp only at p1 p2 p3 w1 w2 w3 c1 c2 c3 q1 q2 q3 x1 x2 x3 d1 d2 d3
  generalize hpn : ps.length = pn at *
  generalize hwn : ws.length = wn at *
  generalize hcn : cs.length = cn at *
  have Hpn := Lib.hid hpn
  have Hwn := Lib.hid hwn
  have Hcn := Lib.hid hcn
  have P3 := Lib.hid p3
  have W3 := Lib.hid w3
  have C3 := Lib.hid c3
  have Q3 := Lib.hid q3
  have X3 := Lib.hid x3
  have D3 := Lib.hid d3
  unfold maxLen at p2 w2 c2 q2 x2 d2
  clear hpn hwn hcn p3 w3 c3 q3 x3 d3
  have KK : Hid (Keep [] w ((w.alloc (.cells #[.slice pa pn pc, .slice wa wn wcp, .slice ca cn cc] 26)).alloc (.cells #[.slice qa pn qc, .slice xa wn xc, .slice da cn dc] 26))) := Lib.hid (((Keep.refl _ _).alloc _).alloc _)
  have BX := Lib.hid (two_fst w (.cells #[.slice pa pn pc, .slice wa wn wcp, .slice ca cn cc] 26) (.cells #[.slice qa pn qc, .slice xa wn xc, .slice da cn dc] 26))
  have BY := Lib.hid (two_snd w (.cells #[.slice pa pn pc, .slice wa wn wcp, .slice ca cn cc] 26) (.cells #[.slice qa pn qc, .slice xa wn xc, .slice da cn dc] 26))
  go_enter Try.func27, Try.ntmps27
  go_wp2_with fail
  generalize (w.alloc (.cells #[.slice pa pn pc, .slice wa wn wcp, .slice ca cn cc] 26)).alloc (.cells #[.slice qa pn qc, .slice xa wn xc, .slice da cn dc] 26) = w0 at *
  go_loopw [36] (fun c wr => ∃ k : Nat, c = .int .i64 k ∧ k ≤ wn ∧ Keep [] w0 wr) (fun c _ => wn - (intOf c).toNat)
  case atStart => exact ⟨0, rfl, Nat.zero_le _, Keep.refl _ _⟩
  case round =>
    obtain ⟨k, rfl, hk, kr⟩ := hrel
    have KR := Lib.hid kr
    have KW := Lib.hid (KK.out.trans kr)
    clear kr
    obtain ⟨e0, e1, e2⟩ := cells3 (KR.out.to BX.out (by simp))
    obtain ⟨f0, f1, f2⟩ := cells3 (KR.out.to BY.out (by simp))
    by_cases hkl : k < wn
    · have hkl' : (k : Int) < wn := by omega
      obtain ⟨y, hy⟩ := get_of Hwn hkl
      obtain ⟨b, o, ys, rfl, _, _, _, hc, rfl, _⟩ := W3.out k y hy
      obtain ⟨b2, o2, zs, rfl, _, _, _, hc2, rfl, _⟩ := X3.out k y hy
      obtain ⟨y0, y1⟩ := y
      have g0 := cell_keep KW.out (hc 0 _ rfl) (by simp)
      have g1 := cell_keep KW.out (hc 1 _ rfl) (by simp)
      have h0 := cell_keep KW.out (hc2 0 _ rfl) (by simp)
      have h1 := cell_keep KW.out (hc2 1 _ rfl) (by simp)
      simp only [Nat.add_zero] at g0 g1 h0 h1
      clear hy hc hc2
      have d0 : (y0 == y0) = true := by simp
      have d1 : (y1 == y1) = true := by simp
      go_wp2_with fail
      go_quiet (fail)
      go_wp2_with fail
      go_roundw
      case rel => exact ⟨k + 1, by go_num, by omega, KR.out.drewN _⟩
      case measure => simp [intOf]; omega
    · go_wp2_with fail
      obtain ⟨wo, rfl⟩ : ∃ wo : World, wo = wr := ⟨_, rfl⟩
      clear e0 e1 e2 f0 f1 f2
      go_loopw [54] (fun c wr => ∃ k : Nat, c = .int .i64 k ∧ k ≤ cn ∧ Keep [] w0 wr) (fun c _ => cn - (intOf c).toNat)
      case atStart => exact ⟨0, rfl, Nat.zero_le _, KR.out⟩
      case round =>
        obtain ⟨k, rfl, hk, kr⟩ := hrel
        have KR := Lib.hid kr
        have KW := Lib.hid (KK.out.trans kr)
        clear kr
        obtain ⟨e0, e1, e2⟩ := cells3 (KR.out.to BX.out (by simp))
        obtain ⟨f0, f1, f2⟩ := cells3 (KR.out.to BY.out (by simp))
        by_cases hkl : k < cn
        · have hkl' : (k : Int) < cn := by omega
          obtain ⟨y, hy⟩ := get_of Hcn hkl
          obtain ⟨b, o, ys, rfl, _, _, _, hc, rfl, _⟩ := C3.out k y hy
          obtain ⟨b2, o2, zs, rfl, _, _, _, hc2, rfl, _⟩ := D3.out k y hy
          obtain ⟨y0, y1, y2, y3⟩ := y
          have g0 := cell_keep KW.out (hc 0 _ rfl) (by simp)
          have g1 := cell_keep KW.out (hc 1 _ rfl) (by simp)
          have g2 := cell_keep KW.out (hc 2 _ rfl) (by simp)
          have g3 := cell_keep KW.out (hc 3 _ rfl) (by simp)
          have h0 := cell_keep KW.out (hc2 0 _ rfl) (by simp)
          have h1 := cell_keep KW.out (hc2 1 _ rfl) (by simp)
          have h2 := cell_keep KW.out (hc2 2 _ rfl) (by simp)
          have h3 := cell_keep KW.out (hc2 3 _ rfl) (by simp)
          simp only [Nat.add_zero] at g0 g1 g2 g3 h0 h1 h2 h3
          clear hy hc hc2
          have d0 : (y0 == y0) = true := by simp
          have d1 : (y1 == y1) = true := by simp
          have d2 : (y2 == y2) = true := by simp
          have d3 : (y3 == y3) = true := by simp
          go_wp2_with fail
          go_quiet (fail)
          go_wp2_with fail
          go_roundw
          case rel => exact ⟨k + 1, by go_num, by omega, KR.out.drewN _⟩
          case measure => simp [intOf]; omega
        · go_wp2_with fail
          obtain ⟨wp, rfl⟩ : ∃ wp : World, wp = wr := ⟨_, rfl⟩
          clear e0 e1 e2 f0 f1 f2
          go_loopw [72] (fun c wr => ∃ k : Nat, c = .int .i64 k ∧ k ≤ pn ∧ Keep [] w0 wr) (fun c _ => pn - (intOf c).toNat)
          case atStart => exact ⟨0, rfl, Nat.zero_le _, KR.out⟩
          case round =>
            obtain ⟨k, rfl, hk, kr⟩ := hrel
            have KR := Lib.hid kr
            have KW := Lib.hid (KK.out.trans kr)
            clear kr
            obtain ⟨e0, e1, e2⟩ := cells3 (KR.out.to BX.out (by simp))
            obtain ⟨f0, f1, f2⟩ := cells3 (KR.out.to BY.out (by simp))
            by_cases hkl : k < pn
            · have hkl' : (k : Int) < pn := by omega
              obtain ⟨y, hy⟩ := get_of Hpn hkl
              obtain ⟨b, o, ys, rfl, _, _, _, hc, s1, s2, rfl, hs1, hs2⟩ := P3.out k y hy
              obtain ⟨b2, o2, zs, rfl, _, _, _, hc2, t1, t2, rfl, ht1, ht2⟩ := Q3.out k y hy
              have g0 := cell_keep KW.out (hc 0 _ rfl) (by simp)
              have g1 := cell_keep KW.out (hc 1 _ rfl) (by simp)
              have h0 := cell_keep KW.out (hc2 0 _ rfl) (by simp)
              have h1 := cell_keep KW.out (hc2 1 _ rfl) (by simp)
              simp only [Nat.add_zero] at g0 h0
              have kd := KW.out.drew
              have HS1 := Lib.hid (hs1.keep kd.size (fun b _ hb => kd.block b hb (by simp)) (fun _ h => h) (fun _ _ _ h => h.kept kd))
              have HS2 := Lib.hid (hs2.kept kd)
              have HT1 := Lib.hid (ht1.keep kd.size (fun b _ hb => kd.block b hb (by simp)) (fun _ h => h) (fun _ _ _ h => h.kept kd))
              have HT2 := Lib.hid (ht2.kept kd)
              clear hy hc hc2 hs1 hs2 ht1 ht2 kd
              go_wp2_with fail
              go_region_held3 (fun w' => w'.cell? ⟨w.heap.size, 0, none⟩ = some (.slice (some ⟨b, o, none⟩) pn pc) ∧ w'.cell? ⟨w.heap.size + 1, 0, none⟩ = some (.slice (some ⟨b2, o2, none⟩) pn qc) ∧ w'.cell? ⟨b, o + k * 2, none⟩ = some s1 ∧ w'.cell? ⟨b, o + k * 2 + 1, none⟩ = some s2 ∧ w'.cell? ⟨b2, o2 + k * 2, none⟩ = some t1 ∧ w'.cell? ⟨b2, o2 + k * 2 + 1, none⟩ = some t2)
                (first | go_keep | exact ⟨cell_keep K5.out e0 (by simp), cell_keep K5.out f0 (by simp), cell_keep K5.out g0 (by simp), cell_keep K5.out g1 (by simp), cell_keep K5.out h0 (by simp), cell_keep K5.out h1 (by simp)⟩)
                (first
                  | (go_at_call 44; ((with_reducible refine (same_part HS1.out HS2.out HT1.out HT2.out).mono ?_); rintro e w5 ⟨rfl, k5⟩; have K5 := Lib.hid ((Keep.refl [] wr).drew.trans k5); clear k5)))
              go_wp2_with fail
              go_roundw
              case rel => exact ⟨k + 1, by go_num, by omega, by first | exact KR.out.trans K5.out | exact KR.out.trans (K5.out.drewN _)⟩
              case measure => simp [intOf]; omega
            · go_wp2_with fail
              go_ret
              exact ⟨rfl, KW.out⟩
end Same
end Go.Proofs.Ytkmpajdiedpfhaa
