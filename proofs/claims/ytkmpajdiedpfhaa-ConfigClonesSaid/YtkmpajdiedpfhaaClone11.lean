/- The law ConfigClones walked. No conditions. -/
import Derived.Test.YtkmpajdiedpfhaaClone10
import Derived.Test.YtkmpajdiedpfhaaValidLaw
namespace Go.Proofs.Ytkmpajdiedpfhaa
open Go.ChangeShapes Go.WideShapes Go.ChangeAt Go.RowKit
set_option linter.unusedVariables false
set_option linter.unusedSimpArgs false
namespace Clone
open Same Valid
def rng (lo hi : Nat) : List Nat := List.range' lo (hi - lo)
theorem mem_rng {lo hi b : Nat} : b ∈ rng lo hi ↔ lo ≤ b ∧ b < hi := by
  unfold rng
  rw [List.mem_range'_1]
  omega
theorem keep_rng {lo hi : Nat} (w : World) (g i : Nat) (v : Value) (h1 : lo ≤ g) (h2 : g < hi) : Keep (rng lo hi) w (w.setCell ⟨g, i, none⟩ v) := (Keep.refl (rng lo hi) w).setCell (.inr (mem_rng.2 ⟨h1, h2⟩)) v
theorem CRepF.form {w0 w : World} {lo : Nat} {x : ConfD} {v : Value} (h : CRepF w0 lo w x v) : ∃ a1 c1 a2 c2 a3 c3, v = .agg #[.slice a1 x.parts.length c1, .slice a2 x.wins.length c2, .slice a3 x.chans.length c3] ∧
    FreshSl lo w 54 2 (PRepF w0 lo w) (.slice a1 x.parts.length c1) x.parts ∧ FreshSl lo w 60 2 WinRep (.slice a2 x.wins.length c2) x.wins ∧ c1 ≤ maxLen ∧ c2 ≤ maxLen ∧ x.parts.length ≤ c1 ∧ x.wins.length ≤ c2 := by
  obtain ⟨v1, v2, v3, rfl, a, b, c⟩ := h
  obtain ⟨a1, c1, rfl, h1, h2⟩ := a.form
  obtain ⟨a2, c2, rfl, h3, h4⟩ := b.form
  obtain ⟨a3, c3, rfl, _⟩ := c.form
  exact ⟨_, _, _, _, _, _, rfl, a, b, h2, h4, h1, h3⟩
theorem conf_form3 {B : Nat → Prop} {w : World} {x : ConfD} {v : Value} (h : ConfRep B w x v) : ∃ a1 n1 c1 a2 n2 c2 a3 n3 c3, v = .agg #[.slice a1 n1 c1, .slice a2 n2 c2, .slice a3 n3 c3] := by
  obtain ⟨v1, v2, v3, rfl, a, b, c⟩ := h
  obtain ⟨a1, c1, rfl⟩ := a.form
  obtain ⟨a2, c2, rfl⟩ := b.form
  obtain ⟨a3, c3, rfl⟩ := c.form
  exact ⟨_, _, _, _, _, _, _, _, _, rfl⟩
set_option maxHeartbeats 4000000 in
set_option maxRecDepth 100000 in
theorem configClones_walk {w : World} {x : ConfD} {v : Value} (h : ConfRep All w x v) :
    Calls Try.prog 8 #[v] w fun e w' => e = .returned (.bool true) ∧ Keep [] w w' := by
  obtain ⟨v1, v2, v3, rfl, hk⟩ := conf_form h
  have HR := Lib.hid hk
  clear h hk
  have KK : Hid (Keep [] w (w.alloc (.cells #[v1, v2, v3] 26))) := Lib.hid ((Keep.refl _ _).alloc _)
  have BX := Lib.hid (heap_alloc_new w (.cells #[v1, v2, v3] 26))
  go_enter Try.func8, Try.ntmps8
  go_wp2_with fail
  refine (law11_awake _).mono ?_
  rintro e w1 ⟨rfl, k1⟩
  have K1 := Lib.hid (KK.out.trans k1)
  have B1 := Lib.hid (k1.to BX.out (by simp))
  clear k1
  obtain ⟨q0, q1, q2⟩ := cells3 B1.out
  go_wp2_with fail
  refine (law_few2 (HR.out _ K1.out)).mono ?_
  rintro e w2 ⟨r, rfl, hr, k2⟩
  have K2 := Lib.hid (K1.out.trans k2)
  have B2 := Lib.hid (k2.to B1.out (by simp))
  clear k2 q0 q1 q2
  obtain ⟨q0, q1, q2⟩ := cells3 B2.out
  cases r
  · go_wp2_with fail
    refine (law11_awake _).mono ?_
    rintro e w3 ⟨rfl, k3⟩
    have K3 := Lib.hid (K2.out.trans k3)
    clear k3
    go_wp2_with fail
    go_ret
    exact ⟨rfl, K3.out⟩
  · have HS := Lib.hid (hr rfl)
    clear hr
    go_wp2_with fail
    refine (copied_c (HR.out _ K2.out) HS.out).mono ?_
    rintro e w3 ⟨vo, rfl, hown, k3⟩
    obtain ⟨a1, c1, a2, c2, a3, c3, rfl, hps, hws, hc1, hc2, hl1, hl2⟩ := CRepF.form hown
    have HPS := Lib.hid hps
    have HWS := Lib.hid hws
    have K3 := Lib.hid (K2.out.trans k3)
    have B3 := Lib.hid (k3.to B2.out (by simp))
    have L23 : w2.heap.size ≤ w3.heap.size := k3.size
    have Lw : w.heap.size < w2.heap.size := lt_of_block B2.out
    have BO := Lib.hid (al1 w3 (.cells #[.slice a1 x.parts.length c1, .slice a2 x.wins.length c2, .slice a3 x.chans.length c3] 26))
    have HOR := Lib.hid (hown.rep.kept ((Keep.refl [] w3).alloc (.cells #[.slice a1 x.parts.length c1, .slice a2 x.wins.length c2, .slice a3 x.chans.length c3] 26)))
    have KA : Hid (Keep [] w3 (w3.alloc (.cells #[.slice a1 x.parts.length c1, .slice a2 x.wins.length c2, .slice a3 x.chans.length c3] 26))) := Lib.hid ((Keep.refl [] w3).alloc _)
    have LA : w3.heap.size < (w3.alloc (.cells #[.slice a1 x.parts.length c1, .slice a2 x.wins.length c2, .slice a3 x.chans.length c3] 26)).heap.size := by simp
    unfold maxLen at hc1 hc2
    clear k3 hps hws hown q0 q1 q2
    obtain ⟨q0, q1, q2⟩ := cells3 BO.out
    go_wp2_with fail
    generalize w3.alloc (.cells #[.slice a1 x.parts.length c1, .slice a2 x.wins.length c2, .slice a3 x.chans.length c3] 26) = wA at *
    refine (clone_conf HOR.out HS.out).mono ?_
    rintro e w4 ⟨vd, rfl, hd, k4⟩
    obtain ⟨d1, m1, e1, d2, m2, e2, d3, m3, e3, rfl⟩ := conf_form3 hd
    have K4 := Lib.hid (K3.out.trans (KA.out.trans k4))
    have K34 := Lib.hid (KA.out.trans k4)
    have BO4 := Lib.hid (k4.to BO.out (by simp))
    have B4 := Lib.hid ((KA.out.trans k4).to B3.out (by simp))
    have BD := Lib.hid (al1 w4 (.cells #[.slice d1 m1 e1, .slice d2 m2 e2, .slice d3 m3 e3] 26))
    have KB : Hid (Keep [] w4 (w4.alloc (.cells #[.slice d1 m1 e1, .slice d2 m2 e2, .slice d3 m3 e3] 26))) := Lib.hid ((Keep.refl [] w4).alloc _)
    have HD := Lib.hid (hd.kept KB.out)
    have L34 : wA.heap.size ≤ w4.heap.size := k4.size
    clear k4 hd q0 q1 q2
    obtain ⟨q0, q1, q2⟩ := cells3 BD.out
    go_wp2_with fail
    generalize w4.alloc (.cells #[.slice d1 m1 e1, .slice d2 m2 e2, .slice d3 m3 e3] 26) = wB at *
    refine (conf_valid HD.out).mono ?_
    rintro e w6 ⟨rfl, k6⟩
    have K36 := Lib.hid (K34.out.trans (KB.out.trans k6))
    have K06 := Lib.hid (K3.out.trans K36.out)
    have BO6 := Lib.hid ((KB.out.trans k6).to BO4.out (by simp))
    have B6 := Lib.hid ((KB.out.trans k6).to B4.out (by simp))
    have BD6 := Lib.hid (k6.to BD.out (by simp))
    have HD6 := Lib.hid (HD.out.kept k6)
    have L6 : wB.heap.size ≤ w6.heap.size := k6.size
    have LB : w4.heap.size < wB.heap.size := lt_of_block BD.out
    have M6 := Lib.hid (MK.of_keep (lo := w2.heap.size) K36.out)
    clear k6 q0 q1 q2
    obtain ⟨nv, hnv⟩ : ∃ n, wrongI x = n := ⟨_, rfl⟩
    have HNV := Lib.hid hnv
    obtain ⟨ev, hev⟩ : ∃ n, validE (wrongI x) = n := ⟨_, rfl⟩
    have HEV := Lib.hid hev
    rw [hev, hnv]
    clear hev hnv
    have hpn : Hid (x.parts.length = x.parts.length) := Lib.hid rfl
    obtain ⟨q0, q1, q2⟩ := cells3 BO6.out
    go_wp2_with fail
    clear q0 q1 q2
    go_loopw [33] (fun c wr => ∃ k : Nat, c = .int .i64 k ∧ k ≤ x.parts.length ∧ MK w2.heap.size w3 wr ∧ Keep (rng w2.heap.size w3.heap.size) w6 wr) (fun c _ => x.parts.length - (intOf c).toNat)
    case atStart => exact ⟨0, rfl, Nat.zero_le _, M6.out, Keep.refl _ _⟩
    case round =>
      obtain ⟨i, rfl, hi, hm, hk⟩ := hrel
      have HM := Lib.hid hm
      have HK := Lib.hid hk
      clear hm hk
      have BOr := Lib.hid (HK.out.to BO6.out (by rw [mem_rng]; omega))
      obtain ⟨q0, q1, q2⟩ := cells3 BOr.out
      by_cases hil : i < x.parts.length
      · have hil' : (i : Int) < x.parts.length := by omega
        obtain ⟨p, hp⟩ := get_of (n := x.parts.length) (Lib.hid rfl) hil
        obtain ⟨gp, curp, cs4, rfl, hgp, hgp2, hbp, _, ⟨vt, vob, rfl, hth, _⟩, hcp⟩ := FreshSl.elem HPS.out hp
        have p0 := HM.out.cell hgp hbp (hcp 0 _ rfl) (by unfold Mut; simp)
        simp only [Nat.add_zero] at p0
        have P0 := Lib.hid (fun (wr : World) (h : MK w2.heap.size w3 wr) => show wr.cell? ⟨gp, i * 2, none⟩ = some vt from by have := h.cell hgp hbp (hcp 0 _ rfl) (by unfold Mut; simp); simpa using this)
        obtain ⟨at1, ct1, rfl, hlt1, hct1⟩ := FreshSl.form hth
        have HTH := Lib.hid hth
        unfold maxLen at hct1
        clear hcp hth hbp hp
        go_wp2_with fail
        obtain ⟨wo, rfl⟩ : ∃ wo : World, wo = wr := ⟨_, rfl⟩
        clear p0 q0 q1 q2
        go_loopw [43] (fun c wr => ∃ k : Nat, c = .int .i64 k ∧ k ≤ p.threads.length ∧ MK w2.heap.size w3 wr ∧ Keep (rng w2.heap.size w3.heap.size) w6 wr) (fun c _ => p.threads.length - (intOf c).toNat)
        case atStart => exact ⟨0, rfl, Nat.zero_le _, HM.out, HK.out⟩
        case round =>
          obtain ⟨k, rfl, hk, hm, hkk⟩ := hrel
          have HM2 := Lib.hid hm
          have HK2 := Lib.hid hkk
          clear hm hkk
          have BOq := Lib.hid (HK2.out.to BO6.out (by rw [mem_rng]; omega))
          obtain ⟨q0, q1, q2⟩ := cells3 BOq.out
          have p0 := P0.out _ HM2.out
          by_cases hkl : k < p.threads.length
          · have hkl' : (k : Int) < p.threads.length := by omega
            obtain ⟨t, ht⟩ := get_of (n := p.threads.length) (Lib.hid rfl) hkl
            obtain ⟨gt, curt, cs5, rfl, hgt, hgt2, hbt, hcl, ⟨vp, rfl, _, _, hpg, _⟩, hct⟩ := FreshSl.elem HTH.out ht
            obtain ⟨⟨u, hu⟩, hfu⟩ := HM2.out.there (j := k * 4) hgt hbt (by have := hct 0 _ rfl; exact (Array.getElem?_eq_some_iff.1 this).1)
            have M3 := Lib.hid (HM2.out.set (i := k * 4) hbt (by left; exact ⟨rfl, by omega⟩) (.int .i64 (-1)))
            have K3b := Lib.hid (HK2.out.trans (keep_rng wr gt (k * 4) (.int .i64 (-1)) hgt hgt2))
            have P3 := Lib.hid (fun (wr : World) (h : MK w2.heap.size w3 wr) => show wr.cell? ⟨gt, k * 4 + 3, none⟩ = some vp from h.cell hgt hbt (hct 3 _ rfl) (by unfold Mut; simp <;> omega))
            obtain ⟨ap1, cp1, rfl, hlp1, hcp1⟩ := FreshSl.form hpg
            have HPG := Lib.hid hpg
            unfold maxLen at hcp1
            clear hct hpg hbt ht
            have BOs := Lib.hid (K3b.out.to BO6.out (by rw [mem_rng]; omega))
            obtain ⟨r0, r1, r2⟩ := cells3 BOs.out
            have s0 := P0.out _ M3.out
            have s3 := P3.out _ M3.out
            go_wp2_with fail
            generalize wr.setCell ⟨gt, k * 4, none⟩ (.int .i64 (-1)) = ws at *
            obtain ⟨wu, rfl⟩ : ∃ wu : World, wu = wr := ⟨_, rfl⟩
            clear r0 r1 r2 s0 s3 p0 q0 q1 q2 hu hfu
            go_loopw [66] (fun c wr => ∃ k : Nat, c = .int .i64 k ∧ k ≤ t.prog.length ∧ MK w2.heap.size w3 wr ∧ Keep (rng w2.heap.size w3.heap.size) w6 wr) (fun c _ => t.prog.length - (intOf c).toNat)
            case atStart => exact ⟨0, rfl, Nat.zero_le _, M3.out, K3b.out⟩
            case round =>
              obtain ⟨j, rfl, hj, hm, hkk⟩ := hrel
              have HM4 := Lib.hid hm
              have HK4 := Lib.hid hkk
              clear hm hkk
              have BOu := Lib.hid (HK4.out.to BO6.out (by rw [mem_rng]; omega))
              obtain ⟨q0, q1, q2⟩ := cells3 BOu.out
              have s0 := P0.out _ HM4.out
              have s3 := P3.out _ HM4.out
              by_cases hjl : j < t.prog.length
              · have hjl' : (j : Int) < t.prog.length := by omega
                obtain ⟨c, hc⟩ := get_of (n := t.prog.length) (Lib.hid rfl) hjl
                obtain ⟨gc, curc, cs6, rfl, hgc, hgc2, hbc, hcl6, ⟨vw, rfl, _⟩, hcc⟩ := FreshSl.elem HPG.out hc
                obtain ⟨⟨u, hu⟩, hfu⟩ := HM4.out.there (j := j * 6) hgc hbc (by have := hcc 0 _ rfl; exact (Array.getElem?_eq_some_iff.1 this).1)
                have M5 := Lib.hid (HM4.out.set (i := j * 6) hbc (by right; left; rfl) (.int .i64 99))
                have K5b := Lib.hid (HK4.out.trans (keep_rng wr gc (j * 6) (.int .i64 99) hgc hgc2))
                clear hcc hbc hc
                go_wp2_with fail
                go_roundw
                case rel => exact ⟨j + 1, by go_num, by omega, M5.out, K5b.out⟩
                case measure => simp [intOf]; omega
              · go_wp2_with fail
                go_roundw
                case rel => exact ⟨k + 1, by go_num, by omega, HM4.out, HK4.out⟩
                case measure => simp [intOf]; omega
          · go_wp2_with fail
            go_roundw
            case rel => exact ⟨i + 1, by go_num, by omega, HM2.out, HK2.out⟩
            case measure => simp [intOf]; omega
      · go_wp2_with fail
        obtain ⟨wo, rfl⟩ : ∃ wo : World, wo = wr := ⟨_, rfl⟩
        clear q0 q1 q2
        go_loopw [88] (fun c wr => ∃ k : Nat, c = .int .i64 k ∧ k ≤ x.wins.length ∧ MK w2.heap.size w3 wr ∧ Keep (rng w2.heap.size w3.heap.size) w6 wr) (fun c _ => x.wins.length - (intOf c).toNat)
        case atStart => exact ⟨0, rfl, Nat.zero_le _, HM.out, HK.out⟩
        case round =>
          obtain ⟨k, rfl, hk, hm, hkk⟩ := hrel
          have HM2 := Lib.hid hm
          have HK2 := Lib.hid hkk
          clear hm hkk
          have BOq := Lib.hid (HK2.out.to BO6.out (by rw [mem_rng]; omega))
          obtain ⟨q0, q1, q2⟩ := cells3 BOq.out
          by_cases hkl : k < x.wins.length
          · have hkl' : (k : Int) < x.wins.length := by omega
            obtain ⟨t, ht⟩ := get_of (n := x.wins.length) (Lib.hid rfl) hkl
            obtain ⟨gt, curt, cs5, rfl, hgt, hgt2, hbt, hcl, ⟨rfl, _⟩, hct⟩ := FreshSl.elem HWS.out ht
            obtain ⟨⟨u, hu⟩, hfu⟩ := HM2.out.there (j := k * 2 + 1) hgt hbt (by have := hct 1 _ rfl; exact (Array.getElem?_eq_some_iff.1 this).1)
            have M3 := Lib.hid (HM2.out.set (i := k * 2 + 1) hbt (by right; right; rfl) (.int .i64 (-1)))
            have K3b := Lib.hid (HK2.out.trans (keep_rng wr gt (k * 2 + 1) (.int .i64 (-1)) hgt hgt2))
            clear hct hbt ht
            go_wp2_with fail
            go_roundw
            case rel => exact ⟨k + 1, by go_num, by omega, M3.out, K3b.out⟩
            case measure => simp [intOf]; omega
          · have BDr := Lib.hid (HK2.out.to BD6.out (by rw [mem_rng]; omega))
            have Br := Lib.hid (HK2.out.to B6.out (by rw [mem_rng]; omega))
            have HDr := Lib.hid (HD6.out.keep (B' := fun b => wA.heap.size ≤ b) HK2.out.size (fun b hb hl => HK2.out.block b hl (by rw [mem_rng]; omega)) (fun _ h => h))
            have KWr : Hid (Keep [] w wr) := Lib.hid (K06.out.transS HK2.out (T := []) (by simp) (fun g hg hl => by rw [mem_rng] at hg; omega))
            clear q0 q1 q2
            obtain ⟨q0, q1, q2⟩ := cells3 BDr.out
            go_wp2_with fail
            refine (conf_valid HDr.out).mono ?_
            rintro e w7 ⟨rfl, k7⟩
            rw [HEV.out, HNV.out]
            have KW7 := Lib.hid (KWr.out.trans k7)
            have BD7 := Lib.hid (k7.to BDr.out (by simp))
            have B7 := Lib.hid (k7.to Br.out (by simp))
            have HD7 := Lib.hid (HDr.out.kept k7)
            clear k7 q0 q1 q2
            obtain ⟨q0, q1, q2⟩ := cells3 BD7.out
            obtain ⟨r0, r1, r2⟩ := cells3 B7.out
            have g1 : decide (nv = nv) = true := by simp
            have g2 : decide (ev = ev) = true := by simp
            have g3 : (nv == nv) = true := by simp
            have g4 : (ev == ev) = true := by simp
            go_wp2_with fail
            refine (same_conf (HR.out _ KW7.out) HD7.out).mono ?_
            rintro e w8 ⟨rfl, k8⟩
            have KW8 := Lib.hid (KW7.out.trans k8)
            clear k8
            go_wp2_with fail
            go_ret
            exact ⟨rfl, KW8.out⟩
end Clone
end Go.Proofs.Ytkmpajdiedpfhaa
