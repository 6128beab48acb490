/- The contract of config.Leads. No conditions but those stated. -/
import Derived.Test.YtkmpajdiedpfhaaLeads3
import Derived.Deep.LoopGhost
import Derived.Carry
namespace Go.Proofs.Ytkmpajdiedpfhaa
open Go.ChangeShapes Go.WideShapes Go.ChangeAt Go.RowKit
set_option linter.unusedVariables false
set_option linter.unusedSimpArgs false
open Leads
theorem Ints.cut {w : World} {base g o n cap : Nat} {R : List Int} (h : Ints w base (.slice (some ⟨g, o, none⟩) n cap) R) (hn : 0 < R.length) : (cap ≠ 1 → Ints w base (.slice (some ⟨g, o + 1, none⟩) (n - 1) (cap - 1)) (R.drop 1)) ∧ (cap = 1 → Ints w base (.slice (some ⟨g, o, none⟩) (n - 1) (cap - 1)) (R.drop 1)) := by
  obtain ⟨g', o', cap', e, hb, ⟨cur, h1, h2⟩, hle, hc, hl, hx⟩ := h
  cases e
  refine ⟨fun hc1 => ⟨g, o + 1, cap - 1, by simp, hb, ⟨cur, h1, by omega⟩, by simp; omega, by omega, by simp, fun j u hu => ?_⟩, fun hc1 => ⟨g, o, cap - 1, by simp, hb, ⟨cur, h1, by omega⟩, by simp; omega, by omega, by simp, fun j u hu => ?_⟩⟩
  · rw [List.map_drop, List.getElem?_drop] at hu
    have := hx (1 + j) u hu
    rw [show o + 1 + j = o + (1 + j) by omega]
    exact this
  · exfalso
    have := (List.getElem?_eq_some_iff.1 hu).1
    simp at this
    omega
theorem Ints.keep0' {w w' : World} {base n : Nat} {v : Value} {R : List Int} (h : Ints w base v R) (k : Keep [] w w') (hn : R.length = n) : Qu w' base 3 1 v n (R.map (Value.int .i64)) := by
  subst hn; exact Qu.keep0 h k
theorem Ints.keep {w w' : World} {base : Nat} {v : Value} {R : List Int} (h : Ints w base v R) {S : List Nat} (k : Keep S w w') (hn : ∀ g, v.ownBlock = some g → g ∉ S) : Ints w' base v R := Qu.keep h k hn
theorem ne_of_own {B g2 o2 mm cap2 : Nat} (h : B + 2 ≤ g2) : ∀ g, (Value.slice (some ⟨g2, o2, none⟩) mm cap2).ownBlock = some g → g ∉ [B + 1] := by
  intro g hg hm
  simp [Value.ownBlock] at hg hm
  omega
theorem chan_kept {w w5 : World} {b n : Nat} {z0 z1 z2 z3 : Value} {T : TypeId} (h : Keep [b] ((w.alloc (.cells #[z0, z1, z2, z3] T)).drewN n) w5) (hb : b < w.heap.size) : w.heap.size + 1 ≤ w5.heap.size ∧ w5.cell? ⟨w.heap.size, 0, none⟩ = some z0 ∧ w5.cell? ⟨w.heap.size, 1, none⟩ = some z1 ∧ w5.cell? ⟨w.heap.size, 2, none⟩ = some z2 ∧ w5.cell? ⟨w.heap.size, 3, none⟩ = some z3 :=
  ⟨by have := h.size; simpa using this, cells4 (h.to (heap_alloc_new w _) (by simp; omega))⟩
def SeenAs (w : World) (b n : Nat) (R : List Int) : Prop := ∃ S, SeenIs w b n S ∧ ∀ k, k ∈ S ↔ k ∈ R
theorem SeenAs.keep {w w' : World} {b n : Nat} {R : List Int} (h : SeenAs w b n R) {T : List Nat} (k : Keep T w w') (hn : b ∉ T) : SeenAs w' b n R := let ⟨S, h1, h2⟩ := h; ⟨S, h1.keep k hn, h2⟩
theorem SeenAs.look {w : World} {b n : Nat} {R : List Int} (h : SeenAs w b n R) (k : Int) (hk : inI64 k) {bb : Bool} (hb : decide (k ∈ R) = bb) :
    (Instr.lookup 63 (.map (some b)) (.int .i64 k) false).run Try.prog w = .ok (.bool bb) w := by
  obtain ⟨S, h1, h2⟩ := h
  rw [h1.look k hk, ← hb]
  congr 2
  exact decide_eq_decide.2 (h2 k)
set_option maxHeartbeats 4000000 in
set_option maxRecDepth 100000 in
theorem conf_leads {B : Nat → Prop} {w : World} {x : ConfD} {v : Value} (h : ConfRep B w x v) (hf : x.chans.length ≤ 40) (src dst : Int) (hwf : inI64 src) :
    Calls Try.prog 12 #[v, .int .i64 src, .int .i64 dst] w fun e w' => e = .returned (.bool (leads (chL x.chans) src dst)) ∧ Keep [] w w' := by
  obtain ⟨v1, v2, v3, rfl, ⟨pa, pc, rfl, p1, p2, _⟩, ⟨wa, wc, rfl, w1, w2, _⟩, ⟨ca, cc, rfl, c1, c2, c3⟩⟩ := h
  obtain ⟨i0, hi0, hz0, hz1, hz2⟩ := info_parts infoInt
  have hmm := @run_makeMap Try.prog
  generalize x.parts.length = pl at *
  generalize x.wins.length = wl at *
  generalize x.chans = l at *
  have hcl : (chL l).length = l.length := by simp [chL]
  generalize hll : l.length = cl at *
  unfold maxLen at p2 w2 c2
  have C3 := Lib.hid c3
  have Hll := Lib.hid hll
  have Hcl := Lib.hid hcl
  have HW := Lib.hid hwf
  clear c3 hll hcl hwf
  have KK : Hid (Keep [] w (w.alloc (.cells #[.slice pa pl pc, .slice wa wl wc, .slice ca cl cc] 26))) := Lib.hid ((Keep.refl _ _).alloc _)
  have BX := Lib.hid (heap_alloc_new w (.cells #[.slice pa pl pc, .slice wa wl wc, .slice ca cl cc] 26))
  have SM : Hid (SeenIs ((w.alloc (.cells #[.slice pa pl pc, .slice wa wl wc, .slice ca cl cc] 26)).alloc (.map #[] 0)) (w.heap.size + 1) 0 []) := Lib.hid (by simpa using SeenIs.made (w.alloc (.cells #[.slice pa pl pc, .slice wa wl wc, .slice ca cl cc] 26)))
  have KM := Lib.hid (KK.out.alloc (.map #[] 0))
  have BM := Lib.hid (Keep.to ((Keep.refl [] _).alloc (.map #[] 0)) BX.out (by simp))
  go_enter Try.func12, Try.ntmps12
  go_wp2_with (refine wpList_seen_put rfl _ _ _ (.inr rfl) SM.out (by decide) src HW.out rfl rfl rfl ?_; intro w2 hs2 hk2; have HS2 := Lib.hid hs2; have HK2 := Lib.hid hk2; clear hs2 hk2)
  have hz2' := HK2.out.size
  simp only [World.size_alloc] at hz2'
  have K2 := Lib.hid (KM.out.transS HK2.out (T := []) (by simp) (by simp))
  have B2 := Lib.hid (HK2.out.to BM.out (by simp))
  have Ho : Hid (Ints (w2.alloc (.cells #[.int .i64 src] 3)) (w.heap.size + 2) (.slice (some ⟨w2.heap.size, 0, none⟩) 1 1) [src]) :=
    Lib.hid ⟨w2.heap.size, 0, 1, rfl, by omega, ⟨#[.int .i64 src], heap_alloc_new w2 _, by simp⟩, by simp, by simp [maxLen], by simp, fun j u hu => by
      match j, hu with
      | 0, hu => simp at hu; subst hu; exact cell_of (heap_alloc_new w2 _) rfl⟩
  have kI := (Keep.refl [] w2).alloc (.cells #[.int .i64 src] 3)
  have K3 := Lib.hid (K2.out.trans kI)
  have B3 := Lib.hid (kI.to B2.out (by simp))
  have S3 : Hid (SeenAs (w2.alloc (.cells #[.int .i64 src] 3)) (w.heap.size + 1) 1 [src]) := Lib.hid ⟨[src], HS2.out.keep kI (by simp), fun k => Iff.rfl⟩
  clear kI
  generalize w2.alloc (.cells #[.int .i64 src] 3) = w3 at *
  go_loopg [8] (cl + 2) (fun gz s8 wr => ∃ (i : Nat) (R : List Int), gz + i = cl + 2 ∧ At (chL l) src dst i R ∧ Ints wr (w.heap.size + 2) s8 (R.drop i) ∧ SeenAs wr (w.heap.size + 1) R.length R ∧ Keep [] w wr ∧ wr.heap[w.heap.size]? = some (.cells #[.slice pa pl pc, .slice wa wl wc, .slice ca cl cc] 26 (0, 0)))
  case atStart => exact ⟨0, [src], by omega, At.start _ _ _, Ho.out, S3.out, K3.out, B3.out⟩
  case round =>
    obtain ⟨i, R, hgz, hat, hin, hse, kr, br⟩ := hrel
    have hRl := hat.len
    rw [Hcl.out] at hRl
    have hle := hat.le
    have HA := Lib.hid hat
    have HI := Lib.hid hin
    have HSe := Lib.hid hse
    have KR := Lib.hid kr
    have BR := Lib.hid br
    obtain ⟨g, o, cap, rfl, hg, hlc, hcm, hc⟩ := hin.open_
    unfold maxLen at hcm
    have HC := Lib.hid hc
    clear hat hin kr br hc hse
    have hdl : (R.drop i).length = R.length - i := List.length_drop
    generalize hnn : (R.drop i).length = nn at *
    have HNN := Lib.hid hnn
    clear hnn
    by_cases hlt : i < R.length
    · have hlt' : 0 < (nn : Int) := by omega
      have hnn1 : 0 < nn := by omega
      have hnn2 : decide (0 < nn) = true := by simpa using hnn1
      obtain ⟨y, hy⟩ : ∃ y, R[i]? = some y := ⟨_, List.getElem?_eq_getElem hlt⟩
      have HY := Lib.hid hy
      have cy := HC.out 0 y (by rw [List.getElem?_drop, Nat.add_zero]; exact hy)
      simp only [Nat.add_zero] at cy
      have Hdl := Lib.hid hdl
      clear hy hdl
      by_cases hq : y = dst
      · have he := Lib.hid (HA.out.hit y HY.out hq)
        have hd : (y == dst) = true := by simpa using hq
        clear hq
        go_wp2_with fail
        go_ret
        exact ⟨ret_bool he.out.symm, KR.out⟩
      · have hd : (y == dst) = false := by simpa using hq
        have q2 := (cells3 BR.out).2.2
        have HQ := Lib.hid hq
        clear hq
        go_wp2_with fail
        obtain ⟨wo, rfl⟩ : ∃ wo : World, wo = wr := ⟨_, rfl⟩
        clear q2 cy
        go_loopw [8, 29] (fun s8 s29 wq => ∃ k : Nat, s29 = .int .i64 k ∧ k ≤ cl ∧ Ints wq (w.heap.size + 2) s8 ((scan y ((chL l).take k) R).drop i) ∧ SeenAs wq (w.heap.size + 1) (scan y ((chL l).take k) R).length (scan y ((chL l).take k) R) ∧ Keep [] w wq ∧ wq.heap[w.heap.size]? = some (.cells #[.slice pa pl pc, .slice wa wl wc, .slice ca cl cc] 26 (0, 0))) (fun _ s29 _ => cl - (intOf s29).toNat)
        case atStart => exact ⟨0, rfl, Nat.zero_le _, by have := HI.out; unfold Ints at this ⊢; simpa [scan, HNN.out] using this, by simpa [scan] using HSe.out, KR.out, BR.out⟩
        case round =>
          obtain ⟨k, rfl, hk, hin2, hse2, kq, bq⟩ := hrel
          have hRk := scan_len y l R k
          have hpre := scan_pre y ((chL l).take k) R
          have HI2 := Lib.hid hin2
          have HSe2 := Lib.hid hse2
          have KQ := Lib.hid kq
          have BQ := Lib.hid bq
          obtain ⟨g2, o2, cap2, rfl, hg2, hlc2, hcm2, hc2⟩ := hin2.open_
          have hy2 : Hid ((scan y ((chL l).take k) R)[i]? = some y) := Lib.hid (by
            obtain ⟨t, ht⟩ := hpre
            rw [ht, List.getElem?_append_left hlt]; exact HY.out)
          have hil : i < (scan y ((chL l).take k) R).length := (List.getElem?_eq_some_iff.1 hy2.out).1
          have cy2 := hc2 0 y (by rw [List.getElem?_drop, Nat.add_zero]; exact hy2.out)
          simp only [Nat.add_zero] at cy2
          have hdl2 : ((scan y ((chL l).take k) R).drop i).length = (scan y ((chL l).take k) R).length - i := List.length_drop
          generalize hmm2 : ((scan y ((chL l).take k) R).drop i).length = mm at *
          have HMM := Lib.hid hmm2
          have hmm0 : 0 < (mm : Int) := by omega
          have hmm1 : 0 < mm := by omega
          unfold maxLen at hcm2
          clear hin2 kq bq hpre hc2 hmm2 hse2
          by_cases hkl : k < cl
          · have hkl' : (k : Int) < cl := by omega
            obtain ⟨z, hz⟩ := get_of Hll hkl
            obtain ⟨b, o3, cs, rfl, _, _, _, hcz, rfl, zw1, _, zw3, _⟩ := C3.out k z hz
            have HZ := Lib.hid hz
            have e0 := cell_keep KQ.out (hcz 0 _ rfl) (by simp)
            have e1 := cell_keep KQ.out (hcz 1 _ rfl) (by simp)
            have e2 := cell_keep KQ.out (hcz 2 _ rfl) (by simp)
            have e3 := cell_keep KQ.out (hcz 3 _ rfl) (by simp)
            simp only [Nat.add_zero] at e0
            clear hz hcz
            obtain ⟨z0, z1, z2, z3⟩ := z
            simp only at e0 e1 e2 e3 zw1 zw3
            have ZW := Lib.hid zw3
            clear zw1 zw3
            have HSk := Lib.hid (scan_skip (x := y) (R := R) HZ.out)
            have HSa := Lib.hid (scan_add (x := y) (R := R) HZ.out)
            simp only at HSk HSa
            generalize hS : scan y ((chL l).take k) R = S at *
            have HS := Lib.hid hS
            have Hdl2 := Lib.hid hdl2
            have hmmb : mm ≤ 100 := by omega
            clear hS hdl2
            have kA := (Keep.refl [] wr).alloc (.cells #[.int .i64 z0, .int .i64 z1, .int .i64 z2, .int .i64 z3] 66)
            obtain ⟨a0, a1, a2, a3⟩ := cells4 (heap_alloc_new wr (.cells #[.int .i64 z0, .int .i64 z1, .int .i64 z2, .int .i64 z3] 66))
            have cy3 := cell_keep kA cy2 (by simp)
            have KA := Lib.hid kA
            clear kA cy2
            by_cases hs : z0 = y
            · subst hs
              have hd0 : (z0 == z0) = true := by simp
              by_cases hm : z2 ∈ S
              · have hlook : ∀ n, (Instr.lookup 63 (.map (some (w.heap.size + 1))) (.int .i64 z2) false).run Try.prog ((wr.alloc (.cells #[.int .i64 z0, .int .i64 z1, .int .i64 z2, .int .i64 z3] 66)).drewN n) = .ok (.bool true) ((wr.alloc (.cells #[.int .i64 z0, .int .i64 z1, .int .i64 z2, .int .i64 z3] 66)).drewN n) :=
                  fun n => (HSe2.out.keep (KA.out.drewN n) (by simp)).look z2 ZW.out (by simpa using hm)
                have HE := Lib.hid (HSk.out (fun h => h.2 hm))
                clear hm
                go_wp2_with fail
                go_quiet (fail)
                go_wp2_with fail
                go_roundw
                case rel => exact ⟨k + 1, by go_num, by omega, by rw [HE.out]; exact HI2.out.keep0 (KA.out.drewN _), by rw [HE.out]; exact HSe2.out.keep (KA.out.drewN _) (by simp), KQ.out.trans (KA.out.drewN _), (KA.out.drewN _).to BQ.out (by simp)⟩
                case measure => simp [intOf]; omega
              · have hlook : ∀ n, (Instr.lookup 63 (.map (some (w.heap.size + 1))) (.int .i64 z2) false).run Try.prog ((wr.alloc (.cells #[.int .i64 z0, .int .i64 z1, .int .i64 z2, .int .i64 z3] 66)).drewN n) = .ok (.bool false) ((wr.alloc (.cells #[.int .i64 z0, .int .i64 z1, .int .i64 z2, .int .i64 z3] 66)).drewN n) :=
                  fun n => (HSe2.out.keep (KA.out.drewN n) (by simp)).look z2 ZW.out (by simpa using hm)
                have HE := Lib.hid (HSa.out ⟨rfl, hm⟩)
                clear hm
                go_wp2_with fail
                go_quiet (fail)
                clear hlook
                obtain ⟨S', hs1, hs2⟩ := HSe2.out.keep (KA.out.drewN nq) (by simp)
                have HS1 := Lib.hid hs1
                have HS2' := Lib.hid hs2
                have hbx := lt_of_block BQ.out
                have hml : w.heap.size + 1 < wr.heap.size := by
                  obtain ⟨S0, hs0, _⟩ := HSe2.out
                  obtain ⟨es, ck, hmb⟩ := hs0.block
                  exact lt_of_block hmb
                clear hs1 hs2
                have hsl : S.length < maxLen := by unfold maxLen; omega
                have HSL := Lib.hid hsl
                clear hsl
                have hlw2 := HK2.out.size
                go_wp2_with (first
                  | (at_mapUpdate; refine wpList_seen_put rfl _ _ _ (.inl rfl) HS1.out HSL.out z2 ZW.out rfl rfl rfl ?_; intro w5 hs5 hk5; have HS5 := Lib.hid hs5; have HI5 := Lib.hid (Ints.keep (HI2.out.keep0 (KA.out.drewN nq)) hk5 (ne_of_own hg2)); obtain ⟨hz5, g0, g1, g2', g3⟩ := chan_kept hk5 (by omega); have HNw := Lib.hid (World.news_of_block (w := w5.alloc (.cells #[.int .i64 z2] 3)) (B := w5.heap.size) (cs := #[.int .i64 z2]) (t := 3) (fr := (0, 0)) (heap_alloc_new w5 (.cells #[.int .i64 z2] 3))); have HK5 := Lib.hid hk5; have HO5 := Lib.hid (HI5.out.keep0' ((Keep.refl [] w5).alloc (.cells #[.int .i64 z2] 3)) HMM.out); clear hs5 hk5)
                  | (at_builtin; refine wpList_append_qu rfl _ _ 64 rfl 3 i0 _ 1 8 Try.underlying64 hi0 hz0 hz1 hz2 rfl (by omega) rfl HO5.out ⟨w5.heap.size, 0, none⟩ 1 [.int .i64 z2] (by simp [Act.eval, Act.put]) rfl HNw.out (by simp [Value.oneCell']) (by unfold maxLen; omega) (by omega) (by simp; omega) ?_))
                have K5 := Lib.hid ((KQ.out.trans (KA.out.drewN nq)).transS HK5.out (T := []) (by simp) (by simp <;> omega))
                have B5 := Lib.hid (HK5.out.to ((KA.out.drewN nq).to BQ.out (by simp)) (by simp))
                intro v6 w6 T hq6 hk6 ht6 hv6
                have K6 : Hid (Keep [] w w6) := Lib.hid ((K5.out.alloc _).transS hk6 (T := []) (by simp) (fun g hg hlt => absurd (ht6 g hg) (by simp [Value.ownBlock]; omega)))
                have B6 := Lib.hid (hk6.to (((Keep.refl [] w5).alloc _).to B5.out (by simp)) (fun hm => absurd (ht6 _ hm) (by simp [Value.ownBlock]; omega)))
                have HQ6 : Hid (Ints w6 (w.heap.size + 2) v6 ((S ++ [z2]).drop i)) := Lib.hid (by
                  unfold Ints
                  rw [List.drop_append_of_le_length (by omega), List.length_append, HMM.out, List.map_append, List.map_drop]
                  exact hq6)
                have HS6 : Hid (SeenAs w6 (w.heap.size + 1) (S ++ [z2]).length (S ++ [z2])) := Lib.hid ⟨z2 :: S', by
                  rw [List.length_append]
                  exact (HS5.out.keep ((Keep.refl [] w5).alloc _) (by simp)).keep hk6 (fun hm => absurd (ht6 _ hm) (by simp [Value.ownBlock]; omega)), fun k => by
                  have := HS2'.out k
                  simp only [List.mem_cons, List.mem_append, List.not_mem_nil, or_false, this]
                  exact or_comm⟩
                clear hq6 hk6 ht6 hv6
                go_wp2_with fail
                go_roundw
                case rel => exact ⟨k + 1, by go_num, by omega, by rw [HE.out]; exact HQ6.out, by rw [HE.out]; exact HS6.out, K6.out, B6.out⟩
                case measure => simp [intOf]; omega
            · have hd0 : (z0 == y) = false := by simpa using hs
              have HE := Lib.hid (HSk.out (fun h => hs h.1))
              clear hs
              go_wp2_with fail
              go_quiet (fail)
              go_wp2_with fail
              go_roundw
              case rel => exact ⟨k + 1, by go_num, by omega, by rw [HE.out]; exact HI2.out.keep0 (KA.out.drewN _), by rw [HE.out]; exact HSe2.out.keep (KA.out.drewN _) (by simp), KQ.out.trans (KA.out.drewN _), (KA.out.drewN _).to BQ.out (by simp)⟩
              case measure => simp [intOf]; omega
          · have hke : k = cl := by omega
            subst hke
            have e : (chL l).take k = chL l := List.take_of_length_le (by rw [Hcl.out]; omega)
            have HFin : Hid (Ints wr (w.heap.size + 2) (.slice (some ⟨g2, o2, none⟩) mm cap2) ((scan y (chL l) R).drop i) ∧ SeenAs wr (w.heap.size + 1) (scan y (chL l) R).length (scan y (chL l) R)) := Lib.hid (by
              have h1 := HI2.out
              have h2 := HSe2.out
              rw [e] at h1 h2
              exact ⟨h1, h2⟩)
            have hpos : Hid (0 < ((scan y (chL l) R).drop i).length) := Lib.hid (by
              have h1 := HMM.out
              rw [e] at h1
              omega)
            have HN := Lib.hid (HA.out.next y HY.out HQ.out)
            have Hdl2 := Lib.hid hdl2
            clear e hdl2
            by_cases hc1 : cap2 = 1
            · subst hc1
              have HCut := Lib.hid ((HFin.out.1.cut hpos.out).2 rfl)
              obtain rfl : mm = 1 := by omega
              go_wp2_with fail
              go_roundg (gk - 1)
              case measure => omega
              case rel => exact ⟨i + 1, scan y (chL l) R, by omega, HN.out, by simpa [List.drop_drop] using HCut.out, HFin.out.2, KQ.out, BQ.out⟩
            · have HCut := Lib.hid ((HFin.out.1.cut hpos.out).1 hc1)
              go_wp2_with fail
              go_roundg (gk - 1)
              case measure => omega
              case rel => exact ⟨i + 1, scan y (chL l) R, by omega, HN.out, by simpa [List.drop_drop] using HCut.out, HFin.out.2, KQ.out, BQ.out⟩
    · have he := Lib.hid (HA.out.over (by omega))
      have hnn0 : nn = 0 := by omega
      subst hnn0
      go_wp2_with fail
      go_ret
      exact ⟨ret_bool he.out.symm, KR.out⟩
end Go.Proofs.Ytkmpajdiedpfhaa
