/- The contract of Few, with all that it looks at. No conditions but those stated. -/
import Derived.Test.YtkmpajdiedpfhaaLeads2
import Derived.Test.YtkmpajdiedpfhaaClone6
namespace Go.Proofs.Ytkmpajdiedpfhaa
open Go.ChangeShapes Go.WideShapes Go.ChangeAt Go.RowKit
set_option linter.unusedVariables false
set_option linter.unusedSimpArgs false
namespace Clone
set_option maxHeartbeats 1000000 in
set_option maxRecDepth 100000 in
theorem few_part2 {B : Nat → Prop} {w : World} {x : PartD} {v1 v2 : Value} (h1 : SlD B w 4 (ThreadRep B w) v1 x.threads) (h2 : SlD B w 3 ObjRep v2 x.objs) :
    Calls Try.prog 29 #[.agg #[v1, v2]] w (FewPost w (smallP x)) := by
  obtain ⟨ta, tc, rfl, t1, t2, t3⟩ := h1
  obtain ⟨oa, oc, rfl, o1, o2, o3⟩ := h2
  obtain ⟨ths, obs⟩ := x
  simp only at t1 t2 t3 o1 o2 o3 ⊢
  unfold smallP
  simp only
  generalize htl : ths.length = tl at *
  generalize hol : obs.length = ol at *
  unfold maxLen at t2 o2
  have T3 := Lib.hid t3
  have Htl := Lib.hid htl
  have Hol := Lib.hid hol
  clear t3 o3 htl hol
  have KK : Hid (Keep [] w (w.alloc (.cells #[.slice ta tl tc, .slice oa ol oc] 54))) := Lib.hid ((Keep.refl _ _).alloc _)
  by_cases h1 : (20 : Int) < tl
  · go_enter Try.func29, Try.ntmps29
    go_wp2_with fail
    go_ret
    exact ⟨false, rfl, (fun e => by cases e), KK.out⟩
  by_cases h2 : (20 : Int) < ol
  · go_enter Try.func29, Try.ntmps29
    go_wp2_with fail
    go_ret
    exact ⟨false, rfl, (fun e => by cases e), KK.out⟩
  · have q0 := (cells2 (heap_alloc_new w (.cells #[.slice ta tl tc, .slice oa ol oc] 54))).1
    go_enter Try.func29, Try.ntmps29
    go_wp2_with fail
    generalize w.alloc (.cells #[.slice ta tl tc, .slice oa ol oc] 54) = w2 at *
    go_loop [19] (fun c => ∃ i : Nat, c = .int .i64 i ∧ i ≤ tl ∧ ∀ (i' : Nat) (t : ThreadD), i' < i → ths[i']? = some t → smallT t) (fun c => tl - (intOf c).toNat)
    case atStart => exact ⟨0, rfl, Nat.zero_le _, fun _ _ h _ => absurd h (Nat.not_lt_zero _)⟩
    case round =>
      obtain ⟨i, rfl, hi, hsm⟩ := hrel
      have HSM := Lib.hid hsm
      clear hsm
      by_cases hlt : i < tl
      · have hlt' : (i : Int) < tl := by omega
        obtain ⟨y, hy⟩ := get_of Htl hlt
        obtain ⟨b, o, cs, rfl, _, _, _, hc, pv, rfl, _, _, ⟨pa, pc, rfl, p1, p2, p3⟩, _⟩ := T3.out i y hy
        have c3 := cell_keep KK.out (hc 3 _ rfl) (by simp)
        have P3 := Lib.hid p3
        unfold maxLen at p2
        have HY := Lib.hid hy
        generalize hpl : y.prog.length = pl at *
        have Hpl := Lib.hid hpl
        clear p3 hc hpl hy
        by_cases h60 : (60 : Int) < pl
        · go_wp2_with fail
          go_ret
          exact ⟨false, rfl, (fun e => by cases e), KK.out⟩
        · go_wp2_with fail
          go_loop [33] (fun c => ∃ j : Nat, c = .int .i64 j ∧ j ≤ pl ∧ ∀ (j' : Nat) (c : CallD), j' < j → y.prog[j']? = some c → smallC c) (fun c => pl - (intOf c).toNat)
          case atStart => exact ⟨0, rfl, Nat.zero_le _, fun _ _ h _ => absurd h (Nat.not_lt_zero _)⟩
          case round =>
            obtain ⟨j, rfl, hj, hsc⟩ := hrel
            have HSC := Lib.hid hsc
            clear hsc
            by_cases hjl : j < pl
            · have hjl' : (j : Int) < pl := by omega
              obtain ⟨z, hz⟩ := get_of Hpl hjl
              obtain ⟨b2, o2, cs2, rfl, _, _, _, hc2, wv, rfl, ⟨wo, wc, rfl, e1, e2, _⟩, _⟩ := P3.out j z hz
              have c5 := cell_keep KK.out (hc2 4 _ rfl) (by simp)
              unfold maxLen at e2
              have HZ := Lib.hid hz
              clear hc2 hz
              generalize hwl : z.words.length = wl at *
              have HWL := Lib.hid hwl
              clear hwl
              by_cases hw : (20 : Int) < wl
              · go_wp2_with fail
                go_ret
                exact ⟨false, rfl, (fun e => by cases e), KK.out⟩
              · go_wp2_with fail
                go_round
                case rel =>
                  refine ⟨j + 1, by go_num, by omega, fun j' c hj' hc' => ?_⟩
                  by_cases hjj : j' = j
                  · subst hjj
                    have := HZ.out
                    rw [hc'] at this
                    cases this
                    unfold smallC
                    rw [HWL.out]
                    omega
                  · exact HSC.out j' c (by omega) hc'
                case measure => simp [intOf]; omega
            · go_wp2_with fail
              go_round
              case rel =>
                refine ⟨i + 1, by go_num, by omega, fun i' t hi' ht' => ?_⟩
                by_cases hii : i' = i
                · subst hii
                  have := HY.out
                  rw [ht'] at this
                  cases this
                  refine ⟨by rw [Hpl.out]; omega, fun c hcm => ?_⟩
                  obtain ⟨j', hj'⟩ := List.mem_iff_getElem?.1 hcm
                  exact HSC.out j' c (by have := (List.getElem?_eq_some_iff.1 hj').1; rw [Hpl.out] at this; omega) hj'
                · exact HSM.out i' t (by omega) ht'
              case measure => simp [intOf]; omega
      · go_wp2_with fail
        go_ret
        refine ⟨true, rfl, fun _ => ⟨by omega, by omega, fun t htm => ?_⟩, KK.out⟩
        obtain ⟨i', hi'⟩ := List.mem_iff_getElem?.1 htm
        exact HSM.out i' t (by have := (List.getElem?_eq_some_iff.1 hi').1; rw [Htl.out] at this; omega) hi'
set_option maxHeartbeats 1000000 in
set_option maxRecDepth 100000 in
theorem law_few2 {B : Nat → Prop} {w : World} {x : ConfD} {v : Value} (h : ConfRep B w x v) :
    Calls Try.prog 11 #[v] w (FewPost w (smallF x)) := by
  obtain ⟨v1, v2, v3, rfl, ⟨pa, pc, rfl, p1, p2, p3⟩, ⟨wa, wc, rfl, w1, w2, _⟩, ⟨ca, cc, rfl, c1, c2, _⟩⟩ := h
  obtain ⟨pas, wis, chs⟩ := x
  simp only at p1 p2 p3 w1 w2 c1 c2 ⊢
  unfold smallF
  simp only
  generalize hpl : pas.length = pl at *
  generalize wis.length = wl at *
  generalize chs.length = cl at *
  unfold maxLen at p2 w2 c2
  have P3 := Lib.hid p3
  have Hpl := Lib.hid hpl
  clear p3 hpl
  have KK : Hid (Keep [] w (w.alloc (.cells #[.slice pa pl pc, .slice wa wl wc, .slice ca cl cc] 26))) := Lib.hid ((Keep.refl _ _).alloc _)
  have BX := Lib.hid (heap_alloc_new w (.cells #[.slice pa pl pc, .slice wa wl wc, .slice ca cl cc] 26))
  by_cases h1 : (20 : Int) < pl
  · go_enter Try.func11, Try.ntmps11
    go_wp2_with fail
    go_ret
    exact ⟨false, rfl, (fun e => by cases e), KK.out⟩
  by_cases h2 : (100 : Int) < wl
  · go_enter Try.func11, Try.ntmps11
    go_wp2_with fail
    go_ret
    exact ⟨false, rfl, (fun e => by cases e), KK.out⟩
  by_cases h3 : (40 : Int) < cl
  · go_enter Try.func11, Try.ntmps11
    go_wp2_with fail
    go_ret
    exact ⟨false, rfl, (fun e => by cases e), KK.out⟩
  · go_enter Try.func11, Try.ntmps11
    go_wp2_with fail
    generalize w.alloc (.cells #[.slice pa pl pc, .slice wa wl wc, .slice ca cl cc] 26) = w2 at *
    go_loopw [23] (fun c wr => ∃ i : Nat, c = .int .i64 i ∧ i ≤ pl ∧ (∀ (i' : Nat) (p : PartD), i' < i → pas[i']? = some p → smallP p) ∧ Keep [] w wr ∧ wr.heap[w.heap.size]? = some (.cells #[.slice pa pl pc, .slice wa wl wc, .slice ca cl cc] 26 (0, 0))) (fun c _ => pl - (intOf c).toNat)
    case atStart => exact ⟨0, rfl, Nat.zero_le _, fun _ _ h _ => absurd h (Nat.not_lt_zero _), KK.out, BX.out⟩
    case round =>
      obtain ⟨i, rfl, hi, hsm, kr, br⟩ := hrel
      have HSM := Lib.hid hsm
      clear hsm
      have KR := Lib.hid kr
      have BR := Lib.hid br
      clear kr br
      by_cases hlt : i < pl
      · have hlt' : (i : Int) < pl := by omega
        obtain ⟨y, hy⟩ := get_of Hpl hlt
        obtain ⟨b, o, cs, rfl, _, _, _, hc, s1, s2, rfl, hs1, hs2⟩ := P3.out i y hy
        have c3 := cell_keep KR.out (hc 0 _ rfl) (by simp)
        have c4 := cell_keep KR.out (hc 1 _ rfl) (by simp)
        simp only [Nat.add_zero] at c3
        have q0 := (cells3 BR.out).1
        clear hc
        go_wp2_with fail
        refine (few_part2 (x := y) (hs1.keep KR.out.size (fun b _ hb => KR.out.block b hb (by simp)) (fun _ h => h) (fun _ _ _ h => h.kept KR.out)) (hs2.kept KR.out)).mono ?_
        rintro e w3 ⟨r, rfl, hrr, k3⟩
        have HRR := Lib.hid hrr
        have HY := Lib.hid hy
        clear hrr hy
        have K3 := Lib.hid (KR.out.trans k3)
        have B3 := Lib.hid (k3.to BR.out (by simp))
        clear k3 hs1 hs2
        cases r
        · go_wp2_with fail
          go_ret
          exact ⟨false, rfl, (fun e => by cases e), K3.out⟩
        · go_wp2_with fail
          go_roundw
          case rel =>
            refine ⟨i + 1, by go_num, by omega, fun i' t hi' ht' => ?_, K3.out, B3.out⟩
            by_cases hii : i' = i
            · subst hii
              have := HY.out
              rw [ht'] at this
              cases this
              exact HRR.out trivial
            · exact HSM.out i' t (by omega) ht'
          case measure => simp [intOf]; omega
      · go_wp2_with fail
        go_ret
        refine ⟨true, rfl, fun _ => ⟨by omega, by omega, by omega, fun t htm => ?_⟩, KR.out⟩
        obtain ⟨i', hi'⟩ := List.mem_iff_getElem?.1 htm
        exact HSM.out i' t (by have := (List.getElem?_eq_some_iff.1 hi').1; rw [Hpl.out] at this; omega) hi'
end Clone
end Go.Proofs.Ytkmpajdiedpfhaa
