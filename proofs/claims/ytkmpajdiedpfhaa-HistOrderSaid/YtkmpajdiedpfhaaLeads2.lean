/- The contracts of FewPart, Few, and of the two searches over channels. No conditions but those stated. -/
import Derived.Test.YtkmpajdiedpfhaaConf
import Derived.Test.YtkmpajdiedpfhaaLeads1
import Derived.Test.YtkmpajdiedpfhaaQu
import Derived.Test.YtkmpajdiedpfhaaSeen
import Derived.Deep.CutRange
import Derived.Deep.DeepCutAuto
namespace Go.Proofs.Ytkmpajdiedpfhaa
open Go.ChangeShapes Go.WideShapes Go.ChangeAt Go.RowKit
set_option linter.unusedVariables false
set_option linter.unusedSimpArgs false
theorem cell_keep {S : List Nat} {w w' : World} (k : Keep S w w') {g i : Nat} {v : Value} (h : w.cell? ⟨g, i, none⟩ = some v) (hg : g ∉ S) : w'.cell? ⟨g, i, none⟩ = some v := by
  rw [World.cell?_of_block (w := w) (k.block g (World.block_lt_of_cell? w _ h) hg)]
  exact h
theorem cells2 {w : World} {g : Nat} {T : TypeId} {v0 v1 : Value} (h : w.heap[g]? = some (.cells #[v0, v1] T (0, 0))) : w.cell? ⟨g, 0, none⟩ = some v0 ∧ w.cell? ⟨g, 1, none⟩ = some v1 := ⟨cell_of h rfl, cell_of h rfl⟩
theorem cells3 {w : World} {g : Nat} {T : TypeId} {v0 v1 v2 : Value} (h : w.heap[g]? = some (.cells #[v0, v1, v2] T (0, 0))) : w.cell? ⟨g, 0, none⟩ = some v0 ∧ w.cell? ⟨g, 1, none⟩ = some v1 ∧ w.cell? ⟨g, 2, none⟩ = some v2 := ⟨cell_of h rfl, cell_of h rfl, cell_of h rfl⟩
theorem get_of {α : Type} {l : List α} {n i : Nat} (h : Hid (l.length = n)) (hi : i < n) : ∃ x, l[i]? = some x := ⟨l[i]'(by rw [h.out]; exact hi), List.getElem?_eq_getElem (by rw [h.out]; exact hi)⟩
def FewPost (w : World) (P : Prop) (e : Ending) (w' : World) : Prop := ∃ r, e = .returned (.bool r) ∧ (r = true → P) ∧ Keep [] w w'
set_option maxHeartbeats 1000000 in
set_option maxRecDepth 100000 in
theorem few_part {B : Nat → Prop} {w : World} {x : PartD} {v1 v2 : Value} (h1 : SlD B w 4 (ThreadRep B w) v1 x.threads) (h2 : SlD B w 3 ObjRep v2 x.objs) :
    Calls Try.prog 29 #[.agg #[v1, v2]] w (FewPost w (x.threads.length ≤ 20 ∧ x.objs.length ≤ 20)) := by
  obtain ⟨ta, tc, rfl, t1, t2, t3⟩ := h1
  obtain ⟨oa, oc, rfl, o1, o2, o3⟩ := h2
  generalize htl : x.threads.length = tl at *
  generalize hol : x.objs.length = ol at *
  unfold maxLen at t2 o2
  have T3 := Lib.hid t3
  have Htl := Lib.hid htl
  have Hol := Lib.hid hol
  clear t3 o3 htl hol
  have KK : Hid (Keep [] w (w.alloc (.cells #[.slice ta tl tc, .slice oa ol oc] 54))) := Lib.hid ((Keep.refl _ _).alloc _)
  by_cases h1 : (20 : Int) < tl
  · go_enter Try.func29, Try.ntmps29
    go_wp2_with fail
    go_ret
    exact ⟨false, rfl, (fun e => by cases e), KK.out⟩
  by_cases h2 : (20 : Int) < ol
  · go_enter Try.func29, Try.ntmps29
    go_wp2_with fail
    go_ret
    exact ⟨false, rfl, (fun e => by cases e), KK.out⟩
  · have q0 := (cells2 (heap_alloc_new w (.cells #[.slice ta tl tc, .slice oa ol oc] 54))).1
    go_enter Try.func29, Try.ntmps29
    go_wp2_with fail
    generalize w.alloc (.cells #[.slice ta tl tc, .slice oa ol oc] 54) = w2 at *
    go_loop [19] (fun c => ∃ i : Nat, c = .int .i64 i ∧ i ≤ tl) (fun c => tl - (intOf c).toNat)
    case atStart => exact ⟨0, rfl, Nat.zero_le _⟩
    case round =>
      obtain ⟨i, rfl, hi⟩ := hrel
      by_cases hlt : i < tl
      · have hlt' : (i : Int) < tl := by omega
        obtain ⟨y, hy⟩ := get_of Htl hlt
        obtain ⟨b, o, cs, rfl, _, _, _, hc, pv, rfl, _, _, ⟨pa, pc, rfl, p1, p2, p3⟩, _⟩ := T3.out i y hy
        have c3 := cell_keep KK.out (hc 3 _ rfl) (by simp)
        have P3 := Lib.hid p3
        unfold maxLen at p2
        generalize y.prog = pg at *
        generalize hpl : pg.length = pl at *
        have Hpl := Lib.hid hpl
        clear p3 hc hpl hy
        by_cases h60 : (60 : Int) < pl
        · go_wp2_with fail
          go_ret
          exact ⟨false, rfl, (fun e => by cases e), KK.out⟩
        · go_wp2_with fail
          go_loop [33] (fun c => ∃ j : Nat, c = .int .i64 j ∧ j ≤ pl) (fun c => pl - (intOf c).toNat)
          case atStart => exact ⟨0, rfl, Nat.zero_le _⟩
          case round =>
            obtain ⟨j, rfl, hj⟩ := hrel
            by_cases hjl : j < pl
            · have hjl' : (j : Int) < pl := by omega
              obtain ⟨z, hz⟩ := get_of Hpl hjl
              obtain ⟨b2, o2, cs2, rfl, _, _, _, hc2, wv, rfl, ⟨wo, wc, rfl, e1, e2, _⟩, _⟩ := P3.out j z hz
              have c5 := cell_keep KK.out (hc2 4 _ rfl) (by simp)
              unfold maxLen at e2
              clear hc2 hz
              generalize z.words.length = wl at *
              by_cases hw : (20 : Int) < wl
              · go_wp2_with fail
                go_ret
                exact ⟨false, rfl, (fun e => by cases e), KK.out⟩
              · go_wp2_with fail
                go_round
                case rel => exact ⟨j + 1, by go_num, by omega⟩
                case measure => simp [intOf]; omega
            · go_wp2_with fail
              go_round
              case rel => exact ⟨i + 1, by go_num, by omega⟩
              case measure => simp [intOf]; omega
      · go_wp2_with fail
        go_ret
        exact ⟨true, rfl, fun _ => ⟨by omega, by omega⟩, KK.out⟩
def few (x : ConfD) : Prop := x.parts.length ≤ 20 ∧ x.wins.length ≤ 100 ∧ x.chans.length ≤ 40
set_option maxHeartbeats 1000000 in
set_option maxRecDepth 100000 in
theorem law_few {B : Nat → Prop} {w : World} {x : ConfD} {v : Value} (h : ConfRep B w x v) :
    Calls Try.prog 11 #[v] w (FewPost w (few x)) := by
  obtain ⟨v1, v2, v3, rfl, ⟨pa, pc, rfl, p1, p2, p3⟩, ⟨wa, wc, rfl, w1, w2, _⟩, ⟨ca, cc, rfl, c1, c2, _⟩⟩ := h
  unfold few
  generalize hpl : x.parts.length = pl at *
  generalize x.wins.length = wl at *
  generalize x.chans.length = cl at *
  unfold maxLen at p2 w2 c2
  have P3 := Lib.hid p3
  have Hpl := Lib.hid hpl
  clear p3 hpl
  have KK : Hid (Keep [] w (w.alloc (.cells #[.slice pa pl pc, .slice wa wl wc, .slice ca cl cc] 26))) := Lib.hid ((Keep.refl _ _).alloc _)
  have BX := Lib.hid (heap_alloc_new w (.cells #[.slice pa pl pc, .slice wa wl wc, .slice ca cl cc] 26))
  by_cases h1 : (20 : Int) < pl
  · go_enter Try.func11, Try.ntmps11
    go_wp2_with fail
    go_ret
    exact ⟨false, rfl, (fun e => by cases e), KK.out⟩
  by_cases h2 : (100 : Int) < wl
  · go_enter Try.func11, Try.ntmps11
    go_wp2_with fail
    go_ret
    exact ⟨false, rfl, (fun e => by cases e), KK.out⟩
  by_cases h3 : (40 : Int) < cl
  · go_enter Try.func11, Try.ntmps11
    go_wp2_with fail
    go_ret
    exact ⟨false, rfl, (fun e => by cases e), KK.out⟩
  · go_enter Try.func11, Try.ntmps11
    go_wp2_with fail
    generalize w.alloc (.cells #[.slice pa pl pc, .slice wa wl wc, .slice ca cl cc] 26) = w2 at *
    go_loopw [23] (fun c wr => ∃ i : Nat, c = .int .i64 i ∧ i ≤ pl ∧ Keep [] w wr ∧ wr.heap[w.heap.size]? = some (.cells #[.slice pa pl pc, .slice wa wl wc, .slice ca cl cc] 26 (0, 0))) (fun c _ => pl - (intOf c).toNat)
    case atStart => exact ⟨0, rfl, Nat.zero_le _, KK.out, BX.out⟩
    case round =>
      obtain ⟨i, rfl, hi, kr, br⟩ := hrel
      have KR := Lib.hid kr
      have BR := Lib.hid br
      clear kr br
      by_cases hlt : i < pl
      · have hlt' : (i : Int) < pl := by omega
        obtain ⟨y, hy⟩ := get_of Hpl hlt
        obtain ⟨b, o, cs, rfl, _, _, _, hc, s1, s2, rfl, hs1, hs2⟩ := P3.out i y hy
        have c3 := cell_keep KR.out (hc 0 _ rfl) (by simp)
        have c4 := cell_keep KR.out (hc 1 _ rfl) (by simp)
        simp only [Nat.add_zero] at c3
        have q0 := (cells3 BR.out).1
        clear hc hy
        go_wp2_with fail
        refine (few_part (hs1.keep KR.out.size (fun b _ hb => KR.out.block b hb (by simp)) (fun _ h => h) (fun _ _ _ h => h.kept KR.out)) (hs2.kept KR.out)).mono ?_
        rintro e w3 ⟨r, rfl, _, k3⟩
        have K3 := Lib.hid (KR.out.trans k3)
        have B3 := Lib.hid (k3.to BR.out (by simp))
        clear k3 hs1 hs2
        cases r
        · go_wp2_with fail
          go_ret
          exact ⟨false, rfl, (fun e => by cases e), K3.out⟩
        · go_wp2_with fail
          go_roundw
          case rel => exact ⟨i + 1, by go_num, by omega, K3.out, B3.out⟩
          case measure => simp [intOf]; omega
      · go_wp2_with fail
        go_ret
        exact ⟨true, rfl, fun _ => ⟨by omega, by omega, by omega⟩, KR.out⟩
end Go.Proofs.Ytkmpajdiedpfhaa
