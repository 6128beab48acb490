/- The door laws of the package call: CallNames, CallChecks, CallObjects walked. No conditions. -/
import Derived.Test.YtkmpajdiedpfhaaDoorCallRow
namespace Go.Proofs.YtkmpajdiedpfhaaDoor
open Go.ChangeShapes Go.WideShapes Go.ChangeAt Go.RowKit Go.Joins
set_option linter.unusedVariables false
set_option linter.unusedSimpArgs false
namespace Call24
section
variable {w : World} {ta oa wo : Option Addr} {tl tc ol oc wl wc : Nat} {kd : Nat → Int} {k hh a b1 t : Int} {caps : Nat → Int} {ctl : Nat → Bool} {prio : Nat → Int} {pg : Nat → Option Addr × Nat × Nat}
theorem call_check' (ho : Ob w ⟨ta, tl, tc, oa, ol, oc, kd⟩) (ht : Th w ⟨ta, tl, tc, oa, ol, oc, kd⟩ caps ctl prio pg) (hwm : wl ≤ wc ∧ wc ≤ maxLen) (n : Int) :
    Calls Tryd.prog 11 #[.agg #[.slice ta tl tc, .slice oa ol oc], .int .i64 n, .agg #[.int .i64 k, .int .i64 hh, .int .i64 a, .int .i64 b1, .slice wo wl wc, .int .i64 t]] w fun e w' => e = .returned (.int .i64 (checkI caps ctl ⟨ta, tl, tc, oa, ol, oc, kd⟩ ⟨k, hh, a, b1, wo, wl, wc, t⟩ n)) ∧ Keep [] w w' :=
  call_check ⟨ta, tl, tc, oa, ol, oc, kd⟩ ⟨k, hh, a, b1, wo, wl, wc, t⟩ ho ht hwm n
theorem ref_check' (ho : Ob w ⟨ta, tl, tc, oa, ol, oc, kd⟩) (ht : Th w ⟨ta, tl, tc, oa, ol, oc, kd⟩ caps ctl prio pg) (hwm : wl ≤ wc ∧ wc ≤ maxLen) (n : Int) :
    Calls Tryd.prog 12 #[.agg #[.slice ta tl tc, .slice oa ol oc], .int .i64 n, .agg #[.int .i64 k, .int .i64 hh, .int .i64 a, .int .i64 b1, .slice wo wl wc, .int .i64 t]] w fun e w' => e = .returned (.int .i64 (checkI caps ctl ⟨ta, tl, tc, oa, ol, oc, kd⟩ ⟨k, hh, a, b1, wo, wl, wc, t⟩ n)) ∧ Keep [] w w' :=
  ref_check ⟨ta, tl, tc, oa, ol, oc, kd⟩ ⟨k, hh, a, b1, wo, wl, wc, t⟩ ho ht hwm n
theorem call_object' (ho : Ob w ⟨ta, tl, tc, oa, ol, oc, kd⟩) :
    Calls Tryd.prog 13 #[.agg #[.slice ta tl tc, .slice oa ol oc], .agg #[.int .i64 k, .int .i64 hh, .int .i64 a, .int .i64 b1, .slice wo wl wc, .int .i64 t]] w fun e w' => e = .returned (.tuple #[.int .i64 (objI ⟨ta, tl, tc, oa, ol, oc, kd⟩ ⟨k, hh, a, b1, wo, wl, wc, t⟩), .bool (objB ⟨ta, tl, tc, oa, ol, oc, kd⟩ ⟨k, hh, a, b1, wo, wl, wc, t⟩)]) ∧ Keep [] w w' :=
  call_object ho ⟨k, hh, a, b1, wo, wl, wc, t⟩
theorem ref_object' (ho : Ob w ⟨ta, tl, tc, oa, ol, oc, kd⟩) :
    Calls Tryd.prog 14 #[.agg #[.slice ta tl tc, .slice oa ol oc], .agg #[.int .i64 k, .int .i64 hh, .int .i64 a, .int .i64 b1, .slice wo wl wc, .int .i64 t]] w fun e w' => e = .returned (.tuple #[.int .i64 (objI ⟨ta, tl, tc, oa, ol, oc, kd⟩ ⟨k, hh, a, b1, wo, wl, wc, t⟩), .bool (objB ⟨ta, tl, tc, oa, ol, oc, kd⟩ ⟨k, hh, a, b1, wo, wl, wc, t⟩)]) ∧ Keep [] w w' :=
  ref_object ho ⟨k, hh, a, b1, wo, wl, wc, t⟩
theorem call_waits' : Calls Tryd.prog 15 #[.agg #[.int .i64 k, .int .i64 hh, .int .i64 a, .int .i64 b1, .slice wo wl wc, .int .i64 t]] w fun e w' => e = .returned (.bool (waitsB ⟨k, hh, a, b1, wo, wl, wc, t⟩)) ∧ Keep [] w w' :=
  call_waits ⟨k, hh, a, b1, wo, wl, wc, t⟩
theorem ref_waits' : Calls Tryd.prog 16 #[.agg #[.int .i64 k, .int .i64 hh, .int .i64 a, .int .i64 b1, .slice wo wl wc, .int .i64 t]] w fun e w' => e = .returned (.bool (waitsB ⟨k, hh, a, b1, wo, wl, wc, t⟩)) ∧ Keep [] w w' :=
  ref_waits ⟨k, hh, a, b1, wo, wl, wc, t⟩
end
/-- The two boxes read as they did. -/
def Boxes (w : World) (x y : Nat) (ta : Option Addr) (tl tc : Nat) (oa : Option Addr) (ol oc : Nat) (k hh a b1 : Int) (wo : Option Addr) (wl wc : Nat) (t : Int) : Prop :=
  w.cell? ⟨x, 0, none⟩ = some (.slice ta tl tc) ∧ w.cell? ⟨x, 1, none⟩ = some (.slice oa ol oc) ∧ w.cell? ⟨y, 0, none⟩ = some (.int .i64 k) ∧ w.cell? ⟨y, 1, none⟩ = some (.int .i64 hh) ∧ w.cell? ⟨y, 2, none⟩ = some (.int .i64 a) ∧ w.cell? ⟨y, 3, none⟩ = some (.int .i64 b1) ∧ w.cell? ⟨y, 4, none⟩ = some (.slice wo wl wc) ∧ w.cell? ⟨y, 5, none⟩ = some (.int .i64 t)
theorem Boxes.mk {w : World} {x y : Nat} {ta : Option Addr} {tl tc : Nat} {oa : Option Addr} {ol oc : Nat} {k hh a b1 : Int} {wo : Option Addr} {wl wc : Nat} {t : Int} {T U : TypeId}
    (h1 : w.heap[x]? = some (.cells #[.slice ta tl tc, .slice oa ol oc] T (0, 0))) (h2 : w.heap[y]? = some (.cells #[.int .i64 k, .int .i64 hh, .int .i64 a, .int .i64 b1, .slice wo wl wc, .int .i64 t] U (0, 0))) : Boxes w x y ta tl tc oa ol oc k hh a b1 wo wl wc t :=
  ⟨(cells2 h1).1, (cells2 h1).2, cells6 h2⟩
theorem callNames_walk (k : Int) (w : World) (h : NamesAt w) :
    Calls Tryd.prog 3 #[.int .i64 k] w fun e w' => e = .returned (.bool true) ∧ Keep [] w w' := by
  have H := Lib.hid h
  clear h
  by_cases hk : 0 ≤ k ∧ k < 24
  · obtain ⟨n, rfl⟩ : ∃ n : Nat, k = n := ⟨k.toNat, by omega⟩
    have hn : n < 24 := by omega
    go_enter Tryd.func3, Tryd.ntmps3
    go_wp2_with fail
    refine (call_awake H.out).mono ?_
    rintro e w1 ⟨rfl, k1⟩
    have K1 := Lib.hid k1
    clear k1
    go_wp2_with fail
    refine (call_name_in (H.out.keep K1.out) n hn).mono ?_
    rintro e w2 ⟨rfl, rfl⟩
    go_wp2_with fail
    refine (ref_name_in n hn).mono ?_
    rintro e w2 ⟨rfl, k2⟩
    have K2 := Lib.hid (K1.out.trans k2)
    clear k2
    go_wp2_with fail
    go_ret
    exact ⟨ret_bool (by simp), K2.out⟩
  · have hb : isB k = false := by simp [isB]; omega
    have hk2 : k < 0 ∨ 23 < k := by omega
    go_enter Tryd.func3, Tryd.ntmps3
    go_wp2_with fail
    refine (call_awake H.out).mono ?_
    rintro e w1 ⟨rfl, k1⟩
    have K1 := Lib.hid k1
    clear k1
    go_wp2_with fail
    refine (call_name_out k hb).mono ?_
    rintro e w2 ⟨rfl, rfl⟩
    go_wp2_with fail
    refine (ref_name_out k hk2).mono ?_
    rintro e w2 ⟨rfl, k2⟩
    have K2 := Lib.hid (K1.out.trans k2)
    clear k2
    go_wp2_with fail
    go_ret
    exact ⟨ret_bool (by simp), K2.out⟩
set_option maxHeartbeats 2000000 in
set_option maxRecDepth 100000 in
theorem callChecks_walk {w : World} (h : NamesAt w) (p : Pt) (c : Cl) {caps : Nat → Int} {ctl : Nat → Bool} {prio : Nat → Int} {pg : Nat → Option Addr × Nat × Nat} (ho : Ob w p) (ht : Th w p caps ctl prio pg) (hg : Pg w p pg) (hwm : c.wl ≤ c.wc ∧ c.wc ≤ maxLen) (n : Int) :
    Calls Tryd.prog 4 #[.agg p.cells, .int .i64 n, .agg c.cells] w fun e w' => e = .returned (.bool true) ∧ Keep [] w w' := by
  obtain ⟨k, hh, a, b1, wo, wl, wc, t⟩ := c
  obtain ⟨ta, tl, tc, oa, ol, oc, kd⟩ := p
  have H := Lib.hid h; have HO := Lib.hid ho; have HT := Lib.hid ht; have HG := Lib.hid hg; have HW := Lib.hid hwm
  simp only at hwm
  clear h ho ht hg
  have hw1 := hwm.1; have hw2 := hwm.2
  unfold maxLen at hw2
  clear hwm
  have KK : Hid (Keep [] w ((w.alloc (.cells #[.slice ta tl tc, .slice oa ol oc] 28)).alloc (.cells #[.int .i64 k, .int .i64 hh, .int .i64 a, .int .i64 b1, .slice wo wl wc, .int .i64 t] 31))) := Lib.hid (((Keep.refl [] w).alloc _).alloc _)
  have A1 := Lib.hid (two_fst w (.cells #[.slice ta tl tc, .slice oa ol oc] 28) (.cells #[.int .i64 k, .int .i64 hh, .int .i64 a, .int .i64 b1, .slice wo wl wc, .int .i64 t] 31))
  have A2 := Lib.hid (two_snd w (.cells #[.slice ta tl tc, .slice oa ol oc] 28) (.cells #[.int .i64 k, .int .i64 hh, .int .i64 a, .int .i64 b1, .slice wo wl wc, .int .i64 t] 31))
  unfold Pt.cells Cl.cells
  go_enter Tryd.func4, Tryd.ntmps4
  go_wp2_with fail
  refine (call_awake (H.out.keep KK.out)).mono ?_
  rintro e w1 ⟨rfl, k1⟩
  have K1 := Lib.hid (KK.out.trans k1)
  have B1 := Lib.hid (k1.to A1.out (by simp)); have B2 := Lib.hid (k1.to A2.out (by simp))
  clear k1
  obtain ⟨q0, q1⟩ := cells2 B1.out; obtain ⟨r0, r1, r2, r3, r4, r5⟩ := cells6 B2.out
  by_cases hl : (20 : Int) < wl
  all_goals
    go_wp2_with fail
    refine (few_part ⟨ta, tl, tc, oa, ol, oc, kd⟩ (HO.out.keep K1.out) (HT.out.keep K1.out) (fun i hi => ?_)).mono ?_
    · obtain ⟨g1, g2, g3⟩ := HG.out i hi
      exact ⟨g1, g2, fun j hj => let ⟨b, o, x, y, z, e1, e2, e3⟩ := g3 j hj; ⟨b, o, x, y, z, e1, cell_keep K1.out e2 (by simp), e3⟩⟩
    rintro e w2 ⟨r, rfl, hr, k2⟩
    have K2 := Lib.hid (K1.out.trans k2)
    have C1 := Lib.hid (k2.to B1.out (by simp)); have C2 := Lib.hid (k2.to B2.out (by simp))
    clear k2 hr q0 q1 r0 r1 r2 r3 r4 r5
    obtain ⟨q0, q1⟩ := cells2 C1.out; obtain ⟨r0, r1, r2, r3, r4, r5⟩ := cells6 C2.out
    cases r
  all_goals try
    (go_wp2_with fail
     refine (call_awake (H.out.keep K2.out)).mono ?_
     rintro e w3 ⟨rfl, k3⟩
     have K3 := Lib.hid (K2.out.trans k3)
     clear k3
     go_wp2_with fail
     go_ret
     exact ⟨rfl, K3.out⟩)
  · go_wp2_with fail
    go_region_held3 (fun w' => w'.cell? ⟨w.heap.size, 0, none⟩ = some (.slice ta tl tc) ∧ w'.cell? ⟨w.heap.size, 1, none⟩ = some (.slice oa ol oc) ∧ w'.cell? ⟨w.heap.size + 1, 0, none⟩ = some (.int .i64 k) ∧ w'.cell? ⟨w.heap.size + 1, 1, none⟩ = some (.int .i64 hh) ∧ w'.cell? ⟨w.heap.size + 1, 2, none⟩ = some (.int .i64 a) ∧ w'.cell? ⟨w.heap.size + 1, 3, none⟩ = some (.int .i64 b1) ∧ w'.cell? ⟨w.heap.size + 1, 4, none⟩ = some (.slice wo wl wc) ∧ w'.cell? ⟨w.heap.size + 1, 5, none⟩ = some (.int .i64 t))
      (first | go_keep | exact S3.out | exact S4.out)
      (first
        | (go_at_call 11; ((with_reducible refine (call_check' (HO.out.keep (K2.out.drew)) (HT.out.keep (K2.out.drew)) HW.out n).mono ?_); rintro e w3 ⟨rfl, k3⟩; have K3 := Lib.hid (K2.out.drew.trans k3); have D1 := Lib.hid (k3.to (Keep.to (Keep.refl [] w2).drew C1.out (by simp)) (by simp)); have D2 := Lib.hid (k3.to (Keep.to (Keep.refl [] w2).drew C2.out (by simp)) (by simp)); have S3 := Lib.hid (Boxes.mk D1.out D2.out); clear k3))
        | (go_at_call 12; ((with_reducible refine (ref_check' (HO.out.keep K3.out) (HT.out.keep K3.out) HW.out n).mono ?_); rintro e w4 ⟨rfl, k4⟩; have K4 := Lib.hid (K3.out.trans k4); have S4 := Lib.hid (Boxes.mk (k4.to D1.out (by simp)) (k4.to D2.out (by simp))); clear k4)))
    go_wp2_with fail
    go_ret
    exact ⟨ret_bool (by simp), by first | exact K4.out | exact K4.out.drewN _⟩
set_option maxHeartbeats 2000000 in
set_option maxRecDepth 100000 in
theorem callObjects_walk {w : World} (h : NamesAt w) (p : Pt) (c : Cl) {caps : Nat → Int} {ctl : Nat → Bool} {prio : Nat → Int} {pg : Nat → Option Addr × Nat × Nat} (ho : Ob w p) (ht : Th w p caps ctl prio pg) (hg : Pg w p pg) (hwm : c.wl ≤ c.wc ∧ c.wc ≤ maxLen) :
    Calls Tryd.prog 6 #[.agg p.cells, .agg c.cells] w fun e w' => e = .returned (.bool true) ∧ Keep [] w w' := by
  obtain ⟨k, hh, a, b1, wo, wl, wc, t⟩ := c
  obtain ⟨ta, tl, tc, oa, ol, oc, kd⟩ := p
  have H := Lib.hid h; have HO := Lib.hid ho; have HT := Lib.hid ht; have HG := Lib.hid hg; have HW := Lib.hid hwm
  simp only at hwm
  clear h ho ht hg
  have hw1 := hwm.1; have hw2 := hwm.2
  unfold maxLen at hw2
  clear hwm
  have KK : Hid (Keep [] w ((w.alloc (.cells #[.slice ta tl tc, .slice oa ol oc] 28)).alloc (.cells #[.int .i64 k, .int .i64 hh, .int .i64 a, .int .i64 b1, .slice wo wl wc, .int .i64 t] 31))) := Lib.hid (((Keep.refl [] w).alloc _).alloc _)
  have A1 := Lib.hid (two_fst w (.cells #[.slice ta tl tc, .slice oa ol oc] 28) (.cells #[.int .i64 k, .int .i64 hh, .int .i64 a, .int .i64 b1, .slice wo wl wc, .int .i64 t] 31))
  have A2 := Lib.hid (two_snd w (.cells #[.slice ta tl tc, .slice oa ol oc] 28) (.cells #[.int .i64 k, .int .i64 hh, .int .i64 a, .int .i64 b1, .slice wo wl wc, .int .i64 t] 31))
  unfold Pt.cells Cl.cells
  go_enter Tryd.func6, Tryd.ntmps6
  go_wp2_with fail
  refine (call_awake (H.out.keep KK.out)).mono ?_
  rintro e w1 ⟨rfl, k1⟩
  have K1 := Lib.hid (KK.out.trans k1)
  have B1 := Lib.hid (k1.to A1.out (by simp)); have B2 := Lib.hid (k1.to A2.out (by simp))
  clear k1
  obtain ⟨q0, q1⟩ := cells2 B1.out; obtain ⟨r0, r1, r2, r3, r4, r5⟩ := cells6 B2.out
  by_cases hl : (20 : Int) < wl
  all_goals
    go_wp2_with fail
    refine (few_part ⟨ta, tl, tc, oa, ol, oc, kd⟩ (HO.out.keep K1.out) (HT.out.keep K1.out) (fun i hi => ?_)).mono ?_
    · obtain ⟨g1, g2, g3⟩ := HG.out i hi
      exact ⟨g1, g2, fun j hj => let ⟨b, o, x, y, z, e1, e2, e3⟩ := g3 j hj; ⟨b, o, x, y, z, e1, cell_keep K1.out e2 (by simp), e3⟩⟩
    rintro e w2 ⟨r, rfl, hr, k2⟩
    have K2 := Lib.hid (K1.out.trans k2)
    have C1 := Lib.hid (k2.to B1.out (by simp)); have C2 := Lib.hid (k2.to B2.out (by simp))
    clear k2 hr q0 q1 r0 r1 r2 r3 r4 r5
    obtain ⟨q0, q1⟩ := cells2 C1.out; obtain ⟨r0, r1, r2, r3, r4, r5⟩ := cells6 C2.out
    cases r
  all_goals try
    (go_wp2_with fail
     refine (call_awake (H.out.keep K2.out)).mono ?_
     rintro e w3 ⟨rfl, k3⟩
     have K3 := Lib.hid (K2.out.trans k3)
     clear k3
     go_wp2_with fail
     go_ret
     exact ⟨rfl, K3.out⟩)
  · go_wp2_with fail
    refine (call_object' (HO.out.keep K2.out)).mono ?_
    rintro e w3 ⟨rfl, k3⟩
    have K3 := Lib.hid (K2.out.trans k3)
    have D1 := Lib.hid (k3.to C1.out (by simp)); have D2 := Lib.hid (k3.to C2.out (by simp))
    clear k3 q0 q1 r0 r1 r2 r3 r4 r5
    obtain ⟨q0, q1⟩ := cells2 D1.out; obtain ⟨r0, r1, r2, r3, r4, r5⟩ := cells6 D2.out
    go_wp2_with fail
    refine (ref_object' (HO.out.keep K3.out)).mono ?_
    rintro e w4 ⟨rfl, k4⟩
    have K4 := Lib.hid (K3.out.trans k4)
    have E1 := Lib.hid (k4.to D1.out (by simp)); have E2 := Lib.hid (k4.to D2.out (by simp))
    clear k4 q0 q1 r0 r1 r2 r3 r4 r5
    obtain ⟨q0, q1⟩ := cells2 E1.out; obtain ⟨r0, r1, r2, r3, r4, r5⟩ := cells6 E2.out
    generalize objI ⟨ta, tl, tc, oa, ol, oc, kd⟩ ⟨k, hh, a, b1, wo, wl, wc, t⟩ = oi
    generalize objB ⟨ta, tl, tc, oa, ol, oc, kd⟩ ⟨k, hh, a, b1, wo, wl, wc, t⟩ = ob
    have e1 : decide (oi = oi) = true := by simp
    have e2 : (ob == ob) = true := by simp
    go_wp2_with fail
    go_region_held3 (fun w' => w'.cell? ⟨w.heap.size, 0, none⟩ = some (.slice ta tl tc) ∧ w'.cell? ⟨w.heap.size, 1, none⟩ = some (.slice oa ol oc) ∧ w'.cell? ⟨w.heap.size + 1, 0, none⟩ = some (.int .i64 k) ∧ w'.cell? ⟨w.heap.size + 1, 1, none⟩ = some (.int .i64 hh) ∧ w'.cell? ⟨w.heap.size + 1, 2, none⟩ = some (.int .i64 a) ∧ w'.cell? ⟨w.heap.size + 1, 3, none⟩ = some (.int .i64 b1) ∧ w'.cell? ⟨w.heap.size + 1, 4, none⟩ = some (.slice wo wl wc) ∧ w'.cell? ⟨w.heap.size + 1, 5, none⟩ = some (.int .i64 t))
      (first | go_keep | exact S5.out | exact S6.out)
      (first
        | (go_at_call 15; ((with_reducible refine call_waits'.mono ?_); rintro e w5 ⟨rfl, k5⟩; have K5 := Lib.hid (K4.out.drew.trans k5); have F1 := Lib.hid (k5.to (Keep.to (Keep.refl [] w4).drew E1.out (by simp)) (by simp)); have F2 := Lib.hid (k5.to (Keep.to (Keep.refl [] w4).drew E2.out (by simp)) (by simp)); have S5 := Lib.hid (Boxes.mk F1.out F2.out); clear k5))
        | (go_at_call 16; ((with_reducible refine ref_waits'.mono ?_); rintro e w6 ⟨rfl, k6⟩; have K6 := Lib.hid (K5.out.trans k6); have S6 := Lib.hid (Boxes.mk (k6.to F1.out (by simp)) (k6.to F2.out (by simp))); clear k6)))
    go_wp2_with fail
    go_ret
    exact ⟨ret_bool (by simp), by first | exact K6.out | exact K6.out.drewN _⟩
end Call24
end Go.Proofs.YtkmpajdiedpfhaaDoor
