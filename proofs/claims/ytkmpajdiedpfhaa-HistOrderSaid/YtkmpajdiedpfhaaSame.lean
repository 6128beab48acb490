/- The contracts of SameCall and of the reference's Words. No conditions but those stated. -/
import Derived.Test.YtkmpajdiedpfhaaLeads5
import Derived.BigRegion
namespace Go.Proofs.Ytkmpajdiedpfhaa
open Go.ChangeShapes Go.WideShapes Go.ChangeAt Go.RowKit
set_option linter.unusedVariables false
set_option linter.unusedSimpArgs false
namespace Same
theorem two_fst (w : World) (o1 o2 : Obj) : ((w.alloc o1).alloc o2).heap[w.heap.size]? = some o1 := by rw [Go.RowKit.Below.heap_alloc _ _ _ (by simp)]; exact heap_alloc_new w o1
theorem two_snd (w : World) (o1 o2 : Obj) : ((w.alloc o1).alloc o2).heap[w.heap.size + 1]? = some o2 := by
  have h := heap_alloc_new (w.alloc o1) o2
  have e : (w.alloc o1).heap.size = w.heap.size + 1 := by simp
  rw [e] at h
  exact h
theorem cells6 {w : World} {g : Nat} {T : TypeId} {v0 v1 v2 v3 v4 v5 : Value} (h : w.heap[g]? = some (.cells #[v0, v1, v2, v3, v4, v5] T (0, 0))) :
    w.cell? ⟨g, 0, none⟩ = some v0 ∧ w.cell? ⟨g, 1, none⟩ = some v1 ∧ w.cell? ⟨g, 2, none⟩ = some v2 ∧ w.cell? ⟨g, 3, none⟩ = some v3 ∧ w.cell? ⟨g, 4, none⟩ = some v4 ∧ w.cell? ⟨g, 5, none⟩ = some v5 :=
  ⟨cell_of h rfl, cell_of h rfl, cell_of h rfl, cell_of h rfl, cell_of h rfl, cell_of h rfl⟩
theorem take_succ_eq {l m : List Int} {k : Nat} {x : Int} (h : l.take k = m.take k) (h1 : l[k]? = some x) (h2 : m[k]? = some x) : l.take (k + 1) = m.take (k + 1) := by
  rw [List.take_add_one, List.take_add_one, h, h1, h2]
theorem ne_at {l m : List Int} {k : Nat} {x y : Int} (h1 : l[k]? = some x) (h2 : m[k]? = some y) (h : x ≠ y) : l ≠ m := by
  intro e; subst e; rw [h1] at h2; exact h (by simpa using h2)
theorem ref_words {B B' : Nat → Prop} {w : World} {l m : List Int} {v u : Value} (h1 : SlD B w 1 WordRep v l) (h2 : SlD B' w 1 WordRep u m) :
    Calls Try.prog 39 #[v, u] w fun e w' => e = .returned (.bool (decide (l = m))) ∧ Keep [] w w' := by
  obtain ⟨la, lc, rfl, l1, l2, l3⟩ := h1
  obtain ⟨ma, mc, rfl, m1, m2, m3⟩ := h2
  obtain ⟨r, hr⟩ : ∃ r, decide (l = m) = r := ⟨_, rfl⟩
  have HT : Hid (l = m → r = true) := Lib.hid (fun h => by rw [← hr]; simpa using h)
  have HF : Hid (l ≠ m → r = false) := Lib.hid (fun h => by rw [← hr]; simpa using h)
  rw [hr]
  clear hr
  generalize hll : l.length = ll at *
  generalize hmm : m.length = ml at *
  have Hll := Lib.hid hll
  have Hmm := Lib.hid hmm
  have L3 := Lib.hid l3
  have M3 := Lib.hid m3
  unfold maxLen at l2 m2
  clear hll hmm l3 m3
  by_cases hlen : ll = ml
  · subst hlen
    go_enter Try.func39, Try.ntmps39
    go_wp2_with fail
    go_loopw [13] (fun c wr => ∃ k : Nat, c = .int .i64 k ∧ k ≤ ll ∧ Keep [] w wr ∧ l.take k = m.take k) (fun c _ => ll - (intOf c).toNat)
    case atStart => exact ⟨0, rfl, Nat.zero_le _, Keep.refl _ _, by simp⟩
    case round =>
      obtain ⟨k, rfl, hk, kr, heq⟩ := hrel
      have KR := Lib.hid kr
      have HEq := Lib.hid heq
      clear kr heq
      by_cases hkl : k < ll
      · have hkl' : (k : Int) < ll := by omega
        obtain ⟨x, hx⟩ := get_of Hll hkl
        obtain ⟨y, hy⟩ := get_of Hmm hkl
        obtain ⟨b, o, cs, rfl, _, _, _, hc, rfl, _⟩ := L3.out k x hx
        obtain ⟨b2, o2, cs2, rfl, _, _, _, hc2, rfl, _⟩ := M3.out k y hy
        have e0 := cell_keep KR.out (hc 0 _ rfl) (by simp)
        have e1 := cell_keep KR.out (hc2 0 _ rfl) (by simp)
        simp only [Nat.add_zero, Nat.mul_one] at e0 e1
        have HX := Lib.hid hx
        have HY := Lib.hid hy
        clear hx hy hc hc2
        by_cases hxy : x = y
        · subst hxy
          have HG := Lib.hid (take_succ_eq HEq.out HX.out HY.out)
          have d1 : (x == x) = true := by simp
          have d2 : (x != x) = false := by simp
          go_wp2_with fail
          go_quiet (fail)
          go_wp2_with fail
          go_roundw
          case rel => exact ⟨k + 1, by go_num, by omega, KR.out.drewN _, HG.out⟩
          case measure => simp [intOf]; omega
        · have HE := Lib.hid (HF.out (ne_at HX.out HY.out hxy))
          have d1 : (x == y) = false := by simpa using hxy
          have d2 : (x != y) = true := by simpa using hxy
          clear hxy
          go_wp2_with fail
          go_quiet (fail)
          go_wp2_with fail
          go_ret
          exact ⟨ret_bool HE.out.symm, KR.out.drewN _⟩
      · have HE := Lib.hid (HT.out (by
          have h := HEq.out
          rwa [List.take_of_length_le (by rw [Hll.out]; omega), List.take_of_length_le (by rw [Hmm.out]; omega)] at h))
        go_wp2_with fail
        go_ret
        exact ⟨ret_bool HE.out.symm, KR.out⟩
  · have HE := Lib.hid (HF.out (fun e => hlen (by rw [← Hll.out, ← Hmm.out, e])))
    have d1 : ((ll : Int) == (ml : Int)) = false := by simp; omega
    have d2 : ((ll : Int) != (ml : Int)) = true := by simp; omega
    have d3 : (ll == ml) = false := by simpa using hlen
    clear hlen
    go_enter Try.func39, Try.ntmps39
    go_wp2_with fail
    go_ret
    exact ⟨ret_bool HE.out.symm, Keep.refl _ _⟩
def sameC (a b : CallD) : Bool := (a.k == b.k) && (a.h == b.h) && (a.a == b.a) && (a.b == b.b) && (a.t == b.t) && decide (a.words = b.words)
theorem ne_beq {a b : Int} (h : a ≠ b) : (a == b) = false ∧ (a != b) = true := by simpa using h
theorem eq_beq (a : Int) : (a == a) = true ∧ (a != a) = false := by simp
set_option maxHeartbeats 2000000 in
set_option maxRecDepth 100000 in
theorem same_call {B B' : Nat → Prop} {w : World} {x y : CallD} {cs ds : List Value} (h1 : CallRep B w x cs) (h2 : CallRep B' w y ds) :
    Calls Try.prog 38 #[.agg cs.toArray, .agg ds.toArray] w fun e w' => e = .returned (.bool (sameC x y)) ∧ Keep [] w w' := by
  obtain ⟨v, rfl, ⟨la, lc, rfl, l1, l2, l3⟩, _⟩ := h1
  obtain ⟨u, rfl, ⟨ma, mc, rfl, m1, m2, m3⟩, _⟩ := h2
  obtain ⟨x0, x1, x2, x3, l, x5⟩ := x
  obtain ⟨y0, y1, y2, y3, m, y5⟩ := y
  simp only at l1 l2 l3 m1 m2 m3
  obtain ⟨r, hr⟩ : ∃ r, sameC ⟨x0, x1, x2, x3, l, x5⟩ ⟨y0, y1, y2, y3, m, y5⟩ = r := ⟨_, rfl⟩
  have HR : Hid (((x0 == y0) && (x1 == y1) && (x2 == y2) && (x3 == y3) && (x5 == y5) && decide (l = m)) = r) := Lib.hid hr
  rw [hr]
  clear hr
  generalize hll : l.length = ll at *
  generalize hmm : m.length = ml at *
  have Hll := Lib.hid hll
  have Hmm := Lib.hid hmm
  have L3 := Lib.hid l3
  have M3 := Lib.hid m3
  unfold maxLen at l2 m2
  clear hll hmm l3 m3
  have KK : Hid (Keep [] w ((w.alloc (.cells #[.int .i64 x0, .int .i64 x1, .int .i64 x2, .int .i64 x3, .slice la ll lc, .int .i64 x5] 42)).alloc (.cells #[.int .i64 y0, .int .i64 y1, .int .i64 y2, .int .i64 y3, .slice ma ml mc, .int .i64 y5] 42))) := Lib.hid (((Keep.refl _ _).alloc _).alloc _)
  have BX := Lib.hid (two_fst w (.cells #[.int .i64 x0, .int .i64 x1, .int .i64 x2, .int .i64 x3, .slice la ll lc, .int .i64 x5] 42) (.cells #[.int .i64 y0, .int .i64 y1, .int .i64 y2, .int .i64 y3, .slice ma ml mc, .int .i64 y5] 42))
  have BY := Lib.hid (two_snd w (.cells #[.int .i64 x0, .int .i64 x1, .int .i64 x2, .int .i64 x3, .slice la ll lc, .int .i64 x5] 42) (.cells #[.int .i64 y0, .int .i64 y1, .int .i64 y2, .int .i64 y3, .slice ma ml mc, .int .i64 y5] 42))
  by_cases f0 : x0 = y0
  case' pos => subst f0; have e0 := eq_beq x0; by_cases f1 : x1 = y1
  case' pos => subst f1; have e1 := eq_beq x1; by_cases f2 : x2 = y2
  case' pos => subst f2; have e2 := eq_beq x2; by_cases f3 : x3 = y3
  case' pos => subst f3; have e3 := eq_beq x3; by_cases f5 : x5 = y5
  case' pos => subst f5; have e5 := eq_beq x5; by_cases fl : ll = ml
  all_goals try
    (obtain ⟨n1, n2⟩ := ne_beq f5
     have HE : Hid (r = false) := Lib.hid (by rw [← HR.out, n1]; simp)
     clear f5
     go_enter Try.func38, Try.ntmps38
     go_wp2_with fail
     go_ret
     exact ⟨ret_bool HE.out.symm, KK.out⟩)
  all_goals try
    (obtain ⟨n1, n2⟩ := ne_beq f3
     have HE : Hid (r = false) := Lib.hid (by rw [← HR.out, n1]; simp)
     clear f3
     go_enter Try.func38, Try.ntmps38
     go_wp2_with fail
     go_ret
     exact ⟨ret_bool HE.out.symm, KK.out⟩)
  all_goals try
    (obtain ⟨n1, n2⟩ := ne_beq f2
     have HE : Hid (r = false) := Lib.hid (by rw [← HR.out, n1]; simp)
     clear f2
     go_enter Try.func38, Try.ntmps38
     go_wp2_with fail
     go_ret
     exact ⟨ret_bool HE.out.symm, KK.out⟩)
  all_goals try
    (obtain ⟨n1, n2⟩ := ne_beq f1
     have HE : Hid (r = false) := Lib.hid (by rw [← HR.out, n1]; simp)
     clear f1
     go_enter Try.func38, Try.ntmps38
     go_wp2_with fail
     go_ret
     exact ⟨ret_bool HE.out.symm, KK.out⟩)
  all_goals try
    (obtain ⟨n1, n2⟩ := ne_beq f0
     have HE : Hid (r = false) := Lib.hid (by rw [← HR.out, n1]; simp)
     clear f0
     go_enter Try.func38, Try.ntmps38
     go_wp2_with fail
     go_ret
     exact ⟨ret_bool HE.out.symm, KK.out⟩)
  · subst fl
    have HT : Hid (l = m → r = true) := Lib.hid (fun h => by rw [← HR.out, e0.1, e1.1, e2.1, e3.1, e5.1, decide_eq_true h]; rfl)
    have HF : Hid (l ≠ m → r = false) := Lib.hid (fun h => by rw [← HR.out, decide_eq_false h]; simp)
    clear HR
    go_enter Try.func38, Try.ntmps38
    go_wp2_with fail
    generalize (w.alloc (.cells #[.int .i64 x0, .int .i64 x1, .int .i64 x2, .int .i64 x3, .slice la ll lc, .int .i64 x5] 42)).alloc (.cells #[.int .i64 x0, .int .i64 x1, .int .i64 x2, .int .i64 x3, .slice ma ll mc, .int .i64 x5] 42) = w2 at *
    go_loopw [51] (fun c wr => ∃ k : Nat, c = .int .i64 k ∧ k ≤ ll ∧ Keep [] w2 wr ∧ l.take k = m.take k) (fun c _ => ll - (intOf c).toNat)
    case atStart => exact ⟨0, rfl, Nat.zero_le _, Keep.refl _ _, by simp⟩
    case round =>
      obtain ⟨k, rfl, hk, kr, heq⟩ := hrel
      have KR := Lib.hid kr
      have KW := Lib.hid (KK.out.trans kr)
      have HEq := Lib.hid heq
      clear kr heq
      obtain ⟨_, _, _, _, q4, _⟩ := cells6 (KR.out.to BX.out (by simp))
      obtain ⟨_, _, _, _, p4, _⟩ := cells6 (KR.out.to BY.out (by simp))
      by_cases hkl : k < ll
      · have hkl' : (k : Int) < ll := by omega
        obtain ⟨x, hx⟩ := get_of Hll hkl
        obtain ⟨y, hy⟩ := get_of Hmm hkl
        obtain ⟨b, o, cs, rfl, _, _, _, hc, rfl, _⟩ := L3.out k x hx
        obtain ⟨b2, o2, cs2, rfl, _, _, _, hc2, rfl, _⟩ := M3.out k y hy
        have g0 := cell_keep KW.out (hc 0 _ rfl) (by simp)
        have g1 := cell_keep KW.out (hc2 0 _ rfl) (by simp)
        simp only [Nat.add_zero, Nat.mul_one] at g0 g1
        have HX := Lib.hid hx
        have HY := Lib.hid hy
        clear hx hy hc hc2
        by_cases hxy : x = y
        · subst hxy
          have HG := Lib.hid (take_succ_eq HEq.out HX.out HY.out)
          have d1 : (x == x) = true := by simp
          have d2 : (x != x) = false := by simp
          go_wp2_with fail
          go_quiet (fail)
          go_wp2_with fail
          go_roundw
          case rel => exact ⟨k + 1, by go_num, by omega, KR.out.drewN _, HG.out⟩
          case measure => simp [intOf]; omega
        · have HE := Lib.hid (HF.out (ne_at HX.out HY.out hxy))
          have d1 : (x == y) = false := by simpa using hxy
          have d2 : (x != y) = true := by simpa using hxy
          clear hxy
          go_wp2_with fail
          go_quiet (fail)
          go_wp2_with fail
          go_ret
          exact ⟨ret_bool HE.out.symm, KW.out.drewN _⟩
      · have HE := Lib.hid (HT.out (by
          have h := HEq.out
          rwa [List.take_of_length_le (by rw [Hll.out]; omega), List.take_of_length_le (by rw [Hmm.out]; omega)] at h))
        go_wp2_with fail
        go_ret
        exact ⟨ret_bool HE.out.symm, KW.out⟩
  · have HE : Hid (r = false) := Lib.hid (by rw [← HR.out, decide_eq_false (fun e => fl (by rw [← Hll.out, ← Hmm.out, e]))]; simp)
    have d1 : ((ll : Int) == (ml : Int)) = false := by simp; omega
    have d2 : ((ll : Int) != (ml : Int)) = true := by simp; omega
    have d3 : (ll == ml) = false := by simpa using fl
    clear fl HR
    go_enter Try.func38, Try.ntmps38
    go_wp2_with fail
    go_ret
    exact ⟨ret_bool HE.out.symm, KK.out⟩
end Same
end Go.Proofs.Ytkmpajdiedpfhaa
