/- The contracts of the package config: the searches for a wrong thread, a wrong object. No conditions but those stated. -/
import Derived.Test.YtkmpajdiedpfhaaValid1
namespace Go.Proofs.Ytkmpajdiedpfhaa
open Go.ChangeShapes Go.WideShapes Go.ChangeAt Go.RowKit
set_option linter.unusedVariables false
set_option linter.unusedSimpArgs false
namespace Valid
theorem any_hit {α : Type} {l : List α} {p : α → Bool} {i : Nat} {x : α} (h : l[i]? = some x) (hp : p x = true) : l.any p = true := List.any_eq_true.2 ⟨x, List.mem_of_getElem? h, hp⟩
theorem any_none {α : Type} {l : List α} {p : α → Bool} (h : ∀ y, y ∈ l → p y = false) : l.any p = false := by
  rw [List.any_eq_false]; intro y hy; rw [h y hy]; simp
theorem take_grow {α : Type} {l : List α} {P : α → Prop} {i : Nat} {x : α} (h : l[i]? = some x) (h0 : ∀ y, y ∈ l.take i → P y) (hx : P x) : ∀ y, y ∈ l.take (i + 1) → P y := by
  intro y hy
  rw [List.take_add_one, h] at hy
  simp only [Option.toList_some, List.mem_append, List.mem_singleton] at hy
  rcases hy with hy | rfl
  · exact h0 y hy
  · exact hx
theorem take_all {α : Type} {l : List α} {P : α → Prop} {i : Nat} (hi : l.length ≤ i) (h0 : ∀ y, y ∈ l.take i → P y) : ∀ y, y ∈ l → P y := by
  rw [List.take_of_length_le hi] at h0; exact h0
def IdxPost (w : World) (b : Bool) (e : Ending) (w' : World) : Prop := ∃ r : Int, -1 ≤ r ∧ e = .returned (.int .i64 r) ∧ decide (0 ≤ r) = b ∧ Keep [] w w'
theorem part_fn1 {w : World} {B : Nat → Prop} {x : ThreadD} {cs : List Value} (hx : ThreadRep B w x cs) {g n oc : Nat} {v1 : Value} {oa : Option Addr} (hn : n ≤ 9223372036854775807) (hb : w.heap[g]? = some (.cells #[v1, .slice oa n oc] 54 (0, 0))) :
    Calls Try.prog 60 #[.agg cs.toArray, .pointer (some ⟨g, 0, none⟩)] w fun e w' => e = .returned (.bool (!thrB n x)) ∧ Keep [] w w' := by
  obtain ⟨pv, rfl, h0, h1, ⟨pa, pc, rfl, p1, p2, _⟩, _⟩ := hx
  obtain ⟨pr, cp, ct, pg⟩ := x
  simp only at h0 h1 p1 p2
  have hpl : pg.length ≤ 9223372036854775807 := by unfold maxLen at p2; simp at p2; omega
  have KK : Hid (Keep [] w (w.alloc (.cells #[.int .i64 pr, .int .u32 cp, .bool ct, .slice pa pg.length pc] 58))) := Lib.hid ((Keep.refl _ _).alloc _)
  have q1 := (cells2 (Keep.to ((Keep.refl [] w).alloc (.cells #[.int .i64 pr, .int .u32 cp, .bool ct, .slice pa pg.length pc] 58)) hb (by simp))).2
  have HT : Hid (thrB n ⟨pr, cp, ct, pg⟩ = (withB pr 0 15 && capsB cp n && decide (pg.length ≤ 40))) := Lib.hid rfl
  rw [HT.out]
  clear HT hb
  generalize pg.length = pl at *
  obtain ⟨bb, hbb⟩ : ∃ bb, (withB pr 0 15 && capsB cp n && decide (pl ≤ 40)) = bb := ⟨_, rfl⟩
  have HBB := Lib.hid hbb
  rw [hbb]
  clear hbb
  go_enter Try.func60, Try.ntmps60
  go_wp2_with fail
  refine (right_thread n hn pr cp ct pa pl pc h0 h1 hpl _).mono ?_
  rintro e w2 ⟨rfl, k2⟩
  have K2 := Lib.hid (KK.out.trans k2)
  clear k2
  rw [HBB.out]
  go_wp2_with fail
  go_ret
  exact ⟨rfl, K2.out⟩
set_option maxHeartbeats 1000000 in
theorem index_thr {w : World} {B : Nat → Prop} {l : List ThreadD} {v : Value} (h : SlD B w 4 (ThreadRep B w) v l) {g n oc : Nat} {v1 : Value} {oa : Option Addr} (hn : n ≤ 9223372036854775807) (hb : w.heap[g]? = some (.cells #[v1, .slice oa n oc] 54 (0, 0))) :
    Calls Try.prog 69 #[v, .func (.func 60) #[] #[.pointer (some ⟨g, 0, none⟩)]] w (IdxPost w (l.any (fun t => !thrB n t))) := by
  obtain ⟨ta, tc, rfl, t1, t2, t3⟩ := h
  generalize htl : l.length = tl at *
  unfold maxLen at t2
  have T3 := Lib.hid t3
  have Htl := Lib.hid htl
  have HB := Lib.hid hb
  clear t3 htl hb
  go_enter Try.func69, Try.ntmps69
  go_wp2_with fail
  go_loopw [8] (fun c wr => ∃ i : Nat, c = .int .i64 i ∧ i ≤ tl ∧ Keep [] w wr ∧ ∀ y, y ∈ l.take i → (!thrB n y) = false) (fun c _ => tl - (intOf c).toNat)
  case atStart => exact ⟨0, rfl, Nat.zero_le _, Keep.refl _ _, by simp⟩
  case round =>
    obtain ⟨i, rfl, hi, kr, hall⟩ := hrel
    have KR := Lib.hid kr
    have HAll := Lib.hid hall
    clear kr hall
    by_cases hlt : i < tl
    · have hlt' : (i : Int) < tl := by omega
      obtain ⟨y, hy⟩ := get_of Htl hlt
      obtain ⟨b, o, cs, rfl, _, _, hcl, hc, hrep⟩ := T3.out i y hy
      have HY := Lib.hid hy
      have HRep := Lib.hid (hrep.kept KR.out)
      obtain ⟨pv, rfl, _⟩ := hrep
      have c0 := cell_keep KR.out (hc 0 _ rfl) (by simp)
      have c1 := cell_keep KR.out (hc 1 _ rfl) (by simp)
      have c2 := cell_keep KR.out (hc 2 _ rfl) (by simp)
      have c3 := cell_keep KR.out (hc 3 _ rfl) (by simp)
      simp only [Nat.add_zero] at c0
      clear hc hy hcl
      go_wp2_with fail
      refine (part_fn1 HRep.out hn (KR.out.to HB.out (by simp))).mono ?_
      rintro e w2 ⟨rfl, k2⟩
      have K2 := Lib.hid (KR.out.trans k2)
      clear k2
      cases hth : (!thrB n y) with
      | true =>
        have HE := Lib.hid (any_hit (p := fun t => !thrB n t) HY.out hth)
        go_wp2_with fail
        go_ret
        exact ⟨i, by omega, rfl, by rw [HE.out]; simp, K2.out⟩
      | false =>
        have HE := Lib.hid (take_grow HY.out HAll.out hth)
        go_wp2_with fail
        go_roundw
        case rel => exact ⟨i + 1, by go_num, by omega, K2.out, HE.out⟩
        case measure => simp [intOf]; omega
    · have HE := Lib.hid (any_none (p := fun t => !thrB n t) (take_all (by rw [Htl.out]; omega) HAll.out))
      go_wp2_with fail
      go_ret
      exact ⟨-1, by omega, rfl, by rw [HE.out]; simp, KR.out⟩
theorem part_fn2 {w : World} {x : ObjD} {cs : List Value} (hx : ObjRep x cs) :
    Calls Try.prog 63 #[.agg cs.toArray] w fun e w' => e = .returned (.bool (!objB x)) ∧ Keep [] w w' := by
  obtain ⟨rfl, _⟩ := hx
  obtain ⟨bb, hbb⟩ : ∃ bb, objB x = bb := ⟨_, rfl⟩
  have HBB := Lib.hid hbb
  rw [hbb]
  clear hbb
  have KK : Hid (Keep [] w (w.alloc (.cells #[.int .i64 x.kind, .int .i64 x.size, .bool x.prio] 99))) := Lib.hid ((Keep.refl _ _).alloc _)
  go_enter Try.func63, Try.ntmps63
  go_wp2_with fail
  refine (right_object x _).mono ?_
  rintro e w2 ⟨rfl, k2⟩
  rw [HBB.out]
  have K2 := Lib.hid (KK.out.trans k2)
  clear k2
  go_wp2_with fail
  go_ret
  exact ⟨rfl, K2.out⟩
set_option maxHeartbeats 1000000 in
theorem index_obj {w : World} {B : Nat → Prop} {l : List ObjD} {v : Value} (h : SlD B w 3 ObjRep v l) :
    Calls Try.prog 70 #[v, .func (.func 63) #[] #[]] w (IdxPost w (l.any (fun t => !objB t))) := by
  obtain ⟨ta, tc, rfl, t1, t2, t3⟩ := h
  generalize htl : l.length = tl at *
  unfold maxLen at t2
  have T3 := Lib.hid t3
  have Htl := Lib.hid htl
  clear t3 htl
  go_enter Try.func70, Try.ntmps70
  go_wp2_with fail
  go_loopw [8] (fun c wr => ∃ i : Nat, c = .int .i64 i ∧ i ≤ tl ∧ Keep [] w wr ∧ ∀ y, y ∈ l.take i → (!objB y) = false) (fun c _ => tl - (intOf c).toNat)
  case atStart => exact ⟨0, rfl, Nat.zero_le _, Keep.refl _ _, by simp⟩
  case round =>
    obtain ⟨i, rfl, hi, kr, hall⟩ := hrel
    have KR := Lib.hid kr
    have HAll := Lib.hid hall
    clear kr hall
    by_cases hlt : i < tl
    · have hlt' : (i : Int) < tl := by omega
      obtain ⟨y, hy⟩ := get_of Htl hlt
      obtain ⟨b, o, cs, rfl, _, _, hcl, hc, hrep⟩ := T3.out i y hy
      have HY := Lib.hid hy
      have HRep := Lib.hid hrep
      obtain ⟨rfl, _⟩ := hrep
      have c0 := cell_keep KR.out (hc 0 _ rfl) (by simp)
      have c1 := cell_keep KR.out (hc 1 _ rfl) (by simp)
      have c2 := cell_keep KR.out (hc 2 _ rfl) (by simp)
      simp only [Nat.add_zero] at c0
      clear hc hy hcl
      go_wp2_with fail
      refine (part_fn2 HRep.out).mono ?_
      rintro e w2 ⟨rfl, k2⟩
      have K2 := Lib.hid (KR.out.trans k2)
      clear k2
      cases hth : (!objB y) with
      | true =>
        have HE := Lib.hid (any_hit (p := fun t => !objB t) HY.out hth)
        go_wp2_with fail
        go_ret
        exact ⟨i, by omega, rfl, by rw [HE.out]; simp, K2.out⟩
      | false =>
        have HE := Lib.hid (take_grow HY.out HAll.out hth)
        go_wp2_with fail
        go_roundw
        case rel => exact ⟨i + 1, by go_num, by omega, K2.out, HE.out⟩
        case measure => simp [intOf]; omega
    · have HE := Lib.hid (any_none (p := fun t => !objB t) (take_all (by rw [Htl.out]; omega) HAll.out))
      go_wp2_with fail
      go_ret
      exact ⟨-1, by omega, rfl, by rw [HE.out]; simp, KR.out⟩
theorem contains_thr {w : World} {B : Nat → Prop} {l : List ThreadD} {v : Value} (h : SlD B w 4 (ThreadRep B w) v l) {g n oc : Nat} {v1 : Value} {oa : Option Addr} (hn : n ≤ 9223372036854775807) (hb : w.heap[g]? = some (.cells #[v1, .slice oa n oc] 54 (0, 0))) :
    Calls Try.prog 59 #[v, .func (.func 60) #[] #[.pointer (some ⟨g, 0, none⟩)]] w fun e w' => e = .returned (.bool (l.any (fun t => !thrB n t))) ∧ Keep [] w w' := by
  have H := Lib.hid (index_thr h hn hb)
  obtain ⟨bb, hbb⟩ : ∃ bb, l.any (fun t => !thrB n t) = bb := ⟨_, rfl⟩
  rw [hbb] at H ⊢
  clear hbb h hb
  go_enter Try.func59, Try.ntmps59
  go_wp2_with fail
  refine H.out.mono ?_
  rintro e w2 ⟨r, h0, rfl, hr, k2⟩
  have K2 := Lib.hid k2
  have HR := Lib.hid hr
  clear k2 hr
  go_wp2_with fail
  all_goals
    go_ret
    exact ⟨ret_bool (by rw [← HR.out]; try simp [*]), K2.out⟩
theorem contains_obj {w : World} {B : Nat → Prop} {l : List ObjD} {v : Value} (h : SlD B w 3 ObjRep v l) :
    Calls Try.prog 62 #[v, .func (.func 63) #[] #[]] w fun e w' => e = .returned (.bool (l.any (fun t => !objB t))) ∧ Keep [] w w' := by
  have H := Lib.hid (index_obj h)
  obtain ⟨bb, hbb⟩ : ∃ bb, l.any (fun t => !objB t) = bb := ⟨_, rfl⟩
  rw [hbb] at H ⊢
  clear hbb h
  go_enter Try.func62, Try.ntmps62
  go_wp2_with fail
  refine H.out.mono ?_
  rintro e w2 ⟨r, h0, rfl, hr, k2⟩
  have K2 := Lib.hid k2
  have HR := Lib.hid hr
  clear k2 hr
  go_wp2_with fail
  all_goals
    go_ret
    exact ⟨ret_bool (by rw [← HR.out]; try simp [*]), K2.out⟩
def partI (p : PartD) : Int :=
  if p.threads.length < 1 ∨ 6 < p.threads.length then 2 else if 8 < p.objs.length then 3 else if p.threads.any (fun t => !thrB p.objs.length t) = true then 4 else if p.objs.any (fun t => !objB t) = true then 5 else 0
set_option maxHeartbeats 1000000 in
theorem conf_part {w : World} {B : Nat → Prop} {p : PartD} {v1 v2 : Value} (h1 : SlD B w 4 (ThreadRep B w) v1 p.threads) (h2 : SlD B w 3 ObjRep v2 p.objs) :
    Calls Try.prog 47 #[.agg #[v1, v2]] w fun e w' => e = .returned (.int .i64 (partI p)) ∧ Keep [] w w' := by
  have H1 := Lib.hid h1
  have H2 := Lib.hid h2
  obtain ⟨ta, tc, rfl, t1, t2, _⟩ := h1
  obtain ⟨oa, oc, rfl, o1, o2, _⟩ := h2
  have HP : Hid (partI p = if p.threads.length < 1 ∨ 6 < p.threads.length then 2 else if 8 < p.objs.length then 3 else if p.threads.any (fun t => !thrB p.objs.length t) = true then 4 else if p.objs.any (fun t => !objB t) = true then 5 else 0) := Lib.hid rfl
  rw [HP.out]
  clear HP
  generalize p.objs = os at *
  generalize hon : os.length = on at *
  generalize p.threads = ts at *
  generalize htn : ts.length = tn at *
  unfold maxLen at t2 o2
  have KK : Hid (Keep [] w (w.alloc (.cells #[.slice ta tn tc, .slice oa on oc] 54))) := Lib.hid ((Keep.refl _ _).alloc _)
  have BX := Lib.hid (heap_alloc_new w (.cells #[.slice ta tn tc, .slice oa on oc] 54))
  have HW : Hid (withB tn 1 6 = !decide (tn < 1 ∨ 6 < tn)) := Lib.hid (by simp [withB]; rw [Bool.eq_iff_iff]; simp; omega)
  clear hon htn
  by_cases c1 : tn < 1 ∨ 6 < tn
  · rw [if_pos c1]
    have hwf : Hid (withB tn 1 6 = false) := Lib.hid (by rw [HW.out]; simp; omega)
    clear c1
    go_enter Try.func47, Try.ntmps47
    go_wp2_with (go_at_call 33; refine (within' _ _ _ _).mono ?_; rintro e w' ⟨rfl, rfl⟩; rw [hwf.out])
    go_ret
    exact ⟨rfl, KK.out⟩
  · rw [if_neg c1]
    have hwf : Hid (withB tn 1 6 = true) := Lib.hid (by rw [HW.out]; simp; omega)
    clear c1
    by_cases c2 : 8 < on
    · rw [if_pos c2]
      have c2' : (8 : Int) < on := by omega
      go_enter Try.func47, Try.ntmps47
      go_wp2_with (go_at_call 33; refine (within' _ _ _ _).mono ?_; rintro e w' ⟨rfl, rfl⟩; rw [hwf.out])
      go_ret
      exact ⟨rfl, KK.out⟩
    · rw [if_neg c2]
      have c2' : (on : Int) ≤ 8 := by omega
      obtain ⟨b1, hb1⟩ : ∃ b, ts.any (fun t => !thrB on t) = b := ⟨_, rfl⟩
      obtain ⟨b2, hb2⟩ : ∃ b, os.any (fun t => !objB t) = b := ⟨_, rfl⟩
      rw [hb1, hb2]
      have HB1 := Lib.hid hb1
      have HB2 := Lib.hid hb2
      clear hb1 hb2
      obtain ⟨q0, q1⟩ := cells2 BX.out
      go_enter Try.func47, Try.ntmps47
      go_wp2_with (go_at_call 33; refine (within' _ _ _ _).mono ?_; rintro e w' ⟨rfl, rfl⟩; rw [hwf.out])
      refine (contains_thr (H1.out.keep KK.out.size (fun b _ hb => KK.out.block b hb (by simp)) (fun _ h => h) (fun _ _ _ h => h.kept KK.out)) (by omega) BX.out).mono ?_
      rintro e w2 ⟨rfl, k2⟩
      rw [HB1.out]
      have K2 := Lib.hid (KK.out.trans k2)
      have B2 := Lib.hid (k2.to BX.out (by simp))
      clear k2 q0 q1
      obtain ⟨q0, q1⟩ := cells2 B2.out
      cases b1
      · go_wp2_with fail
        refine (contains_obj (H2.out.kept K2.out)).mono ?_
        rintro e w3 ⟨rfl, k3⟩
        rw [HB2.out]
        have K3 := Lib.hid (K2.out.trans k3)
        clear k3
        cases b2
        all_goals
          go_wp2_with fail
          go_ret
          exact ⟨rfl, K3.out⟩
      · go_wp2_with fail
        go_ret
        exact ⟨rfl, K2.out⟩
end Valid
end Go.Proofs.Ytkmpajdiedpfhaa
