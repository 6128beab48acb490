/- The door laws of the package call: the rows and the cards. No conditions. -/
import Derived.Test.YtkmpajdiedpfhaaDoorCallCaps
import Derived.Test.YtkmpajdiedpfhaaDoorArgs
import Derived.Test.YtkmpajdiedpfhaaDoorCards
import Derived.Test.YtkmpajdiedpfhaaDoorTie
namespace Go.Proofs.YtkmpajdiedpfhaaDoor
open Go.ChangeShapes Go.WideShapes Go.ChangeAt Go.RowKit Go.Joins
set_option linter.unusedVariables false
namespace Call24
section
variable {H : Type} {enc : TypeId × Value → H} {W : World} {base : Nat} {args : Array Value} {ds : List (DataW H)} {p : List MemPlace}
theorem part_arg {v : Value} {d : DataW H} {q : List MemPlace} (hv : Value.okWide Tryd.prog W .any base 28 v) (h : DataW.Trod enc Tryd.prog W 0 (fun _ => true) true 28 v d q) :
    ∃ (p : Pt) (caps : Nat → Int) (ctl : Nat → Bool) (prio : Nat → Int) (pg : Nat → Option Addr × Nat × Nat), v = .agg p.cells ∧ Ob W p ∧ Th W p caps ctl prio pg ∧ Pg W p pg := by
  obtain ⟨cs, rfl, hl, ht⟩ := open_str Tryd.underlying28 hv h
  obtain ⟨p, caps, ctl, prio, pg, e, h1, h2, h3⟩ := part_views (part_r ht (hl.trans (by kernel_rfl)))
  exact ⟨p, caps, ctl, prio, pg, by rw [e], h1, h2, h3⟩
theorem call_arg {v : Value} {d : DataW H} {q : List MemPlace} (hv : Value.okWide Tryd.prog W .any base 31 v) (h : DataW.Trod enc Tryd.prog W 0 (fun _ => true) true 31 v d q) :
    ∃ c : Cl, v = .agg c.cells ∧ c.wl ≤ c.wc ∧ c.wc ≤ maxLen := by
  obtain ⟨cs, rfl, hl, ht⟩ := open_str Tryd.underlying31 hv h
  obtain ⟨c, e, h1⟩ := call_views (call_r ht (hl.trans (by kernel_rfl)))
  exact ⟨c, by rw [e], h1⟩
theorem callNames_handed (h : Handed enc Tryd.prog Tryd.f3 base W args ds p) (hn : NamesAt W) : Calls Tryd.prog 3 args W fun e W' => e = .returned (.bool true) ∧ Below W.heap.size W W' := by
  obtain ⟨hval, hA, _⟩ := h
  rw [Tryd.params3] at hA hval
  have hA2 := hA
  obtain ⟨v0, vs0, d0, ds0, p0, q0, e0, rfl, rfl, h0, r0⟩ := trodAll_cons hA
  obtain ⟨e1, rfl, rfl⟩ := trodAll_nil r0
  obtain rfl : args = #[v0] := by
    obtain ⟨l⟩ := args
    simp only at e0
    rw [e0, e1]
  obtain ⟨z0, rfl, rfl, rfl, w0⟩ := open_int Tryd.underlying3 (hval 0 3 v0 rfl rfl) h0
  exact (callNames_walk z0 W hn).mono fun e W' ⟨he, hk⟩ => ⟨he, hk.below⟩
theorem callChecks_handed (h : Handed enc Tryd.prog Tryd.f4 base W args ds p) (hn : NamesAt W) : Calls Tryd.prog 4 args W fun e W' => e = .returned (.bool true) ∧ Below W.heap.size W W' := by
  obtain ⟨hval, hA, _⟩ := h
  rw [Tryd.params4] at hA hval
  have hA2 := hA
  obtain ⟨v0, vs0, d0, ds0, p0, q0, e0, rfl, rfl, h0, r0⟩ := trodAll_cons hA
  obtain ⟨v1, vs1, d1, ds1, p1, q1, e1, rfl, rfl, h1, r1⟩ := trodAll_cons r0
  obtain ⟨v2, vs2, d2, ds2, p2, q2, e2, rfl, rfl, h2, r2⟩ := trodAll_cons r1
  obtain ⟨e3, rfl, rfl⟩ := trodAll_nil r2
  obtain rfl : args = #[v0, v1, v2] := by
    obtain ⟨l⟩ := args
    simp only at e0
    rw [e0, e1, e2, e3]
  obtain ⟨pp, caps, ctl, prio, pg, rfl, ho, ht, hg⟩ := part_arg (hval 0 28 v0 rfl rfl) h0
  obtain ⟨z1, rfl, rfl, rfl, w1⟩ := open_int Tryd.underlying3 (hval 1 3 v1 rfl rfl) h1
  obtain ⟨cc, rfl, hw⟩ := call_arg (hval 2 31 v2 rfl rfl) h2
  exact (callChecks_walk hn pp cc ho ht hg hw z1).mono fun e W' ⟨he, hk⟩ => ⟨he, hk.below⟩
theorem callCaps_handed (h : Handed enc Tryd.prog Tryd.f5 base W args ds p) (hn : NamesAt W) : Calls Tryd.prog 5 args W fun e W' => e = .returned (.bool true) ∧ Below W.heap.size W W' := by
  obtain ⟨hval, hA, _⟩ := h
  rw [Tryd.params5] at hA hval
  have hA2 := hA
  obtain ⟨v0, vs0, d0, ds0, p0, q0, e0, rfl, rfl, h0, r0⟩ := trodAll_cons hA
  obtain ⟨v1, vs1, d1, ds1, p1, q1, e1, rfl, rfl, h1, r1⟩ := trodAll_cons r0
  obtain ⟨v2, vs2, d2, ds2, p2, q2, e2, rfl, rfl, h2, r2⟩ := trodAll_cons r1
  obtain ⟨e3, rfl, rfl⟩ := trodAll_nil r2
  obtain rfl : args = #[v0, v1, v2] := by
    obtain ⟨l⟩ := args
    simp only at e0
    rw [e0, e1, e2, e3]
  obtain ⟨pp, caps, ctl, prio, pg, rfl, ho, ht, hg⟩ := part_arg (hval 0 28 v0 rfl rfl) h0
  obtain ⟨z1, rfl, rfl, rfl, w1⟩ := open_int Tryd.underlying3 (hval 1 3 v1 rfl rfl) h1
  obtain ⟨cc, rfl, hw⟩ := call_arg (hval 2 31 v2 rfl rfl) h2
  exact (callCaps_walk hn pp cc ho ht hg hw z1).mono fun e W' ⟨he, hk⟩ => ⟨he, hk.below⟩
theorem callObjects_handed (h : Handed enc Tryd.prog Tryd.f6 base W args ds p) (hn : NamesAt W) : Calls Tryd.prog 6 args W fun e W' => e = .returned (.bool true) ∧ Below W.heap.size W W' := by
  obtain ⟨hval, hA, _⟩ := h
  rw [Tryd.params6] at hA hval
  have hA2 := hA
  obtain ⟨v0, vs0, d0, ds0, p0, q0, e0, rfl, rfl, h0, r0⟩ := trodAll_cons hA
  obtain ⟨v1, vs1, d1, ds1, p1, q1, e1, rfl, rfl, h1, r1⟩ := trodAll_cons r0
  obtain ⟨e2, rfl, rfl⟩ := trodAll_nil r1
  obtain rfl : args = #[v0, v1] := by
    obtain ⟨l⟩ := args
    simp only at e0
    rw [e0, e1, e2]
  obtain ⟨pp, caps, ctl, prio, pg, rfl, ho, ht, hg⟩ := part_arg (hval 0 28 v0 rfl rfl) h0
  obtain ⟨cc, rfl, hw⟩ := call_arg (hval 1 31 v1 rfl rfl) h1
  exact (callObjects_walk hn pp cc ho ht hg hw).mono fun e W' ⟨he, hk⟩ => ⟨he, hk.below⟩
end
end Call24
open Call24

namespace LawCallNames
set_option maxRecDepth 100000 in
theorem lifted (os : Os) (started : os.Started) (H : Type) (enc : TypeId × Value → H) :
    ReturnsInHanded {} Tryd.checked os 3 .any (fun w args => (Rows.callNamesSpec.pre enc Tryd.prog Tryd.f3 [] false w args ∧ laidMetH Tryd.prog laidL w) ∧ sizedMet enc Tryd.prog Tryd.f3 (OpenSpec.ofChange Rows.callNamesSpec) false w args) (Rows.callNamesSpec.post enc Tryd.prog Tryd.f3 false true false false) := by
  refine law_laid (tb := 4) started rfl ?_ Tryd.underlying4 rfl (by kernel_rfl) Tryd.func3 (by kernel_rfl)
    (ChangeSpec.witness_shaped (enc := enc) (C := Tryd.checked) (os := os) (X := fun w _ => laidMetH Tryd.prog laidL w) false (World.doorLaid Tryd.prog 14 os) #[.int .i64 0] 8 rfl (World.shaped_of_RefB (by kernel_rfl) (by kernel_rfl)) (by kernel_rfl) (by kernel_rfl) (by kernel_rfl) (door_met os _)) ?_
  · intro ds hd
    match ds, hd with
      | [d0], _ => exact ⟨rfl, rfl, rfl⟩
  · exact fun W base args ds p h hn => callNames_handed h hn
theorem over : Rows.CallNamesSaid :=
  OpenClaim.holds_of_wide 3 Tryd.f3 rfl rfl rfl rfl rfl rfl rfl ⟨rfl, rfl, rfl, rfl, rfl⟩ rfl rfl rfl rfl rfl (by kernel_rfl) Tryd.func3 (by kernel_rfl)
    (of_decide_eq_true (by kernel_rfl)) (by unfold Func.isWrapper; rw [if_neg (of_decide_eq_false (by kernel_rfl))]; exact ⟨rfl, rfl⟩)
    (fun os started H enc _ => lifted os started H enc)
/-- The statement. -/
theorem proved : Rows.CallNamesCardSaid :=
  Claim7.holds_tied_plain_at .later [] [.data] true (true, "8687583869c97d37e3f09028b4fd5b51c50842e3e9a55dd5d615795842f9874d") false
    over (fun _ h => by cases h) (by kernel_rfl) (fun _ h => by cases h) callNames_row_tie rfl ⟨rfl, rfl⟩ (by kernel_rfl) rfl
    (fun f fn hf hfn => by
      obtain rfl : f = 3 := Option.some.inj ((show Tryd.prog.funcNamed "septum/septumlaw24.CallNames" = some 3 by kernel_rfl).symm.trans hf) |>.symm
      obtain rfl : fn = Tryd.f3 := (Option.some.inj (Tryd.func3.symm.trans hfn)).symm
      exact ⟨by kernel_rfl, fun j t ht => by
        rw [Tryd.params3] at ht
        have hm : t ∈ [3] := by simpa using Array.mem_of_getElem? ht
        have hall : ([3].all fun u => !Tryd.prog.wantsStandIn u) = true := by kernel_rfl
        exact (show Tryd.prog.wantsStandIn t = false by simpa using List.all_eq_true.1 hall t hm)⟩)
    (by kernel_rfl)
end LawCallNames

namespace LawCallChecks
set_option maxRecDepth 100000 in
theorem lifted (os : Os) (started : os.Started) (H : Type) (enc : TypeId × Value → H) :
    ReturnsInHanded {} Tryd.checked os 4 .any (fun w args => (Rows.callChecksSpec.pre enc Tryd.prog Tryd.f4 [] false w args ∧ laidMetH Tryd.prog laidL w) ∧ sizedMet enc Tryd.prog Tryd.f4 (OpenSpec.ofChange Rows.callChecksSpec) false w args) (Rows.callChecksSpec.post enc Tryd.prog Tryd.f4 false true false false) := by
  refine law_laid (tb := 4) started rfl ?_ Tryd.underlying4 rfl (by kernel_rfl) Tryd.func4 (by kernel_rfl)
    (ChangeSpec.witness_shaped (enc := enc) (C := Tryd.checked) (os := os) (X := fun w _ => laidMetH Tryd.prog laidL w) false (World.doorLaid Tryd.prog 14 os) #[.agg #[.slice none 0 0, .slice none 0 0], .int .i64 0, .agg #[.int .i64 0, .int .i64 0, .int .i64 0, .int .i64 0, .slice none 0 0, .int .i64 0]] 8 rfl (World.shaped_of_RefB (by kernel_rfl) (by kernel_rfl)) (by kernel_rfl) (by kernel_rfl) (by kernel_rfl) (door_met os _)) ?_
  · intro ds hd
    match ds, hd with
      | [d0, d1, d2], _ => exact ⟨rfl, rfl, rfl⟩
  · exact fun W base args ds p h hn => callChecks_handed h hn
theorem over : Rows.CallChecksSaid :=
  OpenClaim.holds_of_wide 4 Tryd.f4 rfl rfl rfl rfl rfl rfl rfl ⟨rfl, rfl, rfl, rfl, rfl⟩ rfl rfl rfl rfl rfl (by kernel_rfl) Tryd.func4 (by kernel_rfl)
    (of_decide_eq_true (by kernel_rfl)) (by unfold Func.isWrapper; rw [if_neg (of_decide_eq_false (by kernel_rfl))]; exact ⟨rfl, rfl⟩)
    (fun os started H enc _ => lifted os started H enc)
/-- The statement. -/
theorem proved : Rows.CallChecksCardSaid :=
  Claim7.holds_tied_plain_at .later [] [.data] true (true, "8687583869c97d37e3f09028b4fd5b51c50842e3e9a55dd5d615795842f9874d") false
    over (fun _ h => by cases h) (by kernel_rfl) (fun _ h => by cases h) callChecks_row_tie rfl ⟨rfl, rfl⟩ (by kernel_rfl) rfl
    (fun f fn hf hfn => by
      obtain rfl : f = 4 := Option.some.inj ((show Tryd.prog.funcNamed "septum/septumlaw24.CallChecks" = some 4 by kernel_rfl).symm.trans hf) |>.symm
      obtain rfl : fn = Tryd.f4 := (Option.some.inj (Tryd.func4.symm.trans hfn)).symm
      exact ⟨by kernel_rfl, fun j t ht => by
        rw [Tryd.params4] at ht
        have hm : t ∈ [28, 3, 31] := by simpa using Array.mem_of_getElem? ht
        have hall : ([28, 3, 31].all fun u => !Tryd.prog.wantsStandIn u) = true := by kernel_rfl
        exact (show Tryd.prog.wantsStandIn t = false by simpa using List.all_eq_true.1 hall t hm)⟩)
    (by kernel_rfl)
end LawCallChecks

namespace LawCallCaps
set_option maxRecDepth 100000 in
theorem lifted (os : Os) (started : os.Started) (H : Type) (enc : TypeId × Value → H) :
    ReturnsInHanded {} Tryd.checked os 5 .any (fun w args => (Rows.callCapsSpec.pre enc Tryd.prog Tryd.f5 [] false w args ∧ laidMetH Tryd.prog laidL w) ∧ sizedMet enc Tryd.prog Tryd.f5 (OpenSpec.ofChange Rows.callCapsSpec) false w args) (Rows.callCapsSpec.post enc Tryd.prog Tryd.f5 false true false false) := by
  refine law_laid (tb := 4) started rfl ?_ Tryd.underlying4 rfl (by kernel_rfl) Tryd.func5 (by kernel_rfl)
    (ChangeSpec.witness_shaped (enc := enc) (C := Tryd.checked) (os := os) (X := fun w _ => laidMetH Tryd.prog laidL w) false (World.doorLaid Tryd.prog 14 os) #[.agg #[.slice none 0 0, .slice none 0 0], .int .i64 0, .agg #[.int .i64 0, .int .i64 0, .int .i64 0, .int .i64 0, .slice none 0 0, .int .i64 0]] 8 rfl (World.shaped_of_RefB (by kernel_rfl) (by kernel_rfl)) (by kernel_rfl) (by kernel_rfl) (by kernel_rfl) (door_met os _)) ?_
  · intro ds hd
    match ds, hd with
      | [d0, d1, d2], _ => exact ⟨rfl, rfl, rfl⟩
  · exact fun W base args ds p h hn => callCaps_handed h hn
theorem over : Rows.CallCapsSaid :=
  OpenClaim.holds_of_wide 5 Tryd.f5 rfl rfl rfl rfl rfl rfl rfl ⟨rfl, rfl, rfl, rfl, rfl⟩ rfl rfl rfl rfl rfl (by kernel_rfl) Tryd.func5 (by kernel_rfl)
    (of_decide_eq_true (by kernel_rfl)) (by unfold Func.isWrapper; rw [if_neg (of_decide_eq_false (by kernel_rfl))]; exact ⟨rfl, rfl⟩)
    (fun os started H enc _ => lifted os started H enc)
/-- The statement. -/
theorem proved : Rows.CallCapsCardSaid :=
  Claim7.holds_tied_plain_at .later [] [.data] true (true, "8687583869c97d37e3f09028b4fd5b51c50842e3e9a55dd5d615795842f9874d") false
    over (fun _ h => by cases h) (by kernel_rfl) (fun _ h => by cases h) callCaps_row_tie rfl ⟨rfl, rfl⟩ (by kernel_rfl) rfl
    (fun f fn hf hfn => by
      obtain rfl : f = 5 := Option.some.inj ((show Tryd.prog.funcNamed "septum/septumlaw24.CallCaps" = some 5 by kernel_rfl).symm.trans hf) |>.symm
      obtain rfl : fn = Tryd.f5 := (Option.some.inj (Tryd.func5.symm.trans hfn)).symm
      exact ⟨by kernel_rfl, fun j t ht => by
        rw [Tryd.params5] at ht
        have hm : t ∈ [28, 3, 31] := by simpa using Array.mem_of_getElem? ht
        have hall : ([28, 3, 31].all fun u => !Tryd.prog.wantsStandIn u) = true := by kernel_rfl
        exact (show Tryd.prog.wantsStandIn t = false by simpa using List.all_eq_true.1 hall t hm)⟩)
    (by kernel_rfl)
end LawCallCaps

namespace LawCallObjects
set_option maxRecDepth 100000 in
theorem lifted (os : Os) (started : os.Started) (H : Type) (enc : TypeId × Value → H) :
    ReturnsInHanded {} Tryd.checked os 6 .any (fun w args => (Rows.callObjectsSpec.pre enc Tryd.prog Tryd.f6 [] false w args ∧ laidMetH Tryd.prog laidL w) ∧ sizedMet enc Tryd.prog Tryd.f6 (OpenSpec.ofChange Rows.callObjectsSpec) false w args) (Rows.callObjectsSpec.post enc Tryd.prog Tryd.f6 false true false false) := by
  refine law_laid (tb := 4) started rfl ?_ Tryd.underlying4 rfl (by kernel_rfl) Tryd.func6 (by kernel_rfl)
    (ChangeSpec.witness_shaped (enc := enc) (C := Tryd.checked) (os := os) (X := fun w _ => laidMetH Tryd.prog laidL w) false (World.doorLaid Tryd.prog 14 os) #[.agg #[.slice none 0 0, .slice none 0 0], .agg #[.int .i64 0, .int .i64 0, .int .i64 0, .int .i64 0, .slice none 0 0, .int .i64 0]] 8 rfl (World.shaped_of_RefB (by kernel_rfl) (by kernel_rfl)) (by kernel_rfl) (by kernel_rfl) (by kernel_rfl) (door_met os _)) ?_
  · intro ds hd
    match ds, hd with
      | [d0, d1], _ => exact ⟨rfl, rfl, rfl⟩
  · exact fun W base args ds p h hn => callObjects_handed h hn
theorem over : Rows.CallObjectsSaid :=
  OpenClaim.holds_of_wide 6 Tryd.f6 rfl rfl rfl rfl rfl rfl rfl ⟨rfl, rfl, rfl, rfl, rfl⟩ rfl rfl rfl rfl rfl (by kernel_rfl) Tryd.func6 (by kernel_rfl)
    (of_decide_eq_true (by kernel_rfl)) (by unfold Func.isWrapper; rw [if_neg (of_decide_eq_false (by kernel_rfl))]; exact ⟨rfl, rfl⟩)
    (fun os started H enc _ => lifted os started H enc)
/-- The statement. -/
theorem proved : Rows.CallObjectsCardSaid :=
  Claim7.holds_tied_plain_at .later [] [.data] true (true, "8687583869c97d37e3f09028b4fd5b51c50842e3e9a55dd5d615795842f9874d") false
    over (fun _ h => by cases h) (by kernel_rfl) (fun _ h => by cases h) callObjects_row_tie rfl ⟨rfl, rfl⟩ (by kernel_rfl) rfl
    (fun f fn hf hfn => by
      obtain rfl : f = 6 := Option.some.inj ((show Tryd.prog.funcNamed "septum/septumlaw24.CallObjects" = some 6 by kernel_rfl).symm.trans hf) |>.symm
      obtain rfl : fn = Tryd.f6 := (Option.some.inj (Tryd.func6.symm.trans hfn)).symm
      exact ⟨by kernel_rfl, fun j t ht => by
        rw [Tryd.params6] at ht
        have hm : t ∈ [28, 31] := by simpa using Array.mem_of_getElem? ht
        have hall : ([28, 31].all fun u => !Tryd.prog.wantsStandIn u) = true := by kernel_rfl
        exact (show Tryd.prog.wantsStandIn t = false by simpa using List.all_eq_true.1 hall t hm)⟩)
    (by kernel_rfl)
end LawCallObjects
end Go.Proofs.YtkmpajdiedpfhaaDoor
