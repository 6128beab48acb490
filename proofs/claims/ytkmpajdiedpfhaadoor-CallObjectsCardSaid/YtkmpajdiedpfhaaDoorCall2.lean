/- The contracts of the package call: the object that a call means. No conditions but those stated. -/
import Derived.Test.YtkmpajdiedpfhaaDoorCall
namespace Go.Proofs.YtkmpajdiedpfhaaDoor
open Go.ChangeShapes Go.WideShapes Go.ChangeAt Go.RowKit
set_option linter.unusedVariables false
set_option linter.unusedSimpArgs false
namespace Call24
theorem quiet_eq {P : Program} {f : FuncId} {args : Array Value} {w : World} {n : Nat} {v : Value}
    (h : Calls P f args (w.drewN n) fun e w' => e = .returned v ∧ w.drewN n = w') : Calls P f args (w.drewN n) fun e w'' => e = .returned v ∧ ∃ m, w'' = w.drewN m :=
  h.mono fun _ _ ⟨he, hm⟩ => ⟨he, n, hm.symm⟩
theorem two_fst (w : World) (o1 o2 : Obj) : ((w.alloc o1).alloc o2).heap[w.heap.size]? = some o1 := by rw [Go.RowKit.Below.heap_alloc _ _ _ (by simp)]; exact heap_alloc_new w o1
theorem two_snd (w : World) (o1 o2 : Obj) : ((w.alloc o1).alloc o2).heap[w.heap.size + 1]? = some o2 := by
  have h := heap_alloc_new (w.alloc o1) o2
  have e : (w.alloc o1).heap.size = w.heap.size + 1 := by simp
  rw [e] at h
  exact h
/-- A call. -/
structure Cl where
  k : Int
  h : Int
  a : Int
  b : Int
  wo : Option Addr
  wl : Nat
  wc : Nat
  t : Int
def Cl.cells (c : Cl) : Array Value := #[.int .i64 c.k, .int .i64 c.h, .int .i64 c.a, .int .i64 c.b, .slice c.wo c.wl c.wc, .int .i64 c.t]
/-- A partition. -/
structure Pt where
  ta : Option Addr
  tl : Nat
  tc : Nat
  oa : Option Addr
  ol : Nat
  oc : Nat
  kd : Nat → Int
def Pt.cells (p : Pt) : Array Value := #[.slice p.ta p.tl p.tc, .slice p.oa p.ol p.oc]
/-- The objects' kinds. -/
structure Ob (w : World) (p : Pt) : Prop where
  le : p.ol ≤ p.oc
  most : p.oc ≤ maxLen
  kind : ∀ i, i < p.ol → ∃ b o, p.oa = some ⟨b, o, none⟩ ∧ w.cell? ⟨b, o + i * 3, none⟩ = some (.int .i64 (p.kd i))
theorem cell_keep {S : List Nat} {w w' : World} (k : Keep S w w') {g i : Nat} {v : Value} (h : w.cell? ⟨g, i, none⟩ = some v) (hg : g ∉ S) : w'.cell? ⟨g, i, none⟩ = some v := by
  rw [World.cell?_of_block (w := w) (k.block g (World.block_lt_of_cell? w _ h) hg)]
  exact h
theorem Ob.keep {w w' : World} {p : Pt} (h : Ob w p) (k : Keep [] w w') : Ob w' p := ⟨h.le, h.most, fun i hi => let ⟨b, o, e, hc⟩ := h.kind i hi; ⟨b, o, e, cell_keep k hc (by simp)⟩⟩
def objB (p : Pt) (c : Cl) : Bool := meansB c.k && decide (0 ≤ c.h) && decide (c.h % 256 < p.ol) && fitsB c.k (p.kd (c.h % 256).toNat)
def objI (p : Pt) (c : Cl) : Int := if objB p c then c.h % 256 else 0
set_option maxHeartbeats 1000000 in
set_option maxRecDepth 100000 in
theorem call_object {w : World} {p : Pt} (ho : Ob w p) (c : Cl) :
    Calls Tryd.prog 13 #[.agg p.cells, .agg c.cells] w fun e w' => e = .returned (.tuple #[.int .i64 (objI p c), .bool (objB p c)]) ∧ Keep [] w w' := by
  obtain ⟨k, h, a, b, wo, wl, wc, t⟩ := c
  have hole := ho.le
  have hom := ho.most
  have H := Lib.hid ho
  have K2 : Hid (∀ n, Keep [] w (((w.alloc (.cells p.cells 28)).alloc (.cells (Cl.cells ⟨k, h, a, b, wo, wl, wc, t⟩) 31)).drewN n)) := Lib.hid (fun n => (((Keep.refl _ _).alloc _).alloc _).drewN n)
  unfold Pt.cells Cl.cells at K2
  unfold maxLen at hom
  clear ho
  cases hm : meansB k with
  | false =>
    have hb : Hid (objB p ⟨k, h, a, b, wo, wl, wc, t⟩ = false) := Lib.hid (by simp [objB, hm])
    have hi : Hid (objI p ⟨k, h, a, b, wo, wl, wc, t⟩ = 0) := Lib.hid (by simp [objI, hb.out])
    rw [hb.out, hi.out]
    unfold Pt.cells Cl.cells
    go_enter Tryd.func13, Tryd.ntmps13
    go_wp2_with fail
    go_quiet (first | (go_at_call 18; exact quiet_eq (call_means _ _)))
    go_wp2_with fail
    go_ret2
    exact ⟨rfl, K2.out _⟩
  | true =>
    by_cases h0 : h < 0
    · have hb : Hid (objB p ⟨k, h, a, b, wo, wl, wc, t⟩ = false) := Lib.hid (by simp [objB]; intro _ q; omega)
      have hi : Hid (objI p ⟨k, h, a, b, wo, wl, wc, t⟩ = 0) := Lib.hid (by simp [objI, hb.out])
      rw [hb.out, hi.out]
      unfold Pt.cells Cl.cells
      have hlt : decide (h < 0) = true := by simpa using h0
      go_enter Tryd.func13, Tryd.ntmps13
      go_wp2_with fail
      go_quiet (first | (go_at_call 18; exact quiet_eq (call_means _ _)))
      go_wp2_with fail
      go_ret2
      exact ⟨rfl, K2.out _⟩
    · have h1 : 0 ≤ h := by omega
      have hlt : decide (h < 0) = false := by simp; omega
      obtain ⟨n, hn⟩ : ∃ n : Nat, h % 256 = n := ⟨(h % 256).toNat, by omega⟩
      have hn256 : (n : Int) < 256 := by omega
      by_cases hin : (n : Int) < p.ol
      · obtain ⟨ob, oo, hoa, hc⟩ := H.out.kind n (by omega)
        have hge : decide (p.ol ≤ n) = false := by simp; omega
        have hno : n < p.ol := by omega
        have hc2 : ∀ X Y, ((w.alloc X).alloc Y).cell? ⟨ob, oo + n * 3, none⟩ = some (.int .i64 (p.kd n)) := fun X Y => cell_keep (((Keep.refl [] w).alloc X).alloc Y) hc (by simp)
        have hc3 := hc2 (.cells #[.slice (some ⟨ob, oo, none⟩) p.ol p.oc, .slice (some ⟨ob, oo, none⟩) p.ol p.oc] 28)
        have hfit : objB p ⟨k, h, a, b, wo, wl, wc, t⟩ = fitsB k (p.kd n) := by
          have e1 : decide (0 ≤ h) = true := by simpa using h1
          have e2 : decide (h % 256 < (p.ol : Int)) = true := by rw [hn]; simpa using hin
          show (meansB k && decide (0 ≤ h) && decide (h % 256 < (p.ol : Int)) && fitsB k (p.kd (h % 256).toNat)) = _
          rw [hm, e1, e2, hn]; simp
        have hobi : objI p ⟨k, h, a, b, wo, wl, wc, t⟩ = if fitsB k (p.kd n) then (n : Int) else 0 := by
          show (if objB p ⟨k, h, a, b, wo, wl, wc, t⟩ then h % 256 else 0) = _
          rw [hfit, hn]
        have Hb := Lib.hid hfit; have Hi := Lib.hid hobi
        have Hn := Lib.hid hn
        have Hc := Lib.hid hc
        clear hn hfit hobi hc hc2 hc3
        obtain ⟨ta, tl, tc, oa, ol, oc, kd⟩ := p
        simp only at hoa hole hom hin hge hno
        subst hoa
        rw [Hb.out, Hi.out]
        unfold Pt.cells Cl.cells
        cases hf : fitsB k (kd n) with
        | true =>
          go_enter Tryd.func13, Tryd.ntmps13
          go_wp2_with fail
          rw [Hn.out]
          have d1 := cell_of (i := 1) (v := .slice (some ⟨ob, oo, none⟩) ol oc) (two_fst w (.cells #[.slice ta tl tc, .slice (some ⟨ob, oo, none⟩) ol oc] 28) (.cells #[.int .i64 k, .int .i64 h, .int .i64 a, .int .i64 b, .slice wo wl wc, .int .i64 t] 31)) rfl
          have e0 := cell_of (i := 0) (v := .int .i64 k) (two_snd w (.cells #[.slice ta tl tc, .slice (some ⟨ob, oo, none⟩) ol oc] 28) (.cells #[.int .i64 k, .int .i64 h, .int .i64 a, .int .i64 b, .slice wo wl wc, .int .i64 t] 31)) rfl
          have e1 := cell_of (i := 1) (v := .int .i64 h) (two_snd w (.cells #[.slice ta tl tc, .slice (some ⟨ob, oo, none⟩) ol oc] 28) (.cells #[.int .i64 k, .int .i64 h, .int .i64 a, .int .i64 b, .slice wo wl wc, .int .i64 t] 31)) rfl
          have oc3 := cell_keep (((Keep.refl [] w).alloc (.cells #[.slice ta tl tc, .slice (some ⟨ob, oo, none⟩) ol oc] 28)).alloc (.cells #[.int .i64 k, .int .i64 h, .int .i64 a, .int .i64 b, .slice wo wl wc, .int .i64 t] 31)) Hc.out (by simp)
          have K2' : Hid (∀ m, Keep [] w (((w.alloc (.cells #[.slice ta tl tc, .slice (some ⟨ob, oo, none⟩) ol oc] 28)).alloc (.cells #[.int .i64 k, .int .i64 h, .int .i64 a, .int .i64 b, .slice wo wl wc, .int .i64 t] 31)).drewN m)) := K2
          generalize (w.alloc (.cells #[.slice ta tl tc, .slice (some ⟨ob, oo, none⟩) ol oc] 28)).alloc (.cells #[.int .i64 k, .int .i64 h, .int .i64 a, .int .i64 b, .slice wo wl wc, .int .i64 t] 31) = w2 at *
          go_quiet (first | (go_at_call 18; exact quiet_eq (call_means _ _)) | (go_at_call 22; exact quiet_eq (call_fits _ _ _)))
          go_wp2_with fail
          go_ret2
          exact ⟨rfl, K2'.out _⟩
        | false =>
          go_enter Tryd.func13, Tryd.ntmps13
          go_wp2_with fail
          rw [Hn.out]
          have d1 := cell_of (i := 1) (v := .slice (some ⟨ob, oo, none⟩) ol oc) (two_fst w (.cells #[.slice ta tl tc, .slice (some ⟨ob, oo, none⟩) ol oc] 28) (.cells #[.int .i64 k, .int .i64 h, .int .i64 a, .int .i64 b, .slice wo wl wc, .int .i64 t] 31)) rfl
          have e0 := cell_of (i := 0) (v := .int .i64 k) (two_snd w (.cells #[.slice ta tl tc, .slice (some ⟨ob, oo, none⟩) ol oc] 28) (.cells #[.int .i64 k, .int .i64 h, .int .i64 a, .int .i64 b, .slice wo wl wc, .int .i64 t] 31)) rfl
          have e1 := cell_of (i := 1) (v := .int .i64 h) (two_snd w (.cells #[.slice ta tl tc, .slice (some ⟨ob, oo, none⟩) ol oc] 28) (.cells #[.int .i64 k, .int .i64 h, .int .i64 a, .int .i64 b, .slice wo wl wc, .int .i64 t] 31)) rfl
          have oc3 := cell_keep (((Keep.refl [] w).alloc (.cells #[.slice ta tl tc, .slice (some ⟨ob, oo, none⟩) ol oc] 28)).alloc (.cells #[.int .i64 k, .int .i64 h, .int .i64 a, .int .i64 b, .slice wo wl wc, .int .i64 t] 31)) Hc.out (by simp)
          have K2' : Hid (∀ m, Keep [] w (((w.alloc (.cells #[.slice ta tl tc, .slice (some ⟨ob, oo, none⟩) ol oc] 28)).alloc (.cells #[.int .i64 k, .int .i64 h, .int .i64 a, .int .i64 b, .slice wo wl wc, .int .i64 t] 31)).drewN m)) := K2
          generalize (w.alloc (.cells #[.slice ta tl tc, .slice (some ⟨ob, oo, none⟩) ol oc] 28)).alloc (.cells #[.int .i64 k, .int .i64 h, .int .i64 a, .int .i64 b, .slice wo wl wc, .int .i64 t] 31) = w2 at *
          go_quiet (first | (go_at_call 18; exact quiet_eq (call_means _ _)) | (go_at_call 22; exact quiet_eq (call_fits _ _ _)))
          go_wp2_with fail
          go_ret2
          exact ⟨rfl, K2'.out _⟩
      · have hge : decide (p.ol ≤ n) = true := by simp; omega
        have hb : Hid (objB p ⟨k, h, a, b, wo, wl, wc, t⟩ = false) := Lib.hid (by
          show (meansB k && decide (0 ≤ h) && decide (h % 256 < (p.ol : Int)) && fitsB k (p.kd (h % 256).toNat)) = _
          rw [hn, show decide ((n : Int) < (p.ol : Int)) = false by simp; omega]; simp)
        have hi : Hid (objI p ⟨k, h, a, b, wo, wl, wc, t⟩ = 0) := Lib.hid (by simp [objI, hb.out])
        have Hn := Lib.hid hn
        clear hn
        rw [hb.out, hi.out]
        unfold Pt.cells Cl.cells
        go_enter Tryd.func13, Tryd.ntmps13
        go_wp2_with fail
        rw [Hn.out]
        go_quiet (first | (go_at_call 18; exact quiet_eq (call_means _ _)))
        go_wp2_with fail
        go_ret2
        exact ⟨rfl, K2.out _⟩
set_option maxHeartbeats 1000000 in
set_option maxRecDepth 100000 in
theorem ref_object {w : World} {p : Pt} (ho : Ob w p) (c : Cl) :
    Calls Tryd.prog 14 #[.agg p.cells, .agg c.cells] w fun e w' => e = .returned (.tuple #[.int .i64 (objI p c), .bool (objB p c)]) ∧ Keep [] w w' := by
  obtain ⟨k, h, a, b, wo, wl, wc, t⟩ := c
  have hole := ho.le
  have hom := ho.most
  have H := Lib.hid ho
  have K2 : Hid (∀ n, Keep [] w (((w.alloc (.cells p.cells 28)).alloc (.cells (Cl.cells ⟨k, h, a, b, wo, wl, wc, t⟩) 31)).drewN n)) := Lib.hid (fun n => (((Keep.refl _ _).alloc _).alloc _).drewN n)
  unfold Pt.cells Cl.cells at K2
  unfold maxLen at hom
  clear ho
  by_cases hk1 : k < 6
  · have hb : Hid (objB p ⟨k, h, a, b, wo, wl, wc, t⟩ = false) := Lib.hid (by simp [objB, meansB]; omega)
    have hi : Hid (objI p ⟨k, h, a, b, wo, wl, wc, t⟩ = 0) := Lib.hid (by simp [objI, hb.out])
    rw [hb.out, hi.out]
    unfold Pt.cells Cl.cells
    go_enter Tryd.func14, Tryd.ntmps14
    go_wp2_with fail
    go_ret2
    exact ⟨rfl, K2.out 0⟩
  by_cases hk2 : 22 < k
  · have hb : Hid (objB p ⟨k, h, a, b, wo, wl, wc, t⟩ = false) := Lib.hid (by simp [objB, meansB]; omega)
    have hi : Hid (objI p ⟨k, h, a, b, wo, wl, wc, t⟩ = 0) := Lib.hid (by simp [objI, hb.out])
    rw [hb.out, hi.out]
    unfold Pt.cells Cl.cells
    go_enter Tryd.func14, Tryd.ntmps14
    go_wp2_with fail
    go_ret2
    exact ⟨rfl, K2.out 0⟩
  by_cases h0 : h < 0
  · have hb : Hid (objB p ⟨k, h, a, b, wo, wl, wc, t⟩ = false) := Lib.hid (by simp [objB]; intro _ q; omega)
    have hi : Hid (objI p ⟨k, h, a, b, wo, wl, wc, t⟩ = 0) := Lib.hid (by simp [objI, hb.out])
    rw [hb.out, hi.out]
    unfold Pt.cells Cl.cells
    go_enter Tryd.func14, Tryd.ntmps14
    go_wp2_with fail
    go_ret2
    exact ⟨rfl, K2.out 0⟩
  · have h1 : 0 ≤ h := by omega
    have hmm : meansB k = true := by simp [meansB]; omega
    have hm := Lib.hid hmm
    clear hmm
    obtain ⟨n, hn⟩ : ∃ n : Nat, h % 256 = n := ⟨(h % 256).toNat, by omega⟩
    have hn256 : (n : Int) < 256 := by omega
    by_cases hin : (n : Int) < p.ol
    · obtain ⟨ob, oo, hoa, hc⟩ := H.out.kind n (by omega)
      have hge : decide (p.ol ≤ n) = false := by simp; omega
      have hno : n < p.ol := by omega
      have hfit : objB p ⟨k, h, a, b, wo, wl, wc, t⟩ = fitsB k (p.kd n) := by
        have e1 : decide (0 ≤ h) = true := by simpa using h1
        have e2 : decide (h % 256 < (p.ol : Int)) = true := by rw [hn]; simpa using hin
        show (meansB k && decide (0 ≤ h) && decide (h % 256 < (p.ol : Int)) && fitsB k (p.kd (h % 256).toNat)) = _
        rw [hm.out, e1, e2, hn]; simp
      have hobi : objI p ⟨k, h, a, b, wo, wl, wc, t⟩ = if fitsB k (p.kd n) then (n : Int) else 0 := by
        show (if objB p ⟨k, h, a, b, wo, wl, wc, t⟩ then h % 256 else 0) = _
        rw [hfit, hn]
      have Hb := Lib.hid hfit; have Hi := Lib.hid hobi
      have Hn := Lib.hid hn
      have Hc := Lib.hid hc
      clear hn hfit hobi hc
      obtain ⟨ta, tl, tc, oa, ol, oc, kd⟩ := p
      simp only at hoa hole hom hin hge hno
      subst hoa
      rw [Hb.out, Hi.out]
      unfold Pt.cells Cl.cells
      cases hf : fitsB k (kd n) with
        | true =>
          go_enter Tryd.func14, Tryd.ntmps14
          go_wp2_with fail
          rw [Hn.out]
          have d1 := cell_of (i := 1) (v := .slice (some ⟨ob, oo, none⟩) ol oc) (two_fst w (.cells #[.slice ta tl tc, .slice (some ⟨ob, oo, none⟩) ol oc] 28) (.cells #[.int .i64 k, .int .i64 h, .int .i64 a, .int .i64 b, .slice wo wl wc, .int .i64 t] 31)) rfl
          have e0 := cell_of (i := 0) (v := .int .i64 k) (two_snd w (.cells #[.slice ta tl tc, .slice (some ⟨ob, oo, none⟩) ol oc] 28) (.cells #[.int .i64 k, .int .i64 h, .int .i64 a, .int .i64 b, .slice wo wl wc, .int .i64 t] 31)) rfl
          have e1 := cell_of (i := 1) (v := .int .i64 h) (two_snd w (.cells #[.slice ta tl tc, .slice (some ⟨ob, oo, none⟩) ol oc] 28) (.cells #[.int .i64 k, .int .i64 h, .int .i64 a, .int .i64 b, .slice wo wl wc, .int .i64 t] 31)) rfl
          have oc3 := cell_keep (((Keep.refl [] w).alloc (.cells #[.slice ta tl tc, .slice (some ⟨ob, oo, none⟩) ol oc] 28)).alloc (.cells #[.int .i64 k, .int .i64 h, .int .i64 a, .int .i64 b, .slice wo wl wc, .int .i64 t] 31)) Hc.out (by simp)
          have K2' : Hid (∀ m, Keep [] w (((w.alloc (.cells #[.slice ta tl tc, .slice (some ⟨ob, oo, none⟩) ol oc] 28)).alloc (.cells #[.int .i64 k, .int .i64 h, .int .i64 a, .int .i64 b, .slice wo wl wc, .int .i64 t] 31)).drewN m)) := K2
          generalize (w.alloc (.cells #[.slice ta tl tc, .slice (some ⟨ob, oo, none⟩) ol oc] 28)).alloc (.cells #[.int .i64 k, .int .i64 h, .int .i64 a, .int .i64 b, .slice wo wl wc, .int .i64 t] 31) = w2 at *
          go_quiet (first | (go_at_call 23; exact quiet_eq (ref_needs _ _ _)))
          go_wp2_with fail
          go_ret2
          exact ⟨rfl, K2'.out _⟩
        | false =>
          go_enter Tryd.func14, Tryd.ntmps14
          go_wp2_with fail
          rw [Hn.out]
          have d1 := cell_of (i := 1) (v := .slice (some ⟨ob, oo, none⟩) ol oc) (two_fst w (.cells #[.slice ta tl tc, .slice (some ⟨ob, oo, none⟩) ol oc] 28) (.cells #[.int .i64 k, .int .i64 h, .int .i64 a, .int .i64 b, .slice wo wl wc, .int .i64 t] 31)) rfl
          have e0 := cell_of (i := 0) (v := .int .i64 k) (two_snd w (.cells #[.slice ta tl tc, .slice (some ⟨ob, oo, none⟩) ol oc] 28) (.cells #[.int .i64 k, .int .i64 h, .int .i64 a, .int .i64 b, .slice wo wl wc, .int .i64 t] 31)) rfl
          have e1 := cell_of (i := 1) (v := .int .i64 h) (two_snd w (.cells #[.slice ta tl tc, .slice (some ⟨ob, oo, none⟩) ol oc] 28) (.cells #[.int .i64 k, .int .i64 h, .int .i64 a, .int .i64 b, .slice wo wl wc, .int .i64 t] 31)) rfl
          have oc3 := cell_keep (((Keep.refl [] w).alloc (.cells #[.slice ta tl tc, .slice (some ⟨ob, oo, none⟩) ol oc] 28)).alloc (.cells #[.int .i64 k, .int .i64 h, .int .i64 a, .int .i64 b, .slice wo wl wc, .int .i64 t] 31)) Hc.out (by simp)
          have K2' : Hid (∀ m, Keep [] w (((w.alloc (.cells #[.slice ta tl tc, .slice (some ⟨ob, oo, none⟩) ol oc] 28)).alloc (.cells #[.int .i64 k, .int .i64 h, .int .i64 a, .int .i64 b, .slice wo wl wc, .int .i64 t] 31)).drewN m)) := K2
          generalize (w.alloc (.cells #[.slice ta tl tc, .slice (some ⟨ob, oo, none⟩) ol oc] 28)).alloc (.cells #[.int .i64 k, .int .i64 h, .int .i64 a, .int .i64 b, .slice wo wl wc, .int .i64 t] 31) = w2 at *
          go_quiet (first | (go_at_call 23; exact quiet_eq (ref_needs _ _ _)))
          go_wp2_with fail
          go_ret2
          exact ⟨rfl, K2'.out _⟩
    · have hge : decide (p.ol ≤ n) = true := by simp; omega
      have hb : Hid (objB p ⟨k, h, a, b, wo, wl, wc, t⟩ = false) := Lib.hid (by
        show (meansB k && decide (0 ≤ h) && decide (h % 256 < (p.ol : Int)) && fitsB k (p.kd (h % 256).toNat)) = _
        rw [hn, show decide ((n : Int) < (p.ol : Int)) = false by simp; omega]; simp)
      have hi : Hid (objI p ⟨k, h, a, b, wo, wl, wc, t⟩ = 0) := Lib.hid (by simp [objI, hb.out])
      have Hn := Lib.hid hn
      clear hn
      rw [hb.out, hi.out]
      unfold Pt.cells Cl.cells
      go_enter Tryd.func14, Tryd.ntmps14
      go_wp2_with fail
      rw [Hn.out]
      go_quiet (fail)
      go_wp2_with fail
      go_ret2
      exact ⟨rfl, K2.out _⟩
end Call24
end Go.Proofs.YtkmpajdiedpfhaaDoor
