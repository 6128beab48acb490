/- The contracts of the package call: the check of it. No conditions but those stated. -/
import Derived.Test.YtkmpajdiedpfhaaDoorCall4
import Derived.WalkSmall
namespace Go.Proofs.YtkmpajdiedpfhaaDoor
open Go.ChangeShapes Go.WideShapes Go.ChangeAt Go.RowKit
set_option linter.unusedVariables false
set_option linter.unusedSimpArgs false
namespace Call24
theorem three_fst (w : World) (o1 o2 o3 : Obj) : (((w.alloc o1).alloc o2).alloc o3).heap[w.heap.size]? = some o1 := by rw [Go.RowKit.Below.heap_alloc _ _ _ (by simp; omega)]; exact two_fst w o1 o2
theorem three_snd (w : World) (o1 o2 o3 : Obj) : (((w.alloc o1).alloc o2).alloc o3).heap[w.heap.size + 1]? = some o2 := by rw [Go.RowKit.Below.heap_alloc _ _ _ (by simp)]; exact two_snd w o1 o2
theorem three_thd (w : World) (o1 o2 o3 : Obj) : (((w.alloc o1).alloc o2).alloc o3).heap[w.heap.size + 1 + 1]? = some o3 := by
  have h := two_snd (w.alloc o1) o2 o3
  have e : (w.alloc o1).heap.size = w.heap.size + 1 := by simp
  rw [e] at h
  exact h
theorem objI_bd (p : Pt) (c : Cl) : 0 ≤ objI p c ∧ objI p c ≤ 255 := by unfold objI; split <;> omega
/-- The bit of an object in a thread's Caps. -/
def capI (cp q : Int) : Int := bits BinOp.and IntKind.u32 (cp / 2 ^ min q.toNat 32) 1
theorem and_u32 (a b : Nat) (ha : a < 4294967296) (hb : b < 4294967296) : bits .and .u32 (a : Int) (b : Int) = ((a &&& b : Nat) : Int) := by
  have hx : a &&& b < 2 ^ 32 := Nat.and_lt_two_pow _ (by omega)
  have h1 : (BitVec.ofInt 32 (a : Int)).toNat = a := by
    rw [BitVec.ofInt_natCast, BitVec.toNat_ofNat]; exact Nat.mod_eq_of_lt (by omega)
  have h2 : (BitVec.ofInt 32 (b : Int)).toNat = b := by
    rw [BitVec.ofInt_natCast, BitVec.toNat_ofNat]; exact Nat.mod_eq_of_lt (by omega)
  show IntKind.u32.wrap ((BitVec.ofInt 32 (a : Int) &&& BitVec.ofInt 32 (b : Int)).toNat : Int) = _
  rw [BitVec.toNat_and, h1, h2]
  simp only [IntKind.wrap, IntKind.signed, IntKind.bits]
  simp
  omega
theorem and_one_u32 (E : Int) (h0 : 0 ≤ E) (h1 : E ≤ 4294967295) : bits BinOp.and IntKind.u32 E 1 = E % 2 := by
  have h := and_u32 E.toNat 1 (by omega) (by omega)
  rw [Nat.and_one_is_mod, Int.toNat_of_nonneg h0] at h
  have h2 : ((E.toNat % 2 : Nat) : Int) = E % 2 := by omega
  exact h.trans h2
theorem capI_or (cp q : Int) (h0 : 0 ≤ cp) (h1 : cp ≤ 4294967295) : capI cp q = 0 ∨ capI cp q = 1 := by
  unfold capI
  have hp : (0 : Int) < 2 ^ min q.toNat 32 := Int.pow_pos (by decide)
  have h2 := Int.ediv_nonneg h0 (Int.le_of_lt hp)
  have h3 := Int.ediv_le_self (2 ^ min q.toNat 32) h0
  rw [and_one_u32 _ h2 (by omega)]
  omega
theorem capI_zero (q : Int) : capI 0 q = 0 := by
  unfold capI
  rw [Int.zero_ediv, and_one_u32 _ (by decide) (by decide)]
  decide
def mayB (cp : Int) (ct : Bool) (n : Nat) (p : Pt) (c : Cl) : Bool := if objB p c then (capI cp (objI p c) == 1) else (!thrB c.k || ((c.h == (n : Int)) || ct))
/-- The threads. -/
structure Th (w : World) (p : Pt) (caps : Nat → Int) (ctl : Nat → Bool) (prio : Nat → Int) (pg : Nat → Option Addr × Nat × Nat) : Prop where
  le : p.tl ≤ p.tc
  most : p.tc ≤ maxLen
  cell : ∀ i, i < p.tl → 0 ≤ caps i ∧ caps i ≤ 4294967295 ∧ ∃ b o, p.ta = some ⟨b, o, none⟩ ∧ w.cell? ⟨b, o + i * 4, none⟩ = some (.int .i64 (prio i)) ∧ w.cell? ⟨b, o + i * 4 + 1, none⟩ = some (.int .u32 (caps i)) ∧ w.cell? ⟨b, o + i * 4 + 2, none⟩ = some (.bool (ctl i)) ∧ w.cell? ⟨b, o + i * 4 + 3, none⟩ = some (.slice (pg i).1 (pg i).2.1 (pg i).2.2)
theorem Th.keep {w w' : World} {p : Pt} {caps : Nat → Int} {ctl : Nat → Bool} {prio : Nat → Int} {pg : Nat → Option Addr × Nat × Nat} (h : Th w p caps ctl prio pg) (k : Keep [] w w') : Th w' p caps ctl prio pg :=
  ⟨h.le, h.most, fun i hi => let ⟨a1, a2, b, o, e, c0, c1, c2, c3⟩ := h.cell i hi; ⟨a1, a2, b, o, e, cell_keep k c0 (by simp), cell_keep k c1 (by simp), cell_keep k c2 (by simp), cell_keep k c3 (by simp)⟩⟩
set_option maxHeartbeats 4000000 in
set_option maxRecDepth 100000 in
theorem call_may {w : World} (p : Pt) (c : Cl) {caps : Nat → Int} {ctl : Nat → Bool} {prio : Nat → Int} {pg : Nat → Option Addr × Nat × Nat} (ho : Ob w p) (ht : Th w p caps ctl prio pg) (n : Nat) (hn : n < p.tl) :
    Calls Tryd.prog 20 #[.agg p.cells, .int .i64 n, .agg c.cells] w fun e w' => e = .returned (.bool (mayB (caps n) (ctl n) n p c)) ∧ Keep [] w w' := by
  have hle := ht.le
  have hmo := ht.most
  unfold maxLen at hmo
  obtain ⟨u1, u2, b, o, hta, c0, c1, c2, c3⟩ := ht.cell n hn
  have HO := Lib.hid ho
  clear ho ht
  obtain ⟨k, h, a, b1, wo, wl, wc, t⟩ := c
  obtain ⟨ta, tl, tc, oa, ol, oc, kd⟩ := p
  simp only at hta hn hle hmo
  subst hta
  unfold Pt.cells Cl.cells
  generalize hcp : caps n = cp at *
  generalize hct : ctl n = ct at *
  generalize hpr : prio n = pr at *
  generalize hpp : (pg n).1 = pp at *
  generalize hpq : (pg n).2.1 = pq at *
  generalize hpr2 : (pg n).2.2 = pr2 at *
  clear hcp hct hpr hpp hpq hpr2
  have kk := ((Keep.refl [] w).alloc (.cells #[.slice (some ⟨b, o, none⟩) tl tc, .slice oa ol oc] 28)).alloc (.cells #[.int .i64 k, .int .i64 h, .int .i64 a, .int .i64 b1, .slice wo wl wc, .int .i64 t] 31)
  have d0 := cell_keep kk c0 (by simp)
  have d1 := cell_keep kk c1 (by simp)
  have d2 := cell_keep kk c2 (by simp)
  have d3 := cell_keep kk c3 (by simp)
  have KK := Lib.hid kk
  clear c0 c1 c2 c3 kk
  have Hm : Hid (mayB cp ct n ⟨some ⟨b, o, none⟩, tl, tc, oa, ol, oc, kd⟩ ⟨k, h, a, b1, wo, wl, wc, t⟩ = if objB ⟨some ⟨b, o, none⟩, tl, tc, oa, ol, oc, kd⟩ ⟨k, h, a, b1, wo, wl, wc, t⟩ then (capI cp (objI ⟨some ⟨b, o, none⟩, tl, tc, oa, ol, oc, kd⟩ ⟨k, h, a, b1, wo, wl, wc, t⟩) == 1) else (!thrB k || ((h == (n : Int)) || ct))) := Lib.hid rfl
  rw [Hm.out]
  clear Hm
  cases hob : objB ⟨some ⟨b, o, none⟩, tl, tc, oa, ol, oc, kd⟩ ⟨k, h, a, b1, wo, wl, wc, t⟩ with
  | true =>
    have Hob := Lib.hid hob
    clear hob
    unfold capI
    go_enter Tryd.func20, Tryd.ntmps20
    go_wp2_with fail
    refine (call_object (p := ⟨some ⟨b, o, none⟩, tl, tc, oa, ol, oc, kd⟩) (HO.out.keep (KK.out.alloc _)) ⟨k, h, a, b1, wo, wl, wc, t⟩).mono ?_
    rintro e w2 ⟨rfl, k2⟩
    have K2 := Lib.hid (((KK.out.alloc (.cells #[.int .i64 pr, .int .u32 cp, .bool ct, .slice pp pq pr2] 39)).trans k2))
    have e2 := k2.to (three_snd w (.cells #[.slice (some ⟨b, o, none⟩) tl tc, .slice oa ol oc] 28) (.cells #[.int .i64 k, .int .i64 h, .int .i64 a, .int .i64 b1, .slice wo wl wc, .int .i64 t] 31) (.cells #[.int .i64 pr, .int .u32 cp, .bool ct, .slice pp pq pr2] 39)) (by simp)
    have e3 := k2.to (three_thd w (.cells #[.slice (some ⟨b, o, none⟩) tl tc, .slice oa ol oc] 28) (.cells #[.int .i64 k, .int .i64 h, .int .i64 a, .int .i64 b1, .slice wo wl wc, .int .i64 t] 31) (.cells #[.int .i64 pr, .int .u32 cp, .bool ct, .slice pp pq pr2] 39)) (by simp)
    have a0 := cell_of (i := 0) (v := .int .i64 k) e2 rfl
    have a1 := cell_of (i := 1) (v := .int .i64 h) e2 rfl
    have x1 := cell_of (i := 1) (v := .int .u32 cp) e3 rfl
    have x2 := cell_of (i := 2) (v := .bool ct) e3 rfl
    have hq := objI_bd ⟨some ⟨b, o, none⟩, tl, tc, oa, ol, oc, kd⟩ ⟨k, h, a, b1, wo, wl, wc, t⟩
    clear k2 e2 e3 d0 d1 d2 d3
    rw [Hob.out]
    generalize hqq : objI ⟨some ⟨b, o, none⟩, tl, tc, oa, ol, oc, kd⟩ ⟨k, h, a, b1, wo, wl, wc, t⟩ = q at *
    have Hqq := Lib.hid hqq
    clear hqq
    go_wp2_with fail
    go_ret
    exact ⟨by rw [Hqq.out]; rfl, K2.out⟩
  | false =>
    have Hob := Lib.hid hob
    clear hob
    cases hth : thrB k with
    | true =>
      cases hhn : (h == (n : Int)) with
      | true =>
        go_enter Tryd.func20, Tryd.ntmps20
        go_wp2_with fail
        refine (call_object (p := ⟨some ⟨b, o, none⟩, tl, tc, oa, ol, oc, kd⟩) (HO.out.keep (KK.out.alloc _)) ⟨k, h, a, b1, wo, wl, wc, t⟩).mono ?_
        rintro e w2 ⟨rfl, k2⟩
        have K2 := Lib.hid (((KK.out.alloc (.cells #[.int .i64 pr, .int .u32 cp, .bool ct, .slice pp pq pr2] 39)).trans k2))
        have e2 := k2.to (three_snd w (.cells #[.slice (some ⟨b, o, none⟩) tl tc, .slice oa ol oc] 28) (.cells #[.int .i64 k, .int .i64 h, .int .i64 a, .int .i64 b1, .slice wo wl wc, .int .i64 t] 31) (.cells #[.int .i64 pr, .int .u32 cp, .bool ct, .slice pp pq pr2] 39)) (by simp)
        have e3 := k2.to (three_thd w (.cells #[.slice (some ⟨b, o, none⟩) tl tc, .slice oa ol oc] 28) (.cells #[.int .i64 k, .int .i64 h, .int .i64 a, .int .i64 b1, .slice wo wl wc, .int .i64 t] 31) (.cells #[.int .i64 pr, .int .u32 cp, .bool ct, .slice pp pq pr2] 39)) (by simp)
        have a0 := cell_of (i := 0) (v := .int .i64 k) e2 rfl
        have a1 := cell_of (i := 1) (v := .int .i64 h) e2 rfl
        have x1 := cell_of (i := 1) (v := .int .u32 cp) e3 rfl
        have x2 := cell_of (i := 2) (v := .bool ct) e3 rfl
        have hq := objI_bd ⟨some ⟨b, o, none⟩, tl, tc, oa, ol, oc, kd⟩ ⟨k, h, a, b1, wo, wl, wc, t⟩
        clear k2 e2 e3 d0 d1 d2 d3
        rw [Hob.out]
        generalize objI ⟨some ⟨b, o, none⟩, tl, tc, oa, ol, oc, kd⟩ ⟨k, h, a, b1, wo, wl, wc, t⟩ = q at *
        go_wp2_with fail
        refine (call_threaded _ _).mono ?_
        rintro e w' ⟨rfl, rfl⟩
        rw [hth]
        go_wp2_with fail
        go_ret
        exact ⟨rfl, K2.out⟩
      | false =>
        go_enter Tryd.func20, Tryd.ntmps20
        go_wp2_with fail
        refine (call_object (p := ⟨some ⟨b, o, none⟩, tl, tc, oa, ol, oc, kd⟩) (HO.out.keep (KK.out.alloc _)) ⟨k, h, a, b1, wo, wl, wc, t⟩).mono ?_
        rintro e w2 ⟨rfl, k2⟩
        have K2 := Lib.hid (((KK.out.alloc (.cells #[.int .i64 pr, .int .u32 cp, .bool ct, .slice pp pq pr2] 39)).trans k2))
        have e2 := k2.to (three_snd w (.cells #[.slice (some ⟨b, o, none⟩) tl tc, .slice oa ol oc] 28) (.cells #[.int .i64 k, .int .i64 h, .int .i64 a, .int .i64 b1, .slice wo wl wc, .int .i64 t] 31) (.cells #[.int .i64 pr, .int .u32 cp, .bool ct, .slice pp pq pr2] 39)) (by simp)
        have e3 := k2.to (three_thd w (.cells #[.slice (some ⟨b, o, none⟩) tl tc, .slice oa ol oc] 28) (.cells #[.int .i64 k, .int .i64 h, .int .i64 a, .int .i64 b1, .slice wo wl wc, .int .i64 t] 31) (.cells #[.int .i64 pr, .int .u32 cp, .bool ct, .slice pp pq pr2] 39)) (by simp)
        have a0 := cell_of (i := 0) (v := .int .i64 k) e2 rfl
        have a1 := cell_of (i := 1) (v := .int .i64 h) e2 rfl
        have x1 := cell_of (i := 1) (v := .int .u32 cp) e3 rfl
        have x2 := cell_of (i := 2) (v := .bool ct) e3 rfl
        have hq := objI_bd ⟨some ⟨b, o, none⟩, tl, tc, oa, ol, oc, kd⟩ ⟨k, h, a, b1, wo, wl, wc, t⟩
        clear k2 e2 e3 d0 d1 d2 d3
        rw [Hob.out]
        generalize objI ⟨some ⟨b, o, none⟩, tl, tc, oa, ol, oc, kd⟩ ⟨k, h, a, b1, wo, wl, wc, t⟩ = q at *
        go_wp2_with fail
        refine (call_threaded _ _).mono ?_
        rintro e w' ⟨rfl, rfl⟩
        rw [hth]
        go_wp2_with fail
        all_goals
          go_ret
          exact ⟨ret_bool (by simp), K2.out⟩
    | false =>
      go_enter Tryd.func20, Tryd.ntmps20
      go_wp2_with fail
      refine (call_object (p := ⟨some ⟨b, o, none⟩, tl, tc, oa, ol, oc, kd⟩) (HO.out.keep (KK.out.alloc _)) ⟨k, h, a, b1, wo, wl, wc, t⟩).mono ?_
      rintro e w2 ⟨rfl, k2⟩
      have K2 := Lib.hid (((KK.out.alloc (.cells #[.int .i64 pr, .int .u32 cp, .bool ct, .slice pp pq pr2] 39)).trans k2))
      have e2 := k2.to (three_snd w (.cells #[.slice (some ⟨b, o, none⟩) tl tc, .slice oa ol oc] 28) (.cells #[.int .i64 k, .int .i64 h, .int .i64 a, .int .i64 b1, .slice wo wl wc, .int .i64 t] 31) (.cells #[.int .i64 pr, .int .u32 cp, .bool ct, .slice pp pq pr2] 39)) (by simp)
      have e3 := k2.to (three_thd w (.cells #[.slice (some ⟨b, o, none⟩) tl tc, .slice oa ol oc] 28) (.cells #[.int .i64 k, .int .i64 h, .int .i64 a, .int .i64 b1, .slice wo wl wc, .int .i64 t] 31) (.cells #[.int .i64 pr, .int .u32 cp, .bool ct, .slice pp pq pr2] 39)) (by simp)
      have a0 := cell_of (i := 0) (v := .int .i64 k) e2 rfl
      have a1 := cell_of (i := 1) (v := .int .i64 h) e2 rfl
      have x1 := cell_of (i := 1) (v := .int .u32 cp) e3 rfl
      have x2 := cell_of (i := 2) (v := .bool ct) e3 rfl
      have hq := objI_bd ⟨some ⟨b, o, none⟩, tl, tc, oa, ol, oc, kd⟩ ⟨k, h, a, b1, wo, wl, wc, t⟩
      clear k2 e2 e3 d0 d1 d2 d3
      rw [Hob.out]
      generalize objI ⟨some ⟨b, o, none⟩, tl, tc, oa, ol, oc, kd⟩ ⟨k, h, a, b1, wo, wl, wc, t⟩ = q at *
      go_wp2_with fail
      refine (call_threaded _ _).mono ?_
      rintro e w' ⟨rfl, rfl⟩
      rw [hth]
      go_wp2_with fail
      go_ret
      exact ⟨rfl, K2.out⟩
end Call24
end Go.Proofs.YtkmpajdiedpfhaaDoor
