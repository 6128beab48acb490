/- Law 9: the acts as programs; one act run alone; awake; BlockSizes. No conditions but those stated. -/
import Derived.Test.YtkmamebaichboaaBlock
import Derived.Test.YtkmamebaichboaaActs
namespace Go.Proofs.Ytkmamebaichboaa
open Go.ChangeShapes Go.WideShapes Go.ChangeAt Go.RowKit
set_option linter.unusedVariables false
set_option linter.unusedSimpArgs false
namespace Law09
open Prog
def takeP (pos n : Int) : Prog (Int × Bool) :=
  if blkW n = 0 then pure (0, false) else do
    let v ← ld pos
    let o ← isOff
    if o then pure (0, false) else
    if wrap64 (v - 1) < 0 then pure (0, false) else
    if n ≤ wrap64 (v - 1) then pure (0, false) else do
      let next ← ld (pos + 1 + wrap64 (v - 1))
      st pos next
      st (pos + 1 + wrap64 (v - 1)) (-1)
      let o ← isOff
      if o then pure (0, false) else pure (wrap64 (v - 1), true)
theorem take_run (pos n : Int) (s : St) : (takeP pos n).run s = blkTake pos n s := by
  unfold takeP blkTake
  by_cases h0 : blkW n = 0
  · simp [h0]
  · simp only [if_neg h0, r_bind, r_ld, r_off]
    generalize St.load pos s = q1
    by_cases h1 : q1.2.off = true
    · simp [h1]
    · by_cases h2 : wrap64 (q1.1 - 1) < 0
      · simp [h1, h2]
      · by_cases h3 : n ≤ wrap64 (q1.1 - 1)
        · simp [h1, h2, h3]
        · by_cases h4 : (St.store (pos + 1 + wrap64 (q1.1 - 1)) (-1) (St.store pos (St.load (pos + 1 + wrap64 (q1.1 - 1)) q1.2).1 (St.load (pos + 1 + wrap64 (q1.1 - 1)) q1.2).2)).off = true <;> simp [h1, h2, h3, h4]
def initP (pos n : Int) : Nat → Prog Unit
  | 0 => pure ()
  | k + 1 => do
    initP pos n k
    st (pos + 1 + k) (if (k : Int) < n - 1 then k + 2 else 0)
theorem initP_run (pos n : Int) (k : Nat) (s : St) : ((initP pos n k).run s).2 = initAll pos n k s := by
  induction k with
  | zero => rfl
  | succ k ih => simp only [initP, r_bind, r_st, ih]; rfl
def bInitP (pos n : Int) : Prog Unit := if blkW n = 0 then pure () else do
  st pos 1
  initP pos n n.toNat
theorem bInit_run (pos n : Int) (s : St) : ((bInitP pos n).run s).2 = blkInit pos n s := by
  unfold bInitP blkInit
  by_cases h0 : blkW n = 0
  · simp [h0]
  · simp only [if_neg h0, r_bind, r_st, initP_run]
def actP (a : Act) : Prog (Int × Bool) :=
  if a.kind = 0 then takeP 2 a.n
  else if a.kind = 1 then pure (0, false)
  else if a.kind = 2 then pure (0, false)
  else (do bInitP 2 a.n; pure (0, false))
def actU (a : Act) (q : Int × Bool) : Act :=
  if a.kind = 0 then { a with got := q.1, ok := q.2 }
  else if a.kind = 1 then { a with ok := q.2 }
  else if a.kind = 2 then { a with ok := q.2 }
  else a
theorem actB_eq : actB = progB actP actU := by
  funext a s
  unfold actB progB actP actU
  by_cases k0 : a.kind = 0
  · simp only [if_pos k0, take_run]
  · by_cases k1 : a.kind = 1
    · simp only [if_neg k0, if_pos k1, r_pure]
    · by_cases k2 : a.kind = 2
      · simp only [if_neg k0, if_neg k1, if_pos k2, r_pure]
      · simp only [if_neg k0, if_neg k1, if_neg k2, r_bind, bInit_run, r_pure]
theorem actU_keeps (a : Act) (q : Int × Bool) : (actU a q).kind = a.kind ∧ (actU a q).n = a.n := by
  unfold actU
  split
  · exact ⟨rfl, rfl⟩
  · split
    · exact ⟨rfl, rfl⟩
    · split <;> exact ⟨rfl, rfl⟩
theorem actP_U (a : Act) (q : Int × Bool) : actP (actU a q) = actP a := by
  obtain ⟨h1, h2⟩ := actU_keeps a q
  unfold actP
  rw [h1, h2]
theorem actU_U (a : Act) (q p : Int × Bool) : actU (actU a q) p = actU a p := by
  by_cases k0 : a.kind = 0
  · have e : actU a q = { a with got := q.1, ok := q.2 } := if_pos k0
    rw [e]; simp [actU, k0]
  · by_cases k1 : a.kind = 1
    · have e : actU a q = { a with ok := q.2 } := by simp [actU, k1]
      rw [e]; simp [actU, k1]
    · by_cases k2 : a.kind = 2
      · have e : actU a q = { a with ok := q.2 } := by simp [actU, k2]
        rw [e]; simp [actU, k2]
      · have e : actU a q = a := by simp [actU, k0, k1, k2]
        rw [e]
/-- One act, run alone. -/
theorem act_run {w : World} {m b x : Nat} {l : List Int} {a a' : Act} {l' : List Int} (hm : MemRep 134 w m b l) (hr : w.heap[x]? = some (.cells a.cells 109 (0, 0))) (hq : Good a)
    (hc : (actP a).cost l ≤ 5000) (ha : actU a ((actP a).solo l).1 = a') (hl : ((actP a).solo l).2 = l') :
    Calls Try.prog 24 #[.pointer (some ⟨m, 0, none⟩), .func (.func 57) #[.pointer (some ⟨x, 0, none⟩)] #[], .int .i64 5000] w fun e w' =>
      e = .returned (.bool true) ∧ MemRep 134 w' m b l' ∧ w'.heap[x]? = some (.cells a'.cells 109 (0, 0)) ∧ Keep [x, b] w w' := by
  have hxm : x ≠ m := fun e => by subst e; rw [hm.head] at hr; simp at hr
  have hxb : x ≠ b := fun e => by subst e; rw [hm.body] at hr; simp at hr
  have hB := bodyOK x
  rw [actB_eq] at hB
  subst ha hl
  refine (acts_run bodyK hB (hStays x) actP_U actU_U hm (r := a) ⟨hq, rfl, hr⟩ hxm hxb (lt_of_block hr) 5000 (by omega) hc).mono ?_
  rintro e w' ⟨o', he, h1, h2, h3, h4⟩
  exact ⟨he, h1, h2.2.2, h3.keep.mono (by simp)⟩
theorem good_ne {a : Act} (h : a.kind ≠ 1 ∧ a.kind ≠ 2) : Good a := .inr h

def A0 : Act := ⟨3, 2, 0, 0, false⟩
def A1 : Act := ⟨0, 2, 0, 0, false⟩
def L1 : List Int := ((actP A0).solo (List.replicate 30 0)).2
def L2 : List Int := ((actP A1).solo L1).2
theorem awake_pure : ((actP A0).cost (List.replicate 30 0) ≤ 5000 ∧ (actP A1).cost L1 ≤ 5000 ∧ (actP A1).cost L2 ≤ 5000) ∧
    actU A0 ((actP A0).solo (List.replicate 30 0)).1 = ⟨3, 2, 0, 0, false⟩ ∧
    actU A1 ((actP A1).solo L1).1 = ⟨0, 2, 0, 0, true⟩ ∧ actU A1 ((actP A1).solo L2).1 = ⟨0, 2, 0, 1, true⟩ := by
  decide +kernel
theorem after3 {m b : Nat} {w0 w : World} {l : List Int} (hm : MemRep 134 w m b l) (hk : Keep [] w0 w) (x y z : Obj) :
    MemRep 134 (((w.alloc x).alloc y).alloc z) m b l ∧ (((w.alloc x).alloc y).alloc z).heap[w.heap.size]? = some x ∧ (((w.alloc x).alloc y).alloc z).heap[w.heap.size + 1]? = some y ∧ (((w.alloc x).alloc y).alloc z).heap[w.heap.size + 1 + 1]? = some z ∧
    Keep [] w0 (((w.alloc x).alloc y).alloc z) ∧ (((w.alloc x).alloc y).alloc z).heap.size = w.heap.size + 3 :=
  ⟨hm.keep ((((Keep.refl [] w).alloc _).alloc _).alloc _) (by simp) (by simp), three_fst w _ _ _, three_snd w _ _ _, three_thd w _ _ _, ((hk.alloc _).alloc _).alloc _, by simp⟩
theorem awake09 (w : World) : Calls Try.prog 55 #[] w fun e w' => e = .returned (.bool true) ∧ Keep [] w w' := by
  have hp := awake_pure
  have Hp := Lib.hid hp
  clear hp
  go_enter Try.func55, Try.ntmps55
  go_wp2_with fail
  refine (word_new 30 _ (by omega)).mono ?_
  rintro e w1 ⟨rfl, hm1, hk1, hs1⟩
  have hr : (List.replicate (min (max (30 : Int) 0) 4000).toNat (0 : Int)) = List.replicate 30 0 := by decide
  rw [hr] at hm1
  have hz1 : w.heap.size + 2 ≤ w1.heap.size := by omega
  have HA := Lib.hid (after3 hm1 hk1 (.cells #[.int .u8 3, .int .i64 2, .int .i64 0, .int .i64 0, .bool false] 109) (.cells #[.int .u8 0, .int .i64 2, .int .i64 0, .int .i64 0, .bool false] 109) (.cells #[.int .u8 0, .int .i64 2, .int .i64 0, .int .i64 0, .bool false] 109))
  clear hm1 hk1 hs1 hr
  go_wp2_with fail
  refine (block_words 2 _).mono ?_
  rintro e w' ⟨rfl, rfl⟩
  rw [show blkW 2 = 3 from rfl]
  go_wp2_with fail
  generalize hw2 : (((w1.alloc (.cells #[.int .u8 3, .int .i64 2, .int .i64 0, .int .i64 0, .bool false] 109)).alloc (.cells #[.int .u8 0, .int .i64 2, .int .i64 0, .int .i64 0, .bool false] 109)).alloc (.cells #[.int .u8 0, .int .i64 2, .int .i64 0, .int .i64 0, .bool false] 109)) = w2 at HA ⊢
  clear hw2
  refine (act_run (a := A0) HA.out.1 HA.out.2.1 (good_ne (by decide)) Hp.out.1.1 Hp.out.2.1 rfl).mono ?_
  rintro e w3 ⟨rfl, hm3, hx3, hk3⟩
  have Hm3 : Hid (MemRep 134 w3 (w.heap.size + 1) w.heap.size L1) := Lib.hid hm3
  have Hy3 := Lib.hid (hk3.to HA.out.2.2.1 (by simp; omega))
  have Hz3 := Lib.hid (hk3.to HA.out.2.2.2.1 (by simp; omega))
  have Hk3 := Lib.hid (HA.out.2.2.2.2.1.transS hk3 (T := []) (by simp) (by simp; omega))
  clear hm3 hx3 hk3
  go_wp2_with fail
  refine (act_run (a := A1) Hm3.out Hy3.out (good_ne (by decide)) Hp.out.1.2.1 Hp.out.2.2.1 rfl).mono ?_
  rintro e w4 ⟨rfl, hm4, hy4, hk4⟩
  have Hm4 : Hid (MemRep 134 w4 (w.heap.size + 1) w.heap.size L2) := Lib.hid hm4
  have Hy4 := Lib.hid hy4
  have Hz4 := Lib.hid (hk4.to Hz3.out (by simp; omega))
  have Hk4 := Lib.hid (Hk3.out.transS hk4 (T := []) (by simp) (by simp; omega))
  clear hm4 hy4 hk4
  go_wp2_with fail
  refine (act_run (a := A1) Hm4.out Hz4.out (good_ne (by decide)) Hp.out.1.2.2 Hp.out.2.2.2 rfl).mono ?_
  rintro e w5 ⟨rfl, hm5, hz5, hk5⟩
  have hy5 := hk5.to Hy4.out (by simp; omega)
  have c1 : w5.cell? ⟨w1.heap.size + 1, 4, none⟩ = some (.bool true) := cell_of hy5 rfl
  have c3 : w5.cell? ⟨w1.heap.size + 1 + 1, 4, none⟩ = some (.bool true) := cell_of hz5 rfl
  have c4 : w5.cell? ⟨w1.heap.size + 1 + 1, 3, none⟩ = some (.int .i64 1) := cell_of hz5 rfl
  have Hk5 := Lib.hid (Hk4.out.transS hk5 (T := []) (by simp) (by simp; omega))
  clear hm5 hz5 hk5 hy5
  go_wp2_with fail
  go_ret
  exact ⟨rfl, Hk5.out⟩
end Law09
end Go.Proofs.Ytkmamebaichboaa
