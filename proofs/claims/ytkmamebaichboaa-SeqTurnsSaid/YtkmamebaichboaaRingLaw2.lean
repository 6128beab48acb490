/- Law 8: the acts as programs; one act run alone; awake; RingSizes. No conditions but those stated. -/
import Derived.Test.YtkmamebaichboaaRingLaw
import Derived.Test.YtkmamebaichboaaAcc
import Derived.Test.YtkmamebaichboaaWords
import Derived.Test.YtkmamebaichboaaArgs
namespace Go.Proofs.Ytkmamebaichboaa
open Go.ChangeShapes Go.WideShapes Go.ChangeAt Go.RowKit
set_option linter.unusedVariables false
set_option linter.unusedSimpArgs false

namespace Law08
open Prog
def ringPutP (pos c v : Int) : Prog Bool :=
  if ringW c = 0 then pure false else do
    let t ← ld pos
    let p ← ld (pos + 1)
    let o ← isOff
    if o then pure false else
    if c ≤ wrap64 (p - t) then pure false else do
      st (place pos c p) v
      st (pos + 1) (wrap64 (p + 1))
      let o ← isOff
      pure (!o)
theorem ringPut_run (pos c v : Int) (s : St) : (ringPutP pos c v).run s = ringPut pos c v s := by
  unfold ringPutP ringPut ringCounts
  by_cases h0 : ringW c = 0
  · simp [h0]
  · simp only [if_neg h0, r_bind, r_ld, r_off]
    generalize St.load pos s = q1
    generalize St.load (pos + 1) q1.2 = q2
    by_cases h1 : q2.2.off = true
    · simp [h1]
    · by_cases h2 : c ≤ wrap64 (q2.1 - q1.1) <;> simp [h1, h2]
def ringGetP (pos c : Int) : Prog (Int × Bool) :=
  if ringW c = 0 then pure (0, false) else do
    let t ← ld pos
    let p ← ld (pos + 1)
    let o ← isOff
    if o then pure (0, false) else
    if p = t then pure (0, false) else do
      let v ← ld (place pos c t)
      st pos (wrap64 (t + 1))
      let o ← isOff
      if o then pure (0, false) else pure (v, true)
theorem ringGet_run (pos c : Int) (s : St) : (ringGetP pos c).run s = ringGet pos c s := by
  unfold ringGetP ringGet ringCounts
  by_cases h0 : ringW c = 0
  · simp [h0]
  · simp only [if_neg h0, r_bind, r_ld, r_off]
    generalize St.load pos s = q1
    generalize St.load (pos + 1) q1.2 = q2
    by_cases h1 : q2.2.off = true
    · simp [h1]
    · by_cases h2 : q2.1 = q1.1
      · simp [h1, h2]
      · by_cases h3 : (St.store pos (wrap64 (q1.1 + 1)) (St.load (place pos c q1.1) q2.2).2).off = true <;> simp [h1, h2, h3]
def ringLenP (pos : Int) : Prog Int := do
  let t ← ld pos
  let p ← ld (pos + 1)
  let o ← isOff
  if o then pure 0 else pure (wrap64 (p - t))
theorem ringLen_run (pos : Int) (s : St) : (ringLenP pos).run s = ringLen pos s := by
  unfold ringLenP ringLen ringCounts
  simp only [r_bind, r_ld, r_off]
  generalize St.load pos s = q1
  generalize St.load (pos + 1) q1.2 = q2
  by_cases h1 : q2.2.off = true <;> simp [h1]
def ringClearP (pos : Int) : Prog Unit := do
  let p ← ld (pos + 1)
  st pos p
theorem ringClear_run (pos : Int) (s : St) : ((ringClearP pos).run s).2 = ringClear pos s := by
  unfold ringClearP ringClear
  simp only [r_bind, r_ld, r_st]

def actP (a : Act) : Prog (Int × Bool) :=
  if a.kind = 0 then (do let ok ← ringPutP 3 a.c a.v; pure (0, ok))
  else if a.kind = 1 then ringGetP 3 a.c
  else if a.kind = 2 then (do let n ← ringLenP 3; pure (n, false))
  else (do let _ ← ringClearP 3; pure (0, false))
def actU (a : Act) (q : Int × Bool) : Act :=
  if a.kind = 0 then { a with ok := q.2 }
  else if a.kind = 1 then { a with got := q.1, ok := q.2 }
  else if a.kind = 2 then { a with n := q.1 }
  else a
theorem actB_eq : actB = progB actP actU := by
  funext a s
  unfold actB progB actP actU
  by_cases k0 : a.kind = 0
  · simp only [if_pos k0, r_bind, ringPut_run, r_pure]
  · by_cases k1 : a.kind = 1
    · simp only [if_neg k0, if_pos k1, ringGet_run]
    · by_cases k2 : a.kind = 2
      · simp only [if_neg k0, if_neg k1, if_pos k2, r_bind, ringLen_run, r_pure]
      · simp only [if_neg k0, if_neg k1, if_neg k2, r_bind, ringClear_run, r_pure]
theorem actU_keeps (a : Act) (q : Int × Bool) : (actU a q).kind = a.kind ∧ (actU a q).c = a.c ∧ (actU a q).v = a.v := by
  unfold actU
  split
  · exact ⟨rfl, rfl, rfl⟩
  · split
    · exact ⟨rfl, rfl, rfl⟩
    · split <;> exact ⟨rfl, rfl, rfl⟩
theorem actP_U (a : Act) (q : Int × Bool) : actP (actU a q) = actP a := by
  obtain ⟨h1, h2, h3⟩ := actU_keeps a q
  unfold actP
  rw [h1, h2, h3]
theorem actU_U (a : Act) (q p : Int × Bool) : actU (actU a q) p = actU a p := by
  have h1 := (actU_keeps a q).1
  by_cases k0 : a.kind = 0
  · have e : actU a q = { a with ok := q.2 } := if_pos k0
    rw [e]; simp [actU, k0]
  · by_cases k1 : a.kind = 1
    · have e : actU a q = { a with got := q.1, ok := q.2 } := by simp [actU, k1]
      rw [e]; simp [actU, k1]
    · by_cases k2 : a.kind = 2
      · have e : actU a q = { a with n := q.1 } := by simp [actU, k2]
        rw [e]; simp [actU, k2]
      · have e : actU a q = a := by simp [actU, k0, k1, k2]
        rw [e]

/-- One act, run alone. -/
theorem act_run {w : World} {m b x : Nat} {l : List Int} {a : Act} (hm : MemRep 134 w m b l) (hr : w.heap[x]? = some (.cells a.cells 65 (0, 0))) (hc : (actP a).cost l ≤ 5000) :
    Calls Try.prog 24 #[.pointer (some ⟨m, 0, none⟩), .func (.func 39) #[.pointer (some ⟨x, 0, none⟩)] #[], .int .i64 5000] w fun e w' =>
      e = .returned (.bool true) ∧ MemRep 134 w' m b ((actP a).solo l).2 ∧ w'.heap[x]? = some (.cells (actU a ((actP a).solo l).1).cells 65 (0, 0)) ∧ Keep [x, b] w w' := by
  have hxm : x ≠ m := fun e => by subst e; rw [hm.head] at hr; simp at hr
  have hxb : x ≠ b := fun e => by subst e; rw [hm.body] at hr; simp at hr
  obtain ⟨g1, g2, g3, g4⟩ := run_solo actP actU actP_U actU_U a l 5000 (by omega) hc
  have hB := bodyOK x
  rw [actB_eq] at hB
  refine (frame_run bodyK hB (actStays x) hm (r := a) (o := []) ⟨rfl, hr⟩ hxm hxb (by simp) (by simp) (by simp) (by simp) (lt_of_block hr) 5000 (by omega) (fun n hn => ?_)).mono ?_
  · have := runP_log (progB_mu actP actU) (a, St.new l) n
    have e : (a, St.new l).2.log.length = 0 := rfl
    omega
  · rintro e w' ⟨o', he, h1, h2, h3, h4⟩
    have e5 : (5000 : Int).toNat = 5000 := rfl
    rw [e5] at he h1 h2
    rw [g1] at he
    rw [g3] at h1
    rw [g2] at h2
    exact ⟨he, h1, h2.2, h3.keep.mono (by simp)⟩

theorem ringW_out {c : Int} (h : ¬ (1 ≤ c ∧ c ≤ 16)) : ringW c = 0 := if_pos (by omega)
theorem ringW_in {c : Int} (h : 1 ≤ c ∧ c ≤ 16) : ringW c = c + 2 := if_neg (by omega)

theorem awake08_pure : ((actP ⟨0, 2, 9, 0, false, 0⟩).cost (List.replicate 30 0) ≤ 5000 ∧
    (actP ⟨1, 2, 0, 0, false, 0⟩).cost ((actP ⟨0, 2, 9, 0, false, 0⟩).solo (List.replicate 30 0)).2 ≤ 5000) ∧
    actU ⟨1, 2, 0, 0, false, 0⟩ ((actP ⟨1, 2, 0, 0, false, 0⟩).solo ((actP ⟨0, 2, 9, 0, false, 0⟩).solo (List.replicate 30 0)).2).1 = ⟨1, 2, 0, 9, true, 0⟩ := by
  decide +kernel
theorem awake08 (w : World) : Calls Try.prog 38 #[] w fun e w' => e = .returned (.bool true) ∧ Keep [] w w' := by
  have hp := awake08_pure
  have Hp := Lib.hid hp
  clear hp
  go_enter Try.func38, Try.ntmps38
  go_wp2_with fail
  refine (word_new 30 _ (by omega)).mono ?_
  rintro e w1 ⟨rfl, hm1, hk1, hs1⟩
  have hr : (List.replicate (min (max (30 : Int) 0) 4000).toNat (0 : Int)) = List.replicate 30 0 := by decide
  rw [hr] at hm1
  have Hm1 := Lib.hid hm1; have Hk1 := Lib.hid hk1; have hz1 : w.heap.size + 2 ≤ w1.heap.size := by omega
  clear hm1 hk1 hs1 hr
  go_wp2_with fail
  refine (ring_words 2 _).mono ?_
  rintro e w' ⟨rfl, rfl⟩
  rw [show ringW 2 = 4 from rfl]
  go_wp2_with fail
  have hm2 : MemRep 134 ((w1.alloc (.cells #[.int .u8 0, .int .i64 2, .int .i64 9, .int .i64 0, .bool false, .int .i64 0] 65)).alloc (.cells #[.int .u8 1, .int .i64 2, .int .i64 0, .int .i64 0, .bool false, .int .i64 0] 65)) _ _ _ :=
    Hm1.out.keep (((Keep.refl [] w1).alloc _).alloc _) (by simp) (by simp)
  have hx2 : ((w1.alloc (.cells #[.int .u8 0, .int .i64 2, .int .i64 9, .int .i64 0, .bool false, .int .i64 0] 65)).alloc (.cells #[.int .u8 1, .int .i64 2, .int .i64 0, .int .i64 0, .bool false, .int .i64 0] 65)).heap[w1.heap.size]? = some (.cells (Act.cells ⟨0, 2, 9, 0, false, 0⟩) 65 (0, 0)) := two_fst w1 _ _
  have hy2 : ((w1.alloc (.cells #[.int .u8 0, .int .i64 2, .int .i64 9, .int .i64 0, .bool false, .int .i64 0] 65)).alloc (.cells #[.int .u8 1, .int .i64 2, .int .i64 0, .int .i64 0, .bool false, .int .i64 0] 65)).heap[w1.heap.size + 1]? = some (.cells (Act.cells ⟨1, 2, 0, 0, false, 0⟩) 65 (0, 0)) := two_snd w1 _ _
  have hk2 : Keep [] w ((w1.alloc (.cells #[.int .u8 0, .int .i64 2, .int .i64 9, .int .i64 0, .bool false, .int .i64 0] 65)).alloc (.cells #[.int .u8 1, .int .i64 2, .int .i64 0, .int .i64 0, .bool false, .int .i64 0] 65)) := (Hk1.out.alloc _).alloc _
  have Hm2 := Lib.hid hm2; have Hx2 := Lib.hid hx2; have Hy2 := Lib.hid hy2; have Hk2 := Lib.hid hk2
  clear hm2 hx2 hy2 hk2
  generalize ((w1.alloc (.cells #[.int .u8 0, .int .i64 2, .int .i64 9, .int .i64 0, .bool false, .int .i64 0] 65)).alloc (.cells #[.int .u8 1, .int .i64 2, .int .i64 0, .int .i64 0, .bool false, .int .i64 0] 65)) = w2 at *
  refine (act_run Hm2.out Hx2.out Hp.out.1.1).mono ?_
  rintro e w3 ⟨rfl, hm3, hx3, hk3⟩
  have Hm3 := Lib.hid hm3
  have Hy3 := Lib.hid (hk3.to Hy2.out (by simp; omega))
  have Hk3 := Lib.hid (Hk2.out.transS hk3 (T := []) (by simp) (by simp; omega))
  clear hm3 hx3 hk3
  go_wp2_with fail
  refine (act_run Hm3.out Hy3.out Hp.out.1.2).mono ?_
  rintro e w4 ⟨rfl, hm4, hy4, hk4⟩
  rw [Hp.out.2] at hy4
  have c3 : w4.cell? ⟨w1.heap.size + 1, 3, none⟩ = some (.int .i64 9) := cell_of hy4 rfl
  have c4 : w4.cell? ⟨w1.heap.size + 1, 4, none⟩ = some (.bool true) := cell_of hy4 rfl
  have Hk4 := Lib.hid (Hk3.out.transS hk4 (T := []) (by simp) (by simp; omega))
  clear hm4 hy4 hk4
  go_wp2_with fail
  go_ret
  exact ⟨rfl, Hk4.out⟩
end Law08
end Go.Proofs.Ytkmamebaichboaa
