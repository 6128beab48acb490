/- Law 7: the bodies as programs; awake. No conditions but those stated. -/
import Derived.Test.YtkmamebaichboaaDelta2
import Derived.Test.YtkmamebaichboaaActs
import Derived.Test.YtkmamebaichboaaFeed
namespace Go.Proofs.Ytkmamebaichboaa
open Go.ChangeShapes Go.WideShapes Go.ChangeAt Go.RowKit
set_option linter.unusedVariables false
set_option linter.unusedSimpArgs false
namespace LinkL
open Prog
def laterP (k t : Int) : Prog Unit := do
  let d ← ld (wrap64 (k + 2))
  st (wrap64 (k + 2)) (wrap64 (d + t))
theorem later_run (k t : Int) (s : St) : (laterP k t).run s = ((), dlLater k t s) := by
  unfold laterP dlLater
  simp only [r_bind, r_ld, r_st]
def loopP (p : Int) : Nat → Int → Bool → Int → Prog (Int × Bool × Int)
  | 0, v, g, t => pure (v, g, t)
  | n + 1, v, g, t => if g = true then do
      let d ← ld (wrap64 (v + 2))
      let o ← isOff
      if o then pure (v, g, t) else if t < d then pure (v, g, t) else do
        let q ← nextP p v
        loopP p n q.1 q.2 (wrap64 (t - d))
    else pure (v, g, t)
theorem loop_run (p : Int) : ∀ (n : Nat) (v : Int) (g : Bool) (t : Int) (s : St), (loopP p n v g t).run s = dlLoop p n v g t s
  | 0, v, g, t, s => rfl
  | n + 1, v, g, t, s => by
    unfold loopP dlLoop
    by_cases hg : g = true
    · rw [if_pos hg, if_pos hg]
      simp only [r_bind, r_ld, r_off]
      generalize St.load (wrap64 (v + 2)) s = q1
      by_cases ho : q1.2.off = true
      · simp [ho]
      · simp only [ho, Bool.false_eq_true, if_false]
        by_cases hd : t < q1.1
        · simp [hd]
        · simp only [hd, if_false, r_bind, next_run, loop_run p n]
    · rw [if_neg hg, if_neg hg]
      rfl
def restI (p k : Int) (q : Int × Bool × Int) : Prog Unit := do
  let o ← isOff
  if o then pure () else do
    st (wrap64 (k + 2)) q.2.2
    if q.2.1 = true then do
      aheadP q.1 k
      laterP q.1 (wrap64 (-q.2.2))
    else aheadP p k
theorem rest_run (p k : Int) (q : Int × Bool × Int) (s : St) : (restI p k q).run s = ((), dlRest p k (q, s)) := by
  unfold restI dlRest
  simp only [r_bind, r_off]
  by_cases ho : s.off = true
  · simp [ho]
  · simp only [ho, Bool.false_eq_true, if_false, r_bind, r_st]
    by_cases hg : q.2.1 = true
    · simp only [if_pos hg, r_bind, ahead_run, later_run]
    · simp only [if_neg hg, ahead_run]
      rfl
def insertP (p k t : Int) : Prog Unit := do
  let q ← nextP p p
  let r ← loopP p WN q.1 q.2 t
  restI p k r
theorem insert_run (p k t : Int) (s : St) : (insertP p k t).run s = ((), dlInsert p k t s) := by
  unfold insertP dlInsert lkFirst
  simp only [r_bind, next_run, loop_run, rest_run]
def dropP (p k : Int) : Prog Unit := do
  let d ← ld (wrap64 (k + 2))
  let q ← nextP p k
  let o ← isOff
  if o then pure () else if q.2 = true then do
    laterP q.1 d
    removeP k
  else removeP k
theorem drop_run (p k : Int) (s : St) : (dropP p k).run s = ((), dlRemove p k s) := by
  unfold dropP dlRemove
  simp only [r_bind, r_ld, r_off, next_run]
  generalize St.load (wrap64 (k + 2)) s = q1
  obtain ⟨d, s1⟩ := q1
  dsimp only
  generalize lkNext p k s1 = q2
  obtain ⟨⟨v, g⟩, s2⟩ := q2
  dsimp only
  by_cases ho : s2.off = true
  · simp [ho]
  · simp only [ho, Bool.false_eq_true, if_false]
    by_cases hg : g = true
    · simp only [if_pos hg, r_bind, later_run, remove_run]
    · simp only [if_neg hg, remove_run]
def tickP (p : Int) : Prog Unit := do
  let q ← nextP p p
  if q.2 = true then do
    let d ← ld (wrap64 (q.1 + 2))
    let o ← isOff
    if o then pure () else if 0 < d then st (wrap64 (q.1 + 2)) (wrap64 (d - 1)) else pure ()
  else pure ()
theorem tick_run (p : Int) (s : St) : (tickP p).run s = ((), dlTick p s) := by
  unfold tickP dlTick lkFirst
  simp only [r_bind, next_run]
  generalize lkNext p p s = q1
  obtain ⟨⟨v, g⟩, s1⟩ := q1
  dsimp only
  by_cases hg : g = true
  · simp only [if_pos hg, r_bind, r_ld, r_off]
    generalize St.load (wrap64 (v + 2)) s1 = q2
    obtain ⟨d, s2⟩ := q2
    dsimp only
    by_cases ho : s2.off = true
    · simp [ho]
    · by_cases hd : 0 < d
      · simp [ho, hd]
      · simp [ho, hd]
  · simp [if_neg hg]
def dueP (p : Int) : Prog (Int × Bool) := do
  let q ← nextP p p
  if q.2 = true then do
    let d ← ld (wrap64 (q.1 + 2))
    let o ← isOff
    if o then pure (0, false) else if d = 0 then do
      removeP q.1
      let o2 ← isOff
      if o2 then pure (0, false) else pure (q.1, true)
    else pure (0, false)
  else pure (0, false)
theorem due_run (p : Int) (s : St) : (dueP p).run s = dlDue p s := by
  unfold dueP dlDue lkFirst
  simp only [r_bind, next_run]
  generalize lkNext p p s = q1
  obtain ⟨⟨v, g⟩, s1⟩ := q1
  dsimp only
  by_cases hg : g = true
  · simp only [if_pos hg, r_bind, r_ld, r_off]
    generalize St.load (wrap64 (v + 2)) s1 = q2
    obtain ⟨d, s2⟩ := q2
    dsimp only
    by_cases ho : s2.off = true
    · simp [ho]
    · by_cases hd : d = 0
      · simp only [ho, hd, Bool.false_eq_true, if_false, if_true, r_bind, remove_run, r_off]
        generalize lkRemove v s2 = s3
        by_cases ho3 : s3.off = true <;> simp [ho3]
      · simp [ho, hd]
  · simp [if_neg hg]
end LinkL
namespace Law07
open LinkL Prog
def actP (a : Act) : Prog (Int × Bool) :=
  if a.kind = 0 then (do insertP 2 a.n a.ticks; pure (0, false))
  else if a.kind = 1 then (do dropP 2 a.n; pure (0, false))
  else if a.kind = 2 then (do tickP 2; pure (0, false))
  else if a.kind = 3 then dueP 2
  else (do initP 2; pure (0, false))
def actU (a : Act) (q : Int × Bool) : Act := if a.kind = 3 then { a with got := q.1, ok := q.2 } else a
theorem actB_eq : actB = progB actP actU := by
  funext a s
  unfold actB progB actP actU
  by_cases k0 : a.kind = 0
  · have k3 : ¬ a.kind = 3 := by omega
    simp only [if_pos k0, if_neg k3, r_bind, insert_run, r_pure]
  · by_cases k1 : a.kind = 1
    · have k3 : ¬ a.kind = 3 := by omega
      simp only [if_neg k0, if_pos k1, if_neg k3, r_bind, drop_run, r_pure]
    · by_cases k2 : a.kind = 2
      · have k3 : ¬ a.kind = 3 := by omega
        simp only [if_neg k0, if_neg k1, if_pos k2, if_neg k3, r_bind, tick_run, r_pure]
      · by_cases k3 : a.kind = 3
        · simp only [if_neg k0, if_neg k1, if_neg k2, if_pos k3, due_run]
        · simp only [if_neg k0, if_neg k1, if_neg k2, if_neg k3, r_bind, init_run, r_pure]
theorem actU_keeps (a : Act) (q : Int × Bool) : (actU a q).kind = a.kind ∧ (actU a q).n = a.n ∧ (actU a q).ticks = a.ticks := by
  unfold actU
  split <;> exact ⟨rfl, rfl, rfl⟩
theorem actP_U (a : Act) (q : Int × Bool) : actP (actU a q) = actP a := by
  obtain ⟨h1, h2, h3⟩ := actU_keeps a q
  unfold actP
  rw [h1, h2, h3]
theorem actU_U (a : Act) (q p : Int × Bool) : actU (actU a q) p = actU a p := by
  by_cases k : a.kind = 3
  · have e : actU a q = { a with got := q.1, ok := q.2 } := if_pos k
    rw [e]; simp [actU, k]
  · have e : actU a q = a := if_neg k
    rw [e]
/-- One call, run alone. -/
theorem act_run {w : World} {m b x : Nat} {l : List Int} {a a' : Act} {l' : List Int} (hm : MemRep 134 w m b l) (hr : w.heap[x]? = some (.cells a.cells 121 (0, 0)))
    (hc : (actP a).cost l ≤ 5000) (ha : actU a ((actP a).solo l).1 = a') (hl : ((actP a).solo l).2 = l') :
    Calls Try.prog 24 #[.pointer (some ⟨m, 0, none⟩), .func (.func 62) #[.pointer (some ⟨x, 0, none⟩)] #[], .int .i64 5000] w fun e w' =>
      e = .returned (.bool true) ∧ MemRep 134 w' m b l' ∧ w'.heap[x]? = some (.cells a'.cells 121 (0, 0)) ∧ Keep [x, b] w w' := by
  have hxm : x ≠ m := fun e => by subst e; rw [hm.head] at hr; simp at hr
  have hxb : x ≠ b := fun e => by subst e; rw [hm.body] at hr; simp at hr
  subst ha hl
  have hB := bodyOK x
  rw [actB_eq] at hB
  refine (acts_run bodyK hB (actStays x) actP_U actU_U hm (r := a) ⟨rfl, hr⟩ hxm hxb (lt_of_block hr) 5000 (by omega) hc).mono ?_
  rintro e w' ⟨o', he, h1, h2, h3, h4⟩
  exact ⟨he, h1, h2.2, h3.keep.mono (by simp)⟩
def M0 : List Int := [0, 0, 2, 2, 0, 0, 0, 0, 0, 0] ++ List.replicate 50 0
theorem init_solo : (actP ⟨4, 0, 0, 0, false⟩).cost (List.replicate 60 0) ≤ 5000 ∧ ((actP ⟨4, 0, 0, 0, false⟩).solo (List.replicate 60 0)).2 = M0 := by decide +kernel
def M1 : List Int := [0, 0, 10, 10, 0, 0, 0, 0, 0, 0, 2, 2, 1] ++ List.replicate 47 0
def M2 : List Int := [0, 0, 10, 10, 0, 0, 0, 0, 0, 0, 2, 2, 0] ++ List.replicate 47 0
theorem ins_solo : (actP ⟨0, 10, 1, 0, false⟩).cost M0 ≤ 5000 ∧ ((actP ⟨0, 10, 1, 0, false⟩).solo M0).2 = M1 := by decide +kernel
theorem tick_solo : (actP ⟨2, 0, 0, 0, false⟩).cost M1 ≤ 5000 ∧ ((actP ⟨2, 0, 0, 0, false⟩).solo M1).2 = M2 := by decide +kernel
theorem due_solo : (actP ⟨3, 0, 0, 0, false⟩).cost M2 ≤ 5000 ∧ ((actP ⟨3, 0, 0, 0, false⟩).solo M2).1 = (10, true) := by decide +kernel
end Law07
end Go.Proofs.Ytkmamebaichboaa
