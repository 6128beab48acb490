/- Law 3: the bodies as programs; run alone; awake; TicketCalls. No conditions but those stated. -/
import Derived.Test.YtkmamebaichboaaTicketUser
import Derived.Test.YtkmamebaichboaaActs
namespace Go.Proofs.Ytkmamebaichboaa
open Go.ChangeShapes Go.WideShapes Go.ChangeAt Go.RowKit
set_option linter.unusedVariables false
set_option linter.unusedSimpArgs false
open Prog
def tkServedP (pos t : Int) : Prog Bool := do
  let v ← ld (pos + 1)
  let o ← isOff
  if o then pure false else if v = t then pure true else pure false
theorem tkServed_run (pos t : Int) (s : St) : (tkServedP pos t).run s = tkServed pos t s := by
  unfold tkServedP tkServed
  simp only [r_bind, r_ld, r_off]
  generalize St.load (pos + 1) s = q1
  by_cases h1 : q1.2.off = true
  · simp [h1]
  · by_cases h2 : q1.1 = t <;> simp [h1, h2]
def tkWaitP (pos t : Int) : Nat → Prog Unit
  | 0 => pure ()
  | n + 1 => do
    let o ← isOff
    if o then pure () else do
      let b ← tkServedP pos t
      if b then pure () else tkWaitP pos t n
theorem tkWait_run (pos t : Int) (n : Nat) (s : St) : ((tkWaitP pos t n).run s).2 = tkWait pos t n s := by
  induction n generalizing s with
  | zero => rfl
  | succ n ih =>
    simp only [tkWaitP, tkWait, r_bind, r_off]
    by_cases h1 : s.off = true
    · simp [h1]
    · simp only [h1, Bool.false_eq_true, if_false, r_bind, tkServed_run]
      by_cases h2 : (tkServed pos t s).1 = true
      · simp [h2]
      · simp [h2, ih]
theorem wait_solo {pos t : Int} {m : List Int} (h : wordGet m (pos + 1) = t) (n : Nat) : ((tkWaitP pos t (n + 1)).solo m).2 = m ∧ (tkWaitP pos t (n + 1)).cost m = 1 := by
  simp [tkWaitP, tkServedP, h]
namespace Law03
namespace User
def userP (pos : Int) : Prog (Int × Int × Bool) := do
  let t ← ad pos 1
  tkWaitP pos t WN
  let o1 ← isOff
  let g ← ld 5
  st 5 (wrap64 (g + 1))
  st (pos + 1) (wrap64 (t + 1))
  let o2 ← isOff
  pure (t, g, if o2 then !o1 else false)
def usP (u : Usr) : Prog (Int × Int × Bool) := userP u.pos
def usU (u : Usr) (q : Int × Int × Bool) : Usr := { u with ticket := q.1, got := q.2.1, inside := q.2.2 }
theorem usB_eq : usB = progB usP usU := by
  funext u s
  unfold usB progB usP usU userP tkEnter tkDraw tkLeave
  simp only [r_bind, r_ad, r_off, r_ld, r_st, r_pure, tkWait_run]
  rfl
def URep (x : Nat) (u : Usr) (o : List Nat) (w : World) : Prop := (0 ≤ u.pos ∧ u.pos ≤ 1000000) ∧ o = [] ∧ w.heap[x]? = some (.cells u.cells 52 (0, 0))
theorem uStays (x : Nat) : RStays x (URep x) := fun r o w w' S h k hx ho => ⟨h.1, h.2.1, k.to h.2.2 hx⟩
theorem userOK (x : Nat) : BodyOK 35 x (URep x) (progB usP usU) := by
  rw [← usB_eq]
  rintro f m b w sl s u o hf ⟨hp, rfl, hr⟩ ha _
  refine (user_body x hf u hr ha hp).mono ?_
  rintro e w1 ⟨he, sl1, h1, h2, h3, h4⟩
  exact ⟨he, sl1, [], h1, ⟨hp, rfl, h2⟩, h3.toO [], h4, by simp⟩
theorem userK : ∀ (y z : Addr) (wx : World), (callFunc 35 #[.pointer (some y), .pointer (some z)]).run Try.prog wx = .ok (.enter 35 #[.pointer (some y), .pointer (some z)]) wx := fun _ _ _ => by kernel_rfl
theorem usP_U (u : Usr) (q : Int × Int × Bool) : usP (usU u q) = usP u := rfl
theorem usU_U (u : Usr) (q p : Int × Int × Bool) : usU (usU u q) p = usU u p := rfl
theorem WN_succ : WN = 1000004 + 1 := rfl
/-- Alone, served at once. -/
theorem user_solo {m : List Int} (h : wordGet (wordPut m 0 (wordSum m 0 1)) 1 = wordGet m 0) :
    (userP 0).cost m = 5 ∧ (userP 0).solo m = ((wordGet m 0, wordGet (wordPut m 0 (wordSum m 0 1)) 5, false), wordPut (wordPut (wordPut m 0 (wordSum m 0 1)) 5 (wrap64 (wordGet (wordPut m 0 (wordSum m 0 1)) 5 + 1))) 1 (wrap64 (wordGet m 0 + 1))) := by
  have h2 := wait_solo (pos := 0) (t := wordGet m 0) (m := wordPut m 0 (wordSum m 0 1)) (by simpa using h) 1000004
  unfold userP
  rw [WN_succ]
  simp [h2.1, h2.2]
theorem awake_solo : (userP 0).cost (List.replicate 6 0) = 5 ∧ (userP 0).solo (List.replicate 6 0) = ((0, 0, false), [1, 1, 0, 0, 0, 1]) := by
  have h := user_solo (m := List.replicate 6 0) (by decide +kernel)
  refine ⟨h.1, h.2.trans ?_⟩
  decide +kernel
theorem awake03 (w : World) : Calls Try.prog 34 #[] w fun e w' => e = .returned (.bool true) ∧ Keep [] w w' := by
  have Hp := Lib.hid awake_solo
  go_enter Try.func34, Try.ntmps34
  go_wp2_with fail
  refine (word_new 6 _ (by omega)).mono ?_
  rintro e w1 ⟨rfl, hm1, hk1, hs1⟩
  have hr : (List.replicate (min (max (6 : Int) 0) 4000).toNat (0 : Int)) = List.replicate 6 0 := by decide
  rw [hr] at hm1
  have hz1 : w.heap.size + 2 ≤ w1.heap.size := by omega
  have Hm2 := Lib.hid (hm1.keep ((Keep.refl [] w1).alloc (.cells #[.int .i64 0, .int .i64 0, .int .i64 0, .bool false] 52)) (by simp) (by simp))
  have Hx2 := Lib.hid (one_new w1 (.cells #[.int .i64 0, .int .i64 0, .int .i64 0, .bool false] 52))
  have Hk2 := Lib.hid (hk1.alloc (.cells #[.int .i64 0, .int .i64 0, .int .i64 0, .bool false] 52))
  have hlt : w1.heap.size < (w1.alloc (.cells #[.int .i64 0, .int .i64 0, .int .i64 0, .bool false] 52)).heap.size := by simp
  clear hm1 hk1 hs1 hr
  go_wp2_with fail
  generalize hw2 : w1.alloc (.cells #[.int .i64 0, .int .i64 0, .int .i64 0, .bool false] 52) = w2 at Hm2 Hx2 Hk2 hlt ⊢
  clear hw2
  refine (acts_run userK (userOK w1.heap.size) (uStays _) usP_U usU_U Hm2.out (r := ⟨0, 0, 0, false⟩) ⟨by simp, rfl, Hx2.out⟩ (by omega) (by omega) hlt 10 (by omega) (by rw [show usP ⟨0, 0, 0, false⟩ = userP 0 from rfl, Hp.out.1]; decide)).mono ?_
  rintro e w3 ⟨o', rfl, hm3, hx3, hk3, _⟩
  rw [show usP ⟨0, 0, 0, false⟩ = userP 0 from rfl, Hp.out.2] at hm3 hx3
  have c2 : w3.cell? ⟨w1.heap.size, 2, none⟩ = some (.int .i64 0) := cell_of hx3.2.2 rfl
  have Hm3 := Lib.hid hm3
  have Hk3 := Lib.hid (Hk2.out.transS hk3.keep (T := []) (by simp) (by simp; omega))
  clear hm3 hx3 hk3
  go_wp2_with fail
  refine (word_words Hm3.out).mono ?_
  rintro e w4 ⟨g4, cap4, rfl, ho4, hg4, hcap4, hk4⟩
  have c4 : w4.cell? ⟨g4, 1, none⟩ = some (.int .i64 1) := ho4.cell 1 _ rfl
  have Hm4 := Lib.hid (Hm3.out.keep hk4 (by simp) (by simp))
  have Hk4 := Lib.hid (Hk3.out.trans hk4)
  clear ho4 hk4
  go_wp2_with fail
  refine (word_words Hm4.out).mono ?_
  rintro e w5 ⟨g5, cap5, rfl, ho5, hg5, hcap5, hk5⟩
  have c5 : w5.cell? ⟨g5, 5, none⟩ = some (.int .i64 1) := ho5.cell 5 _ rfl
  have Hk5 := Lib.hid (Hk4.out.trans hk5)
  clear ho5 hk5
  go_wp2_with fail
  go_ret
  exact ⟨rfl, Hk5.out⟩
end User
namespace One
def onB (a : Act) (s : St) : Act × St :=
  if a.kind = 0 then ({ a with got := (tkDraw a.pos s).1 }, (tkDraw a.pos s).2)
  else if a.kind = 1 then ({ a with ok := (tkServed a.pos a.ticket s).1 }, (tkServed a.pos a.ticket s).2)
  else (a, tkLeave a.pos a.ticket s)
def onP (a : Act) : Prog (Int × Bool) :=
  if a.kind = 0 then (do let v ← ad a.pos 1; pure (v, false))
  else if a.kind = 1 then (do let b ← tkServedP a.pos a.ticket; pure (0, b))
  else (do st (a.pos + 1) (wrap64 (a.ticket + 1)); pure (0, false))
def onU (a : Act) (q : Int × Bool) : Act :=
  if a.kind = 0 then { a with got := q.1 } else if a.kind = 1 then { a with ok := q.2 } else a
theorem onB_eq : onB = progB onP onU := by
  funext a s
  unfold onB progB onP onU tkDraw tkLeave
  by_cases k0 : a.kind = 0
  · simp only [if_pos k0, r_bind, r_ad, r_pure]
  · by_cases k1 : a.kind = 1
    · simp only [if_neg k0, if_pos k1, r_bind, tkServed_run, r_pure]
    · simp only [if_neg k0, if_neg k1, r_bind, r_st, r_pure]
theorem onU_keeps (a : Act) (q : Int × Bool) : (onU a q).kind = a.kind ∧ (onU a q).pos = a.pos ∧ (onU a q).ticket = a.ticket := by
  unfold onU
  split
  · exact ⟨rfl, rfl, rfl⟩
  · split <;> exact ⟨rfl, rfl, rfl⟩
theorem onP_U (a : Act) (q : Int × Bool) : onP (onU a q) = onP a := by
  obtain ⟨h1, h2, h3⟩ := onU_keeps a q
  unfold onP
  rw [h1, h2, h3]
theorem onU_U (a : Act) (q p : Int × Bool) : onU (onU a q) p = onU a p := by
  by_cases k0 : a.kind = 0
  · have e : onU a q = { a with got := q.1 } := if_pos k0
    rw [e]; simp [onU, k0]
  · by_cases k1 : a.kind = 1
    · have e : onU a q = { a with ok := q.2 } := by simp [onU, k1]
      rw [e]; simp [onU, k1]
    · have e : onU a q = a := by simp [onU, k0, k1]
      rw [e]
def ORep (x : Nat) (a : Act) (o : List Nat) (w : World) : Prop := (0 ≤ a.pos ∧ a.pos ≤ 1000000) ∧ ActRep x a o w
theorem oStays (x : Nat) : RStays x (ORep x) := fun r o w w' S h k hx ho => ⟨h.1, actStays x r o w w' S h.2 k hx ho⟩
theorem bodyOK (x : Nat) : BodyOK 37 x (ORep x) (progB onP onU) := by
  rw [← onB_eq]
  rintro f m b w sl s a o hf ⟨hh, rfl, hr⟩ ha _
  have hpos : (onB a s).1.pos = a.pos := by
    unfold onB
    split
    · rfl
    · split <;> rfl
  have fin : ∀ (e : Ending) (w1 : World), (e = .returned (.tuple #[]) ∧ ∃ sl1, FRep w1 f m b sl1 (onB a s).2 ∧
      w1.heap[x]? = some (.cells (onB a s).1.cells 57 (0, 0)) ∧ Ev [x, f, b] sl w sl1 w1 ∧ Apart x f m b sl1 []) →
      e = .returned (.tuple #[]) ∧ ∃ sl1 o1, FRep w1 f m b sl1 (onB a s).2 ∧ ORep x (onB a s).1 o1 w1 ∧
      EvO [x, f, b] (blk sl ++ []) w (blk sl1 ++ o1) w1 ∧ Apart x f m b sl1 o1 ∧ (∀ k ∈ o1, k < w1.heap.size) := by
    rintro e w1 ⟨he, sl1, h1, h2, h3, h4⟩
    exact ⟨he, sl1, [], h1, ⟨by rw [hpos]; exact hh, rfl, h2⟩, h3.toO [], h4, by simp⟩
  by_cases k0 : a.kind = 0
  · refine (body_draw x hf a hr ha k0 hh).mono fun e w1 h => fin e w1 ?_
    simp only [onB, if_pos k0]; exact h
  · by_cases k1 : a.kind = 1
    · refine (body_served x hf a hr ha k1 hh).mono fun e w1 h => fin e w1 ?_
      simp only [onB, if_neg k0, if_pos k1]; exact h
    · refine (body_leave x hf a hr ha k0 k1 hh).mono fun e w1 h => fin e w1 ?_
      simp only [onB, if_neg k0, if_neg k1]; exact h
theorem bodyK : ∀ (y z : Addr) (wx : World), (callFunc 37 #[.pointer (some y), .pointer (some z)]).run Try.prog wx = .ok (.enter 37 #[.pointer (some y), .pointer (some z)]) wx := fun _ _ _ => by kernel_rfl
/-- One call, run alone: one step. -/
theorem act_run {w : World} {m b x : Nat} {l : List Int} {a a' : Act} {l' : List Int} (hm : MemRep 134 w m b l) (hr : w.heap[x]? = some (.cells a.cells 57 (0, 0))) (hq : 0 ≤ a.pos ∧ a.pos ≤ 1000000)
    (hc : (onP a).cost l ≤ 1) (ha : onU a ((onP a).solo l).1 = a') (hl : ((onP a).solo l).2 = l') :
    Calls Try.prog 24 #[.pointer (some ⟨m, 0, none⟩), .func (.func 37) #[.pointer (some ⟨x, 0, none⟩)] #[], .int .i64 1] w fun e w' =>
      e = .returned (.bool true) ∧ MemRep 134 w' m b l' ∧ w'.heap[x]? = some (.cells a'.cells 57 (0, 0)) ∧ Keep [x, b] w w' := by
  have hxm : x ≠ m := fun e => by subst e; rw [hm.head] at hr; simp at hr
  have hxb : x ≠ b := fun e => by subst e; rw [hm.body] at hr; simp at hr
  subst ha hl
  refine (acts_run bodyK (bodyOK x) (oStays x) onP_U onU_U hm (r := a) ⟨hq, rfl, hr⟩ hxm hxb (lt_of_block hr) 1 (by omega) (by simpa using hc)).mono ?_
  rintro e w' ⟨o', he, h1, h2, h3, h4⟩
  exact ⟨he, h1, h2.2.2, h3.keep.mono (by simp)⟩
theorem draw_solo (n s : Int) : (onP ⟨0, 1, 0, 0, false⟩).cost [0, n, s] ≤ 1 ∧ onU ⟨0, 1, 0, 0, false⟩ ((onP ⟨0, 1, 0, 0, false⟩).solo [0, n, s]).1 = ⟨0, 1, 0, n, false⟩ ∧ ((onP ⟨0, 1, 0, 0, false⟩).solo [0, n, s]).2 = [0, wrap64 (n + 1), s] := by
  simp [onP, onU, wordGet, wordPut, wordSum, nth]
theorem served_solo (n s t : Int) : (onP ⟨1, 1, t, 0, false⟩).cost [0, n, s] ≤ 1 ∧ onU ⟨1, 1, t, 0, false⟩ ((onP ⟨1, 1, t, 0, false⟩).solo [0, n, s]).1 = ⟨1, 1, t, 0, s == t⟩ ∧ ((onP ⟨1, 1, t, 0, false⟩).solo [0, n, s]).2 = [0, n, s] := by
  by_cases h : s = t <;> simp [onP, onU, tkServedP, wordGet, wordPut, wordSum, nth, h]
theorem leave_solo (n s t : Int) : (onP ⟨2, 1, t, 0, false⟩).cost [0, n, s] ≤ 1 ∧ onU ⟨2, 1, t, 0, false⟩ ((onP ⟨2, 1, t, 0, false⟩).solo [0, n, s]).1 = ⟨2, 1, t, 0, false⟩ ∧ ((onP ⟨2, 1, t, 0, false⟩).solo [0, n, s]).2 = [0, n, wrap64 (t + 1)] := by
  simp [onP, onU, wordGet, wordPut, wordSum, nth]
end One
end Law03
end Go.Proofs.Ytkmamebaichboaa
