/- Law 3: TicketWaits: the plain law. No Go in it. No conditions but those stated. -/
import Derived.Test.YtkmamebaichboaaTicketLaw
import Derived.Test.YtkmamebaichboaaFeed
namespace Go.Proofs.Ytkmamebaichboaa
open Go.ChangeShapes Go.WideShapes Go.ChangeAt Go.RowKit
set_option linter.unusedVariables false
set_option linter.unusedSimpArgs false
open Prog
theorem wait_feed (pos t v : Int) (hv : v ≠ t) (n j : Nat) : (tkWaitP pos t (n + j)).feed (List.replicate j v) = (tkWaitP pos t n).feed [] := by
  induction j with
  | zero => rfl
  | succ j ih =>
    rw [← ih]
    have e : n + (j + 1) = (n + j) + 1 := rfl
    rw [e, List.replicate_succ]
    simp [tkWaitP, tkServedP, bind_assoc', hv]
def wk (pos t : Int) (n : Nat) (v : Int) : Prog Unit := do
  let o ← isOff
  let b ← (if o then pure false else if v = t then pure true else pure false)
  if b then pure () else tkWaitP pos t n
theorem wait_feed_nil (pos t : Int) (n : Nat) : (tkWaitP pos t (n + 1)).feed [] = .acc (.load (pos + 1)) (wk pos t n) := by
  simp only [tkWaitP, tkServedP, bind_assoc', feed_isOff, Bool.false_eq_true, if_false, feed_ld_nil]
  rfl
theorem wk_feed {pos t v : Int} (hv : v ≠ t) (n : Nat) : (wk pos t n v).feed [] = (tkWaitP pos t n).feed [] := by
  unfold wk
  simp [hv]
namespace Law03
namespace User
def enterP : Prog Int := do
  let t ← ad 0 1
  tkWaitP 0 t WN
  pure t
def restP (t : Int) : Prog (Int × Int × Bool) := do
  let o1 ← isOff
  let g ← ld 5
  st 5 (wrap64 (g + 1))
  st (0 + 1) (wrap64 (t + 1))
  let o2 ← isOff
  pure (t, g, if o2 then !o1 else false)
theorem user_split : userP 0 = enterP >>= restP := by
  unfold userP enterP restP
  simp only [bind_assoc', pure_bind']
def MW : List Int := [2, 0, 0, 0, 0, 0]
def MB : List Int := [2, 1, 0, 0, 0, 0]
def L0 : List Int := [1, 0, 0, 0, 0, 0]
def kE (n : Nat) (v : Int) : Prog Int := wk 0 1 (n + 1) v >>= fun _ => pure 1
theorem enter_feed (j : Nat) (hj : j ≤ 1000) : ∃ n, enterP.feed (1 :: List.replicate j 0) = .acc (.load (0 + 1)) (kE n) := by
  refine ⟨1000005 - j - 2, ?_⟩
  have e : WN = (1000005 - j - 2 + 1 + 1) + j := by unfold WN; omega
  unfold enterP
  rw [feed_ad, e]
  have h1 := wait_feed 0 1 0 (by decide) (1000005 - j - 2 + 1 + 1) j
  rw [wait_feed_nil] at h1
  exact feed_bind_acc _ _ _ h1
theorem kE_wait (n : Nat) : ∃ k, (kE n 0).feed [] = .acc (.load (0 + 1)) k := by
  unfold kE
  have h := wk_feed (pos := 0) (t := 1) (v := 0) (by decide) (n + 1)
  rw [wait_feed_nil] at h
  exact ⟨_, feed_bind_acc _ _ _ h⟩
theorem rest_inside (t : Int) (s : St) (h : s.off = true) : ((restP t).run s).1.2.2 = false := by
  unfold restP
  simp only [r_bind, r_off, r_ld, r_st, r_pure, h]
  simp
/-- A step that waits. -/
theorem waits_step (u : Usr) (hu : u.pos = 0) (s : St) (hov : s.over = false) (now : Int) {o o' : AOp} {k k' : Int → Prog Int} (h : enterP.feed (ans s) = .acc o k) (h' : (k (o.eff s.mem).1).feed [] = .acc o' k') :
    (stepP (progB usP usU) now (u, s)).1.pos = 0 ∧ (stepP (progB usP usU) now (u, s)).1.inside = false ∧ (stepP (progB usP usU) now (u, s)).2.over = false ∧
    (stepP (progB usP usU) now (u, s)).2.log = s.log ++ [((o.eff s.mem).1, now)] ∧ (stepP (progB usP usU) now (u, s)).2.mem = (o.eff s.mem).2 := by
  rw [stepP_go (q := (u, s)) hov]
  have e : usP u = enterP >>= restP := by unfold usP; rw [hu, user_split]
  have hf : (usP u).feed (ans s) = .acc o (fun v => k v >>= restP) := by rw [e]; exact feed_bind_acc _ _ _ h
  have hf' : ((fun v => k v >>= restP) (o.eff s.mem).1).feed [] = .acc o' (fun v => k' v >>= restP) := feed_bind_acc _ _ _ h'
  obtain ⟨g1, g2, g3⟩ := step_acc (usP u) s now hf
  rw [hf'] at g3
  have hoff := run_waits enterP s now h h'
  refine ⟨hu, ?_, g3, g1, g2⟩
  show ((usP u).run (s.start now)).1.2.2 = false
  rw [e, r_bind]
  exact rest_inside _ _ hoff
def u0 : Usr := ⟨0, 0, 0, false⟩
theorem phase1 (k : Nat) (hk : k ≤ 200) :
    let q := runP (progB usP usU) k (u0, St.new L0)
    q.1.pos = 0 ∧ q.1.inside = false ∧ q.2.over = false ∧ q.2.log.length = k ∧ (1 ≤ k → ans q.2 = 1 :: List.replicate (k - 1) 0 ∧ q.2.mem = MW) ∧ (k = 0 → ans q.2 = [] ∧ q.2.mem = L0) := by
  induction k with
  | zero => exact ⟨rfl, rfl, rfl, rfl, fun h => absurd h (by omega), fun _ => ⟨rfl, rfl⟩⟩
  | succ k ih =>
    obtain ⟨h1, h2, h3, h4, h5, h6⟩ := ih (by omega)
    intro q
    have hq : q = stepP (progB usP usU) k (runP (progB usP usU) k (u0, St.new L0)) := rfl
    rw [hq]
    generalize runP (progB usP usU) k (u0, St.new L0) = p at h1 h2 h3 h4 h5 h6
    obtain ⟨u, s⟩ := p
    simp only at h1 h2 h3 h4 h5 h6
    by_cases hz : k = 0
    · obtain ⟨ha, hm⟩ := h6 hz
      have hf : enterP.feed (ans s) = .acc (.add 0 1) (fun t => tkWaitP 0 t WN >>= fun _ => pure t) := by rw [ha]; rfl
      have he : (AOp.add 0 1).eff s.mem = (1, MW) := by rw [hm]; decide +kernel
      have hf' : (tkWaitP 0 1 WN >>= fun _ => (pure 1 : Prog Int)).feed [] = .acc (.load (0 + 1)) _ := feed_bind_acc _ _ _ (wait_feed_nil 0 1 1000004)
      obtain ⟨g1, g2, g3, g4, g5⟩ := waits_step u h1 s h3 k hf (by rw [he]; exact hf')
      refine ⟨g1, g2, g3, by rw [g4]; simp [h4], fun _ => ⟨?_, by rw [g5, he]⟩, fun h => absurd h (by omega)⟩
      have : ans (stepP (progB usP usU) k (u, s)).2 = ans s ++ [((AOp.add 0 1).eff s.mem).1] := by simp [ans, g4]
      rw [this, ha, he, hz]; rfl
    · obtain ⟨ha, hm⟩ := h5 (by omega)
      obtain ⟨n, hf⟩ := enter_feed (k - 1) (by omega)
      rw [← ha] at hf
      have he : (AOp.load (0 + 1)).eff s.mem = (0, MW) := by rw [hm]; decide +kernel
      obtain ⟨k', hf'⟩ := kE_wait n
      obtain ⟨g1, g2, g3, g4, g5⟩ := waits_step u h1 s h3 k hf (by rw [he]; exact hf')
      refine ⟨g1, g2, g3, by rw [g4]; simp [h4], fun _ => ⟨?_, by rw [g5, he]⟩, fun h => absurd h (by omega)⟩
      have : ans (stepP (progB usP usU) k (u, s)).2 = ans s ++ [((AOp.load (0 + 1)).eff s.mem).1] := by simp [ans, g4]
      rw [this, ha, he]
      have e : k + 1 - 1 = (k - 1) + 1 := by omega
      rw [e, List.replicate_succ']
      rfl
/-- A step that does an access, and isn't over behind it. -/
theorem go_step (u : Usr) (hu : u.pos = 0) (s : St) (hov : s.over = false) (now : Int) {o o' : AOp} {k k' : Int → Prog (Int × Int × Bool)} (h : (userP 0).feed (ans s) = .acc o k) (h' : (k (o.eff s.mem).1).feed [] = .acc o' k') :
    ∃ u' s', stepP (progB usP usU) now (u, s) = (u', s') ∧ u'.pos = 0 ∧ s'.over = false ∧ s'.log.length = s.log.length + 1 ∧ s'.mem = (o.eff s.mem).2 ∧ (userP 0).feed (ans s') = .acc o' k' := by
  have e : usP u = userP 0 := by unfold usP; rw [hu]
  refine ⟨(stepP (progB usP usU) now (u, s)).1, (stepP (progB usP usU) now (u, s)).2, rfl, ?_⟩
  rw [stepP_go (q := (u, s)) hov]
  obtain ⟨g1, g2, g3⟩ := step_acc (usP u) s now (e ▸ h)
  rw [h'] at g3
  refine ⟨hu, g3, ?_, g2, ?_⟩
  · show ((usP u).run (s.start now)).2.stop.log.length = _
    rw [g1]; simp
  · have : ans ((usP u).run (s.start now)).2.stop = ans s ++ [(o.eff s.mem).1] := by simp [ans, g1]
    show (userP 0).feed (ans ((usP u).run (s.start now)).2.stop) = _
    rw [this, feed_snoc _ _ _ h, h']
theorem end_step (u : Usr) (hu : u.pos = 0) (s : St) (hov : s.over = false) (now : Int) {o : AOp} {k : Int → Prog (Int × Int × Bool)} {r : Int × Int × Bool} (h : (userP 0).feed (ans s) = .acc o k) (h' : (k (o.eff s.mem).1).feed [] = .ret r) :
    ∃ s', stepP (progB usP usU) now (u, s) = (⟨0, r.1, r.2.1, r.2.2⟩, s') ∧ s'.over = true ∧ s'.log.length = s.log.length + 1 ∧ s'.mem = (o.eff s.mem).2 := by
  have e : usP u = userP 0 := by unfold usP; rw [hu]
  rw [stepP_go (q := (u, s)) hov]
  obtain ⟨g1, g2, g3⟩ := step_acc (usP u) s now (e ▸ h)
  rw [h'] at g3
  refine ⟨_, Prod.ext ?_ rfl, g3.2, ?_, g2⟩
  · show usU u ((usP u).run (s.start now)).1 = _
    rw [g3.1]
    unfold usU
    rw [← hu]
  · show ((usP u).run (s.start now)).2.stop.log.length = _
    rw [g1]; simp
/-- The four steps behind the serving. -/
theorem phase2 (n : Nat) (hn : 1 ≤ n ∧ n ≤ 200) (now : Int) : ∃ R : Nat → Usr × St, R 0 = ((runP (progB usP usU) n (u0, St.new L0)).1, { (runP (progB usP usU) n (u0, St.new L0)).2 with mem := MB }) ∧
    (∀ k : Nat, k < 4 → stepP (progB usP usU) (now + k) ((R k).1, (R k).2) = ((R (k + 1)).1, (R (k + 1)).2)) ∧ (∀ k : Nat, k ≤ 4 → (R k).2.log.length = n + k) ∧ (R 4).2.over = true ∧ (R 4).1.ticket = 1 := by
  obtain ⟨h1, h2, h3, h4, h5, _⟩ := phase1 n hn.2
  generalize runP (progB usP usU) n (u0, St.new L0) = p at h1 h2 h3 h4 h5
  obtain ⟨u, s⟩ := p
  simp only at h1 h2 h3 h4 h5
  obtain ⟨ha, hm⟩ := h5 hn.1
  obtain ⟨n', hf⟩ := enter_feed (n - 1) (by omega)
  rw [← ha] at hf
  have hf0 : (userP 0).feed (ans { s with mem := MB }) = .acc (.load (0 + 1)) (fun v => kE n' v >>= restP) := by rw [user_split]; exact feed_bind_acc _ _ _ hf
  have e0 : (AOp.load (0 + 1)).eff MB = (1, MB) := by decide +kernel
  have hn0 : ((fun v => kE n' v >>= restP) ((AOp.load (0 + 1)).eff ({ s with mem := MB } : St).mem).1).feed [] = .acc (.load 5) (fun g => do
      st 5 (wrap64 (g + 1))
      st (0 + 1) (wrap64 (1 + 1))
      let o2 ← isOff
      pure (1, g, if o2 then !false else false)) := by
    simp only [e0]
    rfl
  obtain ⟨u1, s1, q1, a1, b1, c1, d1, f1⟩ := go_step u h1 { s with mem := MB } h3 (now + 0) hf0 hn0
  have m1 : s1.mem = MB := by rw [d1]; exact congrArg Prod.snd e0
  have e1 : (AOp.load 5).eff s1.mem = (0, MB) := by rw [m1]; decide +kernel
  obtain ⟨u2, s2, q2, a2, b2, c2, d2, f2⟩ := go_step u1 a1 s1 b1 (now + 1) f1 (o' := .store 5 (wrap64 (0 + 1))) (k' := fun _ => do
      st (0 + 1) (wrap64 (1 + 1))
      let o2 ← isOff
      pure (1, 0, if o2 then !false else false)) (by rw [e1]; rfl)
  have m2 : s2.mem = MB := by rw [d2, e1]
  obtain ⟨u3, s3, q3, a3, b3, c3, d3, f3⟩ := go_step u2 a2 s2 b2 (now + 2) f2 (o' := .store (0 + 1) (wrap64 (1 + 1))) (k' := fun _ => do
      let o2 ← isOff
      pure (1, 0, if o2 then !false else false)) rfl
  obtain ⟨s4, q4, b4, c4, d4⟩ := end_step u3 a3 s3 b3 (now + 3) f3 (r := (1, 0, false)) rfl
  refine ⟨fun k => match k with | 0 => (u, { s with mem := MB }) | 1 => (u1, s1) | 2 => (u2, s2) | 3 => (u3, s3) | _ => (⟨0, 1, 0, false⟩, s4), rfl, ?_, ?_, b4, rfl⟩
  · intro k hk
    have : k = 0 ∨ k = 1 ∨ k = 2 ∨ k = 3 := by omega
    rcases this with rfl | rfl | rfl | rfl
    · exact q1
    · exact q2
    · exact q3
    · exact q4
  · intro k hk
    have : k = 0 ∨ k = 1 ∨ k = 2 ∨ k = 3 ∨ k = 4 := by omega
    simp only at c1
    rcases this with rfl | rfl | rfl | rfl | rfl <;> simp only <;> omega
end User
end Law03
end Go.Proofs.Ytkmamebaichboaa
