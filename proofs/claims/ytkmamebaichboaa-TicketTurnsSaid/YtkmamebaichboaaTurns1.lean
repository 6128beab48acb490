/- Law 3: TicketTurns: where a user of the lock is, at each of its accesses. No Go in it. No conditions but those stated. -/
import Derived.Test.YtkmamebaichboaaTicketWaits1
namespace Go.Proofs.Ytkmamebaichboaa
open Go.ChangeShapes Go.WideShapes Go.ChangeAt Go.RowKit
set_option linter.unusedVariables false
set_option linter.unusedSimpArgs false
namespace Law03
namespace User
open Prog
def kV (t : Int) (N : Nat) (v : Int) : Prog Int := wk 0 t N v >>= fun _ => pure t
def k2 (t : Int) (g : Int) : Prog (Int × Int × Bool) := do
  st 5 (wrap64 (g + 1))
  st (0 + 1) (wrap64 (t + 1))
  let o2 ← isOff
  pure (t, g, if o2 then !false else false)
def k3 (t g : Int) : Int → Prog (Int × Int × Bool) := fun _ => do
  st (0 + 1) (wrap64 (t + 1))
  let o2 ← isOff
  pure (t, g, if o2 then !false else false)
def k4 (t g : Int) : Int → Prog (Int × Int × Bool) := fun _ => do
  let o2 ← isOff
  pure (t, g, if o2 then !false else false)
/-- Where a user with the ticket t is; n: what it is to see. -/
def At (t : Int) (n : Nat) (u : Usr) (s : St) : Nat → Prop
  | 0 => ans s = [] ∧ u.inside = false ∧ s.over = false
  | 1 => u.inside = false ∧ s.over = false ∧ ∃ N, 1000000 ≤ N + s.log.length ∧ enterP.feed (ans s) = .acc (.load (0 + 1)) (kV t N)
  | 2 => s.over = false ∧ (userP 0).feed (ans s) = .acc (.load 5) (k2 t)
  | 3 => s.over = false ∧ (userP 0).feed (ans s) = .acc (.store 5 (wrap64 ((n : Int) + 1))) (k3 t n)
  | 4 => s.over = false ∧ (userP 0).feed (ans s) = .acc (.store (0 + 1) (wrap64 (t + 1))) (k4 t n)
  | _ => s.over = true ∧ u.inside = false ∧ u.ticket = t ∧ u.got = n
theorem At.turn {t : Int} {n ph : Nat} {u : Usr} {s : St} (h : At t n u s ph) (l : List Int) : At t n u { s with mem := l } ph := by
  match ph, h with
  | 0, h => exact h
  | 1, h => exact h
  | 2, h => exact h
  | 3, h => exact h
  | 4, h => exact h
  | _ + 5, h => exact h
section
variable {t : Int} {n : Nat} {u : Usr} {s : St}
def After (t : Int) (n : Nat) (s : St) (q : Usr × St) (ph : Nat) (m : List Int) : Prop := q.1.pos = 0 ∧ q.2.log.length ≤ s.log.length + 1 ∧ q.2.mem = m ∧ At t n q.1 q.2 ph
theorem at_0 (hu : u.pos = 0) (h : At t n u s 0) (now : Int) : After (wordGet s.mem 0) n s (stepP (progB usP usU) now (u, s)) 1 (wordPut s.mem 0 (wordSum s.mem 0 1)) := by
  obtain ⟨h1, h2, h3⟩ := h
  have hf : enterP.feed (ans s) = .acc (.add 0 1) (fun t => tkWaitP 0 t WN >>= fun _ => pure t) := by rw [h1]; rfl
  have hf' : (tkWaitP 0 (wordGet s.mem 0) WN >>= fun _ => (pure (wordGet s.mem 0) : Prog Int)).feed [] = .acc (.load (0 + 1)) (kV (wordGet s.mem 0) 1000004) := feed_bind_acc _ _ _ (wait_feed_nil 0 _ 1000004)
  obtain ⟨g1, g2, g3, g4, g5⟩ := waits_step u hu s h3 now hf (k' := kV (wordGet s.mem 0) 1000004) hf'
  refine ⟨g1, by rw [g4]; simp, g5, g2, g3, 1000004, by omega, ?_⟩
  have : ans (stepP (progB usP usU) now (u, s)).2 = ans s ++ [((AOp.add 0 1).eff s.mem).1] := by simp [ans, g4]
  rw [this, feed_snoc _ _ _ hf]
  exact hf'
theorem at_1w (hu : u.pos = 0) (hlen : s.log.length ≤ 1000) (h : At t n u s 1) (hv : wordGet s.mem 1 ≠ t) (now : Int) : After t n s (stepP (progB usP usU) now (u, s)) 1 s.mem := by
  obtain ⟨h1, h2, N, h3, hf⟩ := h
  obtain ⟨N', rfl⟩ : ∃ N', N = N' + 1 := ⟨N - 1, by omega⟩
  have hw := wk_feed (pos := 0) hv (N' + 1)
  rw [wait_feed_nil] at hw
  have hf' : (kV t (N' + 1) ((AOp.load (0 + 1)).eff s.mem).1).feed [] = .acc (.load (0 + 1)) (kV t N') := feed_bind_acc _ _ _ hw
  obtain ⟨g1, g2, g3, g4, g5⟩ := waits_step u hu s h2 now hf hf'
  have hl : (stepP (progB usP usU) now (u, s)).2.log.length = s.log.length + 1 := by rw [g4]; simp
  refine ⟨g1, by omega, g5, g2, g3, N', by omega, ?_⟩
  have : ans (stepP (progB usP usU) now (u, s)).2 = ans s ++ [((AOp.load (0 + 1)).eff s.mem).1] := by simp [ans, g4]
  rw [this, feed_snoc _ _ _ hf]
  exact hf'
theorem go_after (hu : u.pos = 0) (hov : s.over = false) (now : Int) {o o' : AOp} {k k' : Int → Prog (Int × Int × Bool)} (h : (userP 0).feed (ans s) = .acc o k) (h' : (k (o.eff s.mem).1).feed [] = .acc o' k') :
    (stepP (progB usP usU) now (u, s)).1.pos = 0 ∧ (stepP (progB usP usU) now (u, s)).2.over = false ∧ (stepP (progB usP usU) now (u, s)).2.log.length ≤ s.log.length + 1 ∧ (stepP (progB usP usU) now (u, s)).2.mem = (o.eff s.mem).2 ∧ (userP 0).feed (ans (stepP (progB usP usU) now (u, s)).2) = .acc o' k' := by
  obtain ⟨u', s', e, a, b, c, d, f⟩ := go_step u hu s hov now h h'
  rw [e]
  exact ⟨a, b, Nat.le_of_eq c, d, f⟩
theorem at_1s (hu : u.pos = 0) (h : At t n u s 1) (hv : wordGet s.mem 1 = t) (now : Int) : After t n s (stepP (progB usP usU) now (u, s)) 2 s.mem := by
  obtain ⟨h1, h2, N, h3, hf⟩ := h
  have hf0 : (userP 0).feed (ans s) = .acc (.load (0 + 1)) (fun v => kV t N v >>= restP) := by rw [user_split]; exact feed_bind_acc _ _ _ hf
  have e0 : ((AOp.load (0 + 1)).eff s.mem).1 = t := hv
  have hn : ((fun v => kV t N v >>= restP) ((AOp.load (0 + 1)).eff s.mem).1).feed [] = .acc (.load 5) (k2 t) := by
    rw [e0]
    dsimp only
    unfold kV wk
    simp only [bind_assoc', feed_isOff, Bool.false_eq_true, if_false, if_true, pure_bind']
    rfl
  obtain ⟨g1, g2, g3, g4, g5⟩ := go_after hu h2 now hf0 hn
  exact ⟨g1, g3, g4, g2, g5⟩
theorem at_2 (hu : u.pos = 0) (h : At t n u s 2) (hv : wordGet s.mem 5 = n) (now : Int) : After t n s (stepP (progB usP usU) now (u, s)) 3 s.mem := by
  obtain ⟨h1, hf⟩ := h
  have e0 : ((AOp.load 5).eff s.mem).1 = n := hv
  obtain ⟨g1, g2, g3, g4, g5⟩ := go_after hu h1 now hf (o' := .store 5 (wrap64 ((n : Int) + 1))) (k' := k3 t n) (by rw [e0]; rfl)
  exact ⟨g1, g3, g4, g2, g5⟩
theorem at_3 (hu : u.pos = 0) (h : At t n u s 3) (now : Int) : After t n s (stepP (progB usP usU) now (u, s)) 4 (wordPut s.mem 5 (wrap64 ((n : Int) + 1))) := by
  obtain ⟨h1, hf⟩ := h
  obtain ⟨g1, g2, g3, g4, g5⟩ := go_after hu h1 now hf (o' := .store (0 + 1) (wrap64 (t + 1))) (k' := k4 t n) rfl
  exact ⟨g1, g3, g4, g2, g5⟩
theorem at_4 (hu : u.pos = 0) (h : At t n u s 4) (now : Int) : After t n s (stepP (progB usP usU) now (u, s)) 5 (wordPut s.mem 1 (wrap64 (t + 1))) := by
  obtain ⟨h1, hf⟩ := h
  obtain ⟨s', e, g2, g3, g4⟩ := end_step u hu s h1 now hf (r := (t, (n : Int), false)) rfl
  rw [e]
  exact ⟨rfl, Nat.le_of_eq g3, g4, g2, rfl, rfl, rfl⟩
theorem at_5 (hu : u.pos = 0) {ph : Nat} (hp : 5 ≤ ph) (h : At t n u s ph) (now : Int) : After t n s (stepP (progB usP usU) now (u, s)) ph s.mem := by
  obtain ⟨r, rfl⟩ : ∃ r, ph = r + 5 := ⟨ph - 5, by omega⟩
  rw [stepP_over (q := (u, s)) h.1]
  exact ⟨hu, Nat.le_succ _, rfl, h⟩
end
end User
end Law03
end Go.Proofs.Ytkmamebaichboaa
