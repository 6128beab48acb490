/- Law 8: RingTwo: the plain law of one that puts and one that gets, access by access. No Go in it. No conditions but those stated. -/
import Derived.Test.YtkmamebaichboaaRingPlays1
namespace Go.Proofs.Ytkmamebaichboaa
open Go.ChangeShapes Go.WideShapes Go.ChangeAt Go.RowKit
set_option linter.unusedVariables false
set_option linter.unusedSimpArgs false
namespace Law08
open Prog
section
variable {α : Type}
/-- One step that does an access. -/
theorem one_step (p : Prog α) (s : St) (now : Int) {o : AOp} {k : Int → Prog α} (h : p.feed (ans s) = .acc o k) :
    ans (p.run (s.start now)).2.stop = ans s ++ [(o.eff s.mem).1] ∧ (p.run (s.start now)).2.stop.mem = (o.eff s.mem).2 ∧ (p.run (s.start now)).2.stop.log.length = s.log.length + 1 ∧
    (∀ a, p.feed (ans s ++ [(o.eff s.mem).1]) = .ret a → (p.run (s.start now)).1 = a ∧ (p.run (s.start now)).2.stop.over = true) ∧
    (∀ o' k', p.feed (ans s ++ [(o.eff s.mem).1]) = .acc o' k' → (p.run (s.start now)).2.stop.over = false) := by
  obtain ⟨g1, g2, g3⟩ := step_acc p s now h
  have hs := feed_snoc p (ans s) (o.eff s.mem).1 h
  refine ⟨by simp [ans, g1], g2, by rw [g1]; simp, fun a ha => ?_, fun o' k' ha => ?_⟩
  · rw [hs] at ha
    rw [ha] at g3
    exact g3
  · rw [hs] at ha
    rw [ha] at g3
    exact g3
end
def putX (c v : Int) : Prog Bool := do
  let t ← ld 3
  let p ← ld (3 + 1)
  let o ← isOff
  if o then pure false else
  if c ≤ wrap64 (p - t) then pure false else do
    st (place 3 c p) v
    st (3 + 1) (wrap64 (p + 1))
    let o ← isOff
    pure (!o)
def getX (c : Int) : Prog (Int × Bool) := do
  let t ← ld 3
  let p ← ld (3 + 1)
  let o ← isOff
  if o then pure (0, false) else
  if p = t then pure (0, false) else do
    let v ← ld (place 3 c t)
    st 3 (wrap64 (t + 1))
    let o ← isOff
    if o then pure (0, false) else pure (v, true)
def putY (p : Int) : Prog Bool := do
  st (3 + 1) (wrap64 (p + 1))
  let o ← isOff
  pure (!o)
def putZ : Prog Bool := do
  let o ← isOff
  pure (!o)
def getY (t v : Int) : Prog (Int × Bool) := do
  st 3 (wrap64 (t + 1))
  let o ← isOff
  if o then pure (0, false) else pure (v, true)
def getZ (v : Int) : Prog (Int × Bool) := do
  let o ← isOff
  if o then pure (0, false) else pure (v, true)
section
variable {a : Act} {c : Int}
theorem put_form (hk : a.kind = 0) (hc : a.c = c) (h1 : 1 ≤ c ∧ c ≤ 16) : actP a = (putX c a.v).bind (fun ok => pure (0, ok)) := by
  unfold actP ringPutP
  rw [if_pos hk, hc, if_neg (by rw [ringW_in h1]; omega)]
  rfl
theorem put_0 (hk : a.kind = 0) (hc : a.c = c) (h1 : 1 ≤ c ∧ c ≤ 16) : ∃ k, (actP a).feed [] = .acc (.load 3) k := by rw [put_form hk hc h1]; exact ⟨_, rfl⟩
theorem put_1 (hk : a.kind = 0) (hc : a.c = c) (h1 : 1 ≤ c ∧ c ≤ 16) (t : Int) : ∃ k, (actP a).feed [t] = .acc (.load 4) k := by rw [put_form hk hc h1]; exact ⟨_, rfl⟩
theorem put_full (hk : a.kind = 0) (hc : a.c = c) (h1 : 1 ≤ c ∧ c ≤ 16) (t p : Int) (hf : c ≤ wrap64 (p - t)) : (actP a).feed [t, p] = .ret (0, false) := by
  rw [put_form hk hc h1]
  show (Prog.bind (if c ≤ wrap64 (p - t) then pure false else _) _).feed [] = _
  rw [if_pos hf]
  rfl
theorem put_2 (hk : a.kind = 0) (hc : a.c = c) (h1 : 1 ≤ c ∧ c ≤ 16) (t p : Int) (hf : ¬ c ≤ wrap64 (p - t)) : ∃ k, (actP a).feed [t, p] = .acc (.store (place 3 c p) a.v) k := by
  rw [put_form hk hc h1]
  refine ⟨fun _ => (putY p).bind (fun ok => pure (0, ok)), ?_⟩
  show (Prog.bind (if c ≤ wrap64 (p - t) then pure false else _) _).feed [] = _
  rw [if_neg hf]
  rfl
theorem put_3 (hk : a.kind = 0) (hc : a.c = c) (h1 : 1 ≤ c ∧ c ≤ 16) (t p u : Int) (hf : ¬ c ≤ wrap64 (p - t)) : ∃ k, (actP a).feed [t, p, u] = .acc (.store 4 (wrap64 (p + 1))) k := by
  rw [put_form hk hc h1]
  refine ⟨fun _ => putZ.bind (fun ok => pure (0, ok)), ?_⟩
  show (Prog.bind (if c ≤ wrap64 (p - t) then pure false else _) _).feed [u] = _
  rw [if_neg hf]
  rfl
theorem put_4 (hk : a.kind = 0) (hc : a.c = c) (h1 : 1 ≤ c ∧ c ≤ 16) (t p u u' : Int) (hf : ¬ c ≤ wrap64 (p - t)) : (actP a).feed [t, p, u, u'] = .ret (0, true) := by
  rw [put_form hk hc h1]
  show (Prog.bind (if c ≤ wrap64 (p - t) then pure false else _) _).feed [u, u'] = _
  rw [if_neg hf]
  rfl
theorem get_form (hk : a.kind = 1) (hc : a.c = c) (h1 : 1 ≤ c ∧ c ≤ 16) : actP a = getX c := by
  unfold actP ringGetP
  rw [if_neg (by rw [hk]; decide), if_pos hk, hc, if_neg (by rw [ringW_in h1]; omega)]
  rfl
theorem get_0 (hk : a.kind = 1) (hc : a.c = c) (h1 : 1 ≤ c ∧ c ≤ 16) : ∃ k, (actP a).feed [] = .acc (.load 3) k := by rw [get_form hk hc h1]; exact ⟨_, rfl⟩
theorem get_1 (hk : a.kind = 1) (hc : a.c = c) (h1 : 1 ≤ c ∧ c ≤ 16) (t : Int) : ∃ k, (actP a).feed [t] = .acc (.load 4) k := by rw [get_form hk hc h1]; exact ⟨_, rfl⟩
theorem get_no (hk : a.kind = 1) (hc : a.c = c) (h1 : 1 ≤ c ∧ c ≤ 16) (t : Int) : (actP a).feed [t, t] = .ret (0, false) := by
  rw [get_form hk hc h1]
  show (if t = t then pure (0, false) else _ : Prog (Int × Bool)).feed [] = _
  rw [if_pos rfl]
  rfl
theorem get_2 (hk : a.kind = 1) (hc : a.c = c) (h1 : 1 ≤ c ∧ c ≤ 16) (t p : Int) (hf : ¬ p = t) : ∃ k, (actP a).feed [t, p] = .acc (.load (place 3 c t)) k := by
  rw [get_form hk hc h1]
  refine ⟨fun v => getY t v, ?_⟩
  show (if p = t then pure (0, false) else _ : Prog (Int × Bool)).feed [] = _
  rw [if_neg hf]
  rfl
theorem get_3 (hk : a.kind = 1) (hc : a.c = c) (h1 : 1 ≤ c ∧ c ≤ 16) (t p v : Int) (hf : ¬ p = t) : ∃ k, (actP a).feed [t, p, v] = .acc (.store 3 (wrap64 (t + 1))) k := by
  rw [get_form hk hc h1]
  refine ⟨fun _ => getZ v, ?_⟩
  show (if p = t then pure (0, false) else _ : Prog (Int × Bool)).feed [v] = _
  rw [if_neg hf]
  rfl
theorem get_4 (hk : a.kind = 1) (hc : a.c = c) (h1 : 1 ≤ c ∧ c ≤ 16) (t p v u : Int) (hf : ¬ p = t) : (actP a).feed [t, p, v, u] = .ret (v, true) := by
  rw [get_form hk hc h1]
  show (if p = t then pure (0, false) else _ : Prog (Int × Bool)).feed [v, u] = _
  rw [if_neg hf]
  rfl
end
end Law08
end Go.Proofs.Ytkmamebaichboaa
