/- Law 2: FrameAgain: the plain law. No Go in it. No conditions but those stated. -/
import Derived.Test.YtkmamebaichboaaBodyLaw
namespace Go.Proofs.Ytkmamebaichboaa
open Go.ChangeShapes Go.WideShapes Go.ChangeAt Go.RowKit
set_option linter.unusedVariables false
set_option linter.unusedSimpArgs false
namespace Law02
open Prog
def A2 : Ins := ⟨2, 2, 1, 0, false, false, false⟩
def LG (n : Nat) : List Ins := ⟨0, 0, 0, 0, false, false, false⟩ :: List.replicate n A2
theorem adds_feed (n : Nat) (last : Int) (got : List Int) : (bodyP (List.replicate (n + 1) A2) false last got).feed [] = .acc (.add 2 1) (fun r => bodyP (List.replicate n A2) false r (got ++ [r])) := rfl
theorem adds_cons (n : Nat) (last : Int) (got : List Int) (v : Int) (l : List Int) : (bodyP (List.replicate (n + 1) A2) false last got).feed (v :: l) = (bodyP (List.replicate n A2) false v (got ++ [v])).feed l := rfl
theorem adds_feeds (l : List Int) (n : Nat) (last : Int) (got : List Int) : ∃ last', (bodyP (List.replicate (n + l.length) A2) false last got).feed l = (bodyP (List.replicate n A2) false last' (got ++ l)).feed [] := by
  induction l generalizing last got with
  | nil => exact ⟨last, by simp⟩
  | cons v l ih =>
    obtain ⟨last', h⟩ := ih v (got ++ [v])
    refine ⟨last', ?_⟩
    have e : n + (v :: l).length = (n + l.length) + 1 := by simp; omega
    rw [e, adds_cons, h]
    simp
theorem again_feed (n : Nat) (v : Int) (l : List Int) : ∃ last', (bodyP (LG (n + l.length)) false 0 []).feed (v :: l) = (bodyP (List.replicate n A2) false last' (v :: l)).feed [] := by
  obtain ⟨last', h⟩ := adds_feeds l n v [v]
  exact ⟨last', h⟩
def up (k : Nat) : List Int := (List.range k).map (fun (i : Nat) => (i : Int))
theorem up_succ (k : Nat) : up (k + 1) = up k ++ [(k : Int)] := by simp [up, List.range_succ]
theorem up_len (k : Nat) : (up k).length = k := by simp [up]
theorem adds_next (n : Nat) (last : Int) (got : List Int) : (∃ k, (bodyP (List.replicate n A2) false last got).feed [] = .acc (.add 2 1) k ∧ 0 < n) ∨ ((bodyP (List.replicate n A2) false last got).feed [] = .ret (got, last) ∧ n = 0) := by
  cases n with
  | zero => exact .inr ⟨rfl, rfl⟩
  | succ n => exact .inl ⟨_, rfl, by omega⟩
/-- What stands after the first step and k more. -/
structure Now (n : Nat) (v m0 : Int) (k : Nat) (q : Pr × St) : Prop where
  an : ans q.2 = v :: up k
  len : q.2.log.length = k + 1
  mem : q.2.mem = [m0, 0, (k : Int)]
  go : k < n → q.2.over = false
  fin : k = n → q.2.over = true ∧ q.1.got = v :: up n
theorem again_first (n : Nat) (v : Int) : Now n v v 0 (stepP (pB (LG n)) 0 (⟨[], 0⟩, St.new [v, 0, 0])) := by
  rw [stepP_go (B := pB (LG n)) (now := 0) (q := ((⟨[], 0⟩ : Pr), St.new [v, 0, 0])) rfl]
  have h : (bodyP (LG n) false 0 []).feed (ans (St.new [v, 0, 0])) = .acc (.load 0) (fun r => bodyP (List.replicate n A2) false r [r]) := rfl
  obtain ⟨g1, g2, g3⟩ := step_acc (bodyP (LG n) false 0 []) (St.new [v, 0, 0]) 0 h
  have e : (AOp.load 0).eff (St.new [v, 0, 0]).mem = (v, [v, 0, 0]) := rfl
  rw [e] at g1 g2 g3
  refine ⟨?_, ?_, g2, fun hk => ?_, fun hk => ?_⟩
  · show ans ((bodyP (LG n) false 0 []).run ((St.new [v, 0, 0]).start 0)).2.stop = _
    simp only [ans, g1]; rfl
  · show ((bodyP (LG n) false 0 []).run ((St.new [v, 0, 0]).start 0)).2.stop.log.length = _
    rw [g1]; rfl
  · rcases adds_next n v [v] with ⟨k, hk', _⟩ | ⟨_, h0⟩
    · simp only [hk'] at g3; exact g3
    · omega
  · subst hk
    simp only [List.replicate] at g3
    have h0 : (bodyP [] false v [v]).feed [] = .ret ([v], v) := rfl
    simp only [h0] at g3
    refine ⟨g3.2, ?_⟩
    show ((bodyP (LG 0) false 0 []).run ((St.new [v, 0, 0]).start 0)).1.1 = _
    rw [g3.1]; rfl
theorem again_next (n : Nat) (hn : n ≤ 100) (v m0 w : Int) (k : Nat) (hk : k < n) (q : Pr × St) (h : Now n v m0 k q) (now : Int) : Now n v w (k + 1) (stepP (pB (LG n)) now (q.1, { q.2 with mem := [w, 0, (k : Int)] })) := by
  rw [stepP_go (B := pB (LG n)) (now := now) (q := (q.1, { q.2 with mem := [w, 0, (k : Int)] })) (h.go hk)]
  obtain ⟨last', hf⟩ := again_feed (n - k) v (up k)
  rw [up_len, show n - k + k = n from by omega, ← h.an] at hf
  obtain ⟨m', hm'⟩ : ∃ m', n - k = m' + 1 := ⟨n - k - 1, by omega⟩
  have hf1 : (bodyP (LG n) false 0 []).feed (ans { q.2 with mem := [w, 0, (k : Int)] }) = .acc (.add 2 1) (fun r => bodyP (List.replicate m' A2) false r (v :: up k ++ [r])) := by
    show (bodyP (LG n) false 0 []).feed (ans q.2) = _
    rw [hf, hm', h.an, adds_feed]
  obtain ⟨g1, g2, g3⟩ := step_acc (bodyP (LG n) false 0 []) { q.2 with mem := [w, 0, (k : Int)] } now hf1
  have e : (AOp.add 2 1).eff [w, 0, (k : Int)] = ((k : Int), [w, 0, ((k + 1 : Nat) : Int)]) := by
    have h64 : wrap64 ((k : Int) + 1) = (k : Int) + 1 := IntWalk.wrap64_in _ (by omega)
    simp [AOp.eff, wordGet, wordPut, wordSum, nth, h64]
  simp only [e] at g1 g2 g3
  refine ⟨?_, ?_, g2, fun hk2 => ?_, fun hk2 => ?_⟩
  · show ans ((bodyP (LG n) false 0 []).run (({ q.2 with mem := [w, 0, (k : Int)] } : St).start now)).2.stop = _
    have : ans ((bodyP (LG n) false 0 []).run (({ q.2 with mem := [w, 0, (k : Int)] } : St).start now)).2.stop = ans q.2 ++ [(k : Int)] := by simp only [ans, g1]; simp
    rw [this, h.an, up_succ]; rfl
  · show ((bodyP (LG n) false 0 []).run (({ q.2 with mem := [w, 0, (k : Int)] } : St).start now)).2.stop.log.length = _
    rw [g1]; simp [h.len]
  · rcases adds_next m' k (v :: up k ++ [(k : Int)]) with ⟨k', hk', _⟩ | ⟨_, h0⟩
    · simp only [hk'] at g3; exact g3
    · omega
  · rcases adds_next m' k (v :: up k ++ [(k : Int)]) with ⟨k', hk', h0⟩ | ⟨h0, _⟩
    · omega
    · simp only [h0] at g3
      refine ⟨g3.2, ?_⟩
      show ((bodyP (LG n) false 0 []).run (({ q.2 with mem := [w, 0, (k : Int)] } : St).start now)).1.1 = _
      rw [g3.1, ← hk2, up_succ]; rfl
end Law02
end Go.Proofs.Ytkmamebaichboaa
