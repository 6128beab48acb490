/- Law 4: SeqTurns: a step of a reader, of the writer, on a frame's state. No Go in it. No conditions but those stated. -/
import Derived.Test.YtkmamebaichboaaSeqTurns4
import Derived.Test.YtkmamebaichboaaRingTwo1
namespace Go.Proofs.Ytkmamebaichboaa
open Go.ChangeShapes Go.WideShapes Go.ChangeAt Go.RowKit
set_option linter.unusedVariables false
set_option linter.unusedSimpArgs false
namespace SeqL
open Prog
theorem read_step {n least cnt : Nat} {s : St} (h : RPh n least cnt s.log.length ((readP 0 n).feed (ans s))) (hm : Whole n cnt s.mem) (hl : 2 * least ≤ cnt + 1) (hlen : s.log.length + 1 ≤ 400) (now : Int) :
    ((readP 0 n).run (s.start now)).2.stop.mem = s.mem ∧ ((readP 0 n).run (s.start now)).2.stop.log.length = s.log.length + 1 ∧
    ((((readP 0 n).run (s.start now)).2.stop.over = true ∧ ∃ a, least ≤ a ∧ 2 * a ≤ cnt ∧ ((readP 0 n).run (s.start now)).1 = vers a n) ∨
     (((readP 0 n).run (s.start now)).2.stop.over = false ∧ RPh n least cnt (s.log.length + 1) ((readP 0 n).feed (ans ((readP 0 n).run (s.start now)).2.stop)))) := by
  obtain ⟨o, κ, e1, e2, e3⟩ := h.step hm hl (by omega)
  obtain ⟨g1, g2, g3, g4, g5⟩ := Law08.one_step (readP 0 n) s now e1
  have hs := feed_snoc (readP 0 n) (ans s) (o.eff s.mem).1 e1
  refine ⟨by rw [g2, e2], g3, ?_⟩
  rcases e3 with ⟨a, h1, h2, h3⟩ | h3
  · obtain ⟨k1, k2⟩ := g4 _ (hs.trans h3)
    exact .inl ⟨k2, a, h1, h2, k1⟩
  · obtain ⟨o', κ', e4, _⟩ := h3.step hm hl hlen
    exact .inr ⟨g5 o' κ' (hs.trans e4), by rw [g1, hs]; exact h3⟩
theorem read_start {n V cnt : Nat} (hn : 1 ≤ n ∧ n ≤ 16) {m : List Int} : RPh n V cnt (St.new m).log.length ((readP 0 n).feed (ans (St.new m))) := by
  have h0 : ¬ seqW (n : Int) = 0 := by unfold seqW; rw [if_neg (by omega)]; omega
  refine .inl ⟨WN, by unfold WN; omega, ?_⟩
  unfold readP
  rw [if_neg h0]
  rfl
theorem write_step {n V j : Nat} {s : St} (ha : ans s = wlog V j) (h : Wr n V j s.mem) (hn : 1 ≤ n ∧ n ≤ 6) (hV : V ≤ 500) (hj : j ≤ n + 2) (now : Int) :
    (j < n + 2 ∧ ((writeP 0 (vers (V + 1) n)).run (s.start now)).2.stop.over = false ∧ ans ((writeP 0 (vers (V + 1) n)).run (s.start now)).2.stop = wlog V (j + 1) ∧ Wr n V (j + 1) ((writeP 0 (vers (V + 1) n)).run (s.start now)).2.stop.mem) ∨
    (j = n + 2 ∧ ((writeP 0 (vers (V + 1) n)).run (s.start now)).2.stop.over = true ∧ Wr n (V + 1) 0 ((writeP 0 (vers (V + 1) n)).run (s.start now)).2.stop.mem) := by
  obtain ⟨o, κ, e1, e3⟩ := h.step hn hV hj
  rw [← ha] at e1
  obtain ⟨g1, g2, g3, g4, g5⟩ := Law08.one_step (writeP 0 (vers (V + 1) n)) s now e1
  rw [ha] at g1 g4 g5
  rcases e3 with ⟨h1, h2, h3, o', κ', e4⟩ | ⟨h1, h2, h3⟩
  · exact .inl ⟨h1, g5 o' κ' e4, by rw [g1, h2], by rw [g2]; exact h3⟩
  · obtain ⟨k1, k2⟩ := g4 _ h3
    exact .inr ⟨h1, k2, by rw [g2]; exact h2⟩
end SeqL
end Go.Proofs.Ytkmamebaichboaa
