/- Law 4: SeqTurns: a Read, access by access. No Go in it. No conditions but those stated. -/
import Derived.Test.YtkmamebaichboaaSeq6
import Derived.Test.YtkmamebaichboaaFeed
namespace Go.Proofs.Ytkmamebaichboaa
open Go.ChangeShapes Go.WideShapes Go.ChangeAt Go.RowKit
set_option linter.unusedVariables false
set_option linter.unusedSimpArgs false
namespace SeqL
open Prog
/-- Behind the words: the count is loaded again. -/
def tailR (pos : Int) (n N k : Nat) (c : Int) (l : List Int) : Prog (List Int) := do
  let d ← ld pos
  let o ← isOff
  if o then pure [] else if d = c then pure l else takeP pos n N k
/-- In the midst of the words: r are left, vs were loaded. -/
def wordsR (pos : Int) (n N k : Nat) (c : Int) (i : Nat) (vs : List Int) (r : Nat) : Prog (List Int) := (loadsP pos i r).bind fun l => tailR pos n N k c (vs ++ l)
/-- The count c0 was loaded. -/
def countR (pos : Int) (n N k M : Nat) (c0 : Int) : Prog (List Int) := (evenP pos M c0).bind fun c => wordsR pos n N k c 0 [] n
theorem take_feed (pos : Int) (n N k : Nat) : (takeP pos n N (k + 1)).feed [] = .acc (.load pos) (fun c0 => countR pos n N k N c0) := rfl
theorem count_even (pos : Int) (n N k M : Nat) (c0 : Int) (h : c0.tmod 2 = 0) (l : List Int) : (countR pos n N k M c0).feed l = (wordsR pos n N k c0 0 [] n).feed l := by
  unfold countR
  cases M with
  | zero => rfl
  | succ M =>
    show (Prog.bind (if c0.tmod 2 = 0 then pure c0 else _) _).feed l = _
    rw [if_pos h]
    rfl
theorem count_odd (pos : Int) (n N k M : Nat) (c0 : Int) (h : ¬ c0.tmod 2 = 0) : (countR pos n N k (M + 1) c0).feed [] = .acc (.load pos) (fun c' => countR pos n N k M c') := by
  unfold countR
  show (Prog.bind (if c0.tmod 2 = 0 then pure c0 else _) _).feed [] = _
  rw [if_neg h]
  rfl
theorem words_more (pos : Int) (n N k : Nat) (c : Int) (i : Nat) (vs : List Int) (r : Nat) : ∃ κ, (wordsR pos n N k c i vs (r + 1)).feed [] = .acc (.load (pos + 1 + i)) κ ∧ ∀ v, (κ v).feed [] = (wordsR pos n N k c (i + 1) (vs ++ [v]) r).feed [] := by
  refine ⟨_, rfl, fun v => ?_⟩
  have hb : ∀ p : Prog (List Int), ((p.bind fun l => pure (v :: l)).bind fun l => tailR pos n N k c (vs ++ l)) = p.bind fun l => tailR pos n N k c (vs ++ [v] ++ l) := by
    intro p
    have := bind_assoc' p (fun l => (pure (v :: l) : Prog (List Int))) (fun l => tailR pos n N k c (vs ++ l))
    refine this.trans ?_
    show p.bind _ = p.bind _
    congr 1
    funext l
    show tailR pos n N k c (vs ++ (v :: l)) = tailR pos n N k c (vs ++ [v] ++ l)
    rw [List.append_assoc]
    rfl
  exact congrArg (fun q => Prog.feed q []) (hb (loadsP pos (i + 1) r))
theorem words_end (pos : Int) (n N k : Nat) (c : Int) (i : Nat) (vs : List Int) : ∃ κ, (wordsR pos n N k c i vs 0).feed [] = .acc (.load pos) κ ∧ (∀ d, d = c → (κ d).feed [] = .ret vs) ∧ ∀ d, ¬ d = c → (κ d).feed [] = (takeP pos n N k).feed [] := by
  refine ⟨_, rfl, fun d hd => ?_, fun d hd => ?_⟩
  · show (if d = c then pure (vs ++ []) else takeP pos n N k : Prog (List Int)).feed [] = _
    rw [if_pos hd, List.append_nil]
    rfl
  · show (if d = c then pure (vs ++ []) else takeP pos n N k : Prog (List Int)).feed [] = _
    rw [if_neg hd]
end SeqL
end Go.Proofs.Ytkmamebaichboaa
