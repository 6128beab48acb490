/- Law 4: SeqTurns: what is so of the writer at each of its accesses. No Go in it. No conditions but those stated. -/
import Derived.Test.YtkmamebaichboaaSeqTurns2
namespace Go.Proofs.Ytkmamebaichboaa
open Go.ChangeShapes Go.WideShapes Go.ChangeAt Go.RowKit
set_option linter.unusedVariables false
set_option linter.unusedSimpArgs false
namespace SeqL
open Prog
theorem stores_feed (pos : Int) (f : Unit → Prog Unit) : ∀ (l : List Int) (i j : Nat) (t : List Int), j < l.length → ∃ κ, ((storesP pos i l).bind f).feed (List.replicate j 0) = .acc (.store (pos + 1 + ((i + j : Nat) : Int)) (nth l j)) κ
  | [], i, j, t, h => by simp at h
  | v :: l, i, 0, t, h => ⟨_, rfl⟩
  | v :: l, i, j + 1, t, h => by
    obtain ⟨κ, e⟩ := stores_feed pos f l (i + 1) j t (by simpa using h)
    refine ⟨κ, ?_⟩
    have e2 : nth (v :: l) (j + 1) = nth l j := by simp [nth]
    rw [e2, show i + (j + 1) = i + 1 + j by omega]
    exact e
theorem stores_past (pos : Int) (f : Unit → Prog Unit) : ∀ (l : List Int) (i : Nat) (t : List Int), ((storesP pos i l).bind f).feed (List.replicate l.length 0 ++ t) = (f ()).feed t
  | [], i, t => rfl
  | v :: l, i, t => stores_past pos f l (i + 1) t
def endW (c : Int) : Unit → Prog Unit := fun _ => st 0 (wrap64 (c + 2))
section
variable {l : List Int} (hl : 1 ≤ l.length ∧ l.length ≤ 16)
include hl
theorem write_form : writeP 0 l = (ld 0).bind fun c => (st 0 (wrap64 (c + 1))).bind fun _ => (storesP 0 0 l).bind (endW c) := by
  unfold writeP
  rw [if_neg (by unfold seqW; rw [if_neg (by omega)]; omega)]
  rfl
theorem write_0 : ∃ κ, (writeP 0 l).feed [] = .acc (.load 0) κ := by rw [write_form hl]; exact ⟨_, rfl⟩
theorem write_1 (c : Int) : ∃ κ, (writeP 0 l).feed [c] = .acc (.store 0 (wrap64 (c + 1))) κ := by rw [write_form hl]; exact ⟨_, rfl⟩
theorem write_2 (c : Int) (j : Nat) (hj : j < l.length) : ∃ κ, (writeP 0 l).feed (c :: 0 :: List.replicate j 0) = .acc (.store (0 + 1 + ((0 + j : Nat) : Int)) (nth l j)) κ := by
  rw [write_form hl]
  exact stores_feed 0 (endW c) l 0 j [] hj
theorem write_3 (c : Int) : ∃ κ, (writeP 0 l).feed (c :: 0 :: List.replicate l.length 0) = .acc (.store 0 (wrap64 (c + 2))) κ := by
  rw [write_form hl]
  have := stores_past 0 (endW c) l 0 []
  rw [List.append_nil] at this
  refine ⟨fun _ => .ret (), ?_⟩
  show ((storesP 0 0 l).bind (endW c)).feed (List.replicate l.length 0) = _
  rw [this]
  rfl
theorem write_4 (c u : Int) : (writeP 0 l).feed (c :: 0 :: (List.replicate l.length 0 ++ [u])) = .ret () := by
  rw [write_form hl]
  show ((storesP 0 0 l).bind (endW c)).feed (List.replicate l.length 0 ++ [u]) = _
  rw [stores_past 0 (endW c) l 0 [u]]
  rfl
end
/-- The words in the midst of a Write: j accesses were done, V versions are whole. -/
structure Wr (n V j : Nat) (m : List Int) : Prop where
  len : m.length = 20
  count : wordGet m 0 = if j ≤ 1 then 2 * (V : Int) else 2 * (V : Int) + 1
  words : ∀ i, i < n → wordGet m (0 + 1 + (i : Int)) = if i + 2 < j then ver (V + 1) i else ver V i
def cntOf (V j : Nat) : Nat := if j ≤ 1 then 2 * V else 2 * V + 1
theorem Wr.whole {n V j : Nat} {m : List Int} (h : Wr n V j m) : Whole n (cntOf V j) m := by
  refine ⟨?_, fun a ha i hi => ?_⟩
  · rw [h.count]
    unfold cntOf
    split <;> simp
  · unfold cntOf at ha
    split at ha
    · rename_i hj
      have : a = V := by omega
      subst this
      rw [h.words i hi, if_neg (by omega)]
    · omega
end SeqL
end Go.Proofs.Ytkmamebaichboaa
