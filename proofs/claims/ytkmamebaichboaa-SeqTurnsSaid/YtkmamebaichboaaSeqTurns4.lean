/- Law 4: SeqTurns: a step of the writer. No Go in it. No conditions but those stated. -/
import Derived.Test.YtkmamebaichboaaSeqTurns3
namespace Go.Proofs.Ytkmamebaichboaa
open Go.ChangeShapes Go.WideShapes Go.ChangeAt Go.RowKit
set_option linter.unusedVariables false
set_option linter.unusedSimpArgs false
namespace SeqL
open Prog
/-- What the writer's accesses have answered, behind j of them. -/
def wlog (V : Nat) : Nat → List Int
  | 0 => []
  | 1 => [2 * (V : Int)]
  | j + 2 => 2 * (V : Int) :: 0 :: List.replicate j 0
theorem wlog_len (V j : Nat) : (wlog V j).length = j := by
  match j with
  | 0 => rfl
  | 1 => rfl
  | j + 2 => simp [wlog]
theorem wlog_zero (V j : Nat) : wlog V (j + 2) ++ [0] = wlog V (j + 3) := by
  show 2 * (V : Int) :: 0 :: (List.replicate j 0 ++ [0]) = 2 * (V : Int) :: 0 :: List.replicate (j + 1) 0
  rw [List.replicate_succ']
theorem nth_vers {V n i : Nat} (h : i < n) : nth (vers V n) i = ver V i := by simp [nth, vers, h]
theorem Wr.step {n V j : Nat} {m : List Int} (h : Wr n V j m) (hn : 1 ≤ n ∧ n ≤ 6) (hV : V ≤ 500) (hj : j ≤ n + 2) :
    ∃ (o : AOp) (κ : Int → Prog Unit), (writeP 0 (vers (V + 1) n)).feed (wlog V j) = .acc o κ ∧
      ((j < n + 2 ∧ wlog V j ++ [(o.eff m).1] = wlog V (j + 1) ∧ Wr n V (j + 1) (o.eff m).2 ∧ ∃ o' κ', (writeP 0 (vers (V + 1) n)).feed (wlog V j ++ [(o.eff m).1]) = .acc o' κ') ∨
       (j = n + 2 ∧ Wr n (V + 1) 0 (o.eff m).2 ∧ (writeP 0 (vers (V + 1) n)).feed (wlog V j ++ [(o.eff m).1]) = .ret ())) := by
  have hl : 1 ≤ (vers (V + 1) n).length ∧ (vers (V + 1) n).length ≤ 16 := by rw [vers_len]; omega
  have hlen := h.len
  have hcount := h.count
  have w1 : wrap64 (2 * (V : Int) + 1) = 2 * (V : Int) + 1 := IntWalk.wrap64_in _ (by omega)
  have w2 : wrap64 (2 * (V : Int) + 2) = 2 * (V : Int) + 2 := IntWalk.wrap64_in _ (by omega)
  match j, hj, h, hcount with
  | 0, hj, h, hcount =>
    obtain ⟨κ, e⟩ := write_0 hl
    obtain ⟨κ', e'⟩ := write_1 hl (2 * (V : Int))
    have ec : ((AOp.load 0).eff m) = (2 * (V : Int), m) := by show (wordGet m 0, m) = _; rw [hcount]; simp
    clear w1 w2
    refine ⟨_, κ, e, .inl ⟨by omega, by rw [ec]; rfl, by rw [ec]; exact ⟨hlen, by rw [hcount]; simp, fun i hi => by rw [h.words i hi, if_neg (by omega), if_neg (by omega)]⟩, ?_⟩⟩
    rw [ec]
    exact ⟨_, κ', e'⟩
  | 1, hj, h, hcount =>
    obtain ⟨κ, e⟩ := write_1 hl (2 * (V : Int))
    obtain ⟨κ', e'⟩ := write_2 hl (2 * (V : Int)) 0 (by rw [vers_len]; omega)
    have ec : (AOp.store 0 (wrap64 (2 * (V : Int) + 1))).eff m = (0, wordPut m 0 (2 * (V : Int) + 1)) := by rw [w1]; rfl
    clear w1 w2
    refine ⟨_, κ, e, .inl ⟨by omega, by rw [ec]; rfl, ?_, ?_⟩⟩
    · rw [ec]
      dsimp only
      refine ⟨by rw [wordPut_length]; exact hlen, by rw [get_put (by omega), if_neg (by omega)], fun i hi => ?_⟩
      rw [get_put_ne (by omega), h.words i hi, if_neg (by omega), if_neg (by omega)]
    · rw [ec]
      exact ⟨_, κ', e'⟩
  | i + 2, hj, h, hcount =>
    by_cases hin : i < n
    · obtain ⟨κ, e⟩ := write_2 hl (2 * (V : Int)) i (by rw [vers_len]; omega)
      have ec : (AOp.store (0 + 1 + ((0 + i : Nat) : Int)) (nth (vers (V + 1) n) i)).eff m = (0, wordPut m (0 + 1 + (i : Int)) (ver (V + 1) i)) := by rw [nth_vers hin, Nat.zero_add]; rfl
      clear w1 w2
      refine ⟨_, κ, e, .inl ⟨by omega, by rw [ec]; exact wlog_zero V i, ?_, ?_⟩⟩
      · rw [ec]
        dsimp only
        rw [if_neg (by omega)] at hcount
        refine ⟨by rw [wordPut_length]; exact hlen, by rw [get_put_ne (by omega), hcount, if_neg (by omega)], fun i' hi' => ?_⟩
        by_cases he : i' = i
        · subst he
          rw [get_put (by omega), if_pos (by omega)]
        · rw [get_put_ne (by omega), h.words i' hi']
          by_cases hlt : i' < i
          · rw [if_pos (by omega), if_pos (by omega)]
          · rw [if_neg (by omega), if_neg (by omega)]
      · rw [ec]
        dsimp only
        rw [wlog_zero]
        by_cases hin2 : i + 1 < n
        · obtain ⟨κ', e'⟩ := write_2 hl (2 * (V : Int)) (i + 1) (by rw [vers_len]; omega)
          exact ⟨_, κ', e'⟩
        · obtain ⟨κ', e'⟩ := write_3 hl (2 * (V : Int))
          rw [vers_len, show n = i + 1 by omega] at e'
          rw [show n = i + 1 by omega]
          exact ⟨_, κ', e'⟩
    · have hie : i = n := by omega
      subst hie
      obtain ⟨κ, e⟩ := write_3 hl (2 * (V : Int))
      have e4 := write_4 hl (2 * (V : Int)) 0
      rw [vers_len] at e e4
      have ec : (AOp.store 0 (wrap64 (2 * (V : Int) + 2))).eff m = (0, wordPut m 0 (2 * (V : Int) + 2)) := by rw [w2]; rfl
      clear w1 w2
      refine ⟨_, κ, e, .inr ⟨rfl, ?_, ?_⟩⟩
      · rw [ec]
        dsimp only
        refine ⟨by rw [wordPut_length]; exact hlen, by rw [get_put (by omega), if_pos (by omega)]; omega, fun i' hi' => ?_⟩
        rw [get_put_ne (by omega), h.words i' hi', if_pos (by omega), if_neg (by omega)]
      · rw [ec]
        exact e4
end SeqL
end Go.Proofs.Ytkmamebaichboaa
