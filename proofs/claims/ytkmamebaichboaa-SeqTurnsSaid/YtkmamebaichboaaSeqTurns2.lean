/- Law 4: SeqTurns: what is so of a reader at each of its accesses. No Go in it. No conditions but those stated. -/
import Derived.Test.YtkmamebaichboaaSeqTurns1
namespace Go.Proofs.Ytkmamebaichboaa
open Go.ChangeShapes Go.WideShapes Go.ChangeAt Go.RowKit
set_option linter.unusedVariables false
set_option linter.unusedSimpArgs false
namespace SeqL
open Prog
/-- The i-th word of a version. -/
def ver (v i : Nat) : Int := if v = 0 then 0 else (v : Int) + (i : Int) * 1000
def vers (v n : Nat) : List Int := (List.range n).map (ver v)
theorem vers_succ (v n : Nat) : vers v (n + 1) = vers v n ++ [ver v n] := by simp [vers, List.range_succ]
theorem vers_len (v n : Nat) : (vers v n).length = n := by simp [vers]
/-- The words when the count is cnt: whole, if it is even. -/
structure Whole (n cnt : Nat) (m : List Int) : Prop where
  count : wordGet m 0 = cnt
  words : ∀ a, cnt = 2 * a → ∀ i, i < n → wordGet m (0 + 1 + (i : Int)) = ver a i
/-- Where a reader is, behind len accesses; least: what was there when it began. -/
def RPh (n least cnt len : Nat) (p : Prog (List Int)) : Prop :=
  (∃ k, 1000000 ≤ k + len ∧ p = (takeP 0 n WN k).feed []) ∨
  (∃ k M c0 : Nat, 1000000 ≤ k + len ∧ 1000000 ≤ M + len ∧ c0 % 2 = 1 ∧ p = (countR 0 n WN k M (c0 : Int)).feed []) ∨
  (∃ (k a i : Nat) (vs : List Int), 1000000 ≤ k + len ∧ least ≤ a ∧ 2 * a ≤ cnt ∧ i ≤ n ∧ (cnt = 2 * a → vs = vers a i) ∧ p = (wordsR 0 n WN k ((2 * a : Nat) : Int) i vs (n - i)).feed [])
theorem RPh.later {n least cnt cnt' len : Nat} {p : Prog (List Int)} (h : RPh n least cnt len p) (hc : cnt ≤ cnt') : RPh n least cnt' len p := by
  rcases h with h | h | ⟨k, a, i, vs, h1, h2, h3, h4, h5, h6⟩
  · exact .inl h
  · exact .inr (.inl h)
  · exact .inr (.inr ⟨k, a, i, vs, h1, h2, by omega, h4, fun e => h5 (by omega), h6⟩)
theorem tmod_even {a : Nat} : (((2 * a : Nat) : Int)).tmod 2 = 0 := by
  rw [Int.tmod_eq_emod_of_nonneg (by omega)]
  omega
theorem tmod_odd {c : Nat} (h : c % 2 = 1) : ¬ ((c : Int)).tmod 2 = 0 := by
  rw [Int.tmod_eq_emod_of_nonneg (by omega)]
  omega
theorem counted {n least cnt len : Nat} (hl : 2 * least ≤ cnt + 1) (hlen : len ≤ 500) {k M : Nat} (h1 : 1000000 ≤ k + len) (h2 : 1000000 ≤ M + len) : RPh n least cnt len ((countR 0 n WN k M (cnt : Int)).feed []) := by
  by_cases he : cnt % 2 = 0
  · obtain ⟨a, rfl⟩ : ∃ a, cnt = 2 * a := ⟨cnt / 2, by omega⟩
    refine .inr (.inr ⟨k, a, 0, [], h1, by omega, Nat.le_refl _, Nat.zero_le _, fun _ => rfl, ?_⟩)
    exact count_even 0 n WN k M _ tmod_even []
  · exact .inr (.inl ⟨k, M, cnt, h1, h2, by omega, rfl⟩)
theorem RPh.step {n least cnt len : Nat} {p : Prog (List Int)} {m : List Int} (h : RPh n least cnt len p) (hm : Whole n cnt m) (hl : 2 * least ≤ cnt + 1) (hlen : len ≤ 400) :
    ∃ (o : AOp) (κ : Int → Prog (List Int)), p = .acc o κ ∧ (o.eff m).2 = m ∧ ((∃ a, least ≤ a ∧ 2 * a ≤ cnt ∧ (κ (o.eff m).1).feed [] = .ret (vers a n)) ∨ RPh n least cnt (len + 1) ((κ (o.eff m).1).feed [])) := by
  rcases h with ⟨k, h1, rfl⟩ | ⟨k, M, c0, h1, h2, hodd, rfl⟩ | ⟨k, a, i, vs, h1, h2, h3, h4, h5, rfl⟩
  · obtain ⟨k', rfl⟩ : ∃ k', k = k' + 1 := ⟨k - 1, by omega⟩
    refine ⟨_, _, take_feed 0 n WN k', rfl, .inr ?_⟩
    have e : ((AOp.load 0).eff m).1 = (cnt : Int) := hm.count
    rw [e]
    exact counted hl (by omega) (by omega) (by unfold WN; omega)
  · obtain ⟨M', rfl⟩ : ∃ M', M = M' + 1 := ⟨M - 1, by omega⟩
    refine ⟨_, _, count_odd 0 n WN k M' _ (tmod_odd hodd), rfl, .inr ?_⟩
    have e : ((AOp.load 0).eff m).1 = (cnt : Int) := hm.count
    rw [e]
    exact counted hl (by omega) (by omega) (by omega)
  · by_cases hi : i < n
    · obtain ⟨r, hr⟩ : ∃ r, n - i = r + 1 := ⟨n - i - 1, by omega⟩
      rw [hr]
      obtain ⟨κ, e1, e2⟩ := words_more 0 n WN k ((2 * a : Nat) : Int) i vs r
      refine ⟨_, κ, e1, rfl, .inr ?_⟩
      rw [e2]
      refine .inr (.inr ⟨k, a, i + 1, _, by omega, h2, h3, by omega, fun ec => ?_, by rw [show n - (i + 1) = r by omega]⟩)
      have e3 : ((AOp.load (0 + 1 + (i : Int))).eff m).1 = ver a i := hm.words a ec i hi
      rw [e3, h5 ec, vers_succ]
    · have hin : i = n := by omega
      subst hin
      rw [Nat.sub_self]
      obtain ⟨κ, e1, e2, e3⟩ := words_end 0 i WN k ((2 * a : Nat) : Int) i vs
      refine ⟨_, κ, e1, rfl, ?_⟩
      have e : ((AOp.load 0).eff m).1 = (cnt : Int) := hm.count
      rw [e]
      by_cases hc : cnt = 2 * a
      · refine .inl ⟨a, h2, h3, ?_⟩
        rw [e2 _ (by rw [hc]), h5 hc]
      · refine .inr (.inl ⟨k, by omega, ?_⟩)
        exact e3 _ (by omega)
end SeqL
end Go.Proofs.Ytkmamebaichboaa
