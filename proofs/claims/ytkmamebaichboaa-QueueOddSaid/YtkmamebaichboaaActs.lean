/- One act run alone, for any body that is a program of accesses; the words' plain laws. No conditions but those stated. -/
import Derived.Test.YtkmamebaichboaaRingLaw
import Derived.Test.YtkmamebaichboaaAcc
import Derived.Test.YtkmamebaichboaaWords
import Derived.Test.YtkmamebaichboaaArgs
namespace Go.Proofs.Ytkmamebaichboaa
open Go.ChangeShapes Go.WideShapes Go.ChangeAt Go.RowKit
set_option linter.unusedVariables false
set_option linter.unusedSimpArgs false

theorem acts_run {ρ α : Type} {K x : Nat} (hK : ∀ (y z : Addr) (wx : World), (callFunc K #[.pointer (some y), .pointer (some z)]).run Try.prog wx = .ok (.enter K #[.pointer (some y), .pointer (some z)]) wx)
    {RR : ρ → List Nat → World → Prop} {P : ρ → Prog α} {U : ρ → α → ρ} (hB : BodyOK K x RR (progB P U)) (hR : RStays x RR) (hP : ∀ r a, P (U r a) = P r) (hU : ∀ r a b, U (U r a) b = U r b)
    {w : World} {m b : Nat} {l : List Int} {r : ρ} (hm : MemRep 134 w m b l) (hr : RR r [] w) (hxm : x ≠ m) (hxb : x ≠ b) (hxl : x < w.heap.size) (most : Int) (hmost : 1 ≤ most ∧ most ≤ 900000) (hc : (P r).cost l ≤ most.toNat) :
    Calls Try.prog 24 #[.pointer (some ⟨m, 0, none⟩), .func (.func K) #[.pointer (some ⟨x, 0, none⟩)] #[], .int .i64 most] w fun e w' =>
      ∃ o', e = .returned (.bool true) ∧ MemRep 134 w' m b ((P r).solo l).2 ∧ RR (U r ((P r).solo l).1) o' w' ∧ EvO [x, b] [] w o' w' ∧ x ∉ o' := by
  obtain ⟨g1, g2, g3, g4⟩ := run_solo P U hP hU r l most.toNat (by omega) hc
  refine (frame_run hK hB hR hm (r := r) (o := []) hr hxm hxb (by simp) (by simp) (by simp) (by simp) hxl most (by omega) (fun n hn => ?_)).mono ?_
  · have := runP_log (progB_mu P U) (r, St.new l) n
    have e : (r, St.new l).2.log.length = 0 := rfl
    omega
  · rintro e w' ⟨o', he, h1, h2, h3, h4, h5, h6, h7⟩
    rw [g1] at he
    rw [g3] at h1
    rw [g2] at h2
    exact ⟨o', he, h1, h2, h3, h4⟩

theorem nth_eq (l : List Int) (i : Nat) (h : i < l.length) : nth l i = l[i] := by simp [nth, h]
theorem get_put {l : List Int} {a v : Int} (h : 0 ≤ a ∧ a < l.length) : wordGet (wordPut l a v) a = v := by
  have h2 : 0 ≤ a ∧ a < (wordPut l a v).length := by rw [wordPut_length]; exact h
  rw [wordGet_in h2, wordPut_in h]
  simp [nth, show a.toNat < l.length by omega]
theorem get_put_ne {l : List Int} {a a' v : Int} (h : a ≠ a') : wordGet (wordPut l a v) a' = wordGet l a' := by
  by_cases h1 : 0 ≤ a ∧ a < l.length
  · by_cases h2 : 0 ≤ a' ∧ a' < l.length
    · have h3 : 0 ≤ a' ∧ a' < (wordPut l a v).length := by rw [wordPut_length]; exact h2
      rw [wordGet_in h3, wordGet_in h2, wordPut_in h1]
      have : a.toNat ≠ a'.toNat := by omega
      simp [nth, List.getElem?_set, this]
    · rw [wordGet_out h2, wordGet_out (by rw [wordPut_length]; exact h2)]
  · rw [wordPut_out h1]
theorem put_put {l : List Int} {a u v : Int} : wordPut (wordPut l a u) a v = wordPut l a v := by
  by_cases h1 : 0 ≤ a ∧ a < l.length
  · rw [wordPut_in (l := wordPut l a u) (by rw [wordPut_length]; exact h1), wordPut_in h1, wordPut_in h1]
    simp
  · rw [wordPut_out h1, wordPut_out (by exact h1)]
theorem sum_eq {l : List Int} {a d : Int} (h : 0 ≤ a ∧ a < l.length) : wordSum l a d = wrap64 (wordGet l a + d) := by
  rw [wordGet_in h]; rfl
theorem get_zeros (n : Nat) (a : Int) : wordGet (List.replicate n 0) a = 0 := by
  unfold wordGet nth
  split
  · simp [List.getElem?_replicate]
    split <;> rfl
  · rfl
end Go.Proofs.Ytkmamebaichboaa
