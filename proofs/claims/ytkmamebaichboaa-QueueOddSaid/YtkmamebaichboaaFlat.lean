/- Lists of rows of so many cells each. No conditions. -/
import Derived.Test.YtkmamebaichboaaBase
import Derived.Deep.AppendLies
namespace Go.Proofs.Ytkmamebaichboaa
open Go.ChangeShapes Go.WideShapes Go.ChangeAt Go.RowKit
set_option linter.unusedVariables false
/-- The rows 0 to n, one behind the other. -/
def flatR (f : Nat → List Value) : Nat → List Value
  | 0 => []
  | n + 1 => flatR f n ++ f n
theorem flatR_succ (f : Nat → List Value) (n : Nat) : flatR f (n + 1) = flatR f n ++ f n := rfl
theorem flatR_length {f : Nat → List Value} {k : Nat} : ∀ n, (∀ i, i < n → (f i).length = k) → (flatR f n).length = n * k
  | 0, _ => by simp [flatR]
  | n + 1, h => by rw [flatR, List.length_append, flatR_length n (fun i hi => h i (by omega)), h n (by omega), Nat.succ_mul]
theorem flatR_get {f : Nat → List Value} {k : Nat} : ∀ (n : Nat), (∀ i, i < n → (f i).length = k) → ∀ (i j : Nat), i < n → j < k → (flatR f n)[i * k + j]? = (f i)[j]?
  | 0, _, i, j, hi, _ => absurd hi (Nat.not_lt_zero _)
  | n + 1, h, i, j, hi, hj => by
    have hl := flatR_length n (fun i hi => h i (by omega))
    rw [flatR]
    by_cases hin : i < n
    · have : i * k + j < n * k := by
        have := Nat.mul_le_mul_right k (show i + 1 ≤ n by omega)
        rw [Nat.succ_mul] at this
        omega
      rw [List.getElem?_append_left (by rw [hl]; exact this)]
      exact flatR_get n (fun i hi => h i (by omega)) i j hin hj
    · obtain rfl : i = n := by omega
      rw [List.getElem?_append_right (by rw [hl]; omega), hl]
      congr 1
      omega
theorem flatR_congr {f f' : Nat → List Value} : ∀ n, (∀ i, i < n → f i = f' i) → flatR f n = flatR f' n
  | 0, _ => rfl
  | n + 1, h => by rw [flatR, flatR, flatR_congr n (fun i hi => h i (by omega)), h n (by omega)]
theorem flatR_mem {f : Nat → List Value} {u : Value} : ∀ n, u ∈ flatR f n → ∃ i, i < n ∧ u ∈ f i
  | 0, h => by simp [flatR] at h
  | n + 1, h => by
    rw [flatR, List.mem_append] at h
    rcases h with h | h
    · obtain ⟨i, hi, hu⟩ := flatR_mem n h
      exact ⟨i, by omega, hu⟩
    · exact ⟨n, by omega, h⟩
theorem addr_add (b o j : Nat) : (⟨b, o, none⟩ : Addr).add j = ⟨b, o + j, none⟩ := by unfold Addr.add; split <;> simp_all
/-- The cells of rows that lie so. -/
theorem flatR_cells {w : World} {f : Nat → List Value} {k b o : Nat} (n : Nat) (hk : 0 < k) (hl : ∀ i, i < n → (f i).length = k)
    (hc : ∀ i, i < n → ∀ (j : Nat) (u : Value), (f i)[j]? = some u → w.cell? ⟨b, o + i * k + j, none⟩ = some u) :
    ∀ (j : Nat) (u : Value), (flatR f n)[j]? = some u → w.cell? ((⟨b, o, none⟩ : Addr).add j) = some u := by
  intro j u hu
  have hj : j < n * k := by rw [← flatR_length n hl]; exact (List.getElem?_eq_some_iff.1 hu).1
  have hq : j / k < n := Nat.div_lt_of_lt_mul (by rw [Nat.mul_comm]; exact hj)
  have hr : j % k < k := Nat.mod_lt _ hk
  have he : j / k * k + j % k = j := by rw [Nat.mul_comm]; exact Nat.div_add_mod j k
  rw [← he, flatR_get n hl _ _ hq hr] at hu
  rw [addr_add]
  have := hc _ hq _ _ hu
  rw [← he]
  rw [Nat.add_assoc] at this
  exact this
/-- Of a row of the call's own. -/
theorem OwnRow.of_owns {w : World} {base e size n : Nat} {v : Value} {xs : List Value} {g cap : Nat} (h : w.ownsRow base e size v n xs) (hv : v = .slice (some ⟨g, 0, none⟩) n cap) : OwnRow w g e xs ∧ base ≤ g ∧ n ≤ cap ∧ cap ≤ maxLen := by
  obtain ⟨hl, h | ⟨g', cap', cur, e', hb, hh, hn, hc, hz, ht⟩⟩ := h
  · rw [hv] at h; cases h.1
  · rw [hv] at e'
    cases e'
    exact ⟨⟨cur, hh, by rw [hl]; exact ht⟩, hb, hn, hc⟩
end Go.Proofs.Ytkmamebaichboaa
