/- Law 4: what a Write and a Read do alone: the plain law; awake. No conditions but those stated. -/
import Derived.Test.YtkmamebaichboaaSeq5
namespace Go.Proofs.Ytkmamebaichboaa
open Go.ChangeShapes Go.WideShapes Go.ChangeAt Go.RowKit
set_option linter.unusedVariables false
set_option linter.unusedSimpArgs false
namespace SeqL
open Prog
def putAll (pos : Int) : Nat → List Int → List Int → List Int
  | _, [], m => m
  | i, v :: l, m => putAll pos (i + 1) l (wordPut m (pos + 1 + i) v)
theorem putAll_len (pos : Int) : ∀ (l : List Int) (i : Nat) (m : List Int), (putAll pos i l m).length = m.length
  | [], i, m => rfl
  | v :: l, i, m => by simp only [putAll]; rw [putAll_len pos l, wordPut_length]
theorem putAll_low (pos : Int) {a : Int} : ∀ (l : List Int) (i : Nat) (m : List Int), a < pos + 1 + i → wordGet (putAll pos i l m) a = wordGet m a
  | [], i, m, h => rfl
  | v :: l, i, m, h => by
    simp only [putAll]
    rw [putAll_low pos l (i + 1) _ (by omega), get_put_ne (by omega)]
theorem putAll_get (pos : Int) : ∀ (l : List Int) (i j : Nat) (m : List Int) (v : Int), l[j]? = some v → 0 ≤ pos → pos + 1 + i + l.length ≤ m.length → wordGet (putAll pos i l m) (pos + 1 + i + j) = v
  | [], i, j, m, v, h, _, _ => by simp at h
  | u :: l, i, j, m, v, h, hp, hm => by
    simp only [List.length_cons] at hm
    simp only [putAll]
    cases j with
    | zero =>
      simp at h
      subst h
      rw [putAll_low pos l (i + 1) _ (by omega)]
      rw [show pos + 1 + (i : Int) + ((0 : Nat) : Int) = pos + 1 + i by omega]
      exact get_put (by omega)
    | succ j =>
      have := putAll_get pos l (i + 1) j (wordPut m (pos + 1 + i) u) v (by simpa using h) hp (by rw [wordPut_length]; omega)
      rw [show pos + 1 + (i : Int) + ((j + 1 : Nat) : Int) = pos + 1 + ((i + 1 : Nat) : Int) + j by omega]
      exact this
theorem stores_solo (pos : Int) : ∀ (l : List Int) (i : Nat) (m : List Int), (storesP pos i l).solo m = ((), putAll pos i l m) ∧ (storesP pos i l).cost m = l.length
  | [], i, m => ⟨rfl, rfl⟩
  | v :: l, i, m => by
    obtain ⟨h1, h2⟩ := stores_solo pos l (i + 1) (wordPut m (pos + 1 + i) v)
    constructor
    · simp only [storesP, solo_bind, solo_store, putAll]; exact h1
    · simp only [storesP, cost_bind, cost_store, solo_store, h2, List.length_cons]; omega
theorem write_solo (pos : Int) (l : List Int) (m : List Int) (h : 1 ≤ l.length ∧ l.length ≤ 16) :
    (writeP pos l).solo m = ((), wordPut (putAll pos 0 l (wordPut m pos (wrap64 (wordGet m pos + 1)))) pos (wrap64 (wordGet m pos + 2))) ∧ (writeP pos l).cost m = l.length + 3 := by
  have h0 : ¬ seqW l.length = 0 := by unfold seqW; rw [if_neg (by omega)]; omega
  unfold writeP
  rw [if_neg h0]
  obtain ⟨h1, h2⟩ := stores_solo pos l 0 (wordPut m pos (wrap64 (wordGet m pos + 1)))
  constructor
  · simp only [solo_bind, solo_load, solo_store, h1]
  · simp only [cost_bind, cost_load, cost_store, solo_load, solo_store, h1, h2]; omega
theorem write_none (pos : Int) (l : List Int) (m : List Int) (h : ¬ (1 ≤ l.length ∧ l.length ≤ 16)) : (writeP pos l).solo m = ((), m) ∧ (writeP pos l).cost m = 0 := by
  have h0 : seqW l.length = 0 := if_pos (by omega)
  unfold writeP
  rw [if_pos h0]
  exact ⟨rfl, rfl⟩
def vals (pos : Int) : Nat → Nat → List Int → List Int
  | _, 0, _ => []
  | i, n + 1, m => wordGet m (pos + 1 + i) :: vals pos (i + 1) n m
theorem loads_solo (pos : Int) : ∀ (n i : Nat) (m : List Int), (loadsP pos i n).solo m = (vals pos i n m, m) ∧ (loadsP pos i n).cost m = n
  | 0, i, m => ⟨rfl, rfl⟩
  | n + 1, i, m => by
    obtain ⟨h1, h2⟩ := loads_solo pos n (i + 1) m
    constructor
    · simp only [loadsP, solo_bind, solo_load, h1, solo_pure, vals]
    · simp only [loadsP, cost_bind, cost_load, solo_load, h1, h2, cost_pure]; omega
theorem even_solo (pos : Int) (N : Nat) (c : Int) (m : List Int) (h : c.tmod 2 = 0) : (evenP pos N c).solo m = (c, m) ∧ (evenP pos N c).cost m = 0 := by
  cases N with
  | zero => exact ⟨rfl, rfl⟩
  | succ N => constructor <;> simp [evenP, h]
theorem take_solo (pos : Int) (n N k : Nat) (m : List Int) (h : (wordGet m pos).tmod 2 = 0) : (takeP pos n N (k + 1)).solo m = (vals pos 0 n m, m) ∧ (takeP pos n N (k + 1)).cost m = n + 2 := by
  obtain ⟨h1, h2⟩ := even_solo pos N (wordGet m pos) m h
  obtain ⟨h3, h4⟩ := loads_solo pos n 0 m
  constructor
  · simp [takeP, h1, h3]
  · simp [takeP, h1, h2, h3, h4]; omega
theorem read_solo (pos : Int) (n : Nat) (m : List Int) (hn : 1 ≤ n ∧ n ≤ 16) (h : (wordGet m pos).tmod 2 = 0) : (readP pos n).solo m = (vals pos 0 n m, m) ∧ (readP pos n).cost m = n + 2 := by
  have h0 : ¬ seqW (n : Int) = 0 := by unfold seqW; rw [if_neg (by omega)]; omega
  unfold readP
  rw [if_neg h0]
  exact take_solo pos n WN 1000004 m h
theorem read_none (pos N : Int) (m : List Int) (h : ¬ (1 ≤ N ∧ N ≤ 16)) : (readP pos N).solo m = ([], m) ∧ (readP pos N).cost m = 0 := by
  have h0 : seqW N = 0 := if_pos (by omega)
  unfold readP
  rw [if_pos h0]
  exact ⟨rfl, rfl⟩
theorem vals_eq (pos : Int) (m : List Int) : ∀ (l : List Int) (i : Nat), (∀ (j : Nat) (v : Int), l[j]? = some v → wordGet m (pos + 1 + i + j) = v) → vals pos i l.length m = l
  | [], i, h => rfl
  | u :: l, i, h => by
    have h0 := h 0 u rfl
    rw [show pos + 1 + (i : Int) + ((0 : Nat) : Int) = pos + 1 + i by omega] at h0
    have := vals_eq pos m l (i + 1) (fun j v hj => by
      have := h (j + 1) v (by simpa using hj)
      rw [show pos + 1 + (i : Int) + ((j + 1 : Nat) : Int) = pos + 1 + ((i + 1 : Nat) : Int) + j by omega] at this
      exact this)
    show vals pos i (l.length + 1) m = _
    rw [vals, this, h0]
/-- What is written alone is read. -/
theorem back {pos : Int} {l m : List Int} (hl : 1 ≤ l.length ∧ l.length ≤ 16) (hp : 0 ≤ pos ∧ pos + 1 + l.length ≤ m.length) (h0 : wordGet m pos = 0) :
    wordGet ((writeP pos l).solo m).2 pos = 2 ∧ (readP pos l.length).solo ((writeP pos l).solo m).2 = (l, ((writeP pos l).solo m).2) ∧ (readP pos l.length).cost ((writeP pos l).solo m).2 = l.length + 2 := by
  rw [(write_solo pos l m hl).1, h0]
  have e2 : wrap64 (0 + 2) = 2 := IntWalk.wrap64_in 2 (by omega)
  rw [e2]
  simp only
  have h2 : wordGet (wordPut (putAll pos 0 l (wordPut m pos (wrap64 (0 + 1)))) pos 2) pos = 2 := get_put (by rw [putAll_len, wordPut_length]; omega)
  obtain ⟨h3, h4⟩ := read_solo pos l.length (wordPut (putAll pos 0 l (wordPut m pos (wrap64 (0 + 1)))) pos 2) hl (by rw [h2]; decide)
  refine ⟨h2, ?_, h4⟩
  rw [h3, vals_eq pos _ l 0 (fun j v hj => ?_)]
  rw [get_put_ne (by omega)]
  exact putAll_get pos l 0 j _ v hj hp.1 (by rw [wordPut_length]; omega)
/-! ### The words after so many accesses -/
def memAt {α : Type} : Prog α → List Int → Nat → List Int
  | .ret _, m, _ => m
  | .acc o k, m, 0 => m
  | .acc o k, m, n + 1 => memAt (k (o.eff m).1) (o.eff m).2 n
  | .off k, m, n => memAt (k false) m n
  | .mark p, m, n => memAt p m n
theorem memAt_feed {α : Type} : ∀ (p : Prog α) (m : List Int) (n : Nat), memAt (p.feed []) m n = memAt p m n
  | .ret _, m, n => rfl
  | .acc o k, m, n => rfl
  | .off k, m, n => by rw [Prog.feed, memAt]; exact memAt_feed (k false) m n
  | .mark p, m, n => by rw [Prog.feed, memAt]; exact memAt_feed p m n
theorem run_mem {ρ α : Type} (P : ρ → Prog α) (U : ρ → α → ρ) (hP : ∀ r a, P (U r a) = P r) (hU : ∀ r a b, U (U r a) b = U r b) (r : ρ) (m : List Int) : ∀ (n : Nat), (runP (progB P U) n (r, St.new m)).2.over = false → ∀ j, memAt ((P r).feed (Prog.ans (runP (progB P U) n (r, St.new m)).2)) (runP (progB P U) n (r, St.new m)).2.mem j = memAt (P r) m (n + j)
  | 0, _, j => by rw [Nat.zero_add]; exact memAt_feed (P r) m j
  | n + 1, ho, j => by
    have e : runP (progB P U) (n + 1) (r, St.new m) = stepP (progB P U) n (runP (progB P U) n (r, St.new m)) := rfl
    rw [e] at ho ⊢
    have hinv := run_inv P U hP hU r m n
    have ih := run_mem P U hP hU r m n
    generalize runP (progB P U) n (r, St.new m) = q0 at ho hinv ih ⊢
    rcases hinv with ⟨h1, _⟩ | ⟨h1, h2, h3, _⟩
    · rw [stepP_over h1] at ho; rw [h1] at ho; cases ho
    · have ih1 := ih h1
      rw [stepP_go h1] at ho ⊢
      simp only [progB, h2] at ho ⊢
      rcases Prog.feed_form (P r) (Prog.ans q0.2) with ⟨a, ha⟩ | ⟨o, k, ha⟩
      · obtain ⟨g1, g2, _⟩ := Prog.step_ret (P r) q0.2 n ha
        rw [g2] at ho; cases ho
      · obtain ⟨g1, g2, _⟩ := Prog.step_acc (P r) q0.2 n ha
        have hans : Prog.ans ((P r).run (q0.2.start n)).2.stop = Prog.ans q0.2 ++ [(o.eff q0.2.mem).1] := by simp [Prog.ans, g1]
        rw [hans, Prog.feed_snoc (P r) _ (o.eff q0.2.mem).1 ha, g2, memAt_feed]
        have := ih1 (j + 1)
        rw [ha] at this
        simp only [memAt] at this
        rw [this]
        congr 1
        omega
theorem stores_mem {α : Type} (pos : Int) (f : Unit → Prog α) : ∀ (l : List Int) (i j : Nat) (m : List Int), j ≤ l.length → (j = l.length → ∃ o k, f () = .acc o k) → memAt (storesP pos i l >>= f) m j = putAll pos i (l.take j) m
  | [], i, j, m, hj, hf => by
    have : j = 0 := by simpa using hj
    subst this
    obtain ⟨o, k, e⟩ := hf rfl
    show memAt (f ()) m 0 = m
    rw [e]; rfl
  | v :: l, i, 0, m, hj, hf => rfl
  | v :: l, i, j + 1, m, hj, hf => by
    have := stores_mem pos f l (i + 1) j (wordPut m (pos + 1 + i) v) (by simpa using hj) (fun h => hf (by simp [h]))
    exact this
theorem write_mem (pos : Int) (l : List Int) (m : List Int) (h : 1 ≤ l.length ∧ l.length ≤ 16) (j : Nat) (hj : j ≤ l.length) : memAt (writeP pos l) m (2 + j) = putAll pos 0 (l.take j) (wordPut m pos (wrap64 (wordGet m pos + 1))) := by
  have h0 : ¬ seqW l.length = 0 := by unfold seqW; rw [if_neg (by omega)]; omega
  unfold writeP
  rw [if_neg h0, show 2 + j = j + 1 + 1 by omega]
  exact stores_mem pos _ l 0 j _ hj (fun _ => ⟨_, _, rfl⟩)
end SeqL
end Go.Proofs.Ytkmamebaichboaa
