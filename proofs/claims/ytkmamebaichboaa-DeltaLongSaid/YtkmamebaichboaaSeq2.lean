/- The contracts of the package seq: even, Take, Read. No conditions but those stated. -/
import Derived.Test.YtkmamebaichboaaSeq1
namespace Go.Proofs.Ytkmamebaichboaa
open Go.ChangeShapes Go.WideShapes Go.ChangeAt Go.RowKit
set_option linter.unusedVariables false
set_option linter.unusedSimpArgs false
namespace SeqL
def seqEvenL (pos : Int) : Nat → Int → St → Int × St
  | 0, c, s => (c, s)
  | n + 1, c, s => if s.off then (c, s) else if c.tmod 2 = 0 then (c, s) else seqEvenL pos n (St.load pos s).1 (St.load pos s).2
def seqEven (pos : Int) (s : St) : Int × St := seqEvenL pos WN (St.load pos s).1 (St.load pos s).2
theorem load_le (a : Int) (s : St) (h : s.pos ≤ s.log.length) : (St.load a s).2.pos ≤ (St.load a s).2.log.length := by
  unfold St.load St.again
  by_cases ho : s.off = true
  · simp [ho]; exact h
  · by_cases h1 : s.pos < s.log.length
    · simp [ho, h1]; omega
    · by_cases h2 : s.fresh = true
      · simp [ho, h1, h2, St.note]; omega
      · simp [ho, h1, h2]; omega
theorem load_off (a : Int) (s : St) (h : s.off = true) : St.load a s = (0, s) := by simp [St.load, St.again, h]
theorem load_mono {n : Nat} {a : Int} {s : St} (h : Fuel n s) (hp : s.pos ≤ s.log.length) : Fuel n (St.load a s).2 := by
  by_cases ho : s.off = true
  · rw [load_off a s ho]; exact h
  · have ho' : s.off = false := by simpa using ho
    obtain ⟨k, rfl⟩ := fuel_pos h ho' hp
    have := load_fuel (a := a) h ho' hp
    rcases this with h1 | h1
    · exact .inl h1
    · exact .inr (by omega)
theorem evenL_le (pos : Int) : ∀ (n : Nat) (c : Int) (s : St), s.pos ≤ s.log.length → (seqEvenL pos n c s).2.pos ≤ (seqEvenL pos n c s).2.log.length ∧ ∀ k, Fuel k s → Fuel k (seqEvenL pos n c s).2
  | 0, c, s, h => ⟨h, fun _ hk => hk⟩
  | n + 1, c, s, h => by
    unfold seqEvenL
    split
    · exact ⟨h, fun _ hk => hk⟩
    · split
      · exact ⟨h, fun _ hk => hk⟩
      · have h1 := load_le pos s h
        obtain ⟨h2, h3⟩ := evenL_le pos n (St.load pos s).1 (St.load pos s).2 h1
        exact ⟨h2, fun k hk => h3 k (load_mono hk h)⟩
theorem even_fuel {pos : Int} {k : Nat} {s : St} (h : Fuel (k + 1) s) (ho : s.off = false) (hp : s.pos ≤ s.log.length) : Fuel k (seqEven pos s).2 := (evenL_le pos WN _ _ (load_le pos s hp)).2 k (load_fuel h ho hp)
theorem even_le {pos : Int} {s : St} (hp : s.pos ≤ s.log.length) : (seqEven pos s).2.pos ≤ (seqEven pos s).2.log.length := (evenL_le pos WN _ _ (load_le pos s hp)).1
set_option maxHeartbeats 2000000 in
theorem seq_even {w : World} {f m b : Nat} {sl : Value} {s : St} (h : FRep w f m b sl s) (pos : Int) {v : Int} {s' : St} (hq : seqEven pos s = (v, s')) :
    Calls Try.prog 129 #[.pointer (some ⟨f, 0, none⟩), .int .i64 pos] w (FPost f m b sl w (.int .i64 v) s') := by
  unfold seqEven at hq
  rcases q1 : St.load pos s with ⟨c, s1⟩
  rw [q1] at hq
  simp only at hq
  have H := Lib.hid h; have Q1 := Lib.hid q1; have HQ := Lib.hid hq
  clear h q1 hq
  go_enter Try.func129, Try.ntmps129
  go_wp2_with fail
  refine (frame_loadE H.out pos Q1.out).mono ?_
  rintro e w1 ⟨sl1, rfl, h1, e1⟩
  have H1 := Lib.hid h1; have E1 := Lib.hid e1
  have hf1 : Fuel WN s1 := .inr (by have := h1.small; unfold WN; omega)
  have HF := Lib.hid hf1
  clear h1 e1 hf1
  go_wp2_with fail
  go_loopg [5] WN (fun k z wr => ∃ c2 s2 sl2, z = .int .i64 c2 ∧ FRep wr f m b sl2 s2 ∧ Ev [f, b] sl w sl2 wr ∧ Fuel k s2 ∧ seqEvenL pos k c2 s2 = (v, s'))
  case atStart => exact ⟨c, s1, sl1, rfl, H1.out, E1.out, HF.out, HQ.out⟩
  case round =>
    obtain ⟨c2, s2, sl2, rfl, h2, e2, hf2, hw2⟩ := hrel
    have hle := h2.le
    have H2 := Lib.hid h2; have E2 := Lib.hid e2
    cases ho : s2.off with
    | true =>
      have hz : (c2, s2) = (v, s') := by
        cases gk with
        | zero => exact hw2
        | succ n => simpa [seqEvenL, ho] using hw2
      obtain ⟨rfl, rfl⟩ := Prod.mk.inj hz
      have Ho := Lib.hid ho
      clear ho hw2 hf2 h2 e2 hz
      go_wp2_with fail
      refine (frame_off H2.out).mono ?_
      rintro e w' ⟨rfl, rfl⟩
      rw [Ho.out]
      go_wp2_with fail
      go_ret
      exact ⟨_, rfl, H2.out, E2.out⟩
    | false =>
      obtain ⟨n, rfl⟩ := fuel_pos hf2 ho hle
      have hf3 := load_fuel (a := pos) hf2 ho hle
      simp only [seqEvenL, ho, Bool.false_eq_true, if_false] at hw2
      rcases q3 : St.load pos s2 with ⟨c3, s3⟩
      rw [q3] at hw2 hf3
      have Q3 := Lib.hid q3
      have Ho := Lib.hid ho
      clear q3
      have HF3 := Lib.hid hf3
      clear ho hf2 hf3 h2 e2
      by_cases hm : c2.tmod 2 = 0
      · rw [if_pos hm] at hw2
        obtain ⟨rfl, rfl⟩ := Prod.mk.inj hw2
        have hm1 : (c2.tmod 2 == 0) = true := by simpa using hm
        have hm2 : (c2.tmod 2 != 0) = false := by simpa using hm
        clear hw2 hm
        go_wp2_with fail
        refine (frame_off H2.out).mono ?_
        rintro e w' ⟨rfl, rfl⟩
        rw [Ho.out]
        go_wp2_with fail
        go_ret
        exact ⟨_, rfl, H2.out, E2.out⟩
      · rw [if_neg hm] at hw2
        have HW := Lib.hid hw2
        have hm1 : (c2.tmod 2 == 0) = false := by simpa using hm
        have hm2 : (c2.tmod 2 != 0) = true := by simpa using hm
        clear hw2 hm
        go_wp2_with fail
        refine (frame_off H2.out).mono ?_
        rintro e w' ⟨rfl, rfl⟩
        rw [Ho.out]
        go_wp2_with fail
        refine (frame_loadE H2.out pos Q3.out).mono ?_
        rintro e w3 ⟨sl3, rfl, h3, e3⟩
        have H3 := Lib.hid h3
        have E3 := Lib.hid (E2.out.trans e3)
        clear h3 e3
        go_wp2_with fail
        go_roundg n
        case measure => omega
        case rel => exact ⟨_, _, sl3, rfl, H3.out, E3.out, HF3.out, HW.out⟩
/-- The words, loaded one behind the other. -/
def seqLoads (pos : Int) : Nat → Nat → St → List Int × St
  | _, 0, s => ([], s)
  | i, n + 1, s => ((St.load (pos + 1 + i) s).1 :: (seqLoads pos (i + 1) n (St.load (pos + 1 + i) s).2).1, (seqLoads pos (i + 1) n (St.load (pos + 1 + i) s).2).2)
theorem loads_le (pos : Int) : ∀ (n i : Nat) (s : St), s.pos ≤ s.log.length → (seqLoads pos i n s).2.pos ≤ (seqLoads pos i n s).2.log.length ∧ ∀ k, Fuel k s → Fuel k (seqLoads pos i n s).2
  | 0, i, s, h => ⟨h, fun _ hk => hk⟩
  | n + 1, i, s, h => by
    obtain ⟨h2, h3⟩ := loads_le pos n (i + 1) (St.load (pos + 1 + i) s).2 (load_le _ s h)
    exact ⟨h2, fun k hk => h3 k (load_mono hk h)⟩
theorem loads_len (pos : Int) : ∀ (n i : Nat) (s : St), (seqLoads pos i n s).1.length = n
  | 0, i, s => rfl
  | n + 1, i, s => by simp [seqLoads, loads_len pos n]
def seqTakeL (pos : Int) (n : Nat) : Nat → St → List Int × St
  | 0, s => ([], s)
  | k + 1, s =>
    let q1 := seqEven pos s
    let q2 := seqLoads pos 0 n q1.2
    let q3 := St.load pos q2.2
    if q3.2.off then ([], q3.2) else if q3.1 = q1.1 then (q2.1, q3.2) else seqTakeL pos n k q3.2
def seqTake (pos : Int) (n : Nat) (s : St) : List Int × St := if seqW n = 0 then ([], s) else seqTakeL pos n WN s
/-- What is read lies in a row of its own. -/
def RPost (f m b : Nat) (sl : Value) (w : World) (l : List Int) (s' : St) (e : Ending) (w' : World) : Prop :=
  ∃ sl' v, e = .returned v ∧ FRep w' f m b sl' s' ∧ Ev [f, b] sl w sl' w' ∧ w'.ownsRow 0 2 1 v l.length (l.map (Value.int .i64)) ∧ ∀ g, v.ownBlock = some g → w.heap.size ≤ g ∧ g < w'.heap.size ∧ g ∉ blk sl'
theorem nil_row {w : World} : w.ownsRow 0 2 1 (.slice none 0 0) ([] : List Int).length (([] : List Int).map (Value.int .i64)) := ⟨rfl, .inl ⟨rfl, rfl⟩⟩
/-- The row while it is filled. -/
def fillA (vs : List Int) (k : Nat) : Array Value := ((vs ++ List.replicate k 0).map (Value.int .i64)).toArray
theorem fill_at (vs : List Int) (k : Nat) : (fillA vs (k + 1))[vs.length]? = some (.int .i64 0) := by
  simp [fillA, List.getElem?_append_right]
theorem fill_set (vs : List Int) (k : Nat) (v : Int) : (fillA vs (k + 1)).setIfInBounds vs.length (.int .i64 v) = fillA (vs ++ [v]) k := by
  simp [fillA, List.replicate_succ, List.set_append_right]
/-- A row apart from the frame, being filled. -/
structure Fill (w0 : World) (f m b : Nat) (sl : Value) (g : Nat) (vs : List Int) (k : Nat) (w : World) : Prop where
  row : w.heap[g]? = some (.cells (fillA vs k) 2 (0, 0))
  new : w0.heap.size ≤ g
  ap : g ≠ f ∧ g ≠ m ∧ g ≠ b ∧ g ∉ blk sl
theorem Fill.step {w0 w w' : World} {f m b g k : Nat} {sl sl' : Value} {vs : List Int} (h : Fill w0 f m b sl g vs k w) (e : Ev [f, b] sl w sl' w') : Fill w0 f m b sl' g vs k w' := by
  obtain ⟨a1, a2, a3, a4⟩ := h.ap
  have hl := lt_of_block h.row
  refine ⟨e.keep.to h.row (by simp; exact ⟨a1, a3, a4⟩), h.new, a1, a2, a3, fun hm => ?_⟩
  rw [mem_blk] at hm
  rcases e.new with h1 | h1
  · rw [h1] at hm; exact a4 (mem_blk.2 hm)
  · have := h1 g hm; omega
end SeqL
end Go.Proofs.Ytkmamebaichboaa
