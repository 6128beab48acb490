/- The contracts of the package word: New, Len, at, Load, Store, Add, Swap, Words. No conditions but those stated. -/
import Derived.Test.YtkmamebaichboaaBase
namespace Go.Proofs.Ytkmamebaichboaa
open Go.ChangeShapes Go.WideShapes Go.ChangeAt Go.RowKit
set_option linter.unusedVariables false
set_option linter.unusedSimpArgs false

/-- A memory (of the struct type T) at block m whose words l lie in block b. -/
structure MemRep (T : TypeId) (w : World) (m b : Nat) (l : List Int) : Prop where
  head : w.heap[m]? = some (.cells #[.slice (some ⟨b, 0, none⟩) l.length l.length] T (0, 0))
  body : w.heap[b]? = some (.cells (l.map (Value.int .i64)).toArray 2 (0, 0))
  most : l.length ≤ 4000

theorem MemRep.keep {T : TypeId} {w w' : World} {m b : Nat} {l : List Int} {S : List Nat} (h : MemRep T w m b l) (k : Keep S w w') (h1 : m ∉ S) (h2 : b ∉ S) : MemRep T w' m b l :=
  ⟨k.to h.head h1, k.to h.body h2, h.most⟩
theorem MemRep.ne {T : TypeId} {w : World} {m b : Nat} {l : List Int} (h : MemRep T w m b l) : m ≠ b := by
  intro e; subst e
  have h1 := h.head
  rw [h.body] at h1
  simp at h1
theorem MemRep.cell0 {T : TypeId} {w : World} {m b : Nat} {l : List Int} (h : MemRep T w m b l) : w.cell? ⟨m, 0, none⟩ = some (.slice (some ⟨b, 0, none⟩) l.length l.length) :=
  cell_of h.head (by simp)
theorem MemRep.cell {T : TypeId} {w : World} {m b : Nat} {l : List Int} (h : MemRep T w m b l) (i : Nat) (hi : i < l.length) : w.cell? ⟨b, i, none⟩ = some (.int .i64 (nth l i)) :=
  cell_of h.body (ints_cell l i hi)
theorem MemRep.free {T : TypeId} {w : World} {m b : Nat} {l : List Int} (h : MemRep T w m b l) (i : Nat) : w.frozen? ⟨b, i, none⟩ = false := free_of h.body
theorem MemRep.set {T : TypeId} {w : World} {m b : Nat} {l : List Int} (h : MemRep T w m b l) (i : Nat) (v : Int) : MemRep T (w.setCell ⟨b, i, none⟩ (.int .i64 v)) m b (l.set i v) := by
  refine ⟨?_, ?_, by simpa using h.most⟩
  · rw [Below.heap_setCell _ _ _ _ h.ne, h.head]; simp
  · rw [block_set i _ h.body, ints_set]

theorem info64 : (Try.prog.info? 2).map (fun i => (i.zero, i.size, i.bytes)) = some (some (.int .i64 0), 1, 8) := by kernel_rfl

theorem wpList_make_exact {P : Program} (w : World) {ops : Array Oper} {rest : List Oper} {o : Oper} {a : Act} {Q : Exit → Act → World → Prop}
    (hg : o.guard = none) (l c : Operand) (t : TypeId) (hop : o.op = Op.makeSlice t l c)
    (e : TypeId) (i : TypeInfo) (z : Value) (h1 : P.underlying t = some (.slice e)) (h2 : P.info? e = some i) (h3 : i.zero = some z)
    (kl kc : IntKind) (L C : Int) (n : Nat) (hl : a.eval l = .int kl L) (hc : a.eval c = .int kc C) (hL : L = (n : Int)) (hC : C = (n : Int)) (b2 : (i.bytes : Int) * (n : Int) ≤ 281474976710656) (b3 : (n : Int) ≤ 9223372036854775807)
    (hK : wpList P ops Q rest (a.put o.dst (.slice (some ⟨w.heap.size, 0, none⟩) n n)) (w.alloc (.cells (madeCells z.cells (n * i.size)) e))) :
    wpList P ops Q (o :: rest) a w := by
  refine wpList_plain hg fun K hK' => ?_
  have hrun := run_make (P := P) w t e i z h1 h2 h3 kl kc n n (by omega) (by omega) b2 b3
  subst hL
  subst hC
  unfold Oper.wp
  simp only [Int.toNat_natCast] at hrun
  simp [execOp, hop, hl, hc, hrun, Result.andThen]
  exact hK' _ _ hK

theorem made_ints (n : Nat) : madeCells #[Value.int .i64 0] n = ((List.replicate n (0 : Int)).map (Value.int .i64)).toArray := by
  apply Array.ext'
  rw [toList_madeCells_one]
  simp

/-- New: so many words as may be, all 0, in two new blocks. -/
theorem word_new (n : Int) (w : World) (h : -9223372036854775808 ≤ n ∧ n ≤ 9223372036854775807) :
    Calls Try.prog 23 #[.int .i64 n] w fun e w' => e = .returned (.pointer (some ⟨w.heap.size + 1, 0, none⟩)) ∧
      MemRep 134 w' (w.heap.size + 1) w.heap.size (List.replicate (min (max n 0) 4000).toNat 0) ∧ Keep [] w w' ∧ w'.heap.size = w.heap.size + 2 := by
  obtain ⟨i, hi, hz0, hz1, hz2⟩ := info_parts info64
  generalize hk : (min (max n 0) 4000).toNat = k
  have hk4 : k ≤ 4000 := by omega
  have fin : ∀ w', w' = (w.alloc (.cells (madeCells #[Value.int .i64 0] k) 2)).alloc (.cells #[.slice (some ⟨w.heap.size, 0, none⟩) k k] 134) →
      MemRep 134 w' (w.heap.size + 1) w.heap.size (List.replicate k 0) ∧ Keep [] w w' ∧ w'.heap.size = w.heap.size + 2 := by
    rintro w' rfl
    rw [made_ints]
    refine ⟨⟨?_, ?_, by simpa using hk4⟩, ((Keep.refl _ _).alloc _).alloc _, by simp⟩
    · simpa using heap_alloc_new (w.alloc (.cells ((List.replicate k (0 : Int)).map (Value.int .i64)).toArray 2)) (.cells #[.slice (some ⟨w.heap.size, 0, none⟩) k k] 134)
    · rw [Below.heap_alloc _ _ _ (by simp)]
      simpa using heap_alloc_new w _
  have Hk := Lib.hid hk
  clear hk
  by_cases h0 : n < 0
  · have hk0 : (0 : Int) = (k : Int) := by have := Hk.out; omega
    have Hk0 := Lib.hid hk0
    clear hk0
    go_enter Try.func23, Try.ntmps23
    go_wp2_with (at_make; refine wpList_make_exact _ rfl _ _ 37 rfl 2 i _ Try.underlying37 hi hz0 _ _ _ _ k rfl rfl Hk0.out Hk0.out (by rw [hz2]; omega) (by omega) ?_)
    go_ret
    exact ⟨rfl, fin _ rfl⟩
  · by_cases h1 : 4000 < n
    · have hk0 : (4000 : Int) = (k : Int) := by have := Hk.out; omega
      have Hk0 := Lib.hid hk0
      clear hk0
      go_enter Try.func23, Try.ntmps23
      go_wp2_with (at_make; refine wpList_make_exact _ rfl _ _ 37 rfl 2 i _ Try.underlying37 hi hz0 _ _ _ _ k rfl rfl Hk0.out Hk0.out (by rw [hz2]; omega) (by omega) ?_)
      go_ret
      exact ⟨rfl, fin _ rfl⟩
    · have hk0 : n = (k : Int) := by have := Hk.out; omega
      have Hk0 := Lib.hid hk0
      clear hk0
      go_enter Try.func23, Try.ntmps23
      go_wp2_with (at_make; refine wpList_make_exact _ rfl _ _ 37 rfl 2 i _ Try.underlying37 hi hz0 _ _ _ _ k rfl rfl Hk0.out Hk0.out (by rw [hz2]; omega) (by omega) ?_)
      go_ret
      exact ⟨rfl, fin _ rfl⟩

theorem word_len {w : World} {m b : Nat} {l : List Int} (h : MemRep 134 w m b l) :
    Calls Try.prog 109 #[.pointer (some ⟨m, 0, none⟩)] w fun e w' => e = .returned (.int .i64 l.length) ∧ w = w' := by
  have hc := h.cell0
  go_enter Try.func109, Try.ntmps109
  go_wp2
  go_ret
  exact ⟨rfl, rfl⟩
theorem word_len_nil (w : World) :
    Calls Try.prog 109 #[.pointer none] w fun e w' => e = .returned (.int .i64 0) ∧ w = w' := by
  go_enter Try.func109, Try.ntmps109
  go_wp2
  go_ret
  exact ⟨rfl, rfl⟩

/-- The place of word a, or nil. -/
def wordAt (l : List Int) (b : Nat) (a : Int) : Value := .pointer (if 0 ≤ a ∧ a < l.length then some ⟨b, a.toNat, none⟩ else none)
/-- at: the place of a word, or nil. -/
theorem word_at {w : World} {m b : Nat} {l : List Int} (h : MemRep 134 w m b l) (a : Int) :
    Calls Try.prog 72 #[.pointer (some ⟨m, 0, none⟩), .int .i64 a] w fun e w' =>
      e = .returned (wordAt l b a) ∧ w = w' := by
  have hc := h.cell0
  have hm := h.most
  have H := h
  by_cases h0 : a < 0
  · go_enter Try.func72, Try.ntmps72
    go_wp2_with fail
    go_ret
    exact ⟨by unfold wordAt; rw [if_neg (by omega)]; rfl, rfl⟩
  · by_cases h1 : a < l.length
    · go_enter Try.func72, Try.ntmps72
      go_wp2_with (go_at_call 109; refine (word_len H).mono ?_; rintro e w' ⟨rfl, rfl⟩)
      go_ret
      exact ⟨by unfold wordAt; rw [if_pos (by omega)]; rfl, rfl⟩
    · go_enter Try.func72, Try.ntmps72
      go_wp2_with (go_at_call 109; refine (word_len H).mono ?_; rintro e w' ⟨rfl, rfl⟩)
      go_ret
      exact ⟨by unfold wordAt; rw [if_neg (by omega)]; rfl, rfl⟩

/-- A memory behind a pointer that may be nil: a nil one has no words. -/
def WRep (w : World) (p : Option Addr) (b : Nat) (l : List Int) : Prop := (∃ m, p = some ⟨m, 0, none⟩ ∧ MemRep 134 w m b l) ∨ (p = none ∧ l = [])
theorem WRep.iff {w : World} {m b : Nat} {l : List Int} : WRep w (some ⟨m, 0, none⟩) b l ↔ MemRep 134 w m b l :=
  ⟨fun h => h.elim (fun ⟨m', h1, h2⟩ => by simp at h1; subst h1; exact h2) (fun ⟨h1, _⟩ => by cases h1), fun h => .inl ⟨m, rfl, h⟩⟩
theorem WRep.set {w : World} {p : Option Addr} {b : Nat} {l : List Int} (h : WRep w p b l) (i : Nat) (hi : i < l.length) (v : Int) : WRep (w.setCell ⟨b, i, none⟩ (.int .i64 v)) p b (l.set i v) := by
  rcases h with ⟨m, rfl, h⟩ | ⟨rfl, rfl⟩
  · exact .inl ⟨m, rfl, h.set i v⟩
  · exact absurd hi (by simp)
theorem WRep.cell {w : World} {p : Option Addr} {b : Nat} {l : List Int} (h : WRep w p b l) (i : Nat) (hi : i < l.length) : w.cell? ⟨b, i, none⟩ = some (.int .i64 (nth l i)) := by
  rcases h with ⟨m, rfl, h⟩ | ⟨rfl, rfl⟩
  · exact h.cell i hi
  · exact absurd hi (by simp)
theorem WRep.free {w : World} {p : Option Addr} {b : Nat} {l : List Int} (h : WRep w p b l) (i : Nat) (hi : i < l.length) : w.frozen? ⟨b, i, none⟩ = false := by
  rcases h with ⟨m, rfl, h⟩ | ⟨rfl, rfl⟩
  · exact h.free i
  · exact absurd hi (by simp)
theorem word_at' {w : World} {p : Option Addr} {b : Nat} {l : List Int} (h : WRep w p b l) (a : Int) :
    Calls Try.prog 72 #[.pointer p, .int .i64 a] w fun e w' => e = .returned (wordAt l b a) ∧ w = w' := by
  rcases h with ⟨m, rfl, h⟩ | ⟨rfl, rfl⟩
  · exact word_at h a
  · by_cases h0 : a < 0
    · go_enter Try.func72, Try.ntmps72
      go_wp2_with fail
      go_ret
      exact ⟨by unfold wordAt; rw [if_neg (by omega)]; rfl, rfl⟩
    · go_enter Try.func72, Try.ntmps72
      go_wp2_with (go_at_call 109; refine (word_len_nil _).mono ?_; rintro e w' ⟨rfl, rfl⟩)
      go_ret
      exact ⟨by unfold wordAt; rw [if_neg (by simp)]; rfl, rfl⟩

/-- The error's number: 0 where there is the word, 2 (ErrRange) where there is none. -/
def wordErr (l : List Int) (a : Int) : Int := if 0 ≤ a ∧ a < l.length then 0 else 2
def wordGet (l : List Int) (a : Int) : Int := if 0 ≤ a ∧ a < l.length then nth l a.toNat else 0
def wordPut (l : List Int) (a v : Int) : List Int := if 0 ≤ a ∧ a < l.length then l.set a.toNat v else l
theorem wordAt_in {l : List Int} {b : Nat} {a : Int} (h : 0 ≤ a ∧ a < l.length) : wordAt l b a = .pointer (some ⟨b, a.toNat, none⟩) := by unfold wordAt; rw [if_pos h]
theorem wordAt_out {l : List Int} {b : Nat} {a : Int} (h : ¬ (0 ≤ a ∧ a < l.length)) : wordAt l b a = .pointer none := by unfold wordAt; rw [if_neg h]
theorem wordErr_in {l : List Int} {a : Int} (h : 0 ≤ a ∧ a < l.length) : wordErr l a = 0 := if_pos h
theorem wordErr_out {l : List Int} {a : Int} (h : ¬ (0 ≤ a ∧ a < l.length)) : wordErr l a = 2 := if_neg h
theorem wordGet_in {l : List Int} {a : Int} (h : 0 ≤ a ∧ a < l.length) : wordGet l a = nth l a.toNat := if_pos h
theorem wordGet_out {l : List Int} {a : Int} (h : ¬ (0 ≤ a ∧ a < l.length)) : wordGet l a = 0 := if_neg h
theorem wordPut_in {l : List Int} {a v : Int} (h : 0 ≤ a ∧ a < l.length) : wordPut l a v = l.set a.toNat v := if_pos h
theorem wordPut_out {l : List Int} {a v : Int} (h : ¬ (0 ≤ a ∧ a < l.length)) : wordPut l a v = l := if_neg h
theorem wordPut_length (l : List Int) (a v : Int) : (wordPut l a v).length = l.length := by unfold wordPut; split <;> simp

theorem word_load' {w : World} {p : Option Addr} {b : Nat} {l : List Int} (h : WRep w p b l) (a : Int) :
    Calls Try.prog 31 #[.pointer p, .int .i64 a] w fun e w' =>
      e = .returned (.tuple #[.int .i64 (wordGet l a), .int .i64 (wordErr l a)]) ∧ w = w' := by
  have H := h
  by_cases h1 : 0 ≤ a ∧ a < l.length
  · have hc := h.cell a.toNat (by omega)
    go_enter Try.func31, Try.ntmps31
    go_wp2_with (go_at_call 72; refine (word_at' H _).mono ?_; rintro e w' ⟨rfl, rfl⟩; rw [wordAt_in h1])
    go_ret2
    exact ⟨by rw [wordGet_in h1, wordErr_in h1]; rfl, rfl⟩
  · go_enter Try.func31, Try.ntmps31
    go_wp2_with (go_at_call 72; refine (word_at' H _).mono ?_; rintro e w' ⟨rfl, rfl⟩; rw [wordAt_out h1])
    go_ret2
    exact ⟨by rw [wordGet_out h1, wordErr_out h1]; rfl, rfl⟩

theorem word_store' {w : World} {p : Option Addr} {b : Nat} {l : List Int} (h : WRep w p b l) (a v : Int) :
    Calls Try.prog 27 #[.pointer p, .int .i64 a, .int .i64 v] w fun e w' =>
      e = .returned (.int .i64 (wordErr l a)) ∧ WRep w' p b (wordPut l a v) ∧ Keep [b] w w' := by
  have H := h
  by_cases h1 : 0 ≤ a ∧ a < l.length
  · have hc := h.cell a.toNat (by omega)
    have hf := h.free a.toNat (by omega)
    go_enter Try.func27, Try.ntmps27
    go_wp2_with (go_at_call 72; refine (word_at' H _).mono ?_; rintro e w' ⟨rfl, rfl⟩; rw [wordAt_in h1])
    go_ret
    refine ⟨by rw [wordErr_in h1]; rfl, ?_, ?_⟩
    · rw [wordPut_in h1]; exact H.set _ (by omega) _
    · exact (Keep.refl _ _).setCell (by simp) _
  · go_enter Try.func27, Try.ntmps27
    go_wp2_with (go_at_call 72; refine (word_at' H _).mono ?_; rintro e w' ⟨rfl, rfl⟩; rw [wordAt_out h1])
    go_ret
    exact ⟨by rw [wordErr_out h1]; rfl, by rw [wordPut_out h1]; exact H, Keep.refl _ _⟩

/-- Add: the sum wraps. -/
def wordSum (l : List Int) (a d : Int) : Int := wrap64 (nth l a.toNat + d)
theorem word_add' {w : World} {p : Option Addr} {b : Nat} {l : List Int} (h : WRep w p b l) (a d : Int) :
    Calls Try.prog 89 #[.pointer p, .int .i64 a, .int .i64 d] w fun e w' =>
      e = .returned (.tuple #[.int .i64 (wordGet l a), .int .i64 (wordErr l a)]) ∧ WRep w' p b (wordPut l a (wordSum l a d)) ∧ Keep [b] w w' := by
  have H := h
  by_cases h1 : 0 ≤ a ∧ a < l.length
  · have hc := h.cell a.toNat (by omega)
    have hf := h.free a.toNat (by omega)
    go_enter Try.func89, Try.ntmps89
    go_wp2_with (go_at_call 72; refine (word_at' H _).mono ?_; rintro e w' ⟨rfl, rfl⟩; rw [wordAt_in h1])
    go_ret2
    refine ⟨by rw [wordGet_in h1, wordErr_in h1]; rfl, ?_, ?_⟩
    · rw [wordPut_in h1]; exact H.set _ (by omega) _
    · exact (Keep.refl _ _).setCell (by simp) _
  · go_enter Try.func89, Try.ntmps89
    go_wp2_with (go_at_call 72; refine (word_at' H _).mono ?_; rintro e w' ⟨rfl, rfl⟩; rw [wordAt_out h1])
    go_ret2
    exact ⟨by rw [wordGet_out h1, wordErr_out h1]; rfl, by rw [wordPut_out h1]; exact H, Keep.refl _ _⟩

def swapOk (l : List Int) (a old : Int) : Bool := decide (0 ≤ a) && decide (a < l.length) && decide (nth l a.toNat = old)
def wordSwap (l : List Int) (a old fresh : Int) : List Int := if swapOk l a old then l.set a.toNat fresh else l
theorem wordSwap_length (l : List Int) (a old v : Int) : (wordSwap l a old v).length = l.length := by unfold wordSwap; split <;> simp
theorem word_swap' {w : World} {p : Option Addr} {b : Nat} {l : List Int} (h : WRep w p b l) (a old fresh : Int) :
    Calls Try.prog 90 #[.pointer p, .int .i64 a, .int .i64 old, .int .i64 fresh] w fun e w' =>
      e = .returned (.tuple #[.bool (swapOk l a old), .int .i64 (wordErr l a)]) ∧ WRep w' p b (wordSwap l a old fresh) ∧ Keep [b] w w' := by
  have H := h
  by_cases h1 : 0 ≤ a ∧ a < l.length
  · have hc := h.cell a.toNat (by omega)
    have hf := h.free a.toNat (by omega)
    by_cases h2 : nth l a.toNat = old
    · have hs : swapOk l a old = true := by unfold swapOk; rw [decide_eq_true h1.1, decide_eq_true h1.2, decide_eq_true h2]; rfl
      have hsw : wordSwap l a old fresh = l.set a.toNat fresh := by unfold wordSwap; rw [hs]; rfl
      subst h2
      have Hs := Lib.hid hs
      have Hsw := Lib.hid hsw
      clear hs hsw
      go_enter Try.func90, Try.ntmps90
      go_wp2_with (go_at_call 72; refine (word_at' H _).mono ?_; rintro e w' ⟨rfl, rfl⟩; rw [wordAt_in h1])
      go_ret2
      refine ⟨by rw [Hs.out, wordErr_in h1]; rfl, ?_, ?_⟩
      · rw [Hsw.out]; exact H.set _ (by omega) _
      · exact (Keep.refl _ _).setCell (by simp) _
    · have hs : swapOk l a old = false := by unfold swapOk; rw [decide_eq_false h2]; simp
      have hsw : wordSwap l a old fresh = l := by unfold wordSwap; rw [hs]; rfl
      have h3 : (nth l a.toNat != old) = true := by simpa using h2
      have Hs := Lib.hid hs
      have Hsw := Lib.hid hsw
      clear hs hsw
      generalize hx : nth l a.toNat = x at hc h2 h3
      clear hx
      go_enter Try.func90, Try.ntmps90
      go_wp2_with (go_at_call 72; refine (word_at' H _).mono ?_; rintro e w' ⟨rfl, rfl⟩; rw [wordAt_in h1])
      go_ret2
      refine ⟨by rw [Hs.out, wordErr_in h1]; rfl, ?_, Keep.refl _ _⟩
      rw [Hsw.out]; exact H
  · have hs : swapOk l a old = false := by
      unfold swapOk
      by_cases ha : 0 ≤ a
      · rw [decide_eq_false (p := a < l.length) (by omega)]; simp
      · rw [decide_eq_false ha]; simp
    have hsw : wordSwap l a old fresh = l := by unfold wordSwap; rw [hs]; rfl
    have Hs := Lib.hid hs
    have Hsw := Lib.hid hsw
    clear hs hsw
    go_enter Try.func90, Try.ntmps90
    go_wp2_with (go_at_call 72; refine (word_at' H _).mono ?_; rintro e w' ⟨rfl, rfl⟩; rw [wordAt_out h1])
    go_ret2
    exact ⟨by rw [Hs.out, wordErr_out h1]; rfl, by rw [Hsw.out]; exact H, Keep.refl _ _⟩

theorem word_load {w : World} {m b : Nat} {l : List Int} (h : MemRep 134 w m b l) (a : Int) :
    Calls Try.prog 31 #[.pointer (some ⟨m, 0, none⟩), .int .i64 a] w fun e w' =>
      e = .returned (.tuple #[.int .i64 (wordGet l a), .int .i64 (wordErr l a)]) ∧ w = w' := word_load' (WRep.iff.2 h) a
theorem word_store {w : World} {m b : Nat} {l : List Int} (h : MemRep 134 w m b l) (a v : Int) :
    Calls Try.prog 27 #[.pointer (some ⟨m, 0, none⟩), .int .i64 a, .int .i64 v] w fun e w' =>
      e = .returned (.int .i64 (wordErr l a)) ∧ MemRep 134 w' m b (wordPut l a v) ∧ Keep [b] w w' :=
  (word_store' (WRep.iff.2 h) a v).mono fun _ _ ⟨h1, h2, h3⟩ => ⟨h1, WRep.iff.1 h2, h3⟩
theorem word_add {w : World} {m b : Nat} {l : List Int} (h : MemRep 134 w m b l) (a d : Int) :
    Calls Try.prog 89 #[.pointer (some ⟨m, 0, none⟩), .int .i64 a, .int .i64 d] w fun e w' =>
      e = .returned (.tuple #[.int .i64 (wordGet l a), .int .i64 (wordErr l a)]) ∧ MemRep 134 w' m b (wordPut l a (wordSum l a d)) ∧ Keep [b] w w' :=
  (word_add' (WRep.iff.2 h) a d).mono fun _ _ ⟨h1, h2, h3⟩ => ⟨h1, WRep.iff.1 h2, h3⟩
theorem word_swap {w : World} {m b : Nat} {l : List Int} (h : MemRep 134 w m b l) (a old fresh : Int) :
    Calls Try.prog 90 #[.pointer (some ⟨m, 0, none⟩), .int .i64 a, .int .i64 old, .int .i64 fresh] w fun e w' =>
      e = .returned (.tuple #[.bool (swapOk l a old), .int .i64 (wordErr l a)]) ∧ MemRep 134 w' m b (wordSwap l a old fresh) ∧ Keep [b] w w' :=
  (word_swap' (WRep.iff.2 h) a old fresh).mono fun _ _ ⟨h1, h2, h3⟩ => ⟨h1, WRep.iff.1 h2, h3⟩

theorem clone64_info : (Try.prog.info? 2).map (fun i => (i.zero, i.size, i.bytes)) = some (some (.int .i64 0), 1, 8) := by kernel_rfl
/-- slices.Clone at []int64: a nil slice stays nil. -/
theorem clone64_nil (w : World) (n c : Nat) : Calls Try.prog 76 #[.slice none n c] w fun e w' => e = .returned (.slice none 0 0) ∧ w = w' := by
  have hnil := Lib.run_eql_slice_nil (P := Try.prog) w 37 2 none n c 0 0 Try.underlying37
  go_enter Try.func76, Try.ntmps76
  go_wp2
  go_ret
  exact ⟨rfl, rfl⟩
/-- slices.Clone at []int64: the same cells in new memory. -/
theorem clone64_some {w : World} (b o n c : Nat) (xs : List Value) (hx : xs.length = n * 1) (h1 : ∀ u ∈ xs, u.oneCell' = true)
    (hc : ∀ j u, xs[j]? = some u → w.cell? ((⟨b, o, none⟩ : Addr).add j) = some u) (hm : n * 8 ≤ 140737488355328) :
    Calls Try.prog 76 #[.slice (some ⟨b, o, none⟩) n c] w fun e w' =>
      ∃ g cap, e = .returned (.slice (some ⟨g, 0, none⟩) n cap) ∧ OwnRow w' g 2 xs ∧ w.heap.size ≤ g ∧ n ≤ cap ∧ Keep [] w w' := by
  obtain ⟨i, hi, hz0, hz1, hz2⟩ := info_parts clone64_info
  have hnil := Lib.run_eql_slice_nil (P := Try.prog) w 37 2 (some ⟨b, o, none⟩) n c 0 0 Try.underlying37
  have hblt : ∀ j u, xs[j]? = some u → (w.alloc (.cells #[] 2)).cell? ((⟨b, o, none⟩ : Addr).add j) = some u := by
    intro j u hu
    have h2 := hc j u hu
    have h3 := World.block_lt_of_cell? w _ h2
    rw [World.cell?_of_block (w := w) (Below.heap_alloc _ _ _ h3)]
    exact h2
  have hown : (w.alloc (.cells #[] 2)).ownsRow w.heap.size 2 1 (.slice (some ⟨w.heap.size, 0, none⟩) 0 0) 0 [] :=
    World.ownsRow_made w #[] 0 (Nat.le_refl _) (by simp [maxLen]) (by simp)
  have fin : ∀ v' w', w'.ownsRow w.heap.size 2 1 v' n xs → (w.alloc (.cells #[] 2)).grownBy w' (Value.ownBlock (.slice (some ⟨w.heap.size, 0, none⟩) 0 0)) →
      ¬ v' = Value.slice none 0 0 →
      ∃ g cap, v' = (.slice (some ⟨g, 0, none⟩) n cap) ∧ OwnRow w' g 2 xs ∧ w.heap.size ≤ g ∧ n ≤ cap ∧ Keep [] w w' := by
    intro v' w' h2 h3 h4
    rcases h2.2 with ⟨rfl, h5⟩ | ⟨g, cap, cur, rfl, hb, hg, hnc, hcm, hcs, htake⟩
    · exact absurd rfl h4
    · exact ⟨g, cap, rfl, ⟨cur, hg, by rw [hx]; exact htake⟩, hb, hnc, ((Keep.refl _ _).alloc _).of_grown h3 (fun k hk => .inl (by simp [Value.ownBlock] at hk; omega))⟩
  have Hc := Lib.hid hblt
  have Hx := Lib.hid hx
  have H1 := Lib.hid h1
  have Ho := Lib.hid hown
  have Hf := Lib.hid fin
  clear hblt hx h1 hown hc fin
  go_enter Try.func76, Try.ntmps76
  go_wp2_with (at_builtin; refine wpList_append_own _ rfl _ _ 37 rfl w.heap.size 2 i _ 1 8 Try.underlying37 hi hz0 hz1 hz2 rfl (by omega) _ 0 [] rfl Ho.out ⟨b, o, none⟩ n c xs rfl Hx.out Hc.out H1.out (by unfold maxLen; omega) (by omega) (by simp) ?_)
  intro v' w' h2 h3 h4
  have hf := Lib.hid (Hf.out v' w' h2 h3 h4)
  clear h2 h3 h4
  go_wp2
  go_ret
  obtain ⟨g, cap, rfl, h5⟩ := hf.out
  exact ⟨g, cap, rfl, h5⟩

theorem MemRep.src {T : TypeId} {w : World} {m b : Nat} {l : List Int} (h : MemRep T w m b l) : ∀ j u, (l.map (Value.int .i64))[j]? = some u → w.cell? ((⟨b, 0, none⟩ : Addr).add j) = some u := by
  intro j u hu
  rw [Addr.add_lit, Nat.zero_add]
  exact cell_of h.body (by simpa using hu)
/-- Words: all words, in new memory. -/
theorem word_words {w : World} {m b : Nat} {l : List Int} (h : MemRep 134 w m b l) :
    Calls Try.prog 36 #[.pointer (some ⟨m, 0, none⟩)] w fun e w' =>
      ∃ g cap, e = .returned (.slice (some ⟨g, 0, none⟩) l.length cap) ∧ OwnRow w' g 2 (l.map (Value.int .i64)) ∧ w.heap.size ≤ g ∧ l.length ≤ cap ∧ Keep [] w w' := by
  have hc := h.cell0
  have hm := h.most
  have H := h
  go_enter Try.func36, Try.ntmps36
  go_wp2_with (go_at_call 76; refine (clone64_some b 0 l.length l.length _ (by simp) (ints_oneCell _ _) H.src (by omega)).mono ?_)
  rintro e w' ⟨g, cap, rfl, h5⟩
  have H5 := Lib.hid h5
  clear h5
  go_wp2
  go_ret
  exact ⟨g, cap, rfl, H5.out⟩
theorem word_words_nil (w : World) :
    Calls Try.prog 36 #[.pointer none] w fun e w' => e = .returned (.slice none 0 0) ∧ w = w' := by
  go_enter Try.func36, Try.ntmps36
  go_wp2
  go_ret
  exact ⟨rfl, rfl⟩
end Go.Proofs.Ytkmamebaichboaa
