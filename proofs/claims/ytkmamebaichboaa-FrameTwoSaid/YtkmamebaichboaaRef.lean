/- The contracts of septumref01's words: New, has, Load, Store, Add, Swap, Words. No conditions but those stated. -/
import Derived.Test.YtkmamebaichboaaWord
namespace Go.Proofs.Ytkmamebaichboaa
open Go.ChangeShapes Go.WideShapes Go.ChangeAt Go.RowKit
set_option linter.unusedVariables false
set_option linter.unusedSimpArgs false

/-- A reference's memory at block m whose words l lie in block b; or an empty one, whose list is nil (b is then m). -/
def RefRep (w : World) (m b : Nat) (l : List Int) : Prop :=
  MemRep 80 w m b l ∨ (w.heap[m]? = some (.cells #[.slice none 0 0] 80 (0, 0)) ∧ l = [] ∧ b = m)
theorem RefRep.keep {w w' : World} {m b : Nat} {l : List Int} {S : List Nat} (h : RefRep w m b l) (k : Keep S w w') (h1 : m ∉ S) (h2 : b ∉ S) : RefRep w' m b l := by
  rcases h with h | ⟨h, rfl, rfl⟩
  · exact .inl (h.keep k h1 h2)
  · exact .inr ⟨k.to h h1, rfl, rfl⟩
theorem RefRep.head {w : World} {m b : Nat} {l : List Int} (h : RefRep w m b l) : ∃ ao, w.cell? ⟨m, 0, none⟩ = some (.slice ao l.length l.length) ∧ l.length ≤ 4000 ∧
    ∀ i, i < l.length → ao = some ⟨b, 0, none⟩ ∧ w.cell? ⟨b, i, none⟩ = some (.int .i64 (nth l i)) ∧ w.frozen? ⟨b, i, none⟩ = false := by
  rcases h with h | ⟨h, rfl, rfl⟩
  · exact ⟨_, h.cell0, h.most, fun i hi => ⟨rfl, h.cell i hi, h.free i⟩⟩
  · exact ⟨none, cell_of h (by simp), by simp, fun i hi => absurd hi (by simp)⟩
theorem RefRep.set {w : World} {m b : Nat} {l : List Int} (h : RefRep w m b l) (i : Nat) (hi : i < l.length) (v : Int) : RefRep (w.setCell ⟨b, i, none⟩ (.int .i64 v)) m b (l.set i v) := by
  rcases h with h | ⟨h, rfl, rfl⟩
  · exact .inl (h.set i v)
  · exact absurd hi (by simp)

/-- New: so many words as may be, all 0, in two new blocks. -/
theorem ref_new (n : Int) (w : World) (h : -9223372036854775808 ≤ n ∧ n ≤ 9223372036854775807) :
    Calls Try.prog 41 #[.int .i64 n] w fun e w' => e = .returned (.pointer (some ⟨w.heap.size + 1, 0, none⟩)) ∧
      RefRep w' (w.heap.size + 1) w.heap.size (List.replicate (min (max n 0) 4000).toNat 0) ∧ Keep [] w w' ∧ w'.heap.size = w.heap.size + 2 := by
  obtain ⟨i, hi, hz0, hz1, hz2⟩ := info_parts info64
  generalize hk : (min (max n 0) 4000).toNat = k
  have hk4 : k ≤ 4000 := by omega
  have fin : ∀ w', w' = (w.alloc (.cells (madeCells #[Value.int .i64 0] k) 2)).alloc (.cells #[.slice (some ⟨w.heap.size, 0, none⟩) k k] 80) →
      RefRep w' (w.heap.size + 1) w.heap.size (List.replicate k 0) ∧ Keep [] w w' ∧ w'.heap.size = w.heap.size + 2 := by
    rintro w' rfl
    rw [made_ints]
    refine ⟨.inl ⟨?_, ?_, by simpa using hk4⟩, ((Keep.refl _ _).alloc _).alloc _, by simp⟩
    · simpa using heap_alloc_new (w.alloc (.cells ((List.replicate k (0 : Int)).map (Value.int .i64)).toArray 2)) (.cells #[.slice (some ⟨w.heap.size, 0, none⟩) k k] 80)
    · rw [Below.heap_alloc _ _ _ (by simp)]
      simpa using heap_alloc_new w _
  have Hk := Lib.hid hk
  clear hk
  by_cases h0 : n < 0
  · have hk0 : (0 : Int) = (k : Int) := by have := Hk.out; omega
    have Hk0 := Lib.hid hk0
    clear hk0
    go_enter Try.func41, Try.ntmps41
    go_wp2_with (at_make; refine wpList_make_exact _ rfl _ _ 37 rfl 2 i _ Try.underlying37 hi hz0 _ _ _ _ k rfl rfl Hk0.out Hk0.out (by rw [hz2]; omega) (by omega) ?_)
    go_ret
    exact ⟨rfl, fin _ rfl⟩
  · by_cases h1 : 4000 < n
    · have hk0 : (4000 : Int) = (k : Int) := by have := Hk.out; omega
      have Hk0 := Lib.hid hk0
      clear hk0
      go_enter Try.func41, Try.ntmps41
      go_wp2_with (at_make; refine wpList_make_exact _ rfl _ _ 37 rfl 2 i _ Try.underlying37 hi hz0 _ _ _ _ k rfl rfl Hk0.out Hk0.out (by rw [hz2]; omega) (by omega) ?_)
      go_ret
      exact ⟨rfl, fin _ rfl⟩
    · have hk0 : n = (k : Int) := by have := Hk.out; omega
      have Hk0 := Lib.hid hk0
      clear hk0
      go_enter Try.func41, Try.ntmps41
      go_wp2_with (at_make; refine wpList_make_exact _ rfl _ _ 37 rfl 2 i _ Try.underlying37 hi hz0 _ _ _ _ k rfl rfl Hk0.out Hk0.out (by rw [hz2]; omega) (by omega) ?_)
      go_ret
      exact ⟨rfl, fin _ rfl⟩

def hasB (l : List Int) (a : Int) : Bool := decide (0 ≤ a) && decide (a < l.length)
theorem hasB_in {l : List Int} {a : Int} (h : 0 ≤ a ∧ a < l.length) : hasB l a = true := by unfold hasB; simp [h.1, h.2]
theorem hasB_out {l : List Int} {a : Int} (h : ¬ (0 ≤ a ∧ a < l.length)) : hasB l a = false := by
  unfold hasB
  by_cases ha : 0 ≤ a
  · rw [decide_eq_false (p := a < l.length) (by omega)]; simp
  · rw [decide_eq_false ha]; simp
theorem ref_has {w : World} {m b : Nat} {l : List Int} (h : RefRep w m b l) (a : Int) :
    Calls Try.prog 112 #[.pointer (some ⟨m, 0, none⟩), .int .i64 a] w fun e w' => e = .returned (.bool (hasB l a)) ∧ w = w' := by
  obtain ⟨ao, hc, hm, _⟩ := h.head
  by_cases h0 : 0 ≤ a
  · by_cases h1 : a < l.length
    · go_enter Try.func112, Try.ntmps112
      go_wp2
      go_ret
      exact ⟨by rw [hasB_in ⟨h0, h1⟩]; rfl, rfl⟩
    · go_enter Try.func112, Try.ntmps112
      go_wp2
      go_ret
      exact ⟨by rw [hasB_out (by omega)]; rfl, rfl⟩
  · go_enter Try.func112, Try.ntmps112
    go_wp2
    go_ret
    exact ⟨by rw [hasB_out (by omega)]; rfl, rfl⟩

theorem ref_load {w : World} {m b : Nat} {l : List Int} (h : RefRep w m b l) (a : Int) :
    Calls Try.prog 83 #[.pointer (some ⟨m, 0, none⟩), .int .i64 a] w fun e w' =>
      e = .returned (.tuple #[.int .i64 (wordGet l a), .int .i64 (wordErr l a)]) ∧ w = w' := by
  have H := h
  obtain ⟨ao, hc, hm, hl⟩ := h.head
  have Hl := Lib.hid hl
  clear hl
  by_cases h1 : 0 ≤ a ∧ a < l.length
  · obtain ⟨rfl, hca, hfa⟩ := Hl.out a.toNat (by omega)
    go_enter Try.func83, Try.ntmps83
    go_wp2_with (go_at_call 112; refine (ref_has H _).mono ?_; rintro e w' ⟨rfl, rfl⟩; rw [hasB_in h1])
    go_ret2
    exact ⟨by rw [wordGet_in h1, wordErr_in h1]; rfl, rfl⟩
  · go_enter Try.func83, Try.ntmps83
    go_wp2_with (go_at_call 112; refine (ref_has H _).mono ?_; rintro e w' ⟨rfl, rfl⟩; rw [hasB_out h1])
    go_ret2
    exact ⟨by rw [wordGet_out h1, wordErr_out h1]; rfl, rfl⟩

theorem ref_store {w : World} {m b : Nat} {l : List Int} (h : RefRep w m b l) (a v : Int) :
    Calls Try.prog 84 #[.pointer (some ⟨m, 0, none⟩), .int .i64 a, .int .i64 v] w fun e w' =>
      e = .returned (.int .i64 (wordErr l a)) ∧ RefRep w' m b (wordPut l a v) ∧ Keep [b] w w' := by
  have H := h
  obtain ⟨ao, hc, hm, hl⟩ := h.head
  have Hl := Lib.hid hl
  clear hl
  by_cases h1 : 0 ≤ a ∧ a < l.length
  · obtain ⟨rfl, hca, hfa⟩ := Hl.out a.toNat (by omega)
    go_enter Try.func84, Try.ntmps84
    go_wp2_with (go_at_call 112; refine (ref_has H _).mono ?_; rintro e w' ⟨rfl, rfl⟩; rw [hasB_in h1])
    go_ret
    refine ⟨by rw [wordErr_in h1]; rfl, ?_, ?_⟩
    · rw [wordPut_in h1]; exact H.set _ (by omega) _
    · exact (Keep.refl _ _).setCell (by simp) _
  · go_enter Try.func84, Try.ntmps84
    go_wp2_with (go_at_call 112; refine (ref_has H _).mono ?_; rintro e w' ⟨rfl, rfl⟩; rw [hasB_out h1])
    go_ret
    exact ⟨by rw [wordErr_out h1]; rfl, by rw [wordPut_out h1]; exact H, Keep.refl _ _⟩

theorem ref_add {w : World} {m b : Nat} {l : List Int} (h : RefRep w m b l) (a d : Int) :
    Calls Try.prog 85 #[.pointer (some ⟨m, 0, none⟩), .int .i64 a, .int .i64 d] w fun e w' =>
      e = .returned (.tuple #[.int .i64 (wordGet l a), .int .i64 (wordErr l a)]) ∧ RefRep w' m b (wordPut l a (wordSum l a d)) ∧ Keep [b] w w' := by
  have H := h
  obtain ⟨ao, hc, hm, hl⟩ := h.head
  have Hl := Lib.hid hl
  clear hl
  by_cases h1 : 0 ≤ a ∧ a < l.length
  · obtain ⟨rfl, hca, hfa⟩ := Hl.out a.toNat (by omega)
    go_enter Try.func85, Try.ntmps85
    go_wp2_with (go_at_call 112; refine (ref_has H _).mono ?_; rintro e w' ⟨rfl, rfl⟩; rw [hasB_in h1])
    go_ret2
    refine ⟨by rw [wordGet_in h1, wordErr_in h1]; rfl, ?_, ?_⟩
    · rw [wordPut_in h1]; exact H.set _ (by omega) _
    · exact (Keep.refl _ _).setCell (by simp) _
  · go_enter Try.func85, Try.ntmps85
    go_wp2_with (go_at_call 112; refine (ref_has H _).mono ?_; rintro e w' ⟨rfl, rfl⟩; rw [hasB_out h1])
    go_ret2
    exact ⟨by rw [wordGet_out h1, wordErr_out h1]; rfl, by rw [wordPut_out h1]; exact H, Keep.refl _ _⟩

theorem ref_swap {w : World} {m b : Nat} {l : List Int} (h : RefRep w m b l) (a old fresh : Int) :
    Calls Try.prog 86 #[.pointer (some ⟨m, 0, none⟩), .int .i64 a, .int .i64 old, .int .i64 fresh] w fun e w' =>
      e = .returned (.tuple #[.bool (swapOk l a old), .int .i64 (wordErr l a)]) ∧ RefRep w' m b (wordSwap l a old fresh) ∧ Keep [b] w w' := by
  have H := h
  obtain ⟨ao, hc, hm, hl⟩ := h.head
  have Hl := Lib.hid hl
  clear hl
  by_cases h1 : 0 ≤ a ∧ a < l.length
  · obtain ⟨rfl, hca, hfa⟩ := Hl.out a.toNat (by omega)
    by_cases h2 : nth l a.toNat = old
    · have hs : swapOk l a old = true := by unfold swapOk; rw [decide_eq_true h1.1, decide_eq_true h1.2, decide_eq_true h2]; rfl
      have hsw : wordSwap l a old fresh = l.set a.toNat fresh := by unfold wordSwap; rw [hs]; rfl
      subst h2
      have Hs := Lib.hid hs
      have Hsw := Lib.hid hsw
      clear hs hsw
      go_enter Try.func86, Try.ntmps86
      go_wp2_with (go_at_call 112; refine (ref_has H _).mono ?_; rintro e w' ⟨rfl, rfl⟩; rw [hasB_in h1])
      go_ret2
      refine ⟨by rw [Hs.out, wordErr_in h1]; rfl, ?_, ?_⟩
      · rw [Hsw.out]; exact H.set _ (by omega) _
      · exact (Keep.refl _ _).setCell (by simp) _
    · have hs : swapOk l a old = false := by unfold swapOk; rw [decide_eq_false h2]; simp
      have hsw : wordSwap l a old fresh = l := by unfold wordSwap; rw [hs]; rfl
      have h3 : (nth l a.toNat != old) = true := by simpa using h2
      have Hs := Lib.hid hs
      have Hsw := Lib.hid hsw
      clear hs hsw
      generalize hx : nth l a.toNat = x at hca h2 h3
      clear hx
      go_enter Try.func86, Try.ntmps86
      go_wp2_with (go_at_call 112; refine (ref_has H _).mono ?_; rintro e w' ⟨rfl, rfl⟩; rw [hasB_in h1])
      go_ret2
      refine ⟨by rw [Hs.out, wordErr_in h1]; rfl, ?_, Keep.refl _ _⟩
      rw [Hsw.out]; exact H
  · have hs : swapOk l a old = false := by
      unfold swapOk
      by_cases ha : 0 ≤ a
      · rw [decide_eq_false (p := a < l.length) (by omega)]; simp
      · rw [decide_eq_false ha]; simp
    have hsw : wordSwap l a old fresh = l := by unfold wordSwap; rw [hs]; rfl
    have Hs := Lib.hid hs
    have Hsw := Lib.hid hsw
    clear hs hsw
    go_enter Try.func86, Try.ntmps86
    go_wp2_with (go_at_call 112; refine (ref_has H _).mono ?_; rintro e w' ⟨rfl, rfl⟩; rw [hasB_out h1])
    go_ret2
    exact ⟨by rw [Hs.out, wordErr_out h1]; rfl, by rw [Hsw.out]; exact H, Keep.refl _ _⟩
end Go.Proofs.Ytkmamebaichboaa
