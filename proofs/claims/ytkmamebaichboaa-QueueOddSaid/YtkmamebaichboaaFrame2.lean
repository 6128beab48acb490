/- The contracts of the package frame, on: Load, Store, Add, Swap, Mark, New. No conditions but those stated. -/
import Derived.Test.YtkmamebaichboaaFrame
namespace Go.Proofs.Ytkmamebaichboaa
open Go.ChangeShapes Go.WideShapes Go.ChangeAt Go.RowKit
set_option linter.unusedVariables false
set_option linter.unusedSimpArgs false

theorem again_none {s s' : St} (h : s.again = (none, s')) : s' = s ∧ s.fresh = true ∧ s.off = false ∧ s.pos ≥ s.log.length := by
  unfold St.again at h
  split at h
  · simp at h
  · rename_i ho
    split at h
    · simp at h
    · rename_i hlt
      split at h
      · rename_i hf
        simp at h
        exact ⟨h.symm, hf, by simpa using ho, by omega⟩
      · simp at h

theorem FPost.of {f m b : Nat} {sl sl1 : Value} {w w1 : World} {r : Value} {s' : St} {e : Ending} {w' : World} (h : FPost f m b sl1 w1 r s' e w') (k : Ev [f, b] sl w sl1 w1) : FPost f m b sl w r s' e w' := by
  obtain ⟨sl', h1, h2, h3⟩ := h
  exact ⟨sl', h1, h2, k.trans h3⟩

/-- The memory's words turn. -/
theorem FRep.poke {w w' : World} {f m b : Nat} {sl : Value} {s : St} {l : List Int} (h : FRep w f m b sl s) (hm : MemRep 134 w' m b l) (k : Keep [b] w w') : FRep w' f m b sl { s with mem := l } := by
  obtain ⟨n1, n2, n3, n4⟩ := h.ne
  have := h.keep (S := [b]) (w' := w')
  refine ⟨hm, k.to h.head (by simpa using n2), ⟨h.own.1, ?_⟩, h.le, h.small⟩
  rcases h.own.2 with hn | ⟨g, cap, cur, rfl, hb, hg, rest⟩
  · exact .inl hn
  · exact .inr ⟨g, cap, cur, rfl, hb, k.to hg (by simpa using (n4 g rfl).2.2.1), rest⟩

theorem frame_load {w : World} {f m b : Nat} {sl : Value} {s : St} (h : FRep w f m b sl s) (a : Int) :
    Calls Try.prog 43 #[.pointer (some ⟨f, 0, none⟩), .int .i64 a] w (FPost f m b sl w (.int .i64 (s.load a).1) (s.load a).2) := by
  have H := Lib.hid h
  clear h
  rcases ha : s.again with ⟨o, s'⟩
  cases o with
  | some v =>
    have hl : s.load a = (v, s') := by simp [St.load, ha]
    have Ha := Lib.hid ha
    have Hl := Lib.hid hl
    clear ha hl
    go_enter Try.func43, Try.ntmps43
    go_wp2_with fail
    refine (frame_again H.out).mono ?_
    rintro e w1 ⟨rfl, h1, k1⟩
    rw [Ha.out] at h1 ⊢
    have H1 := Lib.hid h1
    have K1 := Lib.hid k1
    clear h1 k1
    go_wp2_with fail
    go_ret
    rw [Hl.out]
    exact ⟨_, rfl, H1.out, Ev.ofKeep K1.out (by simp)⟩
  | none =>
    obtain ⟨rfl, hf, hoff, hpos⟩ := again_none ha
    have hl : s'.load a = (wordGet s'.mem a, s'.note (wordGet s'.mem a)) := by simp [St.load, ha]
    have Ha := Lib.hid ha
    have Hl := Lib.hid hl
    have Hf := Lib.hid hf
    clear ha hl hf hoff hpos
    go_enter Try.func43, Try.ntmps43
    go_wp2_with fail
    refine (frame_again H.out).mono ?_
    rintro e w1 ⟨rfl, h1, k1⟩
    rw [Ha.out] at h1 ⊢
    have c0 := h1.c0
    have H1 := Lib.hid h1
    have K1 := Lib.hid k1
    clear h1 k1
    go_wp2_with fail
    refine (word_load H1.out.mem a).mono ?_
    rintro e w2 ⟨rfl, rfl⟩
    go_wp2_with fail
    refine (frame_note H1.out Hf.out _).mono ?_
    rintro e w3 h3
    have h4 := h3.of (Ev.ofKeep K1.out (by simp))
    obtain ⟨sl', rfl, h5, h6⟩ := h4
    have H5 := Lib.hid h5
    have H6 := Lib.hid h6
    clear h3 h5 h6
    go_wp2_with fail
    go_ret
    rw [Hl.out]
    exact ⟨sl', rfl, H5.out, H6.out⟩

theorem frame_store {w : World} {f m b : Nat} {sl : Value} {s : St} (h : FRep w f m b sl s) (a v : Int) :
    Calls Try.prog 46 #[.pointer (some ⟨f, 0, none⟩), .int .i64 a, .int .i64 v] w (FPost f m b sl w (.tuple #[]) (s.store a v)) := by
  have H := Lib.hid h
  clear h
  rcases ha : s.again with ⟨o, s'⟩
  cases o with
  | some v' =>
    have hl : s.store a v = s' := by simp [St.store, ha]
    have Ha := Lib.hid ha
    have Hl := Lib.hid hl
    clear ha hl
    go_enter Try.func46, Try.ntmps46
    go_wp2_with fail
    refine (frame_again H.out).mono ?_
    rintro e w1 ⟨rfl, h1, k1⟩
    rw [Ha.out] at h1 ⊢
    have H1 := Lib.hid h1
    have K1 := Lib.hid k1
    clear h1 k1
    go_wp2_with fail
    go_end0
    rw [Hl.out]
    exact ⟨_, rfl, H1.out, Ev.ofKeep K1.out (by simp)⟩
  | none =>
    obtain ⟨rfl, hf, hoff, hpos⟩ := again_none ha
    have hl : s'.store a v = { s' with mem := wordPut s'.mem a v }.note 0 := by simp [St.store, ha]
    have Ha := Lib.hid ha
    have Hl := Lib.hid hl
    have Hf := Lib.hid hf
    clear ha hl hf hoff hpos
    go_enter Try.func46, Try.ntmps46
    go_wp2_with fail
    refine (frame_again H.out).mono ?_
    rintro e w1 ⟨rfl, h1, k1⟩
    rw [Ha.out] at h1 ⊢
    have c0 := h1.c0
    have H1 := Lib.hid h1
    have K1 := Lib.hid k1
    clear h1 k1
    go_wp2_with fail
    refine (word_store H1.out.mem a v).mono ?_
    rintro e w2 ⟨rfl, hm2, k2⟩
    have H2 := Lib.hid (H1.out.poke hm2 k2)
    have K2 := Lib.hid ((Ev.ofKeep (X := [f, b]) (sl := sl) K1.out (by simp)).trans (Ev.ofKeep k2 (by simp)))
    clear hm2 k2
    go_wp2_with fail
    refine (frame_note H2.out Hf.out _).mono ?_
    rintro e w3 h3
    have h4 := h3.of K2.out
    obtain ⟨sl', rfl, h5, h6⟩ := h4
    have H5 := Lib.hid h5
    have H6 := Lib.hid h6
    clear h3 h5 h6
    go_wp2_with fail
    go_end0
    rw [Hl.out]
    exact ⟨sl', rfl, H5.out, H6.out⟩

theorem frame_add {w : World} {f m b : Nat} {sl : Value} {s : St} (h : FRep w f m b sl s) (a d : Int) :
    Calls Try.prog 44 #[.pointer (some ⟨f, 0, none⟩), .int .i64 a, .int .i64 d] w (FPost f m b sl w (.int .i64 (s.add a d).1) (s.add a d).2) := by
  have H := Lib.hid h
  clear h
  rcases ha : s.again with ⟨o, s'⟩
  cases o with
  | some v =>
    have hl : s.add a d = (v, s') := by simp [St.add, ha]
    have Ha := Lib.hid ha
    have Hl := Lib.hid hl
    clear ha hl
    go_enter Try.func44, Try.ntmps44
    go_wp2_with fail
    refine (frame_again H.out).mono ?_
    rintro e w1 ⟨rfl, h1, k1⟩
    rw [Ha.out] at h1 ⊢
    have H1 := Lib.hid h1
    have K1 := Lib.hid k1
    clear h1 k1
    go_wp2_with fail
    go_ret
    rw [Hl.out]
    exact ⟨_, rfl, H1.out, Ev.ofKeep K1.out (by simp)⟩
  | none =>
    obtain ⟨rfl, hf, hoff, hpos⟩ := again_none ha
    have hl : s'.add a d = (wordGet s'.mem a, { s' with mem := wordPut s'.mem a (wordSum s'.mem a d) }.note (wordGet s'.mem a)) := by simp [St.add, ha]
    have Ha := Lib.hid ha
    have Hl := Lib.hid hl
    have Hf := Lib.hid hf
    clear ha hl hf hoff hpos
    go_enter Try.func44, Try.ntmps44
    go_wp2_with fail
    refine (frame_again H.out).mono ?_
    rintro e w1 ⟨rfl, h1, k1⟩
    rw [Ha.out] at h1 ⊢
    have c0 := h1.c0
    have H1 := Lib.hid h1
    have K1 := Lib.hid k1
    clear h1 k1
    go_wp2_with fail
    refine (word_add H1.out.mem a d).mono ?_
    rintro e w2 ⟨rfl, hm2, k2⟩
    have H2 := Lib.hid (H1.out.poke hm2 k2)
    have K2 := Lib.hid ((Ev.ofKeep (X := [f, b]) (sl := sl) K1.out (by simp)).trans (Ev.ofKeep k2 (by simp)))
    clear hm2 k2
    go_wp2_with fail
    refine (frame_note H2.out Hf.out _).mono ?_
    rintro e w3 h3
    have h4 := h3.of K2.out
    obtain ⟨sl', rfl, h5, h6⟩ := h4
    have H5 := Lib.hid h5
    have H6 := Lib.hid h6
    clear h3 h5 h6
    go_wp2_with fail
    go_ret
    rw [Hl.out]
    exact ⟨sl', rfl, H5.out, H6.out⟩

theorem b2i_eq (x : Bool) : (b2i x == 1) = x := by cases x <;> rfl
theorem frame_swap {w : World} {f m b : Nat} {sl : Value} {s : St} (h : FRep w f m b sl s) (a old fresh : Int) :
    Calls Try.prog 45 #[.pointer (some ⟨f, 0, none⟩), .int .i64 a, .int .i64 old, .int .i64 fresh] w (FPost f m b sl w (.bool (s.swap a old fresh).1) (s.swap a old fresh).2) := by
  have H := Lib.hid h
  clear h
  rcases ha : s.again with ⟨o, s'⟩
  cases o with
  | some v =>
    have hl : s.swap a old fresh = (v == 1, s') := by simp [St.swap, ha]
    have Ha := Lib.hid ha
    have Hl := Lib.hid hl
    clear ha hl
    go_enter Try.func45, Try.ntmps45
    go_wp2_with fail
    refine (frame_again H.out).mono ?_
    rintro e w1 ⟨rfl, h1, k1⟩
    rw [Ha.out] at h1 ⊢
    have H1 := Lib.hid h1
    have K1 := Lib.hid k1
    clear h1 k1
    go_wp2_with fail
    go_ret
    rw [Hl.out]
    exact ⟨_, rfl, H1.out, Ev.ofKeep K1.out (by simp)⟩
  | none =>
    obtain ⟨rfl, hf, hoff, hpos⟩ := again_none ha
    have hl : s'.swap a old fresh = (swapOk s'.mem a old, { s' with mem := wordSwap s'.mem a old fresh }.note (b2i (swapOk s'.mem a old))) := by simp [St.swap, ha]
    have Ha := Lib.hid ha
    have Hl := Lib.hid hl
    have Hf := Lib.hid hf
    clear ha hl hf hoff hpos
    go_enter Try.func45, Try.ntmps45
    go_wp2_with fail
    refine (frame_again H.out).mono ?_
    rintro e w1 ⟨rfl, h1, k1⟩
    rw [Ha.out] at h1 ⊢
    have c0 := h1.c0
    have H1 := Lib.hid h1
    have K1 := Lib.hid k1
    clear h1 k1
    go_wp2_with fail
    refine (word_swap H1.out.mem a old fresh).mono ?_
    rintro e w2 ⟨rfl, hm2, k2⟩
    have H2 := Lib.hid (H1.out.poke hm2 k2)
    have K2 := Lib.hid ((Ev.ofKeep (X := [f, b]) (sl := sl) K1.out (by simp)).trans (Ev.ofKeep k2 (by simp)))
    clear hm2 k2
    cases hok : swapOk s'.mem a old with
    | true =>
      have Hok := Lib.hid hok
      clear hok
      go_wp2_with fail
      refine (frame_note H2.out Hf.out _).mono ?_
      rintro e w3 h3
      have h4 := h3.of K2.out
      obtain ⟨sl', rfl, h5, h6⟩ := h4
      have H5 := Lib.hid h5
      have H6 := Lib.hid h6
      clear h3 h5 h6
      go_wp2_with fail
      go_ret
      rw [Hl.out]
      exact ⟨sl', by rw [Hok.out]; rfl, by rw [Hok.out]; exact H5.out, H6.out⟩
    | false =>
      have Hok := Lib.hid hok
      clear hok
      go_wp2_with fail
      refine (frame_note H2.out Hf.out _).mono ?_
      rintro e w3 h3
      have h4 := h3.of K2.out
      obtain ⟨sl', rfl, h5, h6⟩ := h4
      have H5 := Lib.hid h5
      have H6 := Lib.hid h6
      clear h3 h5 h6
      go_wp2_with fail
      go_ret
      rw [Hl.out]
      exact ⟨sl', by rw [Hok.out]; rfl, by rw [Hok.out]; exact H5.out, H6.out⟩

/-- A new frame: off, nothing done. -/
def St.new (l : List Int) : St := ⟨[], 0, false, true, 0, 0, false, false, l⟩
theorem frame_new {w : World} {m b : Nat} {l : List Int} (h : MemRep 134 w m b l) :
    Calls Try.prog 28 #[.pointer (some ⟨m, 0, none⟩)] w fun e w' => e = .returned (.pointer (some ⟨w.heap.size, 0, none⟩)) ∧ FRep w' w.heap.size m b (.slice none 0 0) (St.new l) ∧ Keep [] w w' ∧ w'.heap.size = w.heap.size + 1 := by
  have H := Lib.hid h
  clear h
  go_enter Try.func28, Try.ntmps28
  go_wp2
  go_ret
  refine ⟨rfl, ⟨H.out.keep ((Keep.refl [] _).alloc _) (by simp) (by simp), heap_alloc_new w _, ⟨rfl, .inl ⟨rfl, rfl⟩⟩, Nat.le_refl _, by simp [St.new]⟩, (Keep.refl [] _).alloc _, by simp⟩
end Go.Proofs.Ytkmamebaichboaa
