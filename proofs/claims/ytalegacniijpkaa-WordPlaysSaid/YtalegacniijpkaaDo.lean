/- septumlaw01.do: one access of both memories. No conditions but those stated. -/
import Derived.Test.YtalegacniijpkaaRef
import Derived.Deep.RegionHeld3
namespace Go.Proofs.Ytalegacniijpkaa
open Go.ChangeShapes Go.WideShapes Go.ChangeAt Go.RowKit
set_option linter.unusedVariables false
set_option linter.unusedSimpArgs false

/-- The words behind an access. -/
def doMem (k a v x : Int) (l : List Int) : List Int := if k = 0 then l else if k = 1 then wordPut l a v else if k = 2 then wordPut l a (wordSum l a v) else wordSwap l a v x
/-- What do leaves: true, if both were alike; both words are as told. -/
def DoPost (k a v x : Int) (p : Option Addr) (bm r br : Nat) (l lr : List Int) (w : World) (e : Ending) (w' : World) : Prop :=
  ∃ t, e = .returned (.bool t) ∧ (l = lr → t = true) ∧ WRep w' p bm (doMem k a v x l) ∧ RefRep w' r br (doMem k a v x lr) ∧ Keep [bm, br] w w'
theorem WRep.keep {w w' : World} {p : Option Addr} {b : Nat} {l : List Int} {S : List Nat} (h : WRep w p b l) (k : Keep S w w') (h1 : ∀ m, p = some ⟨m, 0, none⟩ → m ∉ S) (h2 : b ∉ S) : WRep w' p b l := by
  rcases h with ⟨m, rfl, h⟩ | ⟨rfl, rfl⟩
  · exact .inl ⟨m, rfl, h.keep k (h1 m rfl) h2⟩
  · exact .inr ⟨rfl, rfl⟩


/-- What the walk needs of the two memories, and hands on. -/
structure Both (w : World) (p : Option Addr) (bm r br : Nat) (l lr : List Int) : Prop where
  mem : WRep w p bm l
  ref : RefRep w r br lr
  n1 : bm ≠ r
  n2 : bm ≠ br
  n3 : ∀ m, p = some ⟨m, 0, none⟩ → m ≠ br ∧ m ≠ bm ∧ m < w.heap.size
  s1 : bm < w.heap.size
  s2 : br < w.heap.size
  s3 : r < w.heap.size
theorem RefRep.lt {w : World} {m b : Nat} {l : List Int} (h : RefRep w m b l) : m < w.heap.size := by
  rcases h with h | ⟨h, _, _⟩
  · exact lt_of_block h.head
  · exact lt_of_block h
theorem Both.same {w w' : World} {p : Option Addr} {bm r br : Nat} {l lr : List Int} (h : Both w p bm r br l lr) (k : Keep [] w w') : Both w' p bm r br l lr :=
  ⟨h.mem.keep k (fun _ _ => by simp) (by simp), h.ref.keep k (by simp) (by simp), h.n1, h.n2, fun m hm => ⟨(h.n3 m hm).1, (h.n3 m hm).2.1, k.lt (h.n3 m hm).2.2⟩, k.lt h.s1, k.lt h.s2, k.lt h.s3⟩
theorem Both.left {w w' : World} {p : Option Addr} {bm r br : Nat} {l lr l' : List Int} (h : Both w p bm r br l lr) (hm : WRep w' p bm l') (k : Keep [bm] w w') : Both w' p bm r br l' lr :=
  ⟨hm, h.ref.keep k (by simpa using h.n1.symm) (by simpa using h.n2.symm), h.n1, h.n2, fun m hm => ⟨(h.n3 m hm).1, (h.n3 m hm).2.1, k.lt (h.n3 m hm).2.2⟩, k.lt h.s1, k.lt h.s2, k.lt h.s3⟩
theorem Both.right {w w' : World} {p : Option Addr} {bm r br : Nat} {l lr l' : List Int} (h : Both w p bm r br l lr) (hr : RefRep w' r br l') (k : Keep [br] w w') : Both w' p bm r br l l' :=
  ⟨h.mem.keep k (fun m hm => by simpa using (h.n3 m hm).1) (by simpa using h.n2), hr, h.n1, h.n2, fun m hm => ⟨(h.n3 m hm).1, (h.n3 m hm).2.1, k.lt (h.n3 m hm).2.2⟩, k.lt h.s1, k.lt h.s2, k.lt h.s3⟩

theorem do_load {w : World} {p : Option Addr} {bm r br : Nat} {l lr : List Int} (h : Both w p bm r br l lr) (a v x : Int) :
    Calls Try.prog 28 #[.pointer p, .pointer (some ⟨r, 0, none⟩), .agg #[.int .u8 0, .int .i64 a, .int .i64 v, .int .i64 x]] w (DoPost 0 a v x p bm r br l lr w) := by
  have H := Lib.hid h
  clear h
  have H1 : Hid (∀ w1, Keep [] w w1 → Both w1 p bm r br l lr) := Lib.hid (fun w1 k => H.out.same k)
  have K1 : Hid (Keep [] w (w.alloc (.cells #[.int .u8 0, .int .i64 a, .int .i64 v, .int .i64 x] 51))) := Lib.hid ((Keep.refl _ _).alloc _)
  have hst : ∀ t, (l = lr → t = true) → DoPost 0 a v x p bm r br l lr w (.returned (.bool t)) (w.alloc (.cells #[.int .u8 0, .int .i64 a, .int .i64 v, .int .i64 x] 51)) := by
    intro t ht
    have := H1.out _ K1.out
    exact ⟨t, rfl, ht, by simpa [doMem] using this.mem, by simpa [doMem] using this.ref, K1.out.mono (by simp)⟩
  have Hst := Lib.hid hst
  clear hst
  by_cases h1 : wordGet l a = wordGet lr a
  · by_cases h2 : wordErr l a = wordErr lr a
    · have hd1 : (wordGet l a == wordGet lr a) = true := by simp [h1]
      have hd2 : (wordErr l a == wordErr lr a) = true := by simp [h2]
      clear h1 h2
      go_enter Try.func28, Try.ntmps28
      go_wp2_with (first
        | (go_at_call 31; refine (word_load' (H1.out _ K1.out).mem a).mono ?_; rintro e w' ⟨rfl, rfl⟩)
        | (go_at_call 37; refine (ref_load (H1.out _ K1.out).ref a).mono ?_; rintro e w' ⟨rfl, rfl⟩))
      go_ret
      exact Hst.out true (fun _ => rfl)
    · have hd1 : (wordGet l a == wordGet lr a) = true := by simp [h1]
      have hd2 : (wordErr l a == wordErr lr a) = false := by simp [h2]
      have h2' := Lib.hid h2
      clear h1 h2
      go_enter Try.func28, Try.ntmps28
      go_wp2_with (first
        | (go_at_call 31; refine (word_load' (H1.out _ K1.out).mem a).mono ?_; rintro e w' ⟨rfl, rfl⟩)
        | (go_at_call 37; refine (ref_load (H1.out _ K1.out).ref a).mono ?_; rintro e w' ⟨rfl, rfl⟩))
      go_ret
      exact Hst.out false (fun e => absurd (by rw [e]) h2'.out)
  · have hd1 : (wordGet l a == wordGet lr a) = false := by simp [h1]
    have h1' := Lib.hid h1
    clear h1
    go_enter Try.func28, Try.ntmps28
    go_wp2_with (first
      | (go_at_call 31; refine (word_load' (H1.out _ K1.out).mem a).mono ?_; rintro e w' ⟨rfl, rfl⟩)
      | (go_at_call 37; refine (ref_load (H1.out _ K1.out).ref a).mono ?_; rintro e w' ⟨rfl, rfl⟩))
    go_ret
    exact Hst.out false (fun e => absurd (by rw [e]) h1'.out)

theorem do_store {w : World} {p : Option Addr} {bm r br : Nat} {l lr : List Int} (h : Both w p bm r br l lr) (a v x : Int) :
    Calls Try.prog 28 #[.pointer p, .pointer (some ⟨r, 0, none⟩), .agg #[.int .u8 1, .int .i64 a, .int .i64 v, .int .i64 x]] w (DoPost 1 a v x p bm r br l lr w) := by
  have H := Lib.hid h
  have n1 : bm < w.heap.size := h.s1
  have n2 : br < w.heap.size := h.s2
  clear h
  have H1 : Hid (∀ w1, Keep [] w w1 → Both w1 p bm r br l lr) := Lib.hid (fun w1 k => H.out.same k)
  have K1 : Hid (Keep [] w (w.alloc (.cells #[.int .u8 1, .int .i64 a, .int .i64 v, .int .i64 x] 51))) := Lib.hid ((Keep.refl _ _).alloc _)
  go_enter Try.func28, Try.ntmps28
  go_wp2_with fail
  go_region_held3 (fun w' => w'.cell? ⟨w.heap.size, 1, none⟩ = some (.int .i64 a) ∧ w'.cell? ⟨w.heap.size, 2, none⟩ = some (.int .i64 v))
    (first | go_keep | (go_split_ands; exact ⟨by rw [World.cell?_of_block (kb.block _ (by first | assumption | simp) (by simp; omega))]; assumption, by rw [World.cell?_of_block (kb.block _ (by first | assumption | simp) (by simp; omega))]; assumption⟩))
    (first
      | (go_at_call 30; refine (word_store' (H1.out _ K1.out.drew).mem a v).mono ?_; rintro e w2 ⟨rfl, hm2, kb⟩; have k2 := Lib.hid kb; have hz2 : w.heap.size < w2.heap.size := by have := kb.size; simp at this; omega)
      | (go_at_call 38; refine (ref_store (((H1.out _ K1.out.drew).left hm2 ‹_›).ref) a v).mono ?_; rintro e w3 ⟨rfl, hr3, kb⟩; have k3 := Lib.hid kb))
  go_wp2_with fail
  go_ret
  have B2 := (H1.out _ K1.out.drew).left hm2 k2.out
  have B3 := B2.right hr3 k3.out
  refine ⟨_, rfl, fun e => by rw [e]; simp, ?_, ?_, ?_⟩
  · simpa [doMem] using B3.mem
  · simpa [doMem] using B3.ref
  · exact ((K1.out.drew).transS k2.out (T := [bm]) (by simp) (by simp)).transS k3.out (by simp) (by simp)

theorem do_add {w : World} {p : Option Addr} {bm r br : Nat} {l lr : List Int} (h : Both w p bm r br l lr) (a v x : Int) :
    Calls Try.prog 28 #[.pointer p, .pointer (some ⟨r, 0, none⟩), .agg #[.int .u8 2, .int .i64 a, .int .i64 v, .int .i64 x]] w (DoPost 2 a v x p bm r br l lr w) := by
  have H := Lib.hid h
  have n1 : bm < w.heap.size := h.s1
  have n2 : br < w.heap.size := h.s2
  clear h
  have H1 : Hid (∀ w1, Keep [] w w1 → Both w1 p bm r br l lr) := Lib.hid (fun w1 k => H.out.same k)
  have K1 : Hid (Keep [] w (w.alloc (.cells #[.int .u8 2, .int .i64 a, .int .i64 v, .int .i64 x] 51))) := Lib.hid ((Keep.refl _ _).alloc _)
  have fin : ∀ t w2 w3, (l = lr → t = true) → WRep w2 p bm (wordPut l a (wordSum l a v)) → Keep [bm] (w.alloc (.cells #[.int .u8 2, .int .i64 a, .int .i64 v, .int .i64 x] 51)) w2 →
      RefRep w3 r br (wordPut lr a (wordSum lr a v)) → Keep [br] w2 w3 → DoPost 2 a v x p bm r br l lr w (.returned (.bool t)) w3 := by
    intro t w2 w3 ht hm2 k2 hr3 k3
    have B2 := (H1.out _ K1.out).left hm2 k2
    have B3 := B2.right hr3 k3
    refine ⟨_, rfl, ht, ?_, ?_, ?_⟩
    · simpa [doMem] using B3.mem
    · simpa [doMem] using B3.ref
    · exact ((K1.out).transS k2 (T := [bm]) (by simp) (by simp)).transS k3 (by simp) (by simp)
  have Fin := Lib.hid fin
  clear fin
  have cases3 : ((wordGet l a == wordGet lr a) = false ∧ l ≠ lr) ∨ ((wordGet l a == wordGet lr a) = true ∧ (wordErr l a == wordErr lr a) = false ∧ l ≠ lr) ∨ ((wordGet l a == wordGet lr a) = true ∧ (wordErr l a == wordErr lr a) = true) := by
    by_cases h1 : wordGet l a = wordGet lr a
    · by_cases h2 : wordErr l a = wordErr lr a
      · exact .inr (.inr ⟨by simp [h1], by simp [h2]⟩)
      · exact .inr (.inl ⟨by simp [h1], by simp [h2], fun e => h2 (by rw [e])⟩)
    · exact .inl ⟨by simp [h1], fun e => h1 (by rw [e])⟩
  rcases cases3 with ⟨hd1, hne⟩ | ⟨hd1, hd2, hne⟩ | ⟨hd1, hd2⟩
  · have Hne := Lib.hid hne
    clear hne
    go_enter Try.func28, Try.ntmps28
    go_wp2_with fail
    refine (word_add' (H1.out _ K1.out).mem a v).mono ?_
    rintro e w2 ⟨rfl, hm2, k2⟩
    have c1 : w2.cell? ⟨w.heap.size, 1, none⟩ = some (.int .i64 a) := by rw [World.cell?_of_block (k2.block _ (by simp) (by simp; omega))]; go_simp
    have c2 : w2.cell? ⟨w.heap.size, 2, none⟩ = some (.int .i64 v) := by rw [World.cell?_of_block (k2.block _ (by simp) (by simp; omega))]; go_simp
    have Hm2 := Lib.hid hm2; have K2 := Lib.hid k2; clear hm2 k2
    go_wp2_with fail
    refine (ref_add ((H1.out _ K1.out).left Hm2.out K2.out).ref a v).mono ?_
    rintro e w3 ⟨rfl, hr3, k3⟩
    have Hr3 := Lib.hid hr3; have K3 := Lib.hid k3; clear hr3 k3
    go_wp2_with fail
    go_ret
    exact Fin.out _ _ _ (fun e => absurd e Hne.out) Hm2.out K2.out Hr3.out K3.out
  · have Hne := Lib.hid hne
    clear hne
    go_enter Try.func28, Try.ntmps28
    go_wp2_with fail
    refine (word_add' (H1.out _ K1.out).mem a v).mono ?_
    rintro e w2 ⟨rfl, hm2, k2⟩
    have c1 : w2.cell? ⟨w.heap.size, 1, none⟩ = some (.int .i64 a) := by rw [World.cell?_of_block (k2.block _ (by simp) (by simp; omega))]; go_simp
    have c2 : w2.cell? ⟨w.heap.size, 2, none⟩ = some (.int .i64 v) := by rw [World.cell?_of_block (k2.block _ (by simp) (by simp; omega))]; go_simp
    have Hm2 := Lib.hid hm2; have K2 := Lib.hid k2; clear hm2 k2
    go_wp2_with fail
    refine (ref_add ((H1.out _ K1.out).left Hm2.out K2.out).ref a v).mono ?_
    rintro e w3 ⟨rfl, hr3, k3⟩
    have Hr3 := Lib.hid hr3; have K3 := Lib.hid k3; clear hr3 k3
    go_wp2_with fail
    go_ret
    exact Fin.out _ _ _ (fun e => absurd e Hne.out) Hm2.out K2.out Hr3.out K3.out
  · go_enter Try.func28, Try.ntmps28
    go_wp2_with fail
    refine (word_add' (H1.out _ K1.out).mem a v).mono ?_
    rintro e w2 ⟨rfl, hm2, k2⟩
    have c1 : w2.cell? ⟨w.heap.size, 1, none⟩ = some (.int .i64 a) := by rw [World.cell?_of_block (k2.block _ (by simp) (by simp; omega))]; go_simp
    have c2 : w2.cell? ⟨w.heap.size, 2, none⟩ = some (.int .i64 v) := by rw [World.cell?_of_block (k2.block _ (by simp) (by simp; omega))]; go_simp
    have Hm2 := Lib.hid hm2; have K2 := Lib.hid k2; clear hm2 k2
    go_wp2_with fail
    refine (ref_add ((H1.out _ K1.out).left Hm2.out K2.out).ref a v).mono ?_
    rintro e w3 ⟨rfl, hr3, k3⟩
    have Hr3 := Lib.hid hr3; have K3 := Lib.hid k3; clear hr3 k3
    go_wp2_with fail
    go_ret
    exact Fin.out _ _ _ (fun _ => rfl) Hm2.out K2.out Hr3.out K3.out
theorem do_swap {w : World} {p : Option Addr} {bm r br : Nat} {l lr : List Int} (h : Both w p bm r br l lr) (k a v x : Int) (k0 : (k == 0) = false) (k1 : (k == 1) = false) (k2' : (k == 2) = false) :
    Calls Try.prog 28 #[.pointer p, .pointer (some ⟨r, 0, none⟩), .agg #[.int .u8 k, .int .i64 a, .int .i64 v, .int .i64 x]] w (DoPost k a v x p bm r br l lr w) := by
  have H := Lib.hid h
  have e0 : ¬ k = 0 := by simpa using k0
  have e1 : ¬ k = 1 := by simpa using k1
  have e2 : ¬ k = 2 := by simpa using k2'
  have n1 : bm < w.heap.size := h.s1
  have n2 : br < w.heap.size := h.s2
  clear h
  have H1 : Hid (∀ w1, Keep [] w w1 → Both w1 p bm r br l lr) := Lib.hid (fun w1 k => H.out.same k)
  have K1 : Hid (Keep [] w (w.alloc (.cells #[.int .u8 k, .int .i64 a, .int .i64 v, .int .i64 x] 51))) := Lib.hid ((Keep.refl _ _).alloc _)
  have fin : ∀ t w2 w3, (l = lr → t = true) → WRep w2 p bm (wordSwap l a v x) → Keep [bm] (w.alloc (.cells #[.int .u8 k, .int .i64 a, .int .i64 v, .int .i64 x] 51)) w2 →
      RefRep w3 r br (wordSwap lr a v x) → Keep [br] w2 w3 → DoPost k a v x p bm r br l lr w (.returned (.bool t)) w3 := by
    intro t w2 w3 ht hm2 k2 hr3 k3
    have B2 := (H1.out _ K1.out).left hm2 k2
    have B3 := B2.right hr3 k3
    refine ⟨_, rfl, ht, ?_, ?_, ?_⟩
    · simpa [doMem, e0, e1, e2] using B3.mem
    · simpa [doMem, e0, e1, e2] using B3.ref
    · exact ((K1.out).transS k2 (T := [bm]) (by simp) (by simp)).transS k3 (by simp) (by simp)
  have Fin := Lib.hid fin
  clear fin e0 e1 e2
  have cases3 : ((swapOk l a v == swapOk lr a v) = false ∧ l ≠ lr) ∨ ((swapOk l a v == swapOk lr a v) = true ∧ (wordErr l a == wordErr lr a) = false ∧ l ≠ lr) ∨ ((swapOk l a v == swapOk lr a v) = true ∧ (wordErr l a == wordErr lr a) = true) := by
    by_cases h1 : swapOk l a v = swapOk lr a v
    · by_cases h2 : wordErr l a = wordErr lr a
      · exact .inr (.inr ⟨by simp [h1], by simp [h2]⟩)
      · exact .inr (.inl ⟨by simp [h1], by simp [h2], fun e => h2 (by rw [e])⟩)
    · exact .inl ⟨by simp [h1], fun e => h1 (by rw [e])⟩
  rcases cases3 with ⟨hd1, hne⟩ | ⟨hd1, hd2, hne⟩ | ⟨hd1, hd2⟩
  · have Hne := Lib.hid hne
    clear hne
    go_enter Try.func28, Try.ntmps28
    go_wp2_with fail
    refine (word_swap' (H1.out _ K1.out).mem a v x).mono ?_
    rintro e w2 ⟨rfl, hm2, k2⟩
    have c1 : w2.cell? ⟨w.heap.size, 1, none⟩ = some (.int .i64 a) := by rw [World.cell?_of_block (k2.block _ (by simp) (by simp; omega))]; go_simp
    have c2 : w2.cell? ⟨w.heap.size, 2, none⟩ = some (.int .i64 v) := by rw [World.cell?_of_block (k2.block _ (by simp) (by simp; omega))]; go_simp
    have c3 : w2.cell? ⟨w.heap.size, 3, none⟩ = some (.int .i64 x) := by rw [World.cell?_of_block (k2.block _ (by simp) (by simp; omega))]; go_simp
    have Hm2 := Lib.hid hm2; have K2 := Lib.hid k2; clear hm2 k2
    go_wp2_with fail
    refine (ref_swap ((H1.out _ K1.out).left Hm2.out K2.out).ref a v x).mono ?_
    rintro e w3 ⟨rfl, hr3, k3⟩
    have Hr3 := Lib.hid hr3; have K3 := Lib.hid k3; clear hr3 k3
    go_wp2_with fail
    go_ret
    exact Fin.out _ _ _ (fun e => absurd e Hne.out) Hm2.out K2.out Hr3.out K3.out
  · have Hne := Lib.hid hne
    clear hne
    go_enter Try.func28, Try.ntmps28
    go_wp2_with fail
    refine (word_swap' (H1.out _ K1.out).mem a v x).mono ?_
    rintro e w2 ⟨rfl, hm2, k2⟩
    have c1 : w2.cell? ⟨w.heap.size, 1, none⟩ = some (.int .i64 a) := by rw [World.cell?_of_block (k2.block _ (by simp) (by simp; omega))]; go_simp
    have c2 : w2.cell? ⟨w.heap.size, 2, none⟩ = some (.int .i64 v) := by rw [World.cell?_of_block (k2.block _ (by simp) (by simp; omega))]; go_simp
    have c3 : w2.cell? ⟨w.heap.size, 3, none⟩ = some (.int .i64 x) := by rw [World.cell?_of_block (k2.block _ (by simp) (by simp; omega))]; go_simp
    have Hm2 := Lib.hid hm2; have K2 := Lib.hid k2; clear hm2 k2
    go_wp2_with fail
    refine (ref_swap ((H1.out _ K1.out).left Hm2.out K2.out).ref a v x).mono ?_
    rintro e w3 ⟨rfl, hr3, k3⟩
    have Hr3 := Lib.hid hr3; have K3 := Lib.hid k3; clear hr3 k3
    go_wp2_with fail
    go_ret
    exact Fin.out _ _ _ (fun e => absurd e Hne.out) Hm2.out K2.out Hr3.out K3.out
  · go_enter Try.func28, Try.ntmps28
    go_wp2_with fail
    refine (word_swap' (H1.out _ K1.out).mem a v x).mono ?_
    rintro e w2 ⟨rfl, hm2, k2⟩
    have c1 : w2.cell? ⟨w.heap.size, 1, none⟩ = some (.int .i64 a) := by rw [World.cell?_of_block (k2.block _ (by simp) (by simp; omega))]; go_simp
    have c2 : w2.cell? ⟨w.heap.size, 2, none⟩ = some (.int .i64 v) := by rw [World.cell?_of_block (k2.block _ (by simp) (by simp; omega))]; go_simp
    have c3 : w2.cell? ⟨w.heap.size, 3, none⟩ = some (.int .i64 x) := by rw [World.cell?_of_block (k2.block _ (by simp) (by simp; omega))]; go_simp
    have Hm2 := Lib.hid hm2; have K2 := Lib.hid k2; clear hm2 k2
    go_wp2_with fail
    refine (ref_swap ((H1.out _ K1.out).left Hm2.out K2.out).ref a v x).mono ?_
    rintro e w3 ⟨rfl, hr3, k3⟩
    have Hr3 := Lib.hid hr3; have K3 := Lib.hid k3; clear hr3 k3
    go_wp2_with fail
    go_ret
    exact Fin.out _ _ _ (fun _ => rfl) Hm2.out K2.out Hr3.out K3.out

theorem do_any {w : World} {p : Option Addr} {bm r br : Nat} {l lr : List Int} (h : Both w p bm r br l lr) (k a v x : Int) :
    Calls Try.prog 28 #[.pointer p, .pointer (some ⟨r, 0, none⟩), .agg #[.int .u8 k, .int .i64 a, .int .i64 v, .int .i64 x]] w (DoPost k a v x p bm r br l lr w) := by
  by_cases k0 : k = 0
  · subst k0; exact do_load h a v x
  · by_cases k1 : k = 1
    · subst k1; exact do_store h a v x
    · by_cases k2 : k = 2
      · subst k2; exact do_add h a v x
      · exact do_swap h k a v x (by simpa using k0) (by simpa using k1) (by simpa using k2)
end Go.Proofs.Ytalegacniijpkaa
