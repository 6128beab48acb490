/- The contracts of the package window. No conditions but those stated. -/
import Derived.Test.YtalegacniijpkaaWinLaw
import Derived.Test.YtalegacniijpkaaArgs
import Derived.Deep.RegionHeld3
import Derived.Deep.RegionLaw
import Derived.BigRegion
namespace Go.Proofs.Ytalegacniijpkaa
open Go.ChangeShapes Go.WideShapes Go.ChangeAt Go.RowKit
set_option linter.unusedVariables false
set_option linter.unusedSimpArgs false

theorem cloneW_info : (Try.prog.info? 41).map (fun i => (i.zero, i.size, i.bytes)) = some (some (.agg #[.int .i64 0, .int .i64 0]), 2, 16) := by kernel_rfl
/-- slices.Clone at []api.Window: a nil slice stays nil. -/
theorem cloneW_nil (w : World) (n c : Nat) : Calls Try.prog 33 #[.slice none n c] w fun e w' => e = .returned (.slice none 0 0) ∧ w = w' := by
  have hnil := Lib.run_eql_slice_nil (P := Try.prog) w 29 41 none n c 0 0 Try.underlying29
  go_enter Try.func33, Try.ntmps33
  go_wp2
  go_ret
  exact ⟨rfl, rfl⟩
/-- slices.Clone at []api.Window: the same cells in new memory. -/
theorem cloneW_some {w : World} (b o n c : Nat) (xs : List Value) (hx : xs.length = n * 2) (h1 : ∀ u ∈ xs, u.oneCell' = true)
    (hc : ∀ j u, xs[j]? = some u → w.cell? ((⟨b, o, none⟩ : Addr).add j) = some u) (hm : n * 16 ≤ 140737488355328) :
    Calls Try.prog 33 #[.slice (some ⟨b, o, none⟩) n c] w fun e w' =>
      ∃ g cap, e = .returned (.slice (some ⟨g, 0, none⟩) n cap) ∧ OwnRow w' g 41 xs ∧ w.heap.size ≤ g ∧ n ≤ cap ∧ Keep [] w w' := by
  obtain ⟨i, hi, hz0, hz1, hz2⟩ := info_parts cloneW_info
  have hnil := Lib.run_eql_slice_nil (P := Try.prog) w 29 41 (some ⟨b, o, none⟩) n c 0 0 Try.underlying29
  have hblt : ∀ j u, xs[j]? = some u → (w.alloc (.cells #[] 41)).cell? ((⟨b, o, none⟩ : Addr).add j) = some u := by
    intro j u hu
    have h2 := hc j u hu
    have h3 := World.block_lt_of_cell? w _ h2
    rw [World.cell?_of_block (w := w) (Below.heap_alloc _ _ _ h3)]
    exact h2
  have hown : (w.alloc (.cells #[] 41)).ownsRow w.heap.size 41 2 (.slice (some ⟨w.heap.size, 0, none⟩) 0 0) 0 [] :=
    World.ownsRow_made w #[] 0 (Nat.le_refl _) (by simp [maxLen]) (by simp)
  have fin : ∀ v' w', w'.ownsRow w.heap.size 41 2 v' n xs → (w.alloc (.cells #[] 41)).grownBy w' (Value.ownBlock (.slice (some ⟨w.heap.size, 0, none⟩) 0 0)) →
      ¬ v' = Value.slice none 0 0 →
      ∃ g cap, v' = (.slice (some ⟨g, 0, none⟩) n cap) ∧ OwnRow w' g 41 xs ∧ w.heap.size ≤ g ∧ n ≤ cap ∧ Keep [] w w' := by
    intro v' w' h2 h3 h4
    rcases h2.2 with ⟨rfl, h5⟩ | ⟨g, cap, cur, rfl, hb, hg, hnc, hcm, hcs, htake⟩
    · exact absurd rfl h4
    · exact ⟨g, cap, rfl, ⟨cur, hg, by rw [hx]; exact htake⟩, hb, hnc, ((Keep.refl _ _).alloc _).of_grown h3 (fun k hk => .inl (by simp [Value.ownBlock] at hk; omega))⟩
  have Hc := Lib.hid hblt
  have Hx := Lib.hid hx
  have H1 := Lib.hid h1
  have Ho := Lib.hid hown
  have Hf := Lib.hid fin
  clear hblt hx h1 hown hc fin
  go_enter Try.func33, Try.ntmps33
  go_wp2_with (at_builtin; refine wpList_append_own _ rfl _ _ 29 rfl w.heap.size 41 i _ 2 16 Try.underlying29 hi hz0 hz1 hz2 rfl (by omega) _ 0 [] rfl Ho.out ⟨b, o, none⟩ n c xs rfl Hx.out Hc.out H1.out (by unfold maxLen; omega) (by omega) (by simp) ?_)
  intro v' w' h2 h3 h4
  have hf := Lib.hid (Hf.out v' w' h2 h3 h4)
  clear h2 h3 h4
  go_wp2
  go_ret
  obtain ⟨g, cap, rfl, h5⟩ := hf.out
  exact ⟨g, cap, rfl, h5⟩

namespace Win
/-- The slice (ao, l.length, cap) reads as the windows l. -/
structure WinAt (w : World) (ao : Option Addr) (cap : Nat) (l : List Wn) : Prop where
  le : l.length ≤ cap
  nil : ao = none → l = []
  spot : ∀ a, ao = some a → a.spot = none
  cell : ∀ i, i < l.length → ∃ b o, ao = some ⟨b, o, none⟩ ∧ w.cell? ⟨b, o + i * 2, none⟩ = some (.int .i64 (wAt l i).1) ∧ w.cell? ⟨b, o + i * 2 + 1, none⟩ = some (.int .i64 (wAt l i).2)
theorem cell_keep {S : List Nat} {w w' : World} (k : Keep S w w') {g i : Nat} {v : Value} (h : w.cell? ⟨g, i, none⟩ = some v) (hg : g ∉ S) : w'.cell? ⟨g, i, none⟩ = some v := by
  rw [World.cell?_of_block (w := w) (k.block g (World.block_lt_of_cell? w _ h) hg)]
  exact h
theorem WinAt.keep {S : List Nat} {w w' : World} {ao : Option Addr} {cap : Nat} {l : List Wn} (h : WinAt w ao cap l) (k : Keep S w w') (hs : ∀ a, ao = some a → a.block ∉ S) : WinAt w' ao cap l := by
  refine ⟨h.le, h.nil, h.spot, fun i hi => ?_⟩
  obtain ⟨b, o, e, h1, h2⟩ := h.cell i hi
  have := hs _ e
  exact ⟨b, o, e, cell_keep k h1 this, cell_keep k h2 this⟩
/-- A window may have just come to its end. -/
def Near (l : List Wn) (s : Nat × Int) : Prop := (l = [] → s = (0, 0)) ∧ (l ≠ [] → s.1 < l.length ∧ 0 ≤ s.2 ∧ s.2 ≤ las l s.1)
theorem Fine.near {l : List Wn} {s : Nat × Int} (h : Fine l s) : Near l s := ⟨h.1, fun e => ⟨(h.2 e).1, (h.2 e).2.1, Int.le_of_lt (h.2 e).2.2⟩⟩
/-- A turn at block t. -/
structure TurnRep (w : World) (t : Nat) (ao : Option Addr) (cap : Nat) (l : List Wn) (s : Nat × Int) : Prop where
  head : w.heap[t]? = some (.cells #[.slice ao l.length cap, .int .i64 s.1, .int .i64 s.2] 68 (0, 0))
  win : WinAt w ao cap l
  ne : ∀ a, ao = some a → a.block ≠ t
  fine : Near l s
theorem TurnRep.keep {S : List Nat} {w w' : World} {t : Nat} {ao : Option Addr} {cap : Nat} {l : List Wn} {s : Nat × Int} (h : TurnRep w t ao cap l s) (k : Keep S w w') (ht : t ∉ S) (hs : ∀ a, ao = some a → a.block ∉ S) : TurnRep w' t ao cap l s :=
  ⟨k.to h.head ht, h.win.keep k hs, h.ne, h.fine⟩
def left (l : List Wn) (s : Nat × Int) : Int := if l = [] then 0 else las l s.1 - s.2
def part (l : List Wn) (s : Nat × Int) : Int := if l = [] then 0 else (wAt l s.1).1
theorem win_lasts (p t : Int) (w : World) : Calls Try.prog 35 #[.agg #[.int .i64 p, .int .i64 t]] w fun e w' => e = .returned (.int .i64 (lng (p, t))) ∧ Keep [] w w' := by
  go_enter Try.func35, Try.ntmps35
  go_wp2
  all_goals
    go_ret
    exact ⟨ret_int (by simp [lng]; omega), (Keep.refl _ _).alloc _⟩
theorem win_none {w : World} {t : Nat} {ao : Option Addr} {cap : Nat} {l : List Wn} {s : Nat × Int} (h : TurnRep w t ao cap l s) (hn : l = [] ∨ l ≠ []) :
    Calls Try.prog 34 #[.pointer (some ⟨t, 0, none⟩)] w fun e w' => e = .returned (.bool (decide (l = []))) ∧ w = w' := by
  have c0 := cell_of (i := 0) (v := .slice ao l.length cap) h.head rfl
  rcases hn with rfl | hn
  · go_enter Try.func34, Try.ntmps34
    go_wp2
    go_ret
    exact ⟨rfl, rfl⟩
  · have hl : 0 < l.length := by cases l; exact absurd rfl hn; simp
    have hd : decide (l = []) = false := by simp [hn]
    have hb : ((l.length : Int) == 0) = false := by simp; omega
    rw [hd]
    clear hn hd h
    go_enter Try.func34, Try.ntmps34
    go_wp2
    go_ret
    exact ⟨rfl, rfl⟩
theorem win_none_nil (w : World) : Calls Try.prog 34 #[.pointer none] w fun e w' => e = .returned (.bool true) ∧ w = w' := by
  go_enter Try.func34, Try.ntmps34
  go_wp2
  go_ret
  exact ⟨rfl, rfl⟩
theorem win_index {w : World} {t : Nat} {ao : Option Addr} {cap : Nat} {l : List Wn} {s : Nat × Int} (h : TurnRep w t ao cap l s) :
    Calls Try.prog 20 #[.pointer (some ⟨t, 0, none⟩)] w fun e w' => e = .returned (.int .i64 s.1) ∧ w = w' := by
  have c1 := cell_of (i := 1) (v := .int .i64 s.1) h.head rfl
  have H := Lib.hid h
  by_cases hl : l = []
  · have hs := h.fine.1 hl
    have hd : decide (l = []) = true := by simp [hl]
    have Hd := Lib.hid hd
    have Hs := Lib.hid hs
    have hl' := Lib.hid hl
    clear h hl hs hd
    go_enter Try.func20, Try.ntmps20
    go_wp2_with fail
    refine (win_none H.out (.inl hl'.out)).mono ?_
    rintro e w' ⟨rfl, rfl⟩
    rw [Hd.out]
    go_wp2
    go_ret
    exact ⟨by rw [Hs.out]; rfl, rfl⟩
  · have hd : decide (l = []) = false := by simp [hl]
    have Hd := Lib.hid hd
    have hl' := Lib.hid hl
    clear h hl hd
    go_enter Try.func20, Try.ntmps20
    go_wp2_with fail
    refine (win_none H.out (.inr hl'.out)).mono ?_
    rintro e w' ⟨rfl, rfl⟩
    rw [Hd.out]
    go_wp2
    go_ret
    exact ⟨rfl, rfl⟩
theorem win_part {w : World} {t : Nat} {ao : Option Addr} {cap : Nat} {l : List Wn} {s : Nat × Int} (h : TurnRep w t ao cap l s) :
    Calls Try.prog 18 #[.pointer (some ⟨t, 0, none⟩)] w fun e w' => e = .returned (.int .i64 (part l s)) ∧ ∃ n, w' = w.drewN n := by
  have c0 := cell_of (i := 0) (v := .slice ao l.length cap) h.head rfl
  have c1 := cell_of (i := 1) (v := .int .i64 s.1) h.head rfl
  have H := Lib.hid h
  by_cases hl : l = []
  · have hd : decide (l = []) = true := by simp [hl]
    have Hp : Hid (part l s = 0) := Lib.hid (by simp [part, hl])
    have Hd := Lib.hid hd
    have hl' := Lib.hid hl
    clear h hl hd
    rw [Hp.out]
    go_enter Try.func18, Try.ntmps18
    go_wp2_with fail
    refine (win_none H.out (.inl hl'.out)).mono ?_
    rintro e w' ⟨rfl, rfl⟩
    rw [Hd.out]
    go_wp2
    go_ret
    exact ⟨rfl, 0, rfl⟩
  · have hd : decide (l = []) = false := by simp [hl]
    have Hp : Hid (part l s = (wAt l s.1).1) := Lib.hid (by simp [part, hl])
    have hf := (h.fine.2 hl).1
    obtain ⟨b, o, rfl, c2, _⟩ := h.win.cell s.1 hf
    have Hd := Lib.hid hd
    have hl' := Lib.hid hl
    rw [Hp.out]
    have hc := h.win.le
    clear h hl hd
    go_enter Try.func18, Try.ntmps18
    go_wp2_with fail
    refine (win_none H.out (.inr hl'.out)).mono ?_
    rintro e w' ⟨rfl, rfl⟩
    rw [Hd.out]
    go_wp2_with fail
    go_quiet (fail)
    go_wp2_with fail
    go_ret
    exact ⟨rfl, _, rfl⟩
theorem win_left {w : World} {t : Nat} {ao : Option Addr} {cap : Nat} {l : List Wn} {s : Nat × Int} (h : TurnRep w t ao cap l s) (hb : ∀ i, i < l.length → (wAt l i).2 ≤ 9223372036854775807) :
    Calls Try.prog 21 #[.pointer (some ⟨t, 0, none⟩)] w fun e w' => e = .returned (.int .i64 (left l s)) ∧ Keep [] w w' := by
  have c0 := cell_of (i := 0) (v := .slice ao l.length cap) h.head rfl
  have c1 := cell_of (i := 1) (v := .int .i64 s.1) h.head rfl
  have c2 := cell_of (i := 2) (v := .int .i64 s.2) h.head rfl
  have H := Lib.hid h
  by_cases hl : l = []
  · have hd : decide (l = []) = true := by simp [hl]
    have Hp : Hid (left l s = 0) := Lib.hid (by simp [left, hl])
    have Hd := Lib.hid hd
    have hl' := Lib.hid hl
    clear h hl hd
    rw [Hp.out]
    go_enter Try.func21, Try.ntmps21
    go_wp2_with fail
    refine (win_none H.out (.inl hl'.out)).mono ?_
    rintro e w' ⟨rfl, rfl⟩
    rw [Hd.out]
    go_wp2
    go_ret
    exact ⟨rfl, Keep.refl _ _⟩
  · have hd : decide (l = []) = false := by simp [hl]
    obtain ⟨hf, hg1, hg2⟩ := h.fine.2 hl
    have Hp : Hid (left l s = lng ((wAt l s.1).1, (wAt l s.1).2) - s.2) := Lib.hid (by simp [left, hl, las])
    obtain ⟨b, o, rfl, c3, c4⟩ := h.win.cell s.1 hf
    have Hd := Lib.hid hd
    have hl' := Lib.hid hl
    have hc := h.win.le
    have hlb : 1 ≤ lng ((wAt l s.1).1, (wAt l s.1).2) ∧ lng ((wAt l s.1).1, (wAt l s.1).2) ≤ 9223372036854775807 := by have := hb s.1 hf; unfold lng; simp only; omega
    clear h hl hd hb
    rw [Hp.out]
    have hz : s.2 ≤ lng ((wAt l s.1).1, (wAt l s.1).2) := hg2
    generalize hlz : lng ((wAt l s.1).1, (wAt l s.1).2) = z at hlb hz
    generalize hwp : (wAt l s.1).1 = wp at c3
    generalize hwt : (wAt l s.1).2 = wt at c4
    have Hz : Hid (lng (wp, wt) = z) := Lib.hid (by rw [← hwp, ← hwt]; exact hlz)
    clear hwp hwt hlz
    go_enter Try.func21, Try.ntmps21
    go_wp2_with fail
    refine (win_none H.out (.inr hl'.out)).mono ?_
    rintro e w' ⟨rfl, rfl⟩
    rw [Hd.out]
    go_wp2_with fail
    go_region_held3 (fun w' => w'.cell? ⟨t, 0, none⟩ = some (.slice (some ⟨b, o, none⟩) l.length cap) ∧ w'.cell? ⟨t, 1, none⟩ = some (.int .i64 s.1) ∧ w'.cell? ⟨t, 2, none⟩ = some (.int .i64 s.2) ∧ w'.cell? ⟨b, o + s.1 * 2, none⟩ = some (.int .i64 wp) ∧ w'.cell? ⟨b, o + s.1 * 2 + 1, none⟩ = some (.int .i64 wt))
      (first | go_keep | exact ⟨cell_keep kb c0 (by simp), cell_keep kb c1 (by simp), cell_keep kb c2 (by simp), cell_keep kb c3 (by simp), cell_keep kb c4 (by simp)⟩)
      (first | (go_at_call 35; refine (win_lasts _ _ _).mono ?_; rintro e w2 ⟨rfl, kb⟩; rw [Hz.out]; have k2 : Hid (Keep [] w w2) := Lib.hid ((Keep.ofDrewN [] w _).trans kb)))
    go_wp2_with fail
    go_ret
    exact ⟨ret_int (IntWalk.i64_in _ (by omega)), k2.out⟩
theorem TurnRep.set {w : World} {t : Nat} {ao : Option Addr} {cap : Nat} {l : List Wn} {s : Nat × Int} (h : TurnRep w t ao cap l s) (i : Nat) (g : Int) (hn : Near l (i, g)) :
    TurnRep ((w.setCell ⟨t, 1, none⟩ (.int .i64 i)).setCell ⟨t, 2, none⟩ (.int .i64 g)) t ao cap l (i, g) ∧ Keep [t] w ((w.setCell ⟨t, 1, none⟩ (.int .i64 i)).setCell ⟨t, 2, none⟩ (.int .i64 g)) := by
  have k : Keep [t] w ((w.setCell ⟨t, 1, none⟩ (.int .i64 i)).setCell ⟨t, 2, none⟩ (.int .i64 g)) := ((Keep.refl _ _).setCell (.inr (by simp)) _).setCell (.inr (by simp)) _
  have := block_set 2 (.int .i64 g) (block_set 1 (.int .i64 i) h.head)
  exact ⟨⟨this, h.win.keep k (fun a ha => by simpa using h.ne a ha), h.ne, hn⟩, k⟩
theorem TurnRep.set2 {w : World} {t : Nat} {ao : Option Addr} {cap : Nat} {l : List Wn} {s : Nat × Int} (h : TurnRep w t ao cap l s) (g : Int) (hn : Near l (s.1, g)) :
    TurnRep (w.setCell ⟨t, 2, none⟩ (.int .i64 g)) t ao cap l (s.1, g) ∧ Keep [t] w (w.setCell ⟨t, 2, none⟩ (.int .i64 g)) := by
  have k : Keep [t] w (w.setCell ⟨t, 2, none⟩ (.int .i64 g)) := (Keep.refl _ _).setCell (.inr (by simp)) _
  have := block_set 2 (.int .i64 g) h.head
  exact ⟨⟨this, h.win.keep k (fun a ha => by simpa using h.ne a ha), h.ne, hn⟩, k⟩
theorem win_tick {w : World} {t : Nat} {ao : Option Addr} {cap : Nat} {l : List Wn} {s : Nat × Int} (h : TurnRep w t ao cap l s) (hfi : Fine l s) (hb : ∀ i, i < l.length → (wAt l i).2 ≤ 9223372036854775807) (hm : l.length ≤ 1000) :
    Calls Try.prog 23 #[.pointer (some ⟨t, 0, none⟩)] w fun e w' => e = .returned (.tuple #[.int .i64 (tickOut l s).1, .bool (tickOut l s).2]) ∧ TurnRep w' t ao cap l (tick l s) ∧ Keep [t] w w' := by
  have c2 := cell_of (i := 2) (v := .int .i64 s.2) h.head rfl
  have f2 := free_of (i := 2) h.head
  have H := Lib.hid h
  have HB := Lib.hid hb
  by_cases hl : l = []
  · have hd : decide (l = []) = true := by simp [hl]
    have Hp : Hid (tickOut l s = (0, false) ∧ tick l s = s) := Lib.hid (by simp [tickOut, tick, hl])
    have Hd := Lib.hid hd
    have hl' := Lib.hid hl
    clear h hl hd hfi hb
    rw [Hp.out.1, Hp.out.2]
    go_enter Try.func23, Try.ntmps23
    go_wp2_with fail
    refine (win_none H.out (.inl hl'.out)).mono ?_
    rintro e w' ⟨rfl, rfl⟩
    rw [Hd.out]
    go_wp2
    go_ret2
    exact ⟨rfl, H.out, Keep.refl _ _⟩
  · have hd : decide (l = []) = false := by simp [hl]
    obtain ⟨hf, hg1, hg2⟩ := hfi.2 hl
    have hlp := las_pos l s.1
    have hlb : las l s.1 ≤ 9223372036854775807 := by have := hb s.1 hf; unfold las lng; omega
    have hn2 : Near l (s.1, s.2 + 1) := ⟨fun e => absurd e hl, fun _ => ⟨hf, by simp; omega, by simp; omega⟩⟩
    have R2 := Lib.hid (h.set2 (s.2 + 1) hn2)
    have Hleft : Hid (left l (s.1, s.2 + 1) = las l s.1 - (s.2 + 1)) := Lib.hid (by simp [left, hl])
    have Hpart : Hid (part l (s.1, s.2 + 1) = (wAt l s.1).1) := Lib.hid (by simp [part, hl])
    have Hd := Lib.hid hd
    have hl' := Lib.hid hl
    by_cases hlt : s.2 + 1 < las l s.1
    · have Ho : Hid (tickOut l s = (0, false) ∧ tick l s = (s.1, s.2 + 1)) := Lib.hid (by simp [tickOut, tick, hl, hlt])
      clear h hl hd hfi hb
      rw [Ho.out.1, Ho.out.2]
      generalize las l s.1 = z at *
      go_enter Try.func23, Try.ntmps23
      go_wp2_with fail
      refine (win_none H.out (.inr hl'.out)).mono ?_
      rintro e w' ⟨rfl, rfl⟩
      rw [Hd.out]
      go_wp2_with fail
      refine (win_left R2.out.1 HB.out).mono ?_
      rintro e w2 ⟨rfl, k2⟩
      have K2 := Lib.hid k2
      clear k2
      rw [Hleft.out]
      go_wp2_with fail
      go_ret2
      exact ⟨rfl, R2.out.1.keep K2.out (by simp) (by simp), R2.out.2.transS K2.out (by simp) (by simp)⟩
    · have Ho : Hid (tickOut l s = ((wAt l s.1).1, true) ∧ tick l s = ((s.1 + 1) % l.length, 0)) := Lib.hid (by simp [tickOut, tick, hl, hlt])
      have hn3 : Near l ((s.1 + 1) % l.length, 0) := ⟨fun e => absurd e hl, fun _ => ⟨Nat.mod_lt _ (by omega), by simp, by have := las_pos l ((s.1 + 1) % l.length); simp; omega⟩⟩
      have HN3 := Lib.hid hn3
      clear h hl hd hfi hb hn3
      rw [Ho.out.1, Ho.out.2]
      generalize las l s.1 = z at *
      go_enter Try.func23, Try.ntmps23
      go_wp2_with fail
      refine (win_none H.out (.inr hl'.out)).mono ?_
      rintro e w' ⟨rfl, rfl⟩
      rw [Hd.out]
      go_wp2_with fail
      refine (win_left R2.out.1 HB.out).mono ?_
      rintro e w2 ⟨rfl, k2⟩
      have R3 := Lib.hid (R2.out.1.keep k2 (by simp) (by simp))
      have K3 : Hid (Keep [t] w w2) := Lib.hid (R2.out.2.transS k2 (by simp) (by simp))
      clear k2
      rw [Hleft.out]
      go_wp2_with fail
      refine (win_part R3.out).mono ?_
      rintro e w3 ⟨rfl, nd, rfl⟩
      rw [Hpart.out]
      have R4 := Lib.hid (R3.out.keep (Keep.ofDrewN [] _ nd) (by simp) (by simp))
      have K4 : Hid (Keep [t] w (w2.drewN nd)) := Lib.hid (K3.out.transS (Keep.ofDrewN [] _ nd) (by simp) (by simp))
      generalize w2.drewN nd = w4 at R4 K4
      have d0 := cell_of (i := 0) (v := .slice ao l.length cap) R4.out.head rfl
      have d1 := cell_of (i := 1) (v := .int .i64 s.1) R4.out.head rfl
      have d2 := cell_of (i := 2) (v := .int .i64 (s.2 + 1)) R4.out.head rfl
      have e1 := free_of (i := 1) R4.out.head
      have e2 := free_of (i := 2) R4.out.head
      have hw1 : IntKind.i64.wrap (s.1 + 1) = s.1 + 1 := IntWalk.i64_in _ (by omega)
      clear c2 f2
      go_wp2_with fail
      go_region
      all_goals
        have R5 := Lib.hid (R4.out.set ((s.1 + 1) % l.length) 0 HN3.out)
        go_wp2_with fail
        go_ret2
        rw [show (((s.1 : Int) + 1) % (l.length : Int)) = (((s.1 + 1) % l.length : Nat) : Int) from by simp]
        exact ⟨rfl, R5.out.1.keep (Keep.ofDrewN [] _ 1) (by simp) (by simp), (K4.out.trans R5.out.2).drewN 1⟩
def flatW : List Wn → List Value
  | [] => []
  | x :: l => .int .i64 x.1 :: .int .i64 x.2 :: flatW l
theorem flatW_length (l : List Wn) : (flatW l).length = l.length * 2 := by
  induction l with
  | nil => rfl
  | cons x l ih => simp [flatW, ih]; omega
theorem flatW_get (l : List Wn) (i : Nat) (h : i < l.length) : (flatW l)[i * 2]? = some (.int .i64 (wAt l i).1) ∧ (flatW l)[i * 2 + 1]? = some (.int .i64 (wAt l i).2) := by
  induction l generalizing i with
  | nil => simp at h
  | cons x l ih =>
    cases i with
    | zero => simp [flatW, wAt]
    | succ i =>
      have := ih i (by simpa using h)
      rw [show (i + 1) * 2 = i * 2 + 1 + 1 from by omega]
      simpa [flatW, wAt] using this
theorem flatW_one (l : List Wn) : ∀ u ∈ flatW l, u.oneCell' = true := by
  induction l with
  | nil => simp [flatW]
  | cons x l ih =>
    intro u hu
    simp only [flatW, List.mem_cons] at hu
    rcases hu with rfl | rfl | hu
    · rfl
    · rfl
    · exact ih u hu
theorem WinAt.src {w : World} {b o cap : Nat} {l : List Wn} (h : WinAt w (some ⟨b, o, none⟩) cap l) : ∀ j u, (flatW l)[j]? = some u → w.cell? ((⟨b, o, none⟩ : Addr).add j) = some u := by
  intro j u hu
  have hj : j < l.length * 2 := by have := (List.getElem?_eq_some_iff.1 hu).1; rwa [flatW_length] at this
  obtain ⟨b', o', e, h1, h2⟩ := h.cell (j / 2) (by omega)
  simp only [Option.some.injEq, Addr.mk.injEq] at e
  obtain ⟨rfl, rfl, _⟩ := e
  obtain ⟨g1, g2⟩ := flatW_get l (j / 2) (by omega)
  rw [Addr.add_lit]
  rcases Nat.mod_two_eq_zero_or_one j with q | q
  · have e : j / 2 * 2 = j := by omega
    rw [e] at g1 h1
    rw [hu] at g1; cases g1; exact h1
  · have e : j / 2 * 2 + 1 = j := by omega
    rw [e] at g2
    rw [show o + j / 2 * 2 + 1 = o + j from by omega] at h2
    rw [hu] at g2; cases g2; exact h2
theorem winAt_own {w : World} {g cap : Nat} {e : TypeId} {l : List Wn} (h : OwnRow w g e (flatW l)) (hc : l.length ≤ cap) : WinAt w (some ⟨g, 0, none⟩) cap l :=
  ⟨hc, (fun e => by cases e), (fun a e => by cases e; rfl), fun i hi => ⟨g, 0, rfl, by rw [Nat.zero_add]; exact h.cell _ _ (flatW_get l i hi).1, by rw [Nat.zero_add]; exact h.cell _ _ (flatW_get l i hi).2⟩⟩
theorem win_new {w : World} {ao : Option Addr} {cap : Nat} {l : List Wn} (h : WinAt w ao cap l) (hm : l.length ≤ 1000) :
    Calls Try.prog 17 #[.slice ao l.length cap] w fun e w' => ∃ t ao' cap', e = .returned (.pointer (some ⟨t, 0, none⟩)) ∧ TurnRep w' t ao' cap' l (0, 0) ∧ Keep [] w w' ∧ w.heap.size ≤ t ∧ (∀ a, ao' = some a → w.heap.size ≤ a.block ∧ a.block < w'.heap.size) := by
  have H := Lib.hid h
  cases ao with
  | none =>
    have hl := h.nil rfl
    subst hl
    clear h
    go_enter Try.func17, Try.ntmps17
    go_wp2_with fail
    refine (cloneW_nil _ _ _).mono ?_
    rintro e w' ⟨rfl, rfl⟩
    go_wp2_with fail
    go_ret
    refine ⟨_, none, 0, rfl, ⟨heap_alloc_new w _, ⟨Nat.le_refl _, fun _ => rfl, (fun a e => by cases e), fun i hi => absurd hi (by simp)⟩, (fun a e => by cases e), (fine_start []).near⟩, (Keep.refl _ _).alloc _, Nat.le_refl _, (fun a e => by cases e)⟩
  | some a =>
    obtain ⟨b, o, sp⟩ := a
    have hsp := h.spot _ rfl
    simp only at hsp
    subst hsp
    clear h
    go_enter Try.func17, Try.ntmps17
    go_wp2_with fail
    refine (cloneW_some b o _ _ (flatW l) (flatW_length l) (flatW_one l) H.out.src (by omega)).mono ?_
    rintro e w2 ⟨g, cap2, rfl, ho, hg, hc, k2⟩
    have O2 := Lib.hid ho; have K2 := Lib.hid k2
    have hgl := ho.lt
    have hz := k2.size
    clear ho k2
    go_wp2_with fail
    go_ret
    have k3 := (Keep.refl [] w2).alloc (.cells #[.slice (some ⟨g, 0, none⟩) l.length cap2, .int .i64 0, .int .i64 0] 68)
    exact ⟨_, _, _, rfl, ⟨heap_alloc_new w2 _, winAt_own (O2.out.keep k3 (by simp)) hc, (fun a e => by cases e; simp; omega), (fine_start l).near⟩, K2.out.trans k3, hz, (fun a e => by cases e; exact ⟨hg, by simp; omega⟩)⟩
theorem win_awake (w : World) : Calls Try.prog 16 #[] w fun e w' => e = .returned (.bool true) ∧ Keep [] w w' := by
  go_enter Try.func16, Try.ntmps16
  go_wp2_with fail
  have k1 := (Keep.refl [] w).alloc (.cells #[.int .i64 3, .int .i64 2] 41)
  have O1 : OwnRow (w.alloc (.cells #[.int .i64 3, .int .i64 2] 41)) w.heap.size 41 (flatW [(3, 2)]) := ⟨_, heap_alloc_new w _, rfl⟩
  have HK1 := Lib.hid k1
  refine (win_new (l := [(3, 2)]) (winAt_own O1 (by simp)) (by simp)).mono ?_
  rintro e w2 ⟨t, ao, cap, rfl, h2, k2, ht, hb⟩
  have R2 := Lib.hid h2
  have K2 := Lib.hid (HK1.out.trans k2)
  clear O1 k1 k2 h2 hb
  go_wp2_with fail
  refine (win_part R2.out).mono ?_
  rintro e w3 ⟨rfl, nd, rfl⟩
  rw [show part [(3, 2)] (0, 0) = 3 from rfl]
  have R3 := Lib.hid (R2.out.keep (Keep.ofDrewN [] _ nd) (by simp) (by simp))
  have K3 := Lib.hid (K2.out.drewN nd)
  go_wp2_with fail
  refine (win_left R3.out (fun i hi => by simp at hi; subst hi; decide)).mono ?_
  rintro e w4 ⟨rfl, k4⟩
  rw [show left [(3, 2)] (0, 0) = 2 from by decide]
  have K4 := Lib.hid (K3.out.trans k4)
  clear k4
  go_wp2_with fail
  go_ret
  exact ⟨rfl, K4.out⟩
theorem win_part_nil (w : World) : Calls Try.prog 18 #[.pointer none] w fun e w' => e = .returned (.int .i64 0) ∧ w = w' := by
  go_enter Try.func18, Try.ntmps18
  go_wp2_with fail
  refine (win_none_nil _).mono ?_
  rintro e w' ⟨rfl, rfl⟩
  go_wp2
  go_ret
  exact ⟨rfl, rfl⟩
theorem win_index_nil (w : World) : Calls Try.prog 20 #[.pointer none] w fun e w' => e = .returned (.int .i64 0) ∧ w = w' := by
  go_enter Try.func20, Try.ntmps20
  go_wp2_with fail
  refine (win_none_nil _).mono ?_
  rintro e w' ⟨rfl, rfl⟩
  go_wp2
  go_ret
  exact ⟨rfl, rfl⟩
theorem win_left_nil (w : World) : Calls Try.prog 21 #[.pointer none] w fun e w' => e = .returned (.int .i64 0) ∧ w = w' := by
  go_enter Try.func21, Try.ntmps21
  go_wp2_with fail
  refine (win_none_nil _).mono ?_
  rintro e w' ⟨rfl, rfl⟩
  go_wp2
  go_ret
  exact ⟨rfl, rfl⟩
theorem win_tick_nil (w : World) : Calls Try.prog 23 #[.pointer none] w fun e w' => e = .returned (.tuple #[.int .i64 0, .bool false]) ∧ w = w' := by
  go_enter Try.func23, Try.ntmps23
  go_wp2_with fail
  refine (win_none_nil _).mono ?_
  rintro e w' ⟨rfl, rfl⟩
  go_wp2
  go_ret2
  exact ⟨rfl, rfl⟩
end Win
end Go.Proofs.Ytalegacniijpkaa
