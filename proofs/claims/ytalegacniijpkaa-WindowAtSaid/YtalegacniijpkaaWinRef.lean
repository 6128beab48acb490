/- The contracts of the reference's turn. No conditions but those stated. -/
import Derived.Test.YtalegacniijpkaaWin
namespace Go.Proofs.Ytalegacniijpkaa
open Go.ChangeShapes Go.WideShapes Go.ChangeAt Go.RowKit
set_option linter.unusedVariables false
set_option linter.unusedSimpArgs false
namespace Win
/-- The reference's turn at block t. -/
structure RefTurn (w : World) (t : Nat) (ao : Option Addr) (cap : Nat) (l : List Wn) (s : Nat × Int) : Prop where
  head : w.heap[t]? = some (.cells #[.slice ao l.length cap, .int .i64 s.1, .int .i64 s.2, .int .i64 0] 35 (0, 0))
  win : WinAt w ao cap l
  ne : ∀ a, ao = some a → a.block ≠ t
  fine : Near l s
theorem RefTurn.keep {S : List Nat} {w w' : World} {t : Nat} {ao : Option Addr} {cap : Nat} {l : List Wn} {s : Nat × Int} (h : RefTurn w t ao cap l s) (k : Keep S w w') (ht : t ∉ S) (hs : ∀ a, ao = some a → a.block ∉ S) : RefTurn w' t ao cap l s :=
  ⟨k.to h.head ht, h.win.keep k hs, h.ne, h.fine⟩
theorem ref_long (p t : Int) (w : World) : Calls Try.prog 36 #[.agg #[.int .i64 p, .int .i64 t]] w fun e w' => e = .returned (.int .i64 (lng (p, t))) ∧ Keep [] w w' := by
  go_enter Try.func36, Try.ntmps36
  go_wp2
  all_goals
    go_ret
    exact ⟨ret_int (by simp [lng]; omega), (Keep.refl _ _).alloc _⟩
theorem refT_part {w : World} {t : Nat} {ao : Option Addr} {cap : Nat} {l : List Wn} {s : Nat × Int} (h : RefTurn w t ao cap l s) :
    Calls Try.prog 19 #[.pointer (some ⟨t, 0, none⟩)] w fun e w' => e = .returned (.int .i64 (part l s)) ∧ ∃ n, w' = w.drewN n := by
  have c0 := cell_of (i := 0) (v := .slice ao l.length cap) h.head rfl
  have c1 := cell_of (i := 1) (v := .int .i64 s.1) h.head rfl
  by_cases hl : l = []
  · have Hp : Hid (part l s = 0) := Lib.hid (by simp [part, hl])
    rw [Hp.out]
    subst hl
    have c0' : w.cell? ⟨t, 0, none⟩ = some (.slice ao 0 cap) := c0
    clear h c0
    go_enter Try.func19, Try.ntmps19
    go_wp2
    go_ret
    exact ⟨rfl, 0, rfl⟩
  · have Hp : Hid (part l s = (wAt l s.1).1) := Lib.hid (by simp [part, hl])
    have hf := (h.fine.2 hl).1
    obtain ⟨b, o, rfl, c2, _⟩ := h.win.cell s.1 hf
    have hb : ((l.length : Int) == 0) = false := by simp; omega
    rw [Hp.out]
    have hc := h.win.le
    clear h hl
    go_enter Try.func19, Try.ntmps19
    go_wp2_with fail
    go_quiet (fail)
    go_wp2_with fail
    go_ret
    exact ⟨rfl, _, rfl⟩
theorem refT_left {w : World} {t : Nat} {ao : Option Addr} {cap : Nat} {l : List Wn} {s : Nat × Int} (h : RefTurn w t ao cap l s) (hb : ∀ i, i < l.length → (wAt l i).2 ≤ 9223372036854775807) :
    Calls Try.prog 22 #[.pointer (some ⟨t, 0, none⟩)] w fun e w' => e = .returned (.int .i64 (left l s)) ∧ Keep [] w w' := by
  have c0 := cell_of (i := 0) (v := .slice ao l.length cap) h.head rfl
  have c1 := cell_of (i := 1) (v := .int .i64 s.1) h.head rfl
  have c2 := cell_of (i := 2) (v := .int .i64 s.2) h.head rfl
  by_cases hl : l = []
  · have Hp : Hid (left l s = 0) := Lib.hid (by simp [left, hl])
    rw [Hp.out]
    subst hl
    have c0' : w.cell? ⟨t, 0, none⟩ = some (.slice ao 0 cap) := c0
    clear h c0
    go_enter Try.func22, Try.ntmps22
    go_wp2
    go_ret
    exact ⟨rfl, Keep.refl _ _⟩
  · obtain ⟨hf, hg1, hg2⟩ := h.fine.2 hl
    have Hp : Hid (left l s = lng ((wAt l s.1).1, (wAt l s.1).2) - s.2) := Lib.hid (by simp [left, hl, las])
    obtain ⟨b, o, rfl, c3, c4⟩ := h.win.cell s.1 hf
    have hc := h.win.le
    have hbe : ((l.length : Int) == 0) = false := by simp; omega
    have hlb : 1 ≤ lng ((wAt l s.1).1, (wAt l s.1).2) ∧ lng ((wAt l s.1).1, (wAt l s.1).2) ≤ 9223372036854775807 := by have := hb s.1 hf; unfold lng; simp only; omega
    clear h hl hb
    rw [Hp.out]
    have hz : s.2 ≤ lng ((wAt l s.1).1, (wAt l s.1).2) := hg2
    generalize hlz : lng ((wAt l s.1).1, (wAt l s.1).2) = z at hlb hz
    generalize hwp : (wAt l s.1).1 = wp at c3
    generalize hwt : (wAt l s.1).2 = wt at c4
    have Hz : Hid (lng (wp, wt) = z) := Lib.hid (by rw [← hwp, ← hwt]; exact hlz)
    clear hwp hwt hlz
    go_enter Try.func22, Try.ntmps22
    go_wp2_with fail
    go_region_held3 (fun w' => w'.cell? ⟨t, 0, none⟩ = some (.slice (some ⟨b, o, none⟩) l.length cap) ∧ w'.cell? ⟨t, 1, none⟩ = some (.int .i64 s.1) ∧ w'.cell? ⟨t, 2, none⟩ = some (.int .i64 s.2) ∧ w'.cell? ⟨b, o + s.1 * 2, none⟩ = some (.int .i64 wp) ∧ w'.cell? ⟨b, o + s.1 * 2 + 1, none⟩ = some (.int .i64 wt))
      (first | go_keep | exact ⟨cell_keep kb c0 (by simp), cell_keep kb c1 (by simp), cell_keep kb c2 (by simp), cell_keep kb c3 (by simp), cell_keep kb c4 (by simp)⟩)
      (first | (go_at_call 36; refine (ref_long _ _ _).mono ?_; rintro e w2 ⟨rfl, kb⟩; rw [Hz.out]; have k2 : Hid (Keep [] w w2) := Lib.hid ((Keep.ofDrewN [] w _).trans kb)))
    go_wp2_with fail
    go_ret
    exact ⟨ret_int (IntWalk.i64_in _ (by omega)), k2.out⟩
theorem RefTurn.set {w : World} {t : Nat} {ao : Option Addr} {cap : Nat} {l : List Wn} {s : Nat × Int} (h : RefTurn w t ao cap l s) (i : Nat) (g : Int) (hn : Near l (i, g)) :
    RefTurn ((w.setCell ⟨t, 1, none⟩ (.int .i64 i)).setCell ⟨t, 2, none⟩ (.int .i64 g)) t ao cap l (i, g) ∧ Keep [t] w ((w.setCell ⟨t, 1, none⟩ (.int .i64 i)).setCell ⟨t, 2, none⟩ (.int .i64 g)) := by
  have k : Keep [t] w ((w.setCell ⟨t, 1, none⟩ (.int .i64 i)).setCell ⟨t, 2, none⟩ (.int .i64 g)) := ((Keep.refl _ _).setCell (.inr (by simp)) _).setCell (.inr (by simp)) _
  have := block_set 2 (.int .i64 g) (block_set 1 (.int .i64 i) h.head)
  exact ⟨⟨this, h.win.keep k (fun a ha => by simpa using h.ne a ha), h.ne, hn⟩, k⟩
theorem RefTurn.set2 {w : World} {t : Nat} {ao : Option Addr} {cap : Nat} {l : List Wn} {s : Nat × Int} (h : RefTurn w t ao cap l s) (g : Int) (hn : Near l (s.1, g)) :
    RefTurn (w.setCell ⟨t, 2, none⟩ (.int .i64 g)) t ao cap l (s.1, g) ∧ Keep [t] w (w.setCell ⟨t, 2, none⟩ (.int .i64 g)) := by
  have k : Keep [t] w (w.setCell ⟨t, 2, none⟩ (.int .i64 g)) := (Keep.refl _ _).setCell (.inr (by simp)) _
  have := block_set 2 (.int .i64 g) h.head
  exact ⟨⟨this, h.win.keep k (fun a ha => by simpa using h.ne a ha), h.ne, hn⟩, k⟩
theorem refT_tick {w : World} {t : Nat} {ao : Option Addr} {cap : Nat} {l : List Wn} {s : Nat × Int} (h : RefTurn w t ao cap l s) (hfi : Fine l s) (hb : ∀ i, i < l.length → (wAt l i).2 ≤ 9223372036854775807) (hm : l.length ≤ 1000) :
    Calls Try.prog 24 #[.pointer (some ⟨t, 0, none⟩)] w fun e w' => e = .returned (.tuple #[.int .i64 (tickOut l s).1, .bool (tickOut l s).2]) ∧ RefTurn w' t ao cap l (tick l s) ∧ Keep [t] w w' := by
  have c0 := cell_of (i := 0) (v := .slice ao l.length cap) h.head rfl
  have c1 := cell_of (i := 1) (v := .int .i64 s.1) h.head rfl
  have c2 := cell_of (i := 2) (v := .int .i64 s.2) h.head rfl
  have f2 := free_of (i := 2) h.head
  have H := Lib.hid h
  have HB := Lib.hid hb
  by_cases hl : l = []
  · have Hp : Hid (tickOut l s = (0, false) ∧ tick l s = s) := Lib.hid (by simp [tickOut, tick, hl])
    rw [Hp.out.1, Hp.out.2]
    subst hl
    have c0' : w.cell? ⟨t, 0, none⟩ = some (.slice ao 0 cap) := c0
    clear h c0 hfi hb
    go_enter Try.func24, Try.ntmps24
    go_wp2
    go_ret2
    exact ⟨rfl, H.out, Keep.refl _ _⟩
  · obtain ⟨hf, hg1, hg2⟩ := hfi.2 hl
    have hlp := las_pos l s.1
    have hlb : las l s.1 ≤ 9223372036854775807 := by have := hb s.1 hf; unfold las lng; omega
    have hn2 : Near l (s.1, s.2 + 1) := ⟨fun e => absurd e hl, fun _ => ⟨hf, by simp; omega, by simp; omega⟩⟩
    obtain ⟨r2, kk2⟩ := h.set2 (s.2 + 1) hn2
    have R2 := Lib.hid r2; have K2 := Lib.hid kk2
    have hbe : ((l.length : Int) == 0) = false := by simp; omega
    have hl' := Lib.hid hl
    have hc := h.win.le
    obtain ⟨b, o, rfl, c3, c4⟩ := h.win.cell s.1 hf
    have hne : b ≠ t := h.ne _ rfl
    generalize hwp : (wAt l s.1).1 = wp at c3
    generalize hwt : (wAt l s.1).2 = wt at c4
    have hlz : lng (wp, wt) = las l s.1 := by rw [← hwp, ← hwt]; rfl
    generalize hzz : las l s.1 = z at hlz hlb hlp hg2
    have Hz := Lib.hid hlz
    by_cases hlt : s.2 + 1 < z
    · have Ho : Hid (tickOut l s = (0, false) ∧ tick l s = (s.1, s.2 + 1)) := Lib.hid (by rw [← hzz] at hlt; simp [tickOut, tick, hl, hlt])
      clear h hl hfi hb hwp hwt hlz hzz r2 kk2
      rw [Ho.out.1, Ho.out.2]
      go_enter Try.func24, Try.ntmps24
      go_wp2_with fail
      have d0 := cell_of (i := 0) (v := .slice (some ⟨b, o, none⟩) l.length cap) R2.out.head rfl
      have d1 := cell_of (i := 1) (v := .int .i64 s.1) R2.out.head rfl
      have d2 := cell_of (i := 2) (v := .int .i64 (s.2 + 1)) R2.out.head rfl
      have d3 := cell_keep K2.out c3 (by simpa using hne)
      have d4 := cell_keep K2.out c4 (by simpa using hne)
      clear c0 c1 c2 c3 c4 f2
      generalize w.setCell ⟨t, 2, none⟩ (.int .i64 (s.2 + 1)) = w1 at *
      go_region_held3 (fun w' => w'.cell? ⟨t, 0, none⟩ = some (.slice (some ⟨b, o, none⟩) l.length cap) ∧ w'.cell? ⟨t, 1, none⟩ = some (.int .i64 s.1) ∧ w'.cell? ⟨t, 2, none⟩ = some (.int .i64 (s.2 + 1)) ∧ w'.cell? ⟨b, o + s.1 * 2, none⟩ = some (.int .i64 wp) ∧ w'.cell? ⟨b, o + s.1 * 2 + 1, none⟩ = some (.int .i64 wt))
        (first | go_keep | exact ⟨cell_keep kb d0 (by simp), cell_keep kb d1 (by simp), cell_keep kb d2 (by simp), cell_keep kb d3 (by simp), cell_keep kb d4 (by simp)⟩)
        (first | (go_at_call 36; refine (ref_long _ _ _).mono ?_; rintro e w2 ⟨rfl, kb⟩; rw [Hz.out]; have k2 : Hid (Keep [] w1 w2) := Lib.hid ((Keep.ofDrewN [] w1 _).trans kb)))
      go_wp2_with fail
      go_ret2
      exact ⟨rfl, R2.out.keep k2.out (by simp) (by simp), K2.out.transS k2.out (by simp) (by simp)⟩
    · have Ho : Hid (tickOut l s = (wp, true) ∧ tick l s = ((s.1 + 1) % l.length, 0)) := Lib.hid (by rw [← hzz] at hlt; simp [tickOut, tick, hl, hlt, hwp])
      have hn3 : Near l ((s.1 + 1) % l.length, 0) := ⟨fun e => absurd e hl, fun _ => ⟨Nat.mod_lt _ (by omega), by simp, by have := las_pos l ((s.1 + 1) % l.length); simp; omega⟩⟩
      have HN3 := Lib.hid hn3
      clear h hl hfi hb hn3 hwp hwt hlz hzz r2 kk2
      rw [Ho.out.1, Ho.out.2]
      go_enter Try.func24, Try.ntmps24
      go_wp2_with fail
      have d0 := cell_of (i := 0) (v := .slice (some ⟨b, o, none⟩) l.length cap) R2.out.head rfl
      have d1 := cell_of (i := 1) (v := .int .i64 s.1) R2.out.head rfl
      have d2 := cell_of (i := 2) (v := .int .i64 (s.2 + 1)) R2.out.head rfl
      have d3 := cell_keep K2.out c3 (by simpa using hne)
      have d4 := cell_keep K2.out c4 (by simpa using hne)
      clear c0 c1 c2 c3 c4 f2
      generalize w.setCell ⟨t, 2, none⟩ (.int .i64 (s.2 + 1)) = w1 at *
      go_region_held3 (fun w' => w'.cell? ⟨t, 0, none⟩ = some (.slice (some ⟨b, o, none⟩) l.length cap) ∧ w'.cell? ⟨t, 1, none⟩ = some (.int .i64 s.1) ∧ w'.cell? ⟨t, 2, none⟩ = some (.int .i64 (s.2 + 1)) ∧ w'.cell? ⟨b, o + s.1 * 2, none⟩ = some (.int .i64 wp) ∧ w'.cell? ⟨b, o + s.1 * 2 + 1, none⟩ = some (.int .i64 wt))
        (first | go_keep | exact ⟨cell_keep kb d0 (by simp), cell_keep kb d1 (by simp), cell_keep kb d2 (by simp), cell_keep kb d3 (by simp), cell_keep kb d4 (by simp)⟩)
        (first | (go_at_call 36; refine (ref_long _ _ _).mono ?_; rintro e w2 ⟨rfl, kb⟩; rw [Hz.out]; have k2 : Hid (Keep [] w1 w2) := Lib.hid ((Keep.ofDrewN [] w1 _).trans kb)))
      have R3 := Lib.hid (R2.out.keep k2.out (by simp) (by simp))
      have K3 : Hid (Keep [t] w w2) := Lib.hid (K2.out.transS k2.out (by simp) (by simp))
      have e0 := cell_of (i := 0) (v := .slice (some ⟨b, o, none⟩) l.length cap) R3.out.head rfl
      have e1 := cell_of (i := 1) (v := .int .i64 s.1) R3.out.head rfl
      have e2 := cell_of (i := 2) (v := .int .i64 (s.2 + 1)) R3.out.head rfl
      have e3 := cell_keep k2.out d3 (by simp)
      clear d0 d1 d2 d3 d4
      go_wp2_with fail
      go_quiet (fail)
      go_wp2_with fail
      have R4 := Lib.hid (R3.out.keep (Keep.ofDrewN [] _ nq) (by simp) (by simp))
      have K4 : Hid (Keep [t] w (w2.drewN nq)) := Lib.hid (K3.out.drewN nq)
      clear e0 e1 e2 e3 kb k2
      generalize w2.drewN nq = w4 at R4 K4 ⊢
      have d0 := cell_of (i := 0) (v := .slice (some ⟨b, o, none⟩) l.length cap) R4.out.head rfl
      have d1 := cell_of (i := 1) (v := .int .i64 s.1) R4.out.head rfl
      have d2 := cell_of (i := 2) (v := .int .i64 (s.2 + 1)) R4.out.head rfl
      have e1 := free_of (i := 1) R4.out.head
      have e2 := free_of (i := 2) R4.out.head
      have hw1 : IntKind.i64.wrap (s.1 + 1) = s.1 + 1 := IntWalk.i64_in _ (by omega)
      go_region
      all_goals
        have R5 := Lib.hid (R4.out.set ((s.1 + 1) % l.length) 0 HN3.out)
        go_wp2_with fail
        go_ret2
        rw [show (((s.1 : Int) + 1) % (l.length : Int)) = (((s.1 + 1) % l.length : Nat) : Int) from by simp]
        exact ⟨rfl, R5.out.1.keep (Keep.ofDrewN [] _ 1) (by simp) (by simp), (K4.out.trans R5.out.2).drewN 1⟩
end Win
end Go.Proofs.Ytalegacniijpkaa
