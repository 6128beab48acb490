/- The contracts of the package ticket; the bodies of law 3. No conditions but those stated. -/
import Derived.Test.YtkmamebaichboaaRingLaw
import Derived.Test.YtkmamebaichboaaAcc
import Derived.Deep.LoopGhost
namespace Go.Proofs.Ytkmamebaichboaa
open Go.ChangeShapes Go.WideShapes Go.ChangeAt Go.RowKit
set_option linter.unusedVariables false
set_option linter.unusedSimpArgs false

def tkDraw (pos : Int) (s : St) : Int × St := St.add pos 1 s
def tkServed (pos t : Int) (s : St) : Bool × St :=
  let (v, s1) := St.load (pos + 1) s
  if s1.off then (false, s1) else if v = t then (true, s1) else (false, s1)
def tkLeave (pos t : Int) (s : St) : St := St.store (pos + 1) (wrap64 (t + 1)) s
theorem ticket_draw {w : World} {f m b : Nat} {sl : Value} {s : St} (h : FRep w f m b sl s) (pos : Int) (hp : 0 ≤ pos ∧ pos ≤ 1000000) {r0 : Int} {s' : St} (hq : tkDraw pos s = (r0, s')) :
    Calls Try.prog 77 #[.pointer (some ⟨f, 0, none⟩), .int .i64 pos] w (FPost f m b sl w (.int .i64 r0) s') := by
  have H := Lib.hid h
  have E : Hid (Ev [f, b] sl w sl w) := Lib.hid (Ev.refl _ _ _)
  clear h
  unfold tkDraw at hq
  rcases hq1 : St.add (pos) (1) s with ⟨v, s1⟩
  simp only [hq1] at hq
  simp only [Prod.mk.injEq] at hq
  obtain ⟨hr, hs⟩ := hq
  have Hq1' := Lib.hid hq1
  clear hq1
  have Hs := Lib.hid hs
  clear hs
  have R0 := Lib.hid hr
  clear hr
  go_enter Try.func77, Try.ntmps77
  go_wp2_with fail
  refine (frame_addE H.out _ _  Hq1'.out).mono ?_
  rintro e w1 ⟨sl1, rfl, h1, e1⟩
  have H1 := Lib.hid h1
  have E1 := Lib.hid (E.out.trans e1)
  clear h1 e1
  go_wp2_with fail
  go_ret
  rw [← Hs.out]
  exact ⟨_, by rw [← R0.out]; rfl, H1.out, E1.out⟩
theorem ticket_served {w : World} {f m b : Nat} {sl : Value} {s : St} (h : FRep w f m b sl s) (pos : Int) (t : Int) (hp : 0 ≤ pos ∧ pos ≤ 1000000) {r0 : Bool} {s' : St} (hq : tkServed pos t s = (r0, s')) :
    Calls Try.prog 78 #[.pointer (some ⟨f, 0, none⟩), .int .i64 pos, .int .i64 t] w (FPost f m b sl w (.bool r0) s') := by
  have H := Lib.hid h
  have E : Hid (Ev [f, b] sl w sl w) := Lib.hid (Ev.refl _ _ _)
  clear h
  unfold tkServed at hq
  rcases hq1 : St.load (pos + 1) s with ⟨v, s1⟩
  simp only [hq1] at hq
  cases ho1 : s1.off with
  | true =>
    simp only [ho1, Bool.true_or, Bool.false_or, Bool.not_true, Bool.not_false, Bool.true_and, Bool.false_and, if_true, if_false, Bool.false_eq_true] at hq
    simp only [Prod.mk.injEq] at hq
    obtain ⟨hr, hs⟩ := hq
    have Hq1' := Lib.hid hq1
    clear hq1
    have Hs := Lib.hid hs
    clear hs
    have R0 := Lib.hid hr
    clear hr
    have Ho1' := Lib.hid ho1
    clear ho1
    go_enter Try.func78, Try.ntmps78
    go_wp2_with fail
    refine (frame_loadE H.out _  Hq1'.out).mono ?_
    rintro e w1 ⟨sl1, rfl, h1, e1⟩
    have H1 := Lib.hid h1
    have E1 := Lib.hid (E.out.trans e1)
    clear h1 e1
    go_wp2_with fail
    refine (frame_off H1.out).mono ?_
    rintro e w' ⟨rfl, rfl⟩
    rw [Ho1'.out]
    go_wp2_with fail
    go_ret
    rw [← Hs.out]
    exact ⟨_, by rw [← R0.out]; rfl, H1.out, E1.out⟩
  | false =>
    simp only [ho1, Bool.true_or, Bool.false_or, Bool.not_true, Bool.not_false, Bool.true_and, Bool.false_and, if_true, if_false, Bool.false_eq_true] at hq
    by_cases hc1_0 : v = t
    · rw [if_pos hc1_0] at hq
      have ht : (v == t) = true := by simpa using hc1_0
      have Ht := Lib.hid ht
      clear ht hc1_0
      simp only [Prod.mk.injEq] at hq
      obtain ⟨hr, hs⟩ := hq
      have Hq1' := Lib.hid hq1
      clear hq1
      have Hs := Lib.hid hs
      clear hs
      have R0 := Lib.hid hr
      clear hr
      have Ho1' := Lib.hid ho1
      clear ho1
      go_enter Try.func78, Try.ntmps78
      go_wp2_with fail
      refine (frame_loadE H.out _  Hq1'.out).mono ?_
      rintro e w1 ⟨sl1, rfl, h1, e1⟩
      have H1 := Lib.hid h1
      have E1 := Lib.hid (E.out.trans e1)
      clear h1 e1
      go_wp2_with fail
      refine (frame_off H1.out).mono ?_
      rintro e w' ⟨rfl, rfl⟩
      rw [Ho1'.out]
      have ht := Ht.out
      go_wp2_with fail
      go_ret
      rw [← Hs.out]
      exact ⟨_, by rw [← R0.out]; rfl, H1.out, E1.out⟩
    · rw [if_neg hc1_0] at hq
      have ht : (v == t) = false := by simpa using hc1_0
      have Ht := Lib.hid ht
      clear ht hc1_0
      simp only [Prod.mk.injEq] at hq
      obtain ⟨hr, hs⟩ := hq
      have Hq1' := Lib.hid hq1
      clear hq1
      have Hs := Lib.hid hs
      clear hs
      have R0 := Lib.hid hr
      clear hr
      have Ho1' := Lib.hid ho1
      clear ho1
      go_enter Try.func78, Try.ntmps78
      go_wp2_with fail
      refine (frame_loadE H.out _  Hq1'.out).mono ?_
      rintro e w1 ⟨sl1, rfl, h1, e1⟩
      have H1 := Lib.hid h1
      have E1 := Lib.hid (E.out.trans e1)
      clear h1 e1
      go_wp2_with fail
      refine (frame_off H1.out).mono ?_
      rintro e w' ⟨rfl, rfl⟩
      rw [Ho1'.out]
      have ht := Ht.out
      go_wp2_with fail
      go_ret
      rw [← Hs.out]
      exact ⟨_, by rw [← R0.out]; rfl, H1.out, E1.out⟩
theorem ticket_leave {w : World} {f m b : Nat} {sl : Value} {s : St} (h : FRep w f m b sl s) (pos : Int) (t : Int) (hp : 0 ≤ pos ∧ pos ≤ 1000000)  {s' : St} (hq : tkLeave pos t s = s') :
    Calls Try.prog 75 #[.pointer (some ⟨f, 0, none⟩), .int .i64 pos, .int .i64 t] w (FPost f m b sl w (.tuple #[]) s') := by
  have H := Lib.hid h
  have E : Hid (Ev [f, b] sl w sl w) := Lib.hid (Ev.refl _ _ _)
  clear h
  unfold tkLeave at hq
  obtain ⟨s1, hq1⟩ : ∃ q, St.store (pos + 1) (wrap64 (t + 1)) s = q := ⟨_, rfl⟩
  simp only [hq1] at hq
  have hs := hq
  clear hq
  have Hq1' := Lib.hid hq1
  clear hq1
  have Hs := Lib.hid hs
  clear hs
  go_enter Try.func75, Try.ntmps75
  go_wp2_with fail
  refine (frame_storeE H.out _ _  Hq1'.out).mono ?_
  rintro e w1 ⟨sl1, rfl, h1, e1⟩
  have H1 := Lib.hid h1
  have E1 := Lib.hid (E.out.trans e1)
  clear h1 e1
  go_wp2_with fail
  go_end0
  rw [← Hs.out]
  exact ⟨_, rfl, H1.out, E1.out⟩

/-- Waits till a ticket is served: so many times at most. -/
def tkWait (pos t : Int) : Nat → St → St
  | 0, s => s
  | n + 1, s => if s.off then s else if (tkServed pos t s).1 then (tkServed pos t s).2 else tkWait pos t n (tkServed pos t s).2
def Fuel (n : Nat) (s : St) : Prop := s.off = true ∨ s.log.length + 1 + (if s.fresh then 1 else 0) ≤ n + s.pos
theorem load_fuel {n : Nat} {a : Int} {s : St} (h : Fuel (n + 1) s) (ho : s.off = false) (hp : s.pos ≤ s.log.length) : Fuel n (St.load a s).2 := by
  rcases h with h | h
  · rw [ho] at h; cases h
  · unfold St.load St.again
    rw [ho]
    simp only [Bool.false_eq_true, if_false]
    by_cases h1 : s.pos < s.log.length
    · rw [if_pos h1]
      simp only [Fuel]
      right; omega
    · rw [if_neg h1]
      by_cases h2 : s.fresh = true
      · rw [if_pos h2]
        simp only [Fuel, St.note]
        right
        simp [h2] at h ⊢
        omega
      · rw [if_neg h2]
        exact .inl rfl
theorem served_fuel {n : Nat} {pos t : Int} {s : St} (h : Fuel (n + 1) s) (ho : s.off = false) (hp : s.pos ≤ s.log.length) : Fuel n (tkServed pos t s).2 := by
  have := load_fuel (a := pos + 1) h ho hp
  unfold tkServed
  rcases hq : St.load (pos + 1) s with ⟨v, s1⟩
  rw [hq] at this
  simp only
  split
  · exact this
  · split <;> exact this
theorem fuel_pos {n : Nat} {s : St} (h : Fuel n s) (ho : s.off = false) (hp : s.pos ≤ s.log.length) : ∃ k, n = k + 1 := by
  rcases h with h | h
  · rw [ho] at h; cases h
  · exact ⟨n - 1, by omega⟩
def WN : Nat := 1000005
def tkEnter (pos : Int) (s : St) : Int × St := ((tkDraw pos s).1, tkWait pos (tkDraw pos s).1 WN (tkDraw pos s).2)
theorem ticket_enter {w : World} {f m b : Nat} {sl : Value} {s : St} (h : FRep w f m b sl s) (pos : Int) (hp : 0 ≤ pos ∧ pos ≤ 1000000) {v : Int} {s' : St} (hq : tkEnter pos s = (v, s')) :
    Calls Try.prog 74 #[.pointer (some ⟨f, 0, none⟩), .int .i64 pos] w (FPost f m b sl w (.int .i64 v) s') := by
  rcases hd : tkDraw pos s with ⟨t, s1⟩
  unfold tkEnter at hq
  rw [hd] at hq
  obtain ⟨rfl, hs⟩ := Prod.mk.inj hq
  clear hq
  simp only at hs
  have H := Lib.hid h
  have E : Hid (Ev [f, b] sl w sl w) := Lib.hid (Ev.refl _ _ _)
  have Hd := Lib.hid hd
  have Hs := Lib.hid hs
  clear h hd hs
  go_enter Try.func74, Try.ntmps74
  go_wp2_with fail
  refine (ticket_draw H.out pos hp Hd.out).mono ?_
  rintro e w1 ⟨sl1, rfl, h1, e1⟩
  have H1 := Lib.hid h1
  have E1 := Lib.hid (E.out.trans e1)
  have hf1 : Fuel WN s1 := .inr (by have := h1.small; unfold WN; omega)
  have HF := Lib.hid hf1
  clear h1 e1 hf1
  go_wp2_with fail
  go_loopg [18] WN (fun k z wr => ∃ s2 sl2, FRep wr f m b sl2 s2 ∧ Ev [f, b] sl w sl2 wr ∧ Fuel k s2 ∧ tkWait pos t k s2 = s')
  case atStart => exact ⟨s1, sl1, H1.out, E1.out, HF.out, Hs.out⟩
  case round =>
    obtain ⟨s2, sl2, h2, e2, hf2, hw2⟩ := hrel
    have hle := h2.le
    have H2 := Lib.hid h2
    have E2 := Lib.hid e2
    cases ho : s2.off with
    | true =>
      have hz : s2 = s' := by
        cases gk with
        | zero => exact hw2
        | succ n => simpa [tkWait, ho] using hw2
      subst hz
      have Ho := Lib.hid ho
      clear ho hw2 hf2 h2 e2
      go_wp2_with fail
      refine (frame_off H2.out).mono ?_
      rintro e w' ⟨rfl, rfl⟩
      rw [Ho.out]
      go_wp2_with fail
      go_ret
      exact ⟨_, rfl, H2.out, E2.out⟩
    | false =>
      obtain ⟨n, rfl⟩ := fuel_pos hf2 ho hle
      rcases hq : tkServed pos t s2 with ⟨r, s3⟩
      have hf3 := served_fuel (pos := pos) (t := t) hf2 ho hle
      rw [hq] at hf3
      simp only [tkWait, ho, hq, Bool.false_eq_true, if_false] at hw2
      have Ho := Lib.hid ho
      have Hq := Lib.hid hq
      have HF3 := Lib.hid hf3
      clear ho hq hf2 hf3 h2 e2
      cases r with
      | true =>
        simp only [if_true] at hw2
        subst hw2
        go_wp2_with fail
        refine (frame_off H2.out).mono ?_
        rintro e w' ⟨rfl, rfl⟩
        rw [Ho.out]
        go_wp2_with fail
        refine (ticket_served H2.out pos t hp Hq.out).mono ?_
        rintro e w3 ⟨sl3, rfl, h3, e3⟩
        have H3 := Lib.hid h3
        have E3 := Lib.hid (E2.out.trans e3)
        clear h3 e3
        go_wp2_with fail
        go_ret
        exact ⟨_, rfl, H3.out, E3.out⟩
      | false =>
        simp only [Bool.false_eq_true, if_false] at hw2
        have Hw := Lib.hid hw2
        clear hw2
        go_wp2_with fail
        refine (frame_off H2.out).mono ?_
        rintro e w' ⟨rfl, rfl⟩
        rw [Ho.out]
        go_wp2_with fail
        refine (ticket_served H2.out pos t hp Hq.out).mono ?_
        rintro e w3 ⟨sl3, rfl, h3, e3⟩
        have H3 := Lib.hid h3
        have E3 := Lib.hid (E2.out.trans e3)
        clear h3 e3
        go_wp2_with fail
        go_roundg n
        case measure => omega
        case rel => exact ⟨s3, sl3, H3.out, E3.out, HF3.out, Hw.out⟩

namespace Law03
namespace One
structure Act where
  kind : Int
  pos : Int
  ticket : Int
  got : Int
  ok : Bool
  deriving DecidableEq
def Act.cells (a : Act) : Array Value := #[.int .u8 a.kind, .int .i64 a.pos, .int .i64 a.ticket, .int .i64 a.got, .bool a.ok]
def ActRep (x : Nat) (a : Act) (o : List Nat) (w : World) : Prop := o = [] ∧ w.heap[x]? = some (.cells a.cells 57 (0, 0))
theorem actStays (x : Nat) : RStays x (ActRep x) := fun r o w w' S h k hx _ => ⟨h.1, k.to h.2 hx⟩
theorem body_draw (x : Nat) {w : World} {f m b : Nat} {sl : Value} {s : St} (h : FRep w f m b sl s) (a : Act) (hr : w.heap[x]? = some (.cells a.cells 57 (0, 0))) (ha : Apart x f m b sl []) (hk : a.kind = 0) (hp : 0 ≤ a.pos ∧ a.pos ≤ 1000000) :
    Calls Try.prog 37 #[.pointer (some ⟨x, 0, none⟩), .pointer (some ⟨f, 0, none⟩)] w fun e w1 => e = .returned (.tuple #[]) ∧ ∃ sl1, FRep w1 f m b sl1 (tkDraw a.pos s).2 ∧
      w1.heap[x]? = some (.cells ({ a with got := (tkDraw a.pos s).1 } : Act).cells 57 (0, 0)) ∧ Ev [x, f, b] sl w sl1 w1 ∧ Apart x f m b sl1 [] := by
  have hxl := lt_of_block hr
  obtain ⟨kind, pos, ticket, got, ok⟩ := a
  simp only at hk
  subst hk
  simp only at hp
  skip
  rcases hq : tkDraw pos s with ⟨r, s'⟩
  have c0 : w.cell? ⟨x, 0, none⟩ = some (.int .u8 0) := cell_of hr rfl
  have c1 : w.cell? ⟨x, 1, none⟩ = some (.int .i64 pos) := cell_of hr rfl
  have Hq := Lib.hid hq
  have H := Lib.hid h
  have Ha := Lib.hid ha
  have Hr := Lib.hid hr
  have Hn : Hid (x ∉ [f, b] ++ blk sl) := Lib.hid (by simp; exact ⟨ha.xf, ha.xb, ha.xl⟩)
  clear hq h ha hr
  go_enter Try.func37, Try.ntmps37
  go_wp2_with fail
  refine (ticket_draw H.out pos hp Hq.out).mono ?_
  rintro e w1 ⟨sl1, rfl, h1, e1⟩
  have hx1 := Lib.hid (e1.keep.to Hr.out Hn.out)
  have H1 := Lib.hid h1
  have E1 := Lib.hid e1
  have f3 := free_of (i := 3) hx1.out
  have d3 := cell_of (i := 3) (v := .int .i64 got) hx1.out rfl
  clear h1 e1
  have Ha1 := Lib.hid (apart_ev Ha.out hxl E1.out H1.out)
  have hk : Keep [x] w1 (w1.setCell ⟨x, 3, none⟩ (.int .i64 r)) := (Keep.refl _ _).setCell (.inr (by simp)) _
  have Hfin : Hid (FRep (w1.setCell ⟨x, 3, none⟩ (.int .i64 r)) f m b sl1 s' ∧ (w1.setCell ⟨x, 3, none⟩ (.int .i64 r)).heap[x]? = some (.cells ({ kind := 0, pos := pos, ticket := ticket, got := r, ok := ok } : Act).cells 57 (0, 0)) ∧ Ev [x, f, b] sl w sl1 (w1.setCell ⟨x, 3, none⟩ (.int .i64 r)) ∧ Apart x f m b sl1 []) :=
    Lib.hid ⟨H1.out.keep hk (by simpa using Ha1.out.xf.symm) (by simpa using Ha1.out.xm.symm) (by simpa using Ha1.out.xb.symm) (own_ne Ha1.out.xl), block_set 3 _ (hx1.out), (E1.out.mono (by simp)).trans (Ev.ofKeep hk (by simp)), Ha1.out⟩
  go_wp2_with fail
  go_end0
  have hq := Hq.out
  simp only [hq]
  exact ⟨trivial, sl1, Hfin.out⟩
theorem body_served (x : Nat) {w : World} {f m b : Nat} {sl : Value} {s : St} (h : FRep w f m b sl s) (a : Act) (hr : w.heap[x]? = some (.cells a.cells 57 (0, 0))) (ha : Apart x f m b sl []) (hk : a.kind = 1) (hp : 0 ≤ a.pos ∧ a.pos ≤ 1000000) :
    Calls Try.prog 37 #[.pointer (some ⟨x, 0, none⟩), .pointer (some ⟨f, 0, none⟩)] w fun e w1 => e = .returned (.tuple #[]) ∧ ∃ sl1, FRep w1 f m b sl1 (tkServed a.pos a.ticket s).2 ∧
      w1.heap[x]? = some (.cells ({ a with ok := (tkServed a.pos a.ticket s).1 } : Act).cells 57 (0, 0)) ∧ Ev [x, f, b] sl w sl1 w1 ∧ Apart x f m b sl1 [] := by
  have hxl := lt_of_block hr
  obtain ⟨kind, pos, ticket, got, ok⟩ := a
  simp only at hk
  subst hk
  simp only at hp
  skip
  rcases hq : tkServed pos ticket s with ⟨r, s'⟩
  have c0 : w.cell? ⟨x, 0, none⟩ = some (.int .u8 1) := cell_of hr rfl
  have c1 : w.cell? ⟨x, 1, none⟩ = some (.int .i64 pos) := cell_of hr rfl
  have c2 : w.cell? ⟨x, 2, none⟩ = some (.int .i64 ticket) := cell_of hr rfl
  have Hq := Lib.hid hq
  have H := Lib.hid h
  have Ha := Lib.hid ha
  have Hr := Lib.hid hr
  have Hn : Hid (x ∉ [f, b] ++ blk sl) := Lib.hid (by simp; exact ⟨ha.xf, ha.xb, ha.xl⟩)
  clear hq h ha hr
  go_enter Try.func37, Try.ntmps37
  go_wp2_with fail
  go_region_held3 (fun w' => w'.cell? ⟨x, 1, none⟩ = some (.int .i64 pos) ∧ w'.cell? ⟨x, 2, none⟩ = some (.int .i64 ticket))
    (first | go_keep | exact ⟨cell_of hx1.out rfl, cell_of hx1.out rfl⟩ | (refine ⟨?_, ?_⟩ <;> go_keep) | exact ⟨cell_of (block_set 4 _ hx1.out) rfl, cell_of (block_set 4 _ hx1.out) rfl⟩)
    (first
      | (go_at_call 78; refine (ticket_served (H.out.drewN 1) pos ticket hp Hq.out).mono ?_; rintro e w1 ⟨sl1, rfl, h1, e1⟩; have hx1 := Lib.hid (e1.keep.to Hr.out Hn.out); have H1 := Lib.hid h1; have E1 : Hid (Ev [f, b] sl w sl1 w1) := Lib.hid ((Ev.ofKeep (Keep.ofDrewN [] w 1) (by simp)).trans e1); have f4 := free_of (i := 4) hx1.out; have d4 := cell_of (i := 4) (v := .bool ok) hx1.out rfl; clear h1 e1))
  have Ha1 := Lib.hid (apart_ev Ha.out hxl E1.out H1.out)
  have hk : Keep [x] w1 (w1.setCell ⟨x, 4, none⟩ (.bool r)) := (Keep.refl _ _).setCell (.inr (by simp)) _
  have Hfin : Hid (FRep (w1.setCell ⟨x, 4, none⟩ (.bool r)) f m b sl1 s' ∧ (w1.setCell ⟨x, 4, none⟩ (.bool r)).heap[x]? = some (.cells ({ kind := 1, pos := pos, ticket := ticket, got := got, ok := r } : Act).cells 57 (0, 0)) ∧ Ev [x, f, b] sl w sl1 (w1.setCell ⟨x, 4, none⟩ (.bool r)) ∧ Apart x f m b sl1 []) :=
    Lib.hid ⟨H1.out.keep hk (by simpa using Ha1.out.xf.symm) (by simpa using Ha1.out.xm.symm) (by simpa using Ha1.out.xb.symm) (own_ne Ha1.out.xl), block_set 4 _ (hx1.out), (E1.out.mono (by simp)).trans (Ev.ofKeep hk (by simp)), Ha1.out⟩
  go_wp2_with fail
  go_end0
  have hq := Hq.out
  simp only [hq]
  exact ⟨trivial, sl1, Hfin.out⟩
theorem body_leave (x : Nat) {w : World} {f m b : Nat} {sl : Value} {s : St} (h : FRep w f m b sl s) (a : Act) (hr : w.heap[x]? = some (.cells a.cells 57 (0, 0))) (ha : Apart x f m b sl [])  (k0 : a.kind ≠ 0) (k1 : a.kind ≠ 1) (hp : 0 ≤ a.pos ∧ a.pos ≤ 1000000) :
    Calls Try.prog 37 #[.pointer (some ⟨x, 0, none⟩), .pointer (some ⟨f, 0, none⟩)] w fun e w1 => e = .returned (.tuple #[]) ∧ ∃ sl1, FRep w1 f m b sl1 (tkLeave a.pos a.ticket s) ∧
      w1.heap[x]? = some (.cells (a : Act).cells 57 (0, 0)) ∧ Ev [x, f, b] sl w sl1 w1 ∧ Apart x f m b sl1 [] := by
  have hxl := lt_of_block hr
  obtain ⟨kind, pos, ticket, got, ok⟩ := a
  simp only at k0 k1 hp
  have k0' : (kind == 0) = false := by simpa using k0
  have k1' : (kind == 1) = false := by simpa using k1
  clear k0 k1
  obtain ⟨s', hq⟩ : ∃ q, tkLeave pos ticket s = q := ⟨_, rfl⟩
  have c0 : w.cell? ⟨x, 0, none⟩ = some (.int .u8 kind) := cell_of hr rfl
  have c1 : w.cell? ⟨x, 1, none⟩ = some (.int .i64 pos) := cell_of hr rfl
  have c2 : w.cell? ⟨x, 2, none⟩ = some (.int .i64 ticket) := cell_of hr rfl
  have Hq := Lib.hid hq
  have H := Lib.hid h
  have Ha := Lib.hid ha
  have Hr := Lib.hid hr
  have Hn : Hid (x ∉ [f, b] ++ blk sl) := Lib.hid (by simp; exact ⟨ha.xf, ha.xb, ha.xl⟩)
  clear hq h ha hr
  go_enter Try.func37, Try.ntmps37
  go_wp2_with fail
  go_region_held3 (fun w' => w'.cell? ⟨x, 1, none⟩ = some (.int .i64 pos) ∧ w'.cell? ⟨x, 2, none⟩ = some (.int .i64 ticket))
    (first | go_keep | exact ⟨cell_of hx1.out rfl, cell_of hx1.out rfl⟩ | (refine ⟨?_, ?_⟩ <;> go_keep))
    (first
      | (go_at_call 75; refine (ticket_leave (H.out.drewN 1) pos ticket hp Hq.out).mono ?_; rintro e w1 ⟨sl1, rfl, h1, e1⟩; have hx1 := Lib.hid (e1.keep.to Hr.out Hn.out); have H1 := Lib.hid h1; have E1 : Hid (Ev [f, b] sl w sl1 w1) := Lib.hid ((Ev.ofKeep (Keep.ofDrewN [] w 1) (by simp)).trans e1); clear h1 e1))
  have Ha1 := Lib.hid (apart_ev Ha.out hxl E1.out H1.out)
  have Hfin : Hid (FRep w1 f m b sl1 s' ∧ w1.heap[x]? = some (.cells ({ kind := kind, pos := pos, ticket := ticket, got := got, ok := ok } : Act).cells 57 (0, 0)) ∧ Ev [x, f, b] sl w sl1 w1 ∧ Apart x f m b sl1 []) :=
    Lib.hid ⟨H1.out, hx1.out, E1.out.mono (by simp), Ha1.out⟩
  go_wp2_with fail
  go_end0
  have hq := Hq.out
  simp only [hq]
  exact ⟨trivial, sl1, Hfin.out⟩

end One
end Law03
end Go.Proofs.Ytkmamebaichboaa
