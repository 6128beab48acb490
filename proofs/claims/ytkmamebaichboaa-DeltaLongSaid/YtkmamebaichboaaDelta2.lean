/- delta.Insert; the body of law 7's acts. No conditions but those stated. -/
import Derived.Test.YtkmamebaichboaaDelta
import Derived.Deep.LoopGhost
namespace Go.Proofs.Ytkmamebaichboaa
open Go.ChangeShapes Go.WideShapes Go.ChangeAt Go.RowKit
set_option linter.unusedVariables false
set_option linter.unusedSimpArgs false
namespace LinkL
open SeqL (load_le load_off load_mono)
def dlLoop (p : Int) : Nat → Int → Bool → Int → St → (Int × Bool × Int) × St
  | 0, v, g, t, s => ((v, g, t), s)
  | n + 1, v, g, t, s => if g = true then
      (if (St.load (wrap64 (v + 2)) s).2.off then ((v, g, t), (St.load (wrap64 (v + 2)) s).2) else
       if t < (St.load (wrap64 (v + 2)) s).1 then ((v, g, t), (St.load (wrap64 (v + 2)) s).2) else
       dlLoop p n (lkNext p v (St.load (wrap64 (v + 2)) s).2).1.1 (lkNext p v (St.load (wrap64 (v + 2)) s).2).1.2 (wrap64 (t - (St.load (wrap64 (v + 2)) s).1)) (lkNext p v (St.load (wrap64 (v + 2)) s).2).2)
    else ((v, g, t), s)
def dlRest (p k : Int) (q : (Int × Bool × Int) × St) : St :=
  if q.2.off then q.2 else if q.1.2.1 = true then dlLater q.1.1 (wrap64 (-q.1.2.2)) (lkAhead q.1.1 k (St.store (wrap64 (k + 2)) q.1.2.2 q.2)) else lkAppend p k (St.store (wrap64 (k + 2)) q.1.2.2 q.2)
def dlInsert (p k t : Int) (s : St) : St := dlRest p k (dlLoop p WN (lkFirst p s).1.1 (lkFirst p s).1.2 t (lkFirst p s).2)
theorem next_le (p v : Int) (s : St) (h : s.pos ≤ s.log.length) : (lkNext p v s).2.pos ≤ (lkNext p v s).2.log.length := by
  have := load_le (wrap64 v) s h
  unfold lkNext
  dsimp only
  split
  · exact this
  · split <;> exact this
theorem next_fuel {n : Nat} {p v : Int} {s : St} (h : Fuel n s) (hp : s.pos ≤ s.log.length) : Fuel n (lkNext p v s).2 := by
  have := load_mono (a := wrap64 v) h hp
  unfold lkNext
  dsimp only
  split
  · exact this
  · split <;> exact this
set_option maxHeartbeats 4000000 in
theorem delta_insert {w : World} {f m b : Nat} {sl : Value} {s : St} (h : FRep w f m b sl s) (p k t : Int) {s' : St} (hq : dlInsert p k t s = s') :
    Calls Try.prog 97 #[.pointer (some ⟨f, 0, none⟩), .int .i64 p, .int .i64 k, .int .i64 t] w (FPost f m b sl w (.tuple #[]) s') := by
  unfold dlInsert at hq
  rcases q1 : lkFirst p s with ⟨⟨v1, g1⟩, s1⟩
  rw [q1] at hq
  simp only at hq
  have H := Lib.hid h; have Q1 := Lib.hid q1; have HQ := Lib.hid hq
  clear h q1 hq
  go_enter Try.func97, Try.ntmps97
  go_wp2_with fail
  refine (list_first H.out p Q1.out).mono ?_
  rintro e w1 ⟨sl1, rfl, h1, e1⟩
  have H1 := Lib.hid h1; have E1 := Lib.hid e1
  have hf1 : Fuel WN s1 := .inr (by have := h1.small; unfold WN; omega)
  have HF := Lib.hid hf1
  clear h1 e1 hf1
  go_wp2_with fail
  go_loopg [3, 8, 9] WN (fun kf zt zm zg wr => ∃ t2 v2 g2 s2 sl2, zt = .int .i64 t2 ∧ zm = .int .i64 v2 ∧ zg = .bool g2 ∧ FRep wr f m b sl2 s2 ∧ Ev [f, b] sl w sl2 wr ∧ Fuel kf s2 ∧ dlRest p k (dlLoop p kf v2 g2 t2 s2) = s')
  case atStart => exact ⟨t, v1, g1, s1, sl1, rfl, rfl, rfl, H1.out, E1.out, HF.out, HQ.out⟩
  case round =>
    obtain ⟨t2, v2, g2, s2, sl2, rfl, rfl, rfl, h2, e2, hf2, hw2⟩ := hrel
    have hle := h2.le
    have H2 := Lib.hid h2; have E2 := Lib.hid e2
    cases g2 with
    | false =>
      have hz : dlLoop p gk v2 false t2 s2 = ((v2, false, t2), s2) := by cases gk <;> simp [dlLoop]
      rw [hz] at hw2
      unfold dlRest at hw2
      cases ho : s2.off with
      | true =>
        simp only [ho, if_true] at hw2
        have HW := Lib.hid hw2
        have Ho := Lib.hid ho
        clear ho hw2 hf2 h2 e2 hz
        go_wp2_with fail
        refine (frame_off H2.out).mono ?_
        rintro e w' ⟨rfl, rfl⟩
        rw [Ho.out]
        go_wp2_with fail
        go_end0
        rw [← HW.out]
        exact ⟨_, rfl, H2.out, E2.out⟩
      | false =>
        simp only [ho, Bool.false_eq_true, if_false] at hw2
        have HW := Lib.hid hw2
        have Ho := Lib.hid ho
        clear ho hw2 hf2 h2 e2 hz
        go_wp2_with fail
        refine (frame_off H2.out).mono ?_
        rintro e w' ⟨rfl, rfl⟩
        rw [Ho.out]
        go_wp2_with fail
        refine (frame_storeE H2.out _ _ rfl).mono ?_
        rintro e w7 ⟨sl7, rfl, h7, e7⟩
        have H7 := Lib.hid h7
        have E7 := Lib.hid (E2.out.trans e7)
        clear h7 e7
        go_wp2_with fail
        refine (list_append H7.out p k rfl).mono ?_
        rintro e w8 ⟨sl8, rfl, h8, e8⟩
        have H8 := Lib.hid h8
        have E8 := Lib.hid (E7.out.trans e8)
        clear h8 e8
        go_wp2_with fail
        go_end0
        rw [← HW.out]
        exact ⟨_, rfl, H8.out, E8.out⟩
    | true =>
      cases ho : s2.off with
      | true =>
        have hz : dlLoop p gk v2 true t2 s2 = ((v2, true, t2), s2) := by
          cases gk with
          | zero => rfl
          | succ n => simp [dlLoop, load_off _ s2 ho, ho]
        rw [hz] at hw2
        unfold dlRest at hw2
        simp only [ho, if_true] at hw2
        have HW := Lib.hid hw2
        have HL := Lib.hid (load_off (wrap64 (v2 + 2)) s2 ho)
        have Ho := Lib.hid ho
        clear ho hw2 hf2 h2 e2 hz
        go_wp2_with fail
        refine (frame_loadE H2.out _ HL.out).mono ?_
        rintro e w3 ⟨sl3, rfl, h3, e3⟩
        have H3 := Lib.hid h3
        have E3 := Lib.hid (E2.out.trans e3)
        clear h3 e3
        go_wp2_with fail
        refine (frame_off H3.out).mono ?_
        rintro e w' ⟨rfl, rfl⟩
        rw [Ho.out]
        go_wp2_with fail
        refine (frame_off H3.out).mono ?_
        rintro e w' ⟨rfl, rfl⟩
        rw [Ho.out]
        go_wp2_with fail
        go_end0
        rw [← HW.out]
        exact ⟨_, rfl, H3.out, E3.out⟩
      | false =>
        obtain ⟨n, rfl⟩ := fuel_pos hf2 ho hle
        have hf3 := load_fuel (a := wrap64 (v2 + 2)) hf2 ho hle
        have hl3 := load_le (wrap64 (v2 + 2)) s2 hle
        simp only [dlLoop, if_true] at hw2
        rcases q3 : St.load (wrap64 (v2 + 2)) s2 with ⟨d, s3⟩
        rw [q3] at hf3 hl3
        simp only [q3] at hw2
        have Q3 := Lib.hid q3
        clear q3 ho hf2 h2 e2
        cases ho3 : s3.off with
        | true =>
          simp only [ho3, if_true] at hw2
          unfold dlRest at hw2
          simp only [ho3, if_true] at hw2
          have HW := Lib.hid hw2
          have Ho := Lib.hid ho3
          clear ho3 hw2 hf3 hl3
          go_wp2_with fail
          refine (frame_loadE H2.out _ Q3.out).mono ?_
          rintro e w3 ⟨sl3, rfl, h3, e3⟩
          have H3 := Lib.hid h3
          have E3 := Lib.hid (E2.out.trans e3)
          clear h3 e3
          go_wp2_with fail
          refine (frame_off H3.out).mono ?_
          rintro e w' ⟨rfl, rfl⟩
          rw [Ho.out]
          go_wp2_with fail
          refine (frame_off H3.out).mono ?_
          rintro e w' ⟨rfl, rfl⟩
          rw [Ho.out]
          go_wp2_with fail
          go_end0
          rw [← HW.out]
          exact ⟨_, rfl, H3.out, E3.out⟩
        | false =>
          simp only [ho3, Bool.false_eq_true, if_false] at hw2
          by_cases hd : t2 < d
          · rw [if_pos hd] at hw2
            unfold dlRest at hw2
            simp only [ho3, Bool.false_eq_true, if_false, if_true] at hw2
            have HW := Lib.hid hw2
            have Ho := Lib.hid ho3
            have hdd : decide (t2 < d) = true := decide_eq_true hd
            clear ho3 hw2 hf3 hl3
            go_wp2_with fail
            refine (frame_loadE H2.out _ Q3.out).mono ?_
            rintro e w3 ⟨sl3, rfl, h3, e3⟩
            have H3 := Lib.hid h3
            have E3 := Lib.hid (E2.out.trans e3)
            clear h3 e3
            go_wp2_with fail
            refine (frame_off H3.out).mono ?_
            rintro e w' ⟨rfl, rfl⟩
            rw [Ho.out]
            go_wp2_with fail
            refine (frame_off H3.out).mono ?_
            rintro e w' ⟨rfl, rfl⟩
            rw [Ho.out]
            go_wp2_with fail
            refine (frame_storeE H3.out _ _ rfl).mono ?_
            rintro e w7 ⟨sl7, rfl, h7, e7⟩
            have H7 := Lib.hid h7
            have E7 := Lib.hid (E3.out.trans e7)
            clear h7 e7
            go_wp2_with fail
            refine (list_ahead H7.out v2 k rfl).mono ?_
            rintro e w8 ⟨sl8, rfl, h8, e8⟩
            have H8 := Lib.hid h8
            have E8 := Lib.hid (E7.out.trans e8)
            clear h8 e8
            go_wp2_with fail
            refine (delta_later H8.out v2 (wrap64 (-t2)) rfl).mono ?_
            rintro e w9 ⟨sl9, rfl, h9, e9⟩
            have H9 := Lib.hid h9
            have E9 := Lib.hid (E8.out.trans e9)
            clear h9 e9
            go_wp2_with fail
            go_end0
            rw [← HW.out]
            exact ⟨_, rfl, H9.out, E9.out⟩
          · rw [if_neg hd] at hw2
            have hdd : decide (t2 < d) = false := decide_eq_false hd
            have hf4 := next_fuel (p := p) (v := v2) hf3 hl3
            rcases q4 : lkNext p v2 s3 with ⟨⟨v4, g4⟩, s4⟩
            rw [q4] at hf4
            simp only [q4] at hw2
            have HW := Lib.hid hw2
            have Ho := Lib.hid ho3
            have Q4 := Lib.hid q4
            have HF4 := Lib.hid hf4
            clear ho3 hw2 hf3 hl3 q4 hf4
            go_wp2_with fail
            refine (frame_loadE H2.out _ Q3.out).mono ?_
            rintro e w3 ⟨sl3, rfl, h3, e3⟩
            have H3 := Lib.hid h3
            have E3 := Lib.hid (E2.out.trans e3)
            clear h3 e3
            go_wp2_with fail
            refine (frame_off H3.out).mono ?_
            rintro e w' ⟨rfl, rfl⟩
            rw [Ho.out]
            go_wp2_with fail
            refine (list_next H3.out p v2 Q4.out).mono ?_
            rintro e w4 ⟨sl4, rfl, h4, e4⟩
            have H4 := Lib.hid h4
            have E4 := Lib.hid (E3.out.trans e4)
            clear h4 e4
            go_wp2_with fail
            go_roundg n
            case measure => omega
            case rel => exact ⟨_, _, _, s4, sl4, rfl, rfl, rfl, H4.out, E4.out, HF4.out, HW.out⟩
end LinkL

namespace Law07
open LinkL
structure Act where
  kind : Int
  n : Int
  ticks : Int
  got : Int
  ok : Bool
  deriving DecidableEq
def Act.cells (a : Act) : Array Value := #[.int .u8 a.kind, .int .i64 a.n, .int .i64 a.ticks, .int .i64 a.got, .bool a.ok]
def ActRep (x : Nat) (a : Act) (o : List Nat) (w : World) : Prop := o = [] ∧ w.heap[x]? = some (.cells a.cells 121 (0, 0))
theorem actStays (x : Nat) : RStays x (ActRep x) := fun r o w w' S h k hx _ => ⟨h.1, k.to h.2 hx⟩
theorem body_ins (x : Nat) {w : World} {f m b : Nat} {sl : Value} {s : St} (h : FRep w f m b sl s) (a : Act) (hr : w.heap[x]? = some (.cells a.cells 121 (0, 0))) (ha : Apart x f m b sl []) (hk : a.kind = 0)  :
    Calls Try.prog 62 #[.pointer (some ⟨x, 0, none⟩), .pointer (some ⟨f, 0, none⟩)] w fun e w1 => e = .returned (.tuple #[]) ∧ ∃ sl1, FRep w1 f m b sl1 (dlInsert 2 a.n a.ticks s) ∧
      w1.heap[x]? = some (.cells (a : Act).cells 121 (0, 0)) ∧ Ev [x, f, b] sl w sl1 w1 ∧ Apart x f m b sl1 [] := by
  have hxl := lt_of_block hr
  obtain ⟨kind, n, ticks, got, ok⟩ := a
  simp only at hk
  subst hk
  obtain ⟨s', hq⟩ : ∃ q, dlInsert 2 n ticks s = q := ⟨_, rfl⟩
  have c0 : w.cell? ⟨x, 0, none⟩ = some (.int .u8 0) := cell_of hr rfl
  have c1 : w.cell? ⟨x, 1, none⟩ = some (.int .i64 n) := cell_of hr rfl
  have c2 : w.cell? ⟨x, 2, none⟩ = some (.int .i64 ticks) := cell_of hr rfl
  have Hq := Lib.hid hq
  have H := Lib.hid h
  have Ha := Lib.hid ha
  have Hr := Lib.hid hr
  have Hn : Hid (x ∉ [f, b] ++ blk sl) := Lib.hid (by simp; exact ⟨ha.xf, ha.xb, ha.xl⟩)
  clear hq h ha hr
  go_enter Try.func62, Try.ntmps62
  go_wp2_with fail
  go_region_held3 (fun w' => w'.cell? ⟨x, 1, none⟩ = some (.int .i64 n) ∧ w'.cell? ⟨x, 2, none⟩ = some (.int .i64 ticks))
    (first | go_keep | exact ⟨cell_of hx1.out rfl, cell_of hx1.out rfl⟩ | (refine ⟨?_, ?_⟩ <;> go_keep))
    (first
      | (go_at_call 97; refine (delta_insert (H.out.drewN 1) 2 n ticks Hq.out).mono ?_; rintro e w1 ⟨sl1, rfl, h1, e1⟩; have hx1 := Lib.hid (e1.keep.to Hr.out Hn.out); have H1 := Lib.hid h1; have E1 : Hid (Ev [f, b] sl w sl1 w1) := Lib.hid ((Ev.ofKeep (Keep.ofDrewN [] w 1) (by simp)).trans e1); clear h1 e1))
  have Ha1 := Lib.hid (apart_ev Ha.out hxl E1.out H1.out)
  have Hfin : Hid (FRep w1 f m b sl1 s' ∧ w1.heap[x]? = some (.cells ({ kind := 0, n := n, ticks := ticks, got := got, ok := ok } : Act).cells 121 (0, 0)) ∧ Ev [x, f, b] sl w sl1 w1 ∧ Apart x f m b sl1 []) :=
    Lib.hid ⟨H1.out, hx1.out, E1.out.mono (by simp), Ha1.out⟩
  go_wp2_with fail
  go_end0
  have hq := Hq.out
  simp only [hq]
  exact ⟨trivial, sl1, Hfin.out⟩
theorem body_rem (x : Nat) {w : World} {f m b : Nat} {sl : Value} {s : St} (h : FRep w f m b sl s) (a : Act) (hr : w.heap[x]? = some (.cells a.cells 121 (0, 0))) (ha : Apart x f m b sl []) (hk : a.kind = 1)  :
    Calls Try.prog 62 #[.pointer (some ⟨x, 0, none⟩), .pointer (some ⟨f, 0, none⟩)] w fun e w1 => e = .returned (.tuple #[]) ∧ ∃ sl1, FRep w1 f m b sl1 (dlRemove 2 a.n s) ∧
      w1.heap[x]? = some (.cells (a : Act).cells 121 (0, 0)) ∧ Ev [x, f, b] sl w sl1 w1 ∧ Apart x f m b sl1 [] := by
  have hxl := lt_of_block hr
  obtain ⟨kind, n, ticks, got, ok⟩ := a
  simp only at hk
  subst hk
  obtain ⟨s', hq⟩ : ∃ q, dlRemove 2 n s = q := ⟨_, rfl⟩
  have c0 : w.cell? ⟨x, 0, none⟩ = some (.int .u8 1) := cell_of hr rfl
  have c1 : w.cell? ⟨x, 1, none⟩ = some (.int .i64 n) := cell_of hr rfl
  have Hq := Lib.hid hq
  have H := Lib.hid h
  have Ha := Lib.hid ha
  have Hr := Lib.hid hr
  have Hn : Hid (x ∉ [f, b] ++ blk sl) := Lib.hid (by simp; exact ⟨ha.xf, ha.xb, ha.xl⟩)
  clear hq h ha hr
  go_enter Try.func62, Try.ntmps62
  go_wp2_with fail
  refine (delta_remove H.out 2 n Hq.out).mono ?_
  rintro e w1 ⟨sl1, rfl, h1, e1⟩
  have hx1 := Lib.hid (e1.keep.to Hr.out Hn.out)
  have H1 := Lib.hid h1
  have E1 := Lib.hid e1
  clear h1 e1
  have Ha1 := Lib.hid (apart_ev Ha.out hxl E1.out H1.out)
  have Hfin : Hid (FRep w1 f m b sl1 s' ∧ w1.heap[x]? = some (.cells ({ kind := 1, n := n, ticks := ticks, got := got, ok := ok } : Act).cells 121 (0, 0)) ∧ Ev [x, f, b] sl w sl1 w1 ∧ Apart x f m b sl1 []) :=
    Lib.hid ⟨H1.out, hx1.out, E1.out.mono (by simp), Ha1.out⟩
  go_wp2_with fail
  go_end0
  have hq := Hq.out
  simp only [hq]
  exact ⟨trivial, sl1, Hfin.out⟩
theorem body_tick (x : Nat) {w : World} {f m b : Nat} {sl : Value} {s : St} (h : FRep w f m b sl s) (a : Act) (hr : w.heap[x]? = some (.cells a.cells 121 (0, 0))) (ha : Apart x f m b sl []) (hk : a.kind = 2)  :
    Calls Try.prog 62 #[.pointer (some ⟨x, 0, none⟩), .pointer (some ⟨f, 0, none⟩)] w fun e w1 => e = .returned (.tuple #[]) ∧ ∃ sl1, FRep w1 f m b sl1 (dlTick 2 s) ∧
      w1.heap[x]? = some (.cells (a : Act).cells 121 (0, 0)) ∧ Ev [x, f, b] sl w sl1 w1 ∧ Apart x f m b sl1 [] := by
  have hxl := lt_of_block hr
  obtain ⟨kind, n, ticks, got, ok⟩ := a
  simp only at hk
  subst hk
  obtain ⟨s', hq⟩ : ∃ q, dlTick 2 s = q := ⟨_, rfl⟩
  have c0 : w.cell? ⟨x, 0, none⟩ = some (.int .u8 2) := cell_of hr rfl
  have Hq := Lib.hid hq
  have H := Lib.hid h
  have Ha := Lib.hid ha
  have Hr := Lib.hid hr
  have Hn : Hid (x ∉ [f, b] ++ blk sl) := Lib.hid (by simp; exact ⟨ha.xf, ha.xb, ha.xl⟩)
  clear hq h ha hr
  go_enter Try.func62, Try.ntmps62
  go_wp2_with fail
  refine (delta_tick H.out 2 Hq.out).mono ?_
  rintro e w1 ⟨sl1, rfl, h1, e1⟩
  have hx1 := Lib.hid (e1.keep.to Hr.out Hn.out)
  have H1 := Lib.hid h1
  have E1 := Lib.hid e1
  clear h1 e1
  have Ha1 := Lib.hid (apart_ev Ha.out hxl E1.out H1.out)
  have Hfin : Hid (FRep w1 f m b sl1 s' ∧ w1.heap[x]? = some (.cells ({ kind := 2, n := n, ticks := ticks, got := got, ok := ok } : Act).cells 121 (0, 0)) ∧ Ev [x, f, b] sl w sl1 w1 ∧ Apart x f m b sl1 []) :=
    Lib.hid ⟨H1.out, hx1.out, E1.out.mono (by simp), Ha1.out⟩
  go_wp2_with fail
  go_end0
  have hq := Hq.out
  simp only [hq]
  exact ⟨trivial, sl1, Hfin.out⟩
theorem body_due (x : Nat) {w : World} {f m b : Nat} {sl : Value} {s : St} (h : FRep w f m b sl s) (a : Act) (hr : w.heap[x]? = some (.cells a.cells 121 (0, 0))) (ha : Apart x f m b sl []) (hk : a.kind = 3)  :
    Calls Try.prog 62 #[.pointer (some ⟨x, 0, none⟩), .pointer (some ⟨f, 0, none⟩)] w fun e w1 => e = .returned (.tuple #[]) ∧ ∃ sl1, FRep w1 f m b sl1 (dlDue 2 s).2 ∧
      w1.heap[x]? = some (.cells ({ a with got := (dlDue 2 s).1.1, ok := (dlDue 2 s).1.2 } : Act).cells 121 (0, 0)) ∧ Ev [x, f, b] sl w sl1 w1 ∧ Apart x f m b sl1 [] := by
  have hxl := lt_of_block hr
  obtain ⟨kind, n, ticks, got, ok⟩ := a
  simp only at hk
  subst hk
  rcases hq : dlDue 2 s with ⟨⟨r0, r1⟩, s'⟩
  have c0 : w.cell? ⟨x, 0, none⟩ = some (.int .u8 3) := cell_of hr rfl
  have Hq := Lib.hid hq
  have H := Lib.hid h
  have Ha := Lib.hid ha
  have Hr := Lib.hid hr
  have Hn : Hid (x ∉ [f, b] ++ blk sl) := Lib.hid (by simp; exact ⟨ha.xf, ha.xb, ha.xl⟩)
  clear hq h ha hr
  go_enter Try.func62, Try.ntmps62
  go_wp2_with fail
  refine (delta_due H.out 2 Hq.out).mono ?_
  rintro e w1 ⟨sl1, rfl, h1, e1⟩
  have hx1 := Lib.hid (e1.keep.to Hr.out Hn.out)
  have H1 := Lib.hid h1
  have E1 := Lib.hid e1
  have f3 := free_of (i := 3) hx1.out
  have d3 := cell_of (i := 3) (v := .int .i64 got) hx1.out rfl
  have f4 := free_of (i := 4) hx1.out
  have d4 := cell_of (i := 4) (v := .bool ok) hx1.out rfl
  clear h1 e1
  have Ha1 := Lib.hid (apart_ev Ha.out hxl E1.out H1.out)
  have hk : Keep [x] w1 ((w1.setCell ⟨x, 3, none⟩ (.int .i64 r0)).setCell ⟨x, 4, none⟩ (.bool r1)) := ((Keep.refl _ _).setCell (.inr (by simp)) _).setCell (.inr (by simp)) _
  have Hfin : Hid (FRep ((w1.setCell ⟨x, 3, none⟩ (.int .i64 r0)).setCell ⟨x, 4, none⟩ (.bool r1)) f m b sl1 s' ∧ ((w1.setCell ⟨x, 3, none⟩ (.int .i64 r0)).setCell ⟨x, 4, none⟩ (.bool r1)).heap[x]? = some (.cells ({ kind := 3, n := n, ticks := ticks, got := r0, ok := r1 } : Act).cells 121 (0, 0)) ∧ Ev [x, f, b] sl w sl1 ((w1.setCell ⟨x, 3, none⟩ (.int .i64 r0)).setCell ⟨x, 4, none⟩ (.bool r1)) ∧ Apart x f m b sl1 []) :=
    Lib.hid ⟨H1.out.keep hk (by simpa using Ha1.out.xf.symm) (by simpa using Ha1.out.xm.symm) (by simpa using Ha1.out.xb.symm) (own_ne Ha1.out.xl), block_set 4 _ (block_set 3 _ (hx1.out)), (E1.out.mono (by simp)).trans (Ev.ofKeep hk (by simp)), Ha1.out⟩
  go_wp2_with fail
  go_end0
  have hq := Hq.out
  simp only [hq]
  exact ⟨trivial, sl1, Hfin.out⟩
theorem body_init (x : Nat) {w : World} {f m b : Nat} {sl : Value} {s : St} (h : FRep w f m b sl s) (a : Act) (hr : w.heap[x]? = some (.cells a.cells 121 (0, 0))) (ha : Apart x f m b sl [])  (k0 : a.kind ≠ 0) (k1 : a.kind ≠ 1) (k2 : a.kind ≠ 2) (k3 : a.kind ≠ 3) :
    Calls Try.prog 62 #[.pointer (some ⟨x, 0, none⟩), .pointer (some ⟨f, 0, none⟩)] w fun e w1 => e = .returned (.tuple #[]) ∧ ∃ sl1, FRep w1 f m b sl1 (lkInit 2 s) ∧
      w1.heap[x]? = some (.cells (a : Act).cells 121 (0, 0)) ∧ Ev [x, f, b] sl w sl1 w1 ∧ Apart x f m b sl1 [] := by
  have hxl := lt_of_block hr
  obtain ⟨kind, n, ticks, got, ok⟩ := a
  simp only at k0 k1 k2 k3
  have k0' : (kind == 0) = false := by simpa using k0
  have k1' : (kind == 1) = false := by simpa using k1
  have k2' : (kind == 2) = false := by simpa using k2
  have k3' : (kind == 3) = false := by simpa using k3
  clear k0 k1 k2 k3
  obtain ⟨s', hq⟩ : ∃ q, lkInit 2 s = q := ⟨_, rfl⟩
  have c0 : w.cell? ⟨x, 0, none⟩ = some (.int .u8 kind) := cell_of hr rfl
  have Hq := Lib.hid hq
  have H := Lib.hid h
  have Ha := Lib.hid ha
  have Hr := Lib.hid hr
  have Hn : Hid (x ∉ [f, b] ++ blk sl) := Lib.hid (by simp; exact ⟨ha.xf, ha.xb, ha.xl⟩)
  clear hq h ha hr
  go_enter Try.func62, Try.ntmps62
  go_wp2_with fail
  refine (delta_init H.out 2 Hq.out).mono ?_
  rintro e w1 ⟨sl1, rfl, h1, e1⟩
  have hx1 := Lib.hid (e1.keep.to Hr.out Hn.out)
  have H1 := Lib.hid h1
  have E1 := Lib.hid e1
  clear h1 e1
  have Ha1 := Lib.hid (apart_ev Ha.out hxl E1.out H1.out)
  have Hfin : Hid (FRep w1 f m b sl1 s' ∧ w1.heap[x]? = some (.cells ({ kind := kind, n := n, ticks := ticks, got := got, ok := ok } : Act).cells 121 (0, 0)) ∧ Ev [x, f, b] sl w sl1 w1 ∧ Apart x f m b sl1 []) :=
    Lib.hid ⟨H1.out, hx1.out, E1.out.mono (by simp), Ha1.out⟩
  go_wp2_with fail
  go_end0
  have hq := Hq.out
  simp only [hq]
  exact ⟨trivial, sl1, Hfin.out⟩

def actB (a : Act) (s : St) : Act × St :=
  if a.kind = 0 then (a, dlInsert 2 a.n a.ticks s)
  else if a.kind = 1 then (a, dlRemove 2 a.n s)
  else if a.kind = 2 then (a, dlTick 2 s)
  else if a.kind = 3 then ({ a with got := (dlDue 2 s).1.1, ok := (dlDue 2 s).1.2 }, (dlDue 2 s).2)
  else (a, lkInit 2 s)
theorem bodyOK (x : Nat) : BodyOK 62 x (ActRep x) actB := by
  rintro f m b w sl s a o hf ⟨rfl, hr⟩ ha _
  have fin : ∀ (e : Ending) (w1 : World), (e = .returned (.tuple #[]) ∧ ∃ sl1, FRep w1 f m b sl1 (actB a s).2 ∧
      w1.heap[x]? = some (.cells (actB a s).1.cells 121 (0, 0)) ∧ Ev [x, f, b] sl w sl1 w1 ∧ Apart x f m b sl1 []) →
      e = .returned (.tuple #[]) ∧ ∃ sl1 o1, FRep w1 f m b sl1 (actB a s).2 ∧ ActRep x (actB a s).1 o1 w1 ∧
      EvO [x, f, b] (blk sl ++ []) w (blk sl1 ++ o1) w1 ∧ Apart x f m b sl1 o1 ∧ (∀ k ∈ o1, k < w1.heap.size) := by
    rintro e w1 ⟨he, sl1, h1, h2, h3, h4⟩
    exact ⟨he, sl1, [], h1, ⟨rfl, h2⟩, h3.toO [], h4, by simp⟩
  by_cases k0 : a.kind = 0
  · refine (body_ins x hf a hr ha k0).mono fun e w1 h => fin e w1 ?_
    simp only [actB, if_pos k0]; exact h
  · by_cases k1 : a.kind = 1
    · refine (body_rem x hf a hr ha k1).mono fun e w1 h => fin e w1 ?_
      simp only [actB, if_neg k0, if_pos k1]; exact h
    · by_cases k2 : a.kind = 2
      · refine (body_tick x hf a hr ha k2).mono fun e w1 h => fin e w1 ?_
        simp only [actB, if_neg k0, if_neg k1, if_pos k2]; exact h
      · by_cases k3 : a.kind = 3
        · refine (body_due x hf a hr ha k3).mono fun e w1 h => fin e w1 ?_
          simp only [actB, if_neg k0, if_neg k1, if_neg k2, if_pos k3]; exact h
        · refine (body_init x hf a hr ha k0 k1 k2 k3).mono fun e w1 h => fin e w1 ?_
          simp only [actB, if_neg k0, if_neg k1, if_neg k2, if_neg k3]; exact h
theorem bodyK : ∀ (y z : Addr) (wx : World), (callFunc 62 #[.pointer (some y), .pointer (some z)]).run Try.prog wx = .ok (.enter 62 #[.pointer (some y), .pointer (some z)]) wx := fun _ _ _ => by kernel_rfl
end Law07
end Go.Proofs.Ytkmamebaichboaa
