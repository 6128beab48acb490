/- Law 3: the body of one that uses a lock. No conditions but those stated. -/
import Derived.Test.YtkmamebaichboaaTicket
import Derived.Deep.CutRange
import Derived.Deep.DeepCutAuto
import Derived.Deep.RegionHeld3
namespace Go.Proofs.Ytkmamebaichboaa
open Go.ChangeShapes Go.WideShapes Go.ChangeAt Go.RowKit
set_option linter.unusedVariables false
set_option linter.unusedSimpArgs false
/-- A field of the receiver is stored. -/
theorem put_field {x f m b : Nat} {sl : Value} {w : World} {s : St} {c : Array Value} {T : TypeId} (h : FRep w f m b sl s) (hr : w.heap[x]? = some (.cells c T (0, 0))) (ha : Apart x f m b sl []) (i : Nat) (v : Value) :
    FRep (w.setCell ⟨x, i, none⟩ v) f m b sl s ∧ (w.setCell ⟨x, i, none⟩ v).heap[x]? = some (.cells (c.setIfInBounds i v) T (0, 0)) ∧ Ev [x, f, b] sl w sl (w.setCell ⟨x, i, none⟩ v) := by
  have hk : Keep [x] w (w.setCell ⟨x, i, none⟩ v) := (Keep.refl _ _).setCell (.inr (by simp)) _
  exact ⟨h.keep hk (by simpa using ha.xf.symm) (by simpa using ha.xm.symm) (by simpa using ha.xb.symm) (own_ne ha.xl), block_set i v hr, Ev.ofKeep hk (by simp)⟩
/-- A call on the frame, the receiver standing. -/
theorem past_call {x f m b : Nat} {sl sl' : Value} {w w' : World} {s s' : St} {c : Array Value} {T : TypeId} (h : FRep w f m b sl s) (hr : w.heap[x]? = some (.cells c T (0, 0))) (ha : Apart x f m b sl []) (h' : FRep w' f m b sl' s') (e : Ev [f, b] sl w sl' w') :
    w'.heap[x]? = some (.cells c T (0, 0)) ∧ Apart x f m b sl' [] ∧ Ev [x, f, b] sl w sl' w' :=
  ⟨e.keep.to hr (by simp; exact ⟨ha.xf, ha.xb, ha.xl⟩), apart_ev ha (lt_of_block hr) e h', e.mono (by simp)⟩
namespace Law03
namespace User
structure Usr where
  pos : Int
  ticket : Int
  got : Int
  inside : Bool
def Usr.cells (u : Usr) : Array Value := #[.int .i64 u.pos, .int .i64 u.ticket, .int .i64 u.got, .bool u.inside]
def usB (u : Usr) (s : St) : Usr × St :=
  let (t, s1) := tkEnter u.pos s
  let (g, s2) := St.load 5 s1
  let s3 := St.store 5 (wrap64 (g + 1)) s2
  let s4 := tkLeave u.pos t s3
  ({ u with ticket := t, got := g, inside := if s4.off then !s1.off else false }, s4)
set_option maxHeartbeats 2000000 in
theorem user_body (x : Nat) {w : World} {f m b : Nat} {sl : Value} {s : St} (h : FRep w f m b sl s) (u : Usr) (hr : w.heap[x]? = some (.cells u.cells 52 (0, 0))) (ha : Apart x f m b sl []) (hp : 0 ≤ u.pos ∧ u.pos ≤ 1000000) :
    Calls Try.prog 35 #[.pointer (some ⟨x, 0, none⟩), .pointer (some ⟨f, 0, none⟩)] w fun e w1 => e = .returned (.tuple #[]) ∧ ∃ sl1, FRep w1 f m b sl1 (usB u s).2 ∧
      w1.heap[x]? = some (.cells (usB u s).1.cells 52 (0, 0)) ∧ Ev [x, f, b] sl w sl1 w1 ∧ Apart x f m b sl1 [] := by
  obtain ⟨pos, ticket, got, inside⟩ := u
  simp only at hp
  rcases q1 : tkEnter pos s with ⟨t, s1⟩
  rcases q2 : St.load 5 s1 with ⟨g, s2⟩
  obtain ⟨s3, q3⟩ : ∃ q, St.store 5 (wrap64 (g + 1)) s2 = q := ⟨_, rfl⟩
  obtain ⟨s4, q4⟩ : ∃ q, tkLeave pos t s3 = q := ⟨_, rfl⟩
  have hres : usB ⟨pos, ticket, got, inside⟩ s = (⟨pos, t, g, if s4.off then !s1.off else false⟩, s4) := by
    simp only [usB, q1, q2, q3, q4]
  have HRes := Lib.hid hres
  have Q1 := Lib.hid q1; have Q2 := Lib.hid q2; have Q3 := Lib.hid q3; have Q4 := Lib.hid q4
  have d3 : w.cell? ⟨x, 3, none⟩ = some (.bool inside) := cell_of hr rfl
  have f3 : w.frozen? ⟨x, 3, none⟩ = false := free_of (i := 3) hr
  have P := Lib.hid (put_field h hr ha 3 (.bool false))
  have HA := Lib.hid ha
  clear h hr ha q1 q2 q3 q4 hres
  go_enter Try.func35, Try.ntmps35
  go_upto_region 1 with fail
  generalize w.setCell ⟨x, 3, none⟩ (.bool false) = wa at P ⊢
  have ca0 : wa.cell? ⟨x, 0, none⟩ = some (.int .i64 pos) := cell_of P.out.2.1 rfl
  clear d3 f3
  go_wp2_with fail
  refine (ticket_enter P.out.1 pos hp Q1.out).mono ?_
  rintro e wb ⟨slb, rfl, hb, eb⟩
  have PB := past_call P.out.1 P.out.2.1 HA.out hb eb
  have B1 := Lib.hid hb; have B2 := Lib.hid PB.1; have B3 := Lib.hid PB.2.1; have B4 := Lib.hid (P.out.2.2.trans PB.2.2)
  have db : wb.cell? ⟨x, 1, none⟩ = some (.int .i64 ticket) := cell_of B2.out rfl
  have fb : wb.frozen? ⟨x, 1, none⟩ = false := free_of (i := 1) B2.out
  have PC := Lib.hid (put_field hb PB.1 PB.2.1 1 (.int .i64 t))
  clear hb eb PB ca0 P
  go_upto_region 2 with fail
  generalize wb.setCell ⟨x, 1, none⟩ (.int .i64 t) = wc at PC ⊢
  clear db fb
  have C4 := Lib.hid (B4.out.trans PC.out.2.2)
  have dc : wc.cell? ⟨x, 3, none⟩ = some (.bool false) := cell_of PC.out.2.1 rfl
  have fc : wc.frozen? ⟨x, 3, none⟩ = false := free_of (i := 3) PC.out.2.1
  have PD := Lib.hid (put_field PC.out.1 PC.out.2.1 B3.out 3 (.bool (!s1.off)))
  go_wp2_with fail
  refine (frame_off PC.out.1).mono ?_
  rintro e w' ⟨rfl, rfl⟩
  go_upto_region 3 with fail
  generalize wc.setCell ⟨x, 3, none⟩ (.bool (!s1.off)) = wd at PD ⊢
  clear dc fc
  have D4 := Lib.hid (C4.out.trans PD.out.2.2)
  go_wp2_with fail
  refine (frame_loadE PD.out.1 5 Q2.out).mono ?_
  rintro e we ⟨sle, rfl, he, ee⟩
  have PE := past_call PD.out.1 PD.out.2.1 B3.out he ee
  have E1 := Lib.hid he; have E2 := Lib.hid PE.1; have E3 := Lib.hid PE.2.1; have E4 := Lib.hid (D4.out.trans PE.2.2)
  have de : we.cell? ⟨x, 2, none⟩ = some (.int .i64 got) := cell_of E2.out rfl
  have fe : we.frozen? ⟨x, 2, none⟩ = false := free_of (i := 2) E2.out
  have PF := Lib.hid (put_field he PE.1 PE.2.1 2 (.int .i64 g))
  clear he ee PE
  go_upto_region 4 with fail
  generalize we.setCell ⟨x, 2, none⟩ (.int .i64 g) = wf at PF ⊢
  clear de fe
  have F4 := Lib.hid (E4.out.trans PF.out.2.2)
  have cf2 : wf.cell? ⟨x, 2, none⟩ = some (.int .i64 g) := cell_of PF.out.2.1 rfl
  go_wp2_with fail
  refine (frame_storeE PF.out.1 5 _ Q3.out).mono ?_
  rintro e wg ⟨slg, rfl, hg, eg⟩
  have PG := past_call PF.out.1 PF.out.2.1 E3.out hg eg
  have G1 := Lib.hid hg; have G2 := Lib.hid PG.1; have G3 := Lib.hid PG.2.1; have G4 := Lib.hid (F4.out.trans PG.2.2)
  clear hg eg PG cf2
  have cg0 : wg.cell? ⟨x, 0, none⟩ = some (.int .i64 pos) := cell_of G2.out rfl
  have cg1 : wg.cell? ⟨x, 1, none⟩ = some (.int .i64 t) := cell_of G2.out rfl
  go_upto_region 5 with fail
  go_region_held3 (fun w' => w'.cell? ⟨x, 0, none⟩ = some (.int .i64 pos) ∧ w'.cell? ⟨x, 1, none⟩ = some (.int .i64 t))
    (first | go_keep | exact ⟨cell_of h2.out rfl, cell_of h2.out rfl⟩)
    (first
      | (go_at_call 75; refine (ticket_leave (G1.out.drewN 1) pos t hp Q4.out).mono ?_; rintro e wh ⟨slh, rfl, hh, eh⟩; have PH := past_call (G1.out.drewN 1) ((Keep.ofDrewN [] wg 1).to G2.out (by simp)) G3.out hh eh; have h1 := Lib.hid hh; have h2 := Lib.hid PH.1; have h3 := Lib.hid PH.2.1; have h4 : Hid (Ev [x, f, b] sl w slh wh) := Lib.hid (G4.out.trans ((Ev.ofKeep (Keep.ofDrewN [] wg 1) (by simp)).trans PH.2.2)); clear hh eh PH))
  clear B1 B2 B3 B4 C4 D4 E1 E2 E3 E4 F4 G1 G2 G3 G4 PC PD PF cg0 cg1
  cases ho : s4.off with
  | true =>
    have Ho := Lib.hid ho
    clear ho
    go_wp2_with fail
    refine (frame_off h1.out).mono ?_
    rintro e w' ⟨rfl, rfl⟩
    rw [Ho.out]
    go_wp2_with fail
    go_end0
    rw [HRes.out]
    refine ⟨rfl, slh, h1.out, ?_, h4.out, h3.out⟩
    simp only [Ho.out, if_true]
    exact h2.out
  | false =>
    have Ho := Lib.hid ho
    clear ho
    go_wp2_with fail
    refine (frame_off h1.out).mono ?_
    rintro e w' ⟨rfl, rfl⟩
    rw [Ho.out]
    have dh : wh.cell? ⟨x, 3, none⟩ = some (.bool (!s1.off)) := cell_of h2.out rfl
    have fh : wh.frozen? ⟨x, 3, none⟩ = false := free_of (i := 3) h2.out
    have PI := Lib.hid (put_field h1.out h2.out h3.out 3 (.bool false))
    go_wp2_with fail
    go_end0
    rw [HRes.out]
    refine ⟨rfl, slh, PI.out.1, ?_, h4.out.trans PI.out.2.2, h3.out⟩
    simp only [Ho.out, Bool.false_eq_true, if_false]
    exact PI.out.2.1
end User
end Law03
end Go.Proofs.Ytkmamebaichboaa
