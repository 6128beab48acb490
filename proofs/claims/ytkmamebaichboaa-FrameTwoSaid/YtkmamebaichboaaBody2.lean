/- Law 2's bodies: the walk. No conditions but those stated. -/
import Derived.Test.YtkmamebaichboaaBody
import Derived.Deep.LoopGhost
import Derived.Deep.CutRange
import Derived.Deep.CutBlock
import Derived.Deep.DeepCutAuto
namespace Go.Proofs.Ytkmamebaichboaa
open Go.ChangeShapes Go.WideShapes Go.ChangeAt Go.RowKit
set_option linter.unusedVariables false
set_option linter.unusedSimpArgs false
namespace Law02
open Prog
def isOdd (last : Int) : Bool := last.tmod 2 != 0
def insVal (x : Ins) (last : Int) : Int := if x.dep then wrap64 (x.v + last) else x.v
def insP (x : Ins) (last : Int) : Prog Int :=
  if x.kind = 0 then ld x.a
  else if x.kind = 1 then (do st x.a (insVal x last); pure 0)
  else if x.kind = 2 then ad x.a (insVal x last)
  else (do let b ← sw x.a x.w (insVal x last); pure (if b then 1 else 0))
def bodyP : List Ins → Bool → Int → List Int → Prog (List Int × Int)
  | [], _, last, got => pure (got, last)
  | _ :: l, true, last, got => bodyP l false last got
  | x :: l, false, last, got => do
    let r ← insP x last
    if x.mark then do
      markIt
      bodyP l (x.skip && isOdd last) r (got ++ [r])
    else bodyP l (x.skip && isOdd last) r (got ++ [r])
theorem body_skip (l : List Ins) (last : Int) (got : List Int) : bodyP l true last got = bodyP (l.drop 1) false last got := by
  cases l <;> rfl
theorem body_run (l : List Ins) (i : Nat) (x : Ins) (hx : l[i]? = some x) (last : Int) (got : List Int) (s : St) :
    (bodyP (l.drop i) false last got).run s = (bodyP (l.drop (i + 1 + (if x.skip && isOdd last then 1 else 0))) false ((insP x last).run s).1 (got ++ [((insP x last).run s).1])).run (if x.mark then ((insP x last).run s).2.markIt else ((insP x last).run s).2) := by
  have hi : i < l.length := by
    rcases Nat.lt_or_ge i l.length with h | h
    · exact h
    · rw [List.getElem?_eq_none h] at hx; cases hx
  have e : l.drop i = x :: l.drop (i + 1) := by
    rw [List.drop_eq_getElem_cons hi]
    congr 1
    rw [List.getElem?_eq_getElem hi] at hx
    exact Option.some.inj hx
  rw [e]
  have sk : ∀ r g, bodyP (l.drop (i + 1)) (x.skip && isOdd last) r g = bodyP (l.drop (i + 1 + (if x.skip && isOdd last then 1 else 0))) false r g := by
    intro r g
    cases x.skip && isOdd last with
    | true => rw [body_skip, List.drop_drop]; rfl
    | false => rfl
  show (do
    let r ← insP x last
    if x.mark then do
      markIt
      bodyP (l.drop (i + 1)) (x.skip && isOdd last) r (got ++ [r])
    else bodyP (l.drop (i + 1)) (x.skip && isOdd last) r (got ++ [r]) : Prog _).run s = _
  rw [r_bind, sk]
  cases x.mark <;> simp
theorem body_end (l : List Ins) (i : Nat) (hi : l.length ≤ i) (last : Int) (got : List Int) (s : St) : (bodyP (l.drop i) false last got).run s = ((got, last), s) := by
  rw [List.drop_eq_nil_of_le hi]
  rfl
theorem Mid.start {w : World} {x f m b : Nat} {ao : Option Addr} {cap : Nat} {l : List Ins} {sl slG : Value} {s : St} {o : List Nat} {v : Value} (h : FRep w f m b sl s) (hr : w.heap[x]? = some (.cells #[.slice ao l.length cap, slG, v] 39 (0, 0)))
    (ha : Apart x f m b sl o) (ho : ∀ k ∈ o, k < w.heap.size) (hro : RoOK (roOf ao) w f b sl o) (hx : x ∉ roOf ao) (hl : LAt w ao cap l) :
    Mid w (blk sl ++ o) x f m b ao cap l ((w.setCell ⟨x, 1, none⟩ (.slice none 0 0)).setCell ⟨x, 2, none⟩ (.int .i64 0)) sl (.slice none 0 0) s [] 0 := by
  have k : Keep [x] w ((w.setCell ⟨x, 1, none⟩ (.slice none 0 0)).setCell ⟨x, 2, none⟩ (.int .i64 0)) := ((Keep.refl _ _).setCell (.inr (by simp)) _).setCell (.inr (by simp)) _
  refine ⟨h.keep k (by simpa using ha.xf.symm) (by simpa using ha.xm.symm) (by simpa using ha.xb.symm) (own_ne ha.xl), block_set 2 _ (block_set 1 _ hr), ⟨rfl, .inl ⟨rfl, rfl⟩⟩,
    ⟨ha.xf, ha.xm, ha.xb, ha.xl, by simp [blk, Value.ownBlock], by simp [blk, Value.ownBlock], by simp [blk, Value.ownBlock], by simp [blk, Value.ownBlock], by simp [blk, Value.ownBlock]⟩, by simp [blk, Value.ownBlock], fun j hj => ?_, hx, hl.keep k (fun j hj e => hx (by simp at e; exact e ▸ hj)), ⟨k.mono (by simp), fun j hj => ?_⟩⟩
  · obtain ⟨h1, h2, h3, h4, h5⟩ := hro j hj
    exact ⟨k.lt h1, h2, h3, h4, by simp [blk, Value.ownBlock]⟩
  · left
    simp [blk, Value.ownBlock] at hj ⊢
    exact .inl hj
set_option maxRecDepth 100000 in
set_option maxHeartbeats 4000000 in
theorem prog_body {w : World} {x f m b : Nat} {ao : Option Addr} {cap : Nat} {l : List Ins} {sl slG : Value} {s : St} {o : List Nat} {last0 : Int} (h : FRep w f m b sl s) (hr : w.heap[x]? = some (.cells #[.slice ao l.length cap, slG, .int .i64 last0] 39 (0, 0)))
    (ha : Apart x f m b sl o) (ho : ∀ k ∈ o, k < w.heap.size) (hro : RoOK (roOf ao) w f b sl o) (hx : x ∉ roOf ao) (hl : LAt w ao cap l) (hlen : l.length ≤ 1000) {gotF : List Int} {lastF : Int} {sF : St} (hq : (bodyP l false 0 []).run s = ((gotF, lastF), sF)) :
    Calls Try.prog 30 #[.pointer (some ⟨x, 0, none⟩), .pointer (some ⟨f, 0, none⟩)] w fun e w1 => e = .returned (.tuple #[]) ∧ ∃ sl1 slG1, Mid w (blk sl ++ o) x f m b ao cap l w1 sl1 slG1 sF gotF lastF := by
  obtain ⟨i0, hi0, hz0, hz1, hz2⟩ := info_parts info64
  have M0 := Lib.hid (Mid.start h hr ha ho hro hx hl)
  have d1 : w.cell? ⟨x, 1, none⟩ = some slG := cell_of hr rfl
  have d2 : w.cell? ⟨x, 2, none⟩ = some (.int .i64 last0) := cell_of hr rfl
  have f1 : w.frozen? ⟨x, 1, none⟩ = false := free_of (i := 1) hr
  have f2 : w.frozen? ⟨x, 2, none⟩ = false := free_of (i := 2) hr
  have Hq := Lib.hid hq
  clear h hr ha ho hro hx hl hq
  go_enter Try.func30, Try.ntmps30
  go_wp2_with fail
  generalize (w.setCell ⟨x, 1, none⟩ (.slice none 0 0)).setCell ⟨x, 2, none⟩ (.int .i64 0) = w1 at M0 ⊢
  clear d1 d2 f1 f2
  go_loopg [4] (l.length + 2) (fun gz q wr => ∃ i : Nat, q = .int .i64 i ∧ gz + i = l.length + 2 ∧ 1 ≤ gz ∧ ∃ sl1 slG1 s1 got last, Mid w (blk sl ++ o) x f m b ao cap l wr sl1 slG1 s1 got last ∧ got.length ≤ i ∧ (bodyP (l.drop i) false last got).run s1 = ((gotF, lastF), sF))
  case atStart => exact ⟨0, rfl, by omega, by omega, sl, _, s, [], 0, M0.out, by simp, Hq.out⟩
  case round =>
    obtain ⟨i, rfl, hil, hil2, sl1, slG1, s1, got, last, hm, hgl, hrun⟩ := hrel
    have HM := Lib.hid hm
    have HR := Lib.hid hrun
    clear hm hrun M0 Hq
    have c0 : wr.cell? ⟨x, 0, none⟩ = some (.slice ao l.length cap) := cell_of HM.out.head rfl
    have c2 : wr.cell? ⟨x, 2, none⟩ = some (.int .i64 last) := cell_of HM.out.head rfl
    by_cases hlt : i < l.length
    · obtain ⟨y, hy⟩ : ∃ y, l[i]? = some y := ⟨l[i], by simp [hlt]⟩
      obtain ⟨g, og, rfl, e0, e1, e2, e3, e4, e5, e6⟩ := HM.out.laid.cell i y hy
      have hj0 : (0 : Int) ≤ (i : Int) := by omega
      have hj1 : (i : Int) < (l.length : Int) := by omega
      have hstep := body_run l i y hy last got s1
      rw [HR.out] at hstep
      have HS := Lib.hid hstep
      clear hstep HR hy
      obtain ⟨kind, a, v, u, dep, skip, mark⟩ := y
      simp only at e0 e1 e2 e3 e4 e5 e6
      have hpx : wr.heap.size ≠ x := by have := lt_of_block HM.out.head; omega
      have M2 := Lib.hid (HM.out.more ((Keep.refl [] wr).alloc (.cells #[.int .u8 kind, .int .i64 a, .int .i64 v, .int .i64 u, .bool dep, .bool skip, .bool mark] 34)))
      have Y2 := Lib.hid (one_new wr (.cells #[.int .u8 kind, .int .i64 a, .int .i64 v, .int .i64 u, .bool dep, .bool skip, .bool mark] 34))
      have hfp : wr.heap.size ≠ f ∧ wr.heap.size ≠ b ∧ wr.heap.size ∉ blk sl1 := by
        have h1 := lt_of_block HM.out.frame.head
        have h2 := lt_of_block HM.out.frame.mem.body
        refine ⟨by omega, by omega, fun hin => ?_⟩
        have := (HM.out.frame.ne.2.2.2 _ (mem_blk.1 hin)).2.2.2
        omega
      have hpg : wr.heap.size ∉ blk slG1 := fun hin => by have := HM.out.lt _ hin; omega
      go_upto_region 5 with fail
      generalize hw2 : wr.alloc (.cells #[.int .u8 kind, .int .i64 a, .int .i64 v, .int .i64 u, .bool dep, .bool skip, .bool mark] 34) = w2 at M2 Y2 ⊢
      generalize hpp : wr.heap.size = p at *
      clear e0 e1 e2 e3 e4 e5 e6 c0 c2 HM hw2 hpp
      have y0 : w2.cell? ⟨p, 0, none⟩ = some (.int .u8 kind) := cell_of Y2.out rfl
      have y2 : w2.cell? ⟨p, 2, none⟩ = some (.int .i64 v) := cell_of Y2.out rfl
      have y4 : w2.cell? ⟨p, 4, none⟩ = some (.bool dep) := cell_of Y2.out rfl
      have x2 : w2.cell? ⟨x, 2, none⟩ = some (.int .i64 last) := cell_of M2.out.head rfl
      have x2f : w2.frozen? ⟨x, 2, none⟩ = false := free_of (i := 2) M2.out.head
      go_upto_if 33 with fail
      go_cut [6] from 14 to 110 (fun s6 wc => s6 = .int .i64 (insVal ⟨kind, a, v, u, dep, skip, mark⟩ last) ∧ wc = w2)
      case first =>
        cases dep
        all_goals
          go_wp2_with fail
          go_meet
          exact ⟨rfl, rfl⟩
      case rest =>
        obtain ⟨rfl, rfl⟩ := hcut
        generalize hv : insVal ⟨kind, a, v, u, dep, skip, mark⟩ last = vv
        have M3 := Lib.hid (M2.out.setLast 0)
        go_upto_region 10 with fail
        generalize hw3 : wc.setCell ⟨x, 2, none⟩ (.int .i64 0) = w3 at M3 ⊢
        have Y3 : Hid (w3.heap[p]? = some (.cells #[.int .u8 kind, .int .i64 a, .int .i64 v, .int .i64 u, .bool dep, .bool skip, .bool mark] 34 (0, 0))) :=
          Lib.hid (hw3 ▸ ((Keep.refl [x] wc).setCell (.inr (by simp)) _).to Y2.out (by simpa using hpx))
        clear hw3 y0 y2 y4 x2 x2f M2 Y2
        have hv2 := Lib.hid hv
        clear hv
        have Ycells : Hid (∀ wx : World, wx.heap[p]? = some (.cells #[.int .u8 kind, .int .i64 a, .int .i64 v, .int .i64 u, .bool dep, .bool skip, .bool mark] 34 (0, 0)) →
            wx.cell? ⟨p, 0, none⟩ = some (.int .u8 kind) ∧ wx.cell? ⟨p, 1, none⟩ = some (.int .i64 a) ∧ wx.cell? ⟨p, 3, none⟩ = some (.int .i64 u) ∧ wx.cell? ⟨p, 5, none⟩ = some (.bool skip) ∧ wx.cell? ⟨p, 6, none⟩ = some (.bool mark)) :=
          Lib.hid (fun wx h => ⟨cell_of h rfl, cell_of h rfl, cell_of h rfl, cell_of h rfl, cell_of h rfl⟩)
        obtain ⟨z0, z1, z3, z5, z6⟩ := Ycells.out _ Y3.out
        go_upto_block 2 with fail
        have hodd : Hid ((last.tmod 2 != 0) = isOdd last) := Lib.hid rfl
        go_cut [50] from 14 to 110 (fun s50 wc => ∃ r s2 sl2, (insP ⟨kind, a, v, u, dep, skip, mark⟩ last).run s1 = (r, s2) ∧ Mid w (blk sl ++ o) x f m b (some ⟨g, og, none⟩) cap l wc sl2 slG1 s2 got r ∧ wc.heap[p]? = some (.cells #[.int .u8 kind, .int .i64 a, .int .i64 v, .int .i64 u, .bool dep, .bool skip, .bool mark] 34 (0, 0)) ∧ p ∉ blk sl2)
        case first =>
          by_cases k0 : kind = 0
          · rcases hq1 : St.load a s1 with ⟨r, s2⟩
            have Hi : Hid ((insP ⟨kind, a, v, u, dep, skip, mark⟩ last).run s1 = (r, s2)) := Lib.hid (by simp only [insP, if_pos k0, r_ld, hq1])
            have Hq1 := Lib.hid hq1
            have k0b : (kind == 0) = true := by simpa using k0
            clear hq1 k0
            go_wp2_with fail
            refine (frame_loadE M3.out.frame a Hq1.out).mono ?_
            rintro e w4 ⟨sl4, rfl, h4, e4⟩
            have M4 := Lib.hid (M3.out.call h4 e4)
            have Y4 : Hid (w4.heap[p]? = some (.cells #[.int .u8 kind, .int .i64 a, .int .i64 v, .int .i64 u, .bool dep, .bool skip, .bool mark] 34 (0, 0))) := Lib.hid (e4.keep.to Y3.out (by simp; exact hfp))
            have hp4 : p ∉ blk sl4 := fun hin => by
              rcases e4.new with q | q
              · exact hfp.2.2 (mem_blk.2 (q ▸ mem_blk.1 hin))
              · have := q p (mem_blk.1 hin); have := lt_of_block Y3.out; omega
            clear h4 e4 z0 z1 z3 z5 z6
            have x2 : w4.cell? ⟨x, 2, none⟩ = some (.int .i64 0) := cell_of M4.out.head rfl
            have x2f : w4.frozen? ⟨x, 2, none⟩ = false := free_of (i := 2) M4.out.head
            have M5 := Lib.hid (M4.out.setLast r)
            have Y5 : Hid ((w4.setCell ⟨x, 2, none⟩ (.int .i64 r)).heap[p]? = some (.cells #[.int .u8 kind, .int .i64 a, .int .i64 v, .int .i64 u, .bool dep, .bool skip, .bool mark] 34 (0, 0))) := Lib.hid (((Keep.refl [x] w4).setCell (.inr (by simp)) _).to Y4.out (by simpa using hpx))
            go_wp2_with fail
            go_meet
            exact ⟨r, s2, sl4, Hi.out, M5.out, Y5.out, hp4⟩
          by_cases k1 : kind = 1
          · obtain ⟨s2, hq1⟩ : ∃ q, St.store a vv s1 = q := ⟨_, rfl⟩
            have Hi : Hid ((insP ⟨kind, a, v, u, dep, skip, mark⟩ last).run s1 = (0, s2)) := Lib.hid (by simp only [insP, if_neg k0, if_pos k1, r_bind, r_st, r_pure, hv2.out, hq1])
            have Hq1 := Lib.hid hq1
            have k0b : (kind == 0) = false := by simpa using k0
            have k1b : (kind == 1) = true := by simpa using k1
            clear hq1 k0 k1
            go_wp2_with fail
            refine (frame_storeE M3.out.frame a vv Hq1.out).mono ?_
            rintro e w4 ⟨sl4, rfl, h4, e4⟩
            have M4 := Lib.hid (M3.out.call h4 e4)
            have Y4 : Hid (w4.heap[p]? = some (.cells #[.int .u8 kind, .int .i64 a, .int .i64 v, .int .i64 u, .bool dep, .bool skip, .bool mark] 34 (0, 0))) := Lib.hid (e4.keep.to Y3.out (by simp; exact hfp))
            have hp4 : p ∉ blk sl4 := fun hin => by
              rcases e4.new with q | q
              · exact hfp.2.2 (mem_blk.2 (q ▸ mem_blk.1 hin))
              · have := q p (mem_blk.1 hin); have := lt_of_block Y3.out; omega
            clear h4 e4 z0 z1 z3 z5 z6
            go_wp2_with fail
            go_meet
            exact ⟨0, s2, sl4, Hi.out, M4.out, Y4.out, hp4⟩
          by_cases k2 : kind = 2
          · rcases hq1 : St.add a vv s1 with ⟨r, s2⟩
            have Hi : Hid ((insP ⟨kind, a, v, u, dep, skip, mark⟩ last).run s1 = (r, s2)) := Lib.hid (by simp only [insP, if_neg k0, if_neg k1, if_pos k2, r_ad, hv2.out, hq1])
            have Hq1 := Lib.hid hq1
            have k0b : (kind == 0) = false := by simpa using k0
            have k1b : (kind == 1) = false := by simpa using k1
            have k2b : (kind == 2) = true := by simpa using k2
            clear hq1 k0 k1 k2
            go_wp2_with fail
            refine (frame_addE M3.out.frame a vv Hq1.out).mono ?_
            rintro e w4 ⟨sl4, rfl, h4, e4⟩
            have M4 := Lib.hid (M3.out.call h4 e4)
            have Y4 : Hid (w4.heap[p]? = some (.cells #[.int .u8 kind, .int .i64 a, .int .i64 v, .int .i64 u, .bool dep, .bool skip, .bool mark] 34 (0, 0))) := Lib.hid (e4.keep.to Y3.out (by simp; exact hfp))
            have hp4 : p ∉ blk sl4 := fun hin => by
              rcases e4.new with q | q
              · exact hfp.2.2 (mem_blk.2 (q ▸ mem_blk.1 hin))
              · have := q p (mem_blk.1 hin); have := lt_of_block Y3.out; omega
            clear h4 e4 z0 z1 z3 z5 z6
            have x2 : w4.cell? ⟨x, 2, none⟩ = some (.int .i64 0) := cell_of M4.out.head rfl
            have x2f : w4.frozen? ⟨x, 2, none⟩ = false := free_of (i := 2) M4.out.head
            have M5 := Lib.hid (M4.out.setLast r)
            have Y5 : Hid ((w4.setCell ⟨x, 2, none⟩ (.int .i64 r)).heap[p]? = some (.cells #[.int .u8 kind, .int .i64 a, .int .i64 v, .int .i64 u, .bool dep, .bool skip, .bool mark] 34 (0, 0))) := Lib.hid (((Keep.refl [x] w4).setCell (.inr (by simp)) _).to Y4.out (by simpa using hpx))
            go_wp2_with fail
            go_meet
            exact ⟨r, s2, sl4, Hi.out, M5.out, Y5.out, hp4⟩
          have k0' : (kind == 0) = false := by simpa using k0
          have k1' : (kind == 1) = false := by simpa using k1
          have k2' : (kind == 2) = false := by simpa using k2
          rcases hq1 : St.swap a u vv s1 with ⟨r, s2⟩
          have Hi0 : (insP ⟨kind, a, v, u, dep, skip, mark⟩ last).run s1 = (if r then 1 else 0, s2) := by simp only [insP, if_neg k0, if_neg k1, if_neg k2, r_bind, r_sw, r_pure, hv2.out, hq1]
          have Hq1 := Lib.hid hq1
          clear hq1 k0 k1 k2
          cases r with
          | true =>
            have Hi : Hid ((insP ⟨kind, a, v, u, dep, skip, mark⟩ last).run s1 = (1, s2)) := Lib.hid Hi0
            clear Hi0
            go_wp2_with fail
            refine (frame_swapE M3.out.frame a u vv Hq1.out).mono ?_
            rintro e w4 ⟨sl4, rfl, h4, e4⟩
            have M4 := Lib.hid (M3.out.call h4 e4)
            have Y4 : Hid (w4.heap[p]? = some (.cells #[.int .u8 kind, .int .i64 a, .int .i64 v, .int .i64 u, .bool dep, .bool skip, .bool mark] 34 (0, 0))) := Lib.hid (e4.keep.to Y3.out (by simp; exact hfp))
            have hp4 : p ∉ blk sl4 := fun hin => by
              rcases e4.new with q | q
              · exact hfp.2.2 (mem_blk.2 (q ▸ mem_blk.1 hin))
              · have := q p (mem_blk.1 hin); have := lt_of_block Y3.out; omega
            clear h4 e4 z0 z1 z3 z5 z6
            have x2 : w4.cell? ⟨x, 2, none⟩ = some (.int .i64 0) := cell_of M4.out.head rfl
            have x2f : w4.frozen? ⟨x, 2, none⟩ = false := free_of (i := 2) M4.out.head
            have M5 := Lib.hid (M4.out.setLast 1)
            have Y5 : Hid ((w4.setCell ⟨x, 2, none⟩ (.int .i64 1)).heap[p]? = some (.cells #[.int .u8 kind, .int .i64 a, .int .i64 v, .int .i64 u, .bool dep, .bool skip, .bool mark] 34 (0, 0))) := Lib.hid (((Keep.refl [x] w4).setCell (.inr (by simp)) _).to Y4.out (by simpa using hpx))
            go_wp2_with fail
            go_meet
            exact ⟨1, s2, sl4, Hi.out, M5.out, Y5.out, hp4⟩
          | false =>
            have Hi : Hid ((insP ⟨kind, a, v, u, dep, skip, mark⟩ last).run s1 = (0, s2)) := Lib.hid Hi0
            clear Hi0
            go_wp2_with fail
            refine (frame_swapE M3.out.frame a u vv Hq1.out).mono ?_
            rintro e w4 ⟨sl4, rfl, h4, e4⟩
            have M4 := Lib.hid (M3.out.call h4 e4)
            have Y4 : Hid (w4.heap[p]? = some (.cells #[.int .u8 kind, .int .i64 a, .int .i64 v, .int .i64 u, .bool dep, .bool skip, .bool mark] 34 (0, 0))) := Lib.hid (e4.keep.to Y3.out (by simp; exact hfp))
            have hp4 : p ∉ blk sl4 := fun hin => by
              rcases e4.new with q | q
              · exact hfp.2.2 (mem_blk.2 (q ▸ mem_blk.1 hin))
              · have := q p (mem_blk.1 hin); have := lt_of_block Y3.out; omega
            clear h4 e4 z0 z1 z3 z5 z6
            go_wp2_with fail
            go_meet
            exact ⟨0, s2, sl4, Hi.out, M4.out, Y4.out, hp4⟩
        case rest =>
          obtain ⟨r, s2, sl2, hi, hm, hy, hp2⟩ := hcut
          have HI := Lib.hid hi; have HM := Lib.hid hm; have HY := Lib.hid hy
          clear hi hm hy M3 Y3 z0 z1 z3 z5 z6
          have x1 : wc.cell? ⟨x, 1, none⟩ = some slG1 := cell_of HM.out.head rfl
          have x2 : wc.cell? ⟨x, 2, none⟩ = some (.int .i64 r) := cell_of HM.out.head rfl
          have x1f : wc.frozen? ⟨x, 1, none⟩ = false := free_of (i := 1) HM.out.head
          have hown := HM.out.own
          have hxl : x < wc.heap.size := lt_of_block HM.out.head
          have hfar : slG1.ownBlock ≠ some x := fun e => HM.out.ap.xo (mem_blk.2 e)
          go_upto_region 19 with fail
          go_cut [87] from 14 to 110 (fun s87 wd => ∃ slG2, Mid w (blk sl ++ o) x f m b (some ⟨g, og, none⟩) cap l wd sl2 slG2 s2 (got ++ [r]) r ∧ wd.heap[p]? = some (.cells #[.int .u8 kind, .int .i64 a, .int .i64 v, .int .i64 u, .bool dep, .bool skip, .bool mark] 34 (0, 0)))
          case first =>
            go_region_law ((refine step_append_lies _ (by rfl) _ _ _ (by rfl) 0 2 i0 _ 1 8 Try.underlying37 hi0 hz0 hz1 hz2 rfl (by omega) slG1 got.length (got.map (Value.int .i64)) (by rfl) ((hown.alloc _).drew) ⟨wc.heap.size, 0, none⟩ 1 1 [.int .i64 r] (by rfl) (by rfl) (World.news_of_block (cs := #[.int .i64 r]) (t := 2) (fr := (0, 0)) (heap_alloc_new wc _)) (by simp [Value.oneCell']) (by omega) (by unfold maxLen; omega) (by omega) (by simp) (wc.heap.size + 1) (by simp) ?_; intro gg gcap w5 hown2 hgrow hat hlt5; have hb2 : w5.heap[x]? = wc.heap[x]? := (by rw [hgrow.block x (by simp; omega) (Ne.symm hfar)]; exact Below.heap_alloc wc _ x hxl); have hh2 := Lib.hid (hb2.trans HM.out.head); have q1 := cell_of (i := 1) (v := slG1) hh2.out rfl; have q2 := cell_of (i := 2) (v := .int .i64 r) hh2.out rfl; have g1 := free_of (i := 1) hh2.out; have Hg2 := Lib.hid hgrow; have Ho2 := Lib.hid hown2; have Hat := Lib.hid hat; have Hlt := Lib.hid hlt5; clear hb2 hgrow hown2 hat hlt5))
            all_goals
              have MA := Lib.hid (HM.out.app (((Keep.refl [] wc).alloc _).drew) Hg2.out Ho2.out (Hat.out.imp id (fun e => by omega)) Hlt.out)
              have YA := Lib.hid (((((Keep.refl [] wc).alloc _).drew.mono (S' := blk slG1) (by simp)).of_grown Hg2.out (fun k hk => .inr (mem_blk.2 hk))).to HY.out hpg)
              have YB := Lib.hid (((Keep.refl [x] w5).setCell (.inr (by simp)) (.slice (some ⟨gg, 0, none⟩) (got.length + 1) gcap) (p := ⟨x, 1, none⟩)).to YA.out (by simpa using hpx))
              go_wp2_with fail
              go_meet
              exact ⟨_, MA.out, YB.out⟩
          case rest =>
            obtain ⟨slG2, hm, hy⟩ := hcut
            have HM2 := Lib.hid hm; have HY2 := Lib.hid hy
            have hs := HS.out
            simp only [HI.out] at hs
            have hod0 : (last.tmod 2 != 0) = isOdd last := rfl
            generalize isOdd last = od at hs hod0
            have HS2 := Lib.hid hs
            have HOD := Lib.hid hod0
            clear hm hy HS HI HM HY x1 x2 x1f hown hxl hfar hs hod0 hodd
            obtain ⟨_, _, _, z5, z6⟩ := Ycells.out _ HY2.out
            cases mark with
            | false =>
              have fin : ∀ n : Nat, n = i + 1 + (if skip && od then 1 else 0) → (bodyP (l.drop n) false r (got ++ [r])).run s2 = ((gotF, lastF), sF) := by
                rintro n rfl; simpa using HS2.out.symm
              have Fin := Lib.hid fin
              clear fin
              cases skip with
              | false =>
                go_wp2_with fail
                go_roundg (gk - 1)
                case measure => omega
                case rel => exact ⟨i + 1, by go_num, by omega, by omega, sl2, slG2, s2, got ++ [r], r, HM2.out, by simp; omega, Fin.out _ rfl⟩
              | true =>
                cases od with
                | false =>
                  have hod := HOD.out
                  go_wp2_with fail
                  go_roundg (gk - 1)
                  case measure => omega
                  case rel => exact ⟨i + 1, by go_num, by omega, by omega, sl2, slG2, s2, got ++ [r], r, HM2.out, by simp; omega, Fin.out _ rfl⟩
                | true =>
                  have hod := HOD.out
                  go_wp2_with fail
                  go_roundg (gk - 2)
                  case measure => omega
                  case rel => exact ⟨i + 2, by go_num, by omega, by omega, sl2, slG2, s2, got ++ [r], r, HM2.out, by simp; omega, Fin.out _ rfl⟩
            | true =>
              have fin : ∀ n : Nat, n = i + 1 + (if skip && od then 1 else 0) → (bodyP (l.drop n) false r (got ++ [r])).run s2.markIt = ((gotF, lastF), sF) := by
                rintro n rfl; simpa using HS2.out.symm
              have Fin := Lib.hid fin
              clear fin
              cases skip with
              | false =>
                go_wp2_with fail
                refine (frame_mark HM2.out.frame).mono ?_
                rintro e w6 ⟨sl6, rfl, h6, e6⟩
                have M6 := Lib.hid (HM2.out.call h6 e6)
                have z5' : w6.cell? ⟨p, 5, none⟩ = some (.bool false) := cell_of (e6.keep.to HY2.out (by simp; exact ⟨hfp.1, hfp.2.1, hp2⟩)) rfl
                clear h6 e6 z5 z6
                go_wp2_with fail
                go_roundg (gk - 1)
                case measure => omega
                case rel => exact ⟨i + 1, by go_num, by omega, by omega, sl6, slG2, _, got ++ [r], r, M6.out, by simp; omega, Fin.out _ rfl⟩
              | true =>
                cases od with
                | false =>
                  have hod := HOD.out
                  go_wp2_with fail
                  refine (frame_mark HM2.out.frame).mono ?_
                  rintro e w6 ⟨sl6, rfl, h6, e6⟩
                  have M6 := Lib.hid (HM2.out.call h6 e6)
                  have z5' : w6.cell? ⟨p, 5, none⟩ = some (.bool true) := cell_of (e6.keep.to HY2.out (by simp; exact ⟨hfp.1, hfp.2.1, hp2⟩)) rfl
                  clear h6 e6 z5 z6
                  go_wp2_with fail
                  go_roundg (gk - 1)
                  case measure => omega
                  case rel => exact ⟨i + 1, by go_num, by omega, by omega, sl6, slG2, _, got ++ [r], r, M6.out, by simp; omega, Fin.out _ rfl⟩
                | true =>
                  have hod := HOD.out
                  go_wp2_with fail
                  refine (frame_mark HM2.out.frame).mono ?_
                  rintro e w6 ⟨sl6, rfl, h6, e6⟩
                  have M6 := Lib.hid (HM2.out.call h6 e6)
                  have z5' : w6.cell? ⟨p, 5, none⟩ = some (.bool true) := cell_of (e6.keep.to HY2.out (by simp; exact ⟨hfp.1, hfp.2.1, hp2⟩)) rfl
                  clear h6 e6 z5 z6
                  go_wp2_with fail
                  go_roundg (gk - 2)
                  case measure => omega
                  case rel => exact ⟨i + 2, by go_num, by omega, by omega, sl6, slG2, _, got ++ [r], r, M6.out, by simp; omega, Fin.out _ rfl⟩
    · have he := body_end l i (by omega) last got s1
      rw [HR.out] at he
      simp only [Prod.mk.injEq] at he
      obtain ⟨⟨rfl, rfl⟩, rfl⟩ := he
      have hlt' : ¬ ((i : Int) < (l.length : Int)) := by omega
      go_wp2_with fail
      go_end0
      exact ⟨rfl, _, _, HM.out⟩
end Law02
end Go.Proofs.Ytkmamebaichboaa
