/- Law 2: the contract of plain.step. No conditions but those stated. -/
import Derived.Test.YtkmamebaichboaaPlainLaw
import Derived.Test.YtkmamebaichboaaRef
import Derived.Test.YtkmamebaichboaaFrameOver
namespace Go.Proofs.Ytkmamebaichboaa
open Go.ChangeShapes Go.WideShapes Go.ChangeAt Go.RowKit
set_option linter.unusedVariables false
set_option linter.unusedSimpArgs false
namespace Law02
open Prog
theorem keep_at (w : World) (b i : Nat) (v : Value) : Keep [b] w (w.setCell ⟨b, i, none⟩ v) := (Keep.refl [b] w).setCell (.inr (by simp)) v
/-- A plain body at block x. -/
def PlRep (x : Nat) (ao : Option Addr) (cap : Nat) (l : List Ins) (p : Pl) (o : List Nat) (w : World) : Prop :=
  ∃ slG, w.heap[x]? = some (.cells #[.slice ao l.length cap, .int .i64 p.i, .int .i64 p.last, slG, .int .i64 p.n, .int .i64 p.mark, .bool p.has] 77 (0, 0)) ∧ w.ownsRow 0 2 1 slG p.got.length (p.got.map (Value.int .i64)) ∧ o = blk slG ∧ LAt w ao cap l ∧ l.length ≤ 1000
theorem PlRep.keep {x : Nat} {ao : Option Addr} {cap : Nat} {l : List Ins} {p : Pl} {o : List Nat} {w w' : World} {S : List Nat} (h : PlRep x ao cap l p o w) (k : Keep S w w') (hx : x ∉ S) (ho : ∀ j ∈ o, j ∉ S) (hr : ∀ j ∈ roOf ao, j ∉ S) : PlRep x ao cap l p o w' := by
  obtain ⟨slG, h1, h2, rfl, h4, h5⟩ := h
  exact ⟨slG, k.to h1 hx, own_keep h2 k ho, rfl, h4.keep k hr, h5⟩
theorem own_other {w : World} {x : Nat} {sl : Value} {n : Nat} {xs : List Value} {cs : Array Value} {T : TypeId} {fz : Nat × Nat} (h : w.ownsRow 0 2 1 sl n xs) (hb : w.heap[x]? = some (.cells cs T fz)) (hT : T ≠ 2) : x ∉ blk sl := by
  intro hm
  rw [mem_blk] at hm
  rcases h.2 with ⟨rfl, _⟩ | ⟨g, cap, cur, rfl, _, hh, _⟩
  · simp [Value.ownBlock] at hm
  · simp [Value.ownBlock] at hm
    subst hm
    rw [hb] at hh
    cases hh
    exact hT rfl
def StepPost (x m b : Nat) (ao : Option Addr) (cap : Nat) (l : List Ins) (now : Int) (p : Pl) (o : List Nat) (lm : List Int) (w : World) (e : Ending) (w' : World) : Prop :=
  e = .returned (.bool (decide (p.i < l.length))) ∧ ∃ o', PlRep x ao cap l (plStep l now p lm).1 o' w' ∧ RefRep w' m b (plStep l now p lm).2 ∧ Keep (x :: b :: o) w w' ∧ (∀ j ∈ o', j ∈ o ∨ w.heap.size ≤ j)
theorem step_end {x m b : Nat} {ao : Option Addr} {cap : Nat} {l : List Ins} {p : Pl} {o : List Nat} {lm lm' : List Int} {w wd w' : World} {y : Ins} {r now iv nv mv : Int} {hv : Bool} {slG2 : Value} (hy : l[p.i]? = some y) (he : (insOp y p.last).eff lm = (r, lm'))
    (hX : w'.heap[x]? = some (.cells #[.slice ao l.length cap, .int .i64 iv, .int .i64 r, slG2, .int .i64 nv, .int .i64 mv, .bool hv] 77 (0, 0))) (hiv : iv = ((p.next y r now).i : Int)) (hnv : nv = (p.n : Int) + 1) (hmv : mv = (p.next y r now).mark) (hhv : hv = (p.next y r now).has)
    (hO : wd.ownsRow 0 2 1 slG2 (p.got.length + 1) (p.got.map (Value.int .i64) ++ [.int .i64 r])) (hM : RefRep wd m b lm') (hL : LAt wd ao cap l) (h5 : l.length ≤ 1000) (hK : Keep (x :: b :: o) w wd) (ho : ∀ j ∈ blk slG2, j ∈ o ∨ w.heap.size ≤ j) (kx : Keep [x] wd w') (hx2 : x ∉ blk slG2) (hxm : x ≠ m) (hxb : x ≠ b) (hxr : x ∉ roOf ao) (ex : Ending) (hex : ex = .returned (.bool true)) :
    StepPost x m b ao cap l now p o lm w ex w' := by
  have hi : p.i < l.length := by
    rcases Nat.lt_or_ge p.i l.length with h | h
    · exact h
    · rw [List.getElem?_eq_none h] at hy; cases hy
  have hpl : plStep l now p lm = (p.next y r now, lm') := by unfold plStep; rw [hy]; simp only [he]
  refine ⟨by rw [hex]; simp [hi], blk slG2, ?_, ?_, hK.trans (kx.mono (by simp)), ho⟩
  · rw [hpl]
    refine ⟨slG2, ?_, ?_, rfl, hL.keep kx (fun j hj hm => hxr (by simp at hm; exact hm ▸ hj)), h5⟩
    · rw [hX, hiv, hnv, hmv, hhv]
      simp [Pl.next]
    · have := own_keep hO kx (fun j hj hm => hx2 (by simp at hm; exact hm ▸ hj))
      simpa [Pl.next] using this
  · rw [hpl]
    exact hM.keep kx (by simpa using Ne.symm hxm) (by simpa using Ne.symm hxb)
set_option maxHeartbeats 16000000 in
set_option maxRecDepth 100000 in
theorem plain_step {x m b : Nat} {ao : Option Addr} {cap : Nat} {l : List Ins} {p : Pl} {o : List Nat} {lm : List Int} {w : World} (h : PlRep x ao cap l p o w) (hm : RefRep w m b lm) (hbo : b ∉ o) (hmo : m ∉ o) (hbr : b ∉ roOf ao) (hxr : x ∉ roOf ao) (hor : ∀ j ∈ o, j ∉ roOf ao) (hpn : p.n ≤ 100000) (hpi : p.i ≤ 100000) (hpg : p.got.length ≤ 100000) (hxb : x ≠ b) (hxm : x ≠ m) (now : Int) :
    Calls Try.prog 42 #[.pointer (some ⟨x, 0, none⟩), .pointer (some ⟨m, 0, none⟩), .int .i64 now] w (StepPost x m b ao cap l now p o lm w) := by
  obtain ⟨i0, hi0, hz0, hz1, hz2⟩ := info_parts info64
  have H := Lib.hid h
  obtain ⟨slG, h1, h2, rfl, h4, h5⟩ := h
  have H1 := Lib.hid h1
  have H2 := Lib.hid h2
  have H4 := Lib.hid h4
  have HM := Lib.hid hm
  have c0 : w.cell? ⟨x, 0, none⟩ = some (.slice ao l.length cap) := cell_of h1 rfl
  have c1 : w.cell? ⟨x, 1, none⟩ = some (.int .i64 p.i) := cell_of h1 rfl
  clear h1 h2 h4 hm
  by_cases hi : p.i < l.length
  · obtain ⟨y, hy⟩ : ∃ y, l[p.i]? = some y := ⟨l[p.i], by simp [hi]⟩
    obtain ⟨g, og, rfl, e0, e1, e2, e3, e4, e5, e6⟩ := H4.out.cell p.i y hy
    have hj0 : (0 : Int) ≤ (p.i : Int) := by omega
    have hj1 : (p.i : Int) < (l.length : Int) := by omega
    have hj2 : ¬ ((l.length : Int) ≤ (p.i : Int)) := by omega
    have HY := Lib.hid hy
    clear hy
    obtain ⟨kind, a, v, u, dep, skip, mark⟩ := y
    simp only at e0 e1 e2 e3 e4 e5 e6
    go_enter Try.func42, Try.ntmps42
    go_wp2_with fail
    go_region_held3 (fun w' => w'.cell? ⟨x, 0, none⟩ = some (.slice (some ⟨g, og, none⟩) l.length cap) ∧ w'.cell? ⟨x, 1, none⟩ = some (.int .i64 p.i)) (go_keep) (fail)
    go_wp2_with fail
    go_region_held3 (fun w' => w'.cell? ⟨x, 0, none⟩ = some (.slice (some ⟨g, og, none⟩) l.length cap) ∧ w'.cell? ⟨x, 1, none⟩ = some (.int .i64 p.i) ∧ w'.cell? ⟨g, og + p.i * 7, none⟩ = some (.int .u8 kind) ∧ w'.cell? ⟨g, og + p.i * 7 + 1, none⟩ = some (.int .i64 a) ∧ w'.cell? ⟨g, og + p.i * 7 + 2, none⟩ = some (.int .i64 v) ∧ w'.cell? ⟨g, og + p.i * 7 + 3, none⟩ = some (.int .i64 u) ∧ w'.cell? ⟨g, og + p.i * 7 + 4, none⟩ = some (.bool dep) ∧ w'.cell? ⟨g, og + p.i * 7 + 5, none⟩ = some (.bool skip) ∧ w'.cell? ⟨g, og + p.i * 7 + 6, none⟩ = some (.bool mark)) (go_keep) (fail)
    have K3 : Hid (Keep [] w (w.alloc (.cells #[.int .u8 kind, .int .i64 a, .int .i64 v, .int .i64 u, .bool dep, .bool skip, .bool mark] 34)).drew.drew) := Lib.hid (((Keep.refl [] w).alloc _).drew.drew)
    have Y3 : Hid ((w.alloc (.cells #[.int .u8 kind, .int .i64 a, .int .i64 v, .int .i64 u, .bool dep, .bool skip, .bool mark] 34)).drew.drew.heap[w.heap.size]? = some (.cells #[.int .u8 kind, .int .i64 a, .int .i64 v, .int .i64 u, .bool dep, .bool skip, .bool mark] 34 (0, 0))) := Lib.hid (((Keep.refl [] _).drew.drew).to (one_new w _) (by simp))
    clear e0 e1 e2 e3 e4 e5 e6 c0 c1
    generalize (w.alloc (.cells #[.int .u8 kind, .int .i64 a, .int .i64 v, .int .i64 u, .bool dep, .bool skip, .bool mark] 34)).drew.drew = w3 at *
    have hpw : x < w.heap.size := lt_of_block H1.out
    have hbw : b < w.heap.size ∧ m < w.heap.size := by
      rcases HM.out with h | ⟨h, _, h2⟩
      · exact ⟨lt_of_block h.body, lt_of_block h.head⟩
      · exact ⟨h2 ▸ lt_of_block h, lt_of_block h⟩
    have X3 := Lib.hid (K3.out.to H1.out (by simp))
    have O3 := Lib.hid (own_keep H2.out K3.out (by simp))
    have M3 := Lib.hid (HM.out.keep K3.out (by simp) (by simp))
    have L3 := Lib.hid (H4.out.keep K3.out (by simp))
    have hxo : x ∉ blk slG := own_other H2.out H1.out (by decide)
    have hpo : ∀ j ∈ blk slG, j < w.heap.size := by
      intro j hj
      rw [mem_blk] at hj
      rcases H2.out.2 with ⟨h, _⟩ | ⟨g, cap, cur, h, _, hh, _⟩
      · rw [h] at hj; simp [Value.ownBlock] at hj
      · rw [h] at hj; simp [Value.ownBlock] at hj; subst hj; exact lt_of_block hh
    have HPO := Lib.hid hpo
    clear hpo
    generalize hpb : w.heap.size = pb at *
    have y2 : w3.cell? ⟨pb, 2, none⟩ = some (.int .i64 v) := cell_of Y3.out rfl
    have y4 : w3.cell? ⟨pb, 4, none⟩ = some (.bool dep) := cell_of Y3.out rfl
    have x2 : w3.cell? ⟨x, 2, none⟩ = some (.int .i64 p.last) := cell_of X3.out rfl
    go_upto_region 5 with fail
    go_upto_if 35 with fail
    go_cut [8] from 12 to 139 (fun s8 wc => s8 = .int .i64 (insVal ⟨kind, a, v, u, dep, skip, mark⟩ p.last) ∧ wc = w3)
    case first =>
      cases dep
      all_goals
        go_wp2_with fail
        go_meet
        exact ⟨rfl, rfl⟩
    case rest =>
      obtain ⟨rfl, rfl⟩ := hcut
      generalize hv : insVal ⟨kind, a, v, u, dep, skip, mark⟩ p.last = vv
      have HV := Lib.hid hv
      clear hv
      have x2f : wc.frozen? ⟨x, 2, none⟩ = false := free_of (i := 2) X3.out
      have X4 : Hid ((wc.setCell ⟨x, 2, none⟩ (.int .i64 0)).heap[x]? = some (.cells #[.slice (some ⟨g, og, none⟩) l.length cap, .int .i64 p.i, .int .i64 0, slG, .int .i64 p.n, .int .i64 p.mark, .bool p.has] 77 (0, 0))) := Lib.hid (block_set 2 _ X3.out)
      have K34 := Lib.hid (keep_at wc x 2 (.int .i64 0))
      have hxpb : ¬ pb = x := by omega
      have Y4 := Lib.hid (K34.out.to Y3.out (by simpa using hxpb))
      have y0 : (wc.setCell ⟨x, 2, none⟩ (.int .i64 0)).cell? ⟨pb, 0, none⟩ = some (.int .u8 kind) := cell_of Y4.out rfl
      go_upto_region 9 with fail
      have K4 := Lib.hid ((K3.out.mono (S' := [x, b]) (by simp)).trans (K34.out.mono (S' := [x, b]) (by simp)))
      have O4 := Lib.hid (own_keep O3.out K34.out (fun j hj hm => hxo (by simp at hm; exact hm ▸ hj)))
      have M4 := Lib.hid (M3.out.keep K34.out (by simpa using Ne.symm hxm) (by simpa using Ne.symm hxb))
      have L4 := Lib.hid (L3.out.keep K34.out (fun j hj hm => hxr (by simp at hm; exact hm ▸ hj)))
      generalize wc.setCell ⟨x, 2, none⟩ (.int .i64 0) = w4 at *
      clear y2 y4 x2 x2f y0 X3 Y3 K34 K3 O3 M3 L3
      have YC : Hid (∀ wx : World, wx.heap[pb]? = some (.cells #[.int .u8 kind, .int .i64 a, .int .i64 v, .int .i64 u, .bool dep, .bool skip, .bool mark] 34 (0, 0)) → wx.cell? ⟨pb, 0, none⟩ = some (.int .u8 kind) ∧ wx.cell? ⟨pb, 1, none⟩ = some (.int .i64 a) ∧ wx.cell? ⟨pb, 3, none⟩ = some (.int .i64 u) ∧ wx.cell? ⟨pb, 5, none⟩ = some (.bool skip) ∧ wx.cell? ⟨pb, 6, none⟩ = some (.bool mark)) :=
        Lib.hid (fun wx h => ⟨cell_of h rfl, cell_of h rfl, cell_of h rfl, cell_of h rfl, cell_of h rfl⟩)
      obtain ⟨y0, y1, y3, y5, y6⟩ := YC.out _ Y4.out
      have z2 : w4.cell? ⟨x, 2, none⟩ = some (.int .i64 0) := cell_of X4.out rfl
      have z2f : w4.frozen? ⟨x, 2, none⟩ = false := free_of (i := 2) X4.out
      have hpbb : ¬ pb = b := by omega
      by_cases k0 : kind = 0
      · have HE : Hid ((insOp ⟨kind, a, v, u, dep, skip, mark⟩ p.last).eff lm = (wordGet lm a, lm)) := Lib.hid (by simp only [insOp, if_pos k0]; rfl)
        have k0b : (kind == 0) = true := by simpa using k0
        clear k0
        go_wp2_with fail
        refine (ref_load M4.out a).mono ?_
        rintro _ wT ⟨rfl, rfl⟩
        have KSx := Lib.hid (keep_at w4 x 2 (.int .i64 (wordGet lm a)))
        have XS : Hid ((w4.setCell ⟨x, 2, none⟩ (.int .i64 (wordGet lm a))).heap[x]? = some (.cells #[.slice (some ⟨g, og, none⟩) l.length cap, .int .i64 p.i, .int .i64 (wordGet lm a), slG, .int .i64 p.n, .int .i64 p.mark, .bool p.has] 77 (0, 0))) := Lib.hid (block_set 2 _ X4.out)
        have OS := Lib.hid (own_keep O4.out KSx.out (fun j hj hm => hxo (by simp at hm; exact hm ▸ hj)))
        have MS := Lib.hid (M4.out.keep KSx.out (by simpa using Ne.symm hxm) (by simpa using Ne.symm hxb))
        have LS := Lib.hid (L4.out.keep KSx.out (fun j hj hm => hxr (by simp at hm; exact hm ▸ hj)))
        have YS := Lib.hid (KSx.out.to Y4.out (by simpa using hxpb))
        have KS := Lib.hid (K4.out.trans (KSx.out.mono (S' := [x, b]) (by simp)))
        go_wp2_with fail
        generalize w4.setCell ⟨x, 2, none⟩ (.int .i64 (wordGet lm a)) = wS at *
        clear y0 y1 y3 y5 y6 z2 z2f
        have z3 := cell_of (i := 3) (v := slG) XS.out rfl
        have z2 := cell_of (i := 2) (v := .int .i64 (wordGet lm a)) XS.out rfl
        have z3f := free_of (i := 3) XS.out
        have hown := OS.out
        have hxl := lt_of_block XS.out
        have hfar : slG.ownBlock ≠ some x := fun e => hxo (mem_blk.2 e)
        have hszS := KS.out.size
        go_upto_region 19 with fail
        go_cut [99] from 12 to 139 (fun s99 wd => ∃ slG2, wd.heap[x]? = some (.cells #[.slice (some ⟨g, og, none⟩) l.length cap, .int .i64 p.i, .int .i64 (wordGet lm a), slG2, .int .i64 p.n, .int .i64 p.mark, .bool p.has] 77 (0, 0)) ∧ wd.ownsRow 0 2 1 slG2 (p.got.length + 1) (p.got.map (Value.int .i64) ++ [.int .i64 (wordGet lm a)]) ∧ wd.heap[pb]? = some (.cells #[.int .u8 kind, .int .i64 a, .int .i64 v, .int .i64 u, .bool dep, .bool skip, .bool mark] 34 (0, 0)) ∧ RefRep wd m b (lm) ∧ LAt wd (some ⟨g, og, none⟩) cap l ∧ Keep (x :: b :: blk slG) w wd ∧ (∀ j ∈ blk slG2, j ∈ blk slG ∨ pb ≤ j))
        case first =>
          go_region_law ((refine step_append_lies _ (by rfl) _ _ _ (by rfl) 0 2 i0 _ 1 8 Try.underlying37 hi0 hz0 hz1 hz2 rfl (by omega) slG p.got.length (p.got.map (Value.int .i64)) (by rfl) ((hown.alloc _).drew) ⟨wS.heap.size, 0, none⟩ 1 1 [.int .i64 (wordGet lm a)] (by rfl) (by rfl) (World.news_of_block (cs := #[.int .i64 (wordGet lm a)]) (t := 2) (fr := (0, 0)) (heap_alloc_new wS _)) (by simp [Value.oneCell']) (by omega) (by unfold maxLen; omega) (by omega) (by simp) (wS.heap.size + 1) (by simp) ?_; intro gg gcap w5 hown2 hgrow hat hlt5; have hb2 : w5.heap[x]? = wS.heap[x]? := (by rw [hgrow.block x (by simp; omega) (Ne.symm hfar)]; exact Below.heap_alloc wS _ x hxl); have hh2 := Lib.hid (hb2.trans XS.out); have q3 := cell_of (i := 3) (v := slG) hh2.out rfl; have q2 := cell_of (i := 2) (v := .int .i64 (wordGet lm a)) hh2.out rfl; have g3 := free_of (i := 3) hh2.out; have Hg2 := Lib.hid hgrow; have Ho2 := Lib.hid hown2; have Hat := Lib.hid hat; have Hlt := Lib.hid hlt5; clear hb2 hgrow hown2 hat hlt5))
          all_goals
            have KA := Lib.hid ((((Keep.refl [] wS).alloc _).drew.mono (S' := blk slG) (by simp)).of_grown Hg2.out (fun k hk => .inr (mem_blk.2 hk)))
            have KB := Lib.hid (keep_at w5 x 3 (.slice (some ⟨gg, 0, none⟩) (p.got.length + 1) gcap))
            have hgx : x ≠ gg := by
              rcases Hat.out with q | q
              · exact fun e => hfar (e ▸ q)
              · omega
            go_wp2_with fail
            go_meet
            refine ⟨_, block_set 3 _ hh2.out, own_keep Ho2.out KB.out (fun j hj hm => hgx (by simp [blk, Value.ownBlock] at hj; simp at hm; omega)), KB.out.to (KA.out.to YS.out (fun hm => by have := HPO.out pb hm; omega)) (by simpa using hxpb), (MS.out.keep KA.out hmo hbo).keep KB.out (by simpa using Ne.symm hxm) (by simpa using Ne.symm hxb), (LS.out.keep KA.out (fun j hj hm => hor j hm hj)).keep KB.out (fun j hj hm => hxr (by simp at hm; exact hm ▸ hj)), ((KS.out.mono (S' := x :: b :: blk slG) (fun y hy _ => by simp at hy ⊢; omega)).trans (KA.out.mono (S' := x :: b :: blk slG) (fun y hy _ => by simp [hy]))).trans (KB.out.mono (S' := x :: b :: blk slG) (fun y hy _ => by simp at hy; simp [hy])), fun j hj => ?_⟩
            simp [blk, Value.ownBlock] at hj
            subst hj
            rcases Hat.out with q | q
            · exact .inl (mem_blk.2 q)
            · exact .inr (by omega)
        case rest =>
          obtain ⟨slG2, d1, d2, d3, d4, d5, d6, d7⟩ := hcut
          have XD := Lib.hid d1
          have OD := Lib.hid d2
          have YD := Lib.hid d3
          have MD := Lib.hid d4
          have LD := Lib.hid d5
          have KD := Lib.hid d6
          have PD := Lib.hid d7
          have hx2 : x ∉ blk slG2 := own_other d2 d1 (by decide)
          obtain ⟨_, _, _, y5, y6⟩ := YC.out _ d3
          clear d1 d2 d3 d4 d5 d6 d7 z2 z3 z3f hown
          have t1 := cell_of (i := 1) (v := .int .i64 p.i) XD.out rfl
          have t4 := cell_of (i := 4) (v := .int .i64 p.n) XD.out rfl
          have t5 := cell_of (i := 5) (v := .int .i64 p.mark) XD.out rfl
          have t6 := cell_of (i := 6) (v := .bool p.has) XD.out rfl
          have f1 := free_of (i := 1) XD.out
          have f4 := free_of (i := 4) XD.out
          have f5 := free_of (i := 5) XD.out
          have f6 := free_of (i := 6) XD.out
          have hpbx : ¬ x = pb := fun e => hxpb e.symm
          have hodd : (p.last.tmod 2 != 0) = isOdd p.last := rfl
          rcases hod : isOdd p.last with _ | _
          all_goals
            rw [hod] at hodd
            cases mark <;> cases skip
          · go_wp2_with fail
            go_ret
            exact step_end HY.out HE.out (block_set 1 _ (block_set 4 _ XD.out)) (by simp [Pl.next, hod]) rfl (by simp [Pl.next]) (by simp [Pl.next]) OD.out MD.out LD.out h5 KD.out (by rw [hpb]; exact PD.out) ((keep_at _ x 4 _).trans (keep_at _ x 1 _)) hx2 hxm hxb hxr _ rfl
          · go_wp2_with fail
            go_ret
            exact step_end HY.out HE.out (block_set 1 _ (block_set 4 _ XD.out)) (by simp [Pl.next, hod]) rfl (by simp [Pl.next]) (by simp [Pl.next]) OD.out MD.out LD.out h5 KD.out (by rw [hpb]; exact PD.out) ((keep_at _ x 4 _).trans (keep_at _ x 1 _)) hx2 hxm hxb hxr _ rfl
          · go_wp2_with fail
            go_ret
            exact step_end HY.out HE.out (block_set 1 _ (block_set 6 _ (block_set 5 _ (block_set 4 _ XD.out)))) (by simp [Pl.next, hod]) rfl (by simp [Pl.next]) (by simp [Pl.next]) OD.out MD.out LD.out h5 KD.out (by rw [hpb]; exact PD.out) ((((keep_at _ x 4 _).trans (keep_at _ x 5 _)).trans (keep_at _ x 6 _)).trans (keep_at _ x 1 _)) hx2 hxm hxb hxr _ rfl
          · go_wp2_with fail
            go_ret
            exact step_end HY.out HE.out (block_set 1 _ (block_set 6 _ (block_set 5 _ (block_set 4 _ XD.out)))) (by simp [Pl.next, hod]) rfl (by simp [Pl.next]) (by simp [Pl.next]) OD.out MD.out LD.out h5 KD.out (by rw [hpb]; exact PD.out) ((((keep_at _ x 4 _).trans (keep_at _ x 5 _)).trans (keep_at _ x 6 _)).trans (keep_at _ x 1 _)) hx2 hxm hxb hxr _ rfl
          · go_wp2_with fail
            go_ret
            exact step_end HY.out HE.out (block_set 1 _ (block_set 4 _ XD.out)) (by simp [Pl.next, hod]) rfl (by simp [Pl.next]) (by simp [Pl.next]) OD.out MD.out LD.out h5 KD.out (by rw [hpb]; exact PD.out) ((keep_at _ x 4 _).trans (keep_at _ x 1 _)) hx2 hxm hxb hxr _ rfl
          · go_wp2_with fail
            go_ret
            exact step_end HY.out HE.out (block_set 1 _ (block_set 1 _ (block_set 4 _ XD.out))) (by simp [Pl.next, hod]) rfl (by simp [Pl.next]) (by simp [Pl.next]) OD.out MD.out LD.out h5 KD.out (by rw [hpb]; exact PD.out) (((keep_at _ x 4 _).trans (keep_at _ x 1 _)).trans (keep_at _ x 1 _)) hx2 hxm hxb hxr _ rfl
          · go_wp2_with fail
            go_ret
            exact step_end HY.out HE.out (block_set 1 _ (block_set 6 _ (block_set 5 _ (block_set 4 _ XD.out)))) (by simp [Pl.next, hod]) rfl (by simp [Pl.next]) (by simp [Pl.next]) OD.out MD.out LD.out h5 KD.out (by rw [hpb]; exact PD.out) ((((keep_at _ x 4 _).trans (keep_at _ x 5 _)).trans (keep_at _ x 6 _)).trans (keep_at _ x 1 _)) hx2 hxm hxb hxr _ rfl
          · go_wp2_with fail
            go_ret
            exact step_end HY.out HE.out (block_set 1 _ (block_set 1 _ (block_set 6 _ (block_set 5 _ (block_set 4 _ XD.out))))) (by simp [Pl.next, hod]) rfl (by simp [Pl.next]) (by simp [Pl.next]) OD.out MD.out LD.out h5 KD.out (by rw [hpb]; exact PD.out) (((((keep_at _ x 4 _).trans (keep_at _ x 5 _)).trans (keep_at _ x 6 _)).trans (keep_at _ x 1 _)).trans (keep_at _ x 1 _)) hx2 hxm hxb hxr _ rfl
      by_cases k1 : kind = 1
      · have HE : Hid ((insOp ⟨kind, a, v, u, dep, skip, mark⟩ p.last).eff lm = (0, wordPut lm a vv)) := Lib.hid (by simp only [insOp, if_neg k0, if_pos k1, HV.out]; rfl)
        have k0b : (kind == 0) = false := by simpa using k0
        have k1b : (kind == 1) = true := by simpa using k1
        clear k0 k1
        go_wp2_with fail
        refine (ref_store M4.out a vv).mono ?_
        rintro _ wS ⟨rfl, hm5, k5⟩
        have M5 := Lib.hid hm5
        have hb5 : ∀ j ∈ blk slG, j ∉ [b] := fun j hj hm => hbo (by simp at hm; exact hm ▸ hj)
        have O5 := Lib.hid (own_keep O4.out k5 hb5)
        have L5 := Lib.hid (L4.out.keep k5 (fun j hj hm => hbr (by simp at hm; exact hm ▸ hj)))
        have Y5 := Lib.hid (k5.to Y4.out (by simpa using hpbb))
        have X5 := Lib.hid (k5.to X4.out (by simpa using hxb))
        have K5 := Lib.hid (K4.out.trans (k5.mono (S' := [x, b]) (by simp)))
        clear hm5 k5 z2 z2f y0 y1 y3 y5 y6
        obtain ⟨y0, y1, y3, y5, y6⟩ := YC.out _ Y5.out
        have z2 : wS.cell? ⟨x, 2, none⟩ = some (.int .i64 0) := cell_of X5.out rfl
        have z2f : wS.frozen? ⟨x, 2, none⟩ = false := free_of (i := 2) X5.out
        have XS := X5
        have OS := O5
        have MS := M5
        have LS := L5
        have YS := Y5
        have KS := K5
        go_wp2_with fail
        clear y0 y1 y3 y5 y6 z2 z2f
        have z3 := cell_of (i := 3) (v := slG) XS.out rfl
        have z2 := cell_of (i := 2) (v := .int .i64 (0)) XS.out rfl
        have z3f := free_of (i := 3) XS.out
        have hown := OS.out
        have hxl := lt_of_block XS.out
        have hfar : slG.ownBlock ≠ some x := fun e => hxo (mem_blk.2 e)
        have hszS := KS.out.size
        go_upto_region 19 with fail
        go_cut [99] from 12 to 139 (fun s99 wd => ∃ slG2, wd.heap[x]? = some (.cells #[.slice (some ⟨g, og, none⟩) l.length cap, .int .i64 p.i, .int .i64 (0), slG2, .int .i64 p.n, .int .i64 p.mark, .bool p.has] 77 (0, 0)) ∧ wd.ownsRow 0 2 1 slG2 (p.got.length + 1) (p.got.map (Value.int .i64) ++ [.int .i64 (0)]) ∧ wd.heap[pb]? = some (.cells #[.int .u8 kind, .int .i64 a, .int .i64 v, .int .i64 u, .bool dep, .bool skip, .bool mark] 34 (0, 0)) ∧ RefRep wd m b (wordPut lm a vv) ∧ LAt wd (some ⟨g, og, none⟩) cap l ∧ Keep (x :: b :: blk slG) w wd ∧ (∀ j ∈ blk slG2, j ∈ blk slG ∨ pb ≤ j))
        case first =>
          go_region_law ((refine step_append_lies _ (by rfl) _ _ _ (by rfl) 0 2 i0 _ 1 8 Try.underlying37 hi0 hz0 hz1 hz2 rfl (by omega) slG p.got.length (p.got.map (Value.int .i64)) (by rfl) ((hown.alloc _).drew) ⟨wS.heap.size, 0, none⟩ 1 1 [.int .i64 (0)] (by rfl) (by rfl) (World.news_of_block (cs := #[.int .i64 (0)]) (t := 2) (fr := (0, 0)) (heap_alloc_new wS _)) (by simp [Value.oneCell']) (by omega) (by unfold maxLen; omega) (by omega) (by simp) (wS.heap.size + 1) (by simp) ?_; intro gg gcap w5 hown2 hgrow hat hlt5; have hb2 : w5.heap[x]? = wS.heap[x]? := (by rw [hgrow.block x (by simp; omega) (Ne.symm hfar)]; exact Below.heap_alloc wS _ x hxl); have hh2 := Lib.hid (hb2.trans XS.out); have q3 := cell_of (i := 3) (v := slG) hh2.out rfl; have q2 := cell_of (i := 2) (v := .int .i64 (0)) hh2.out rfl; have g3 := free_of (i := 3) hh2.out; have Hg2 := Lib.hid hgrow; have Ho2 := Lib.hid hown2; have Hat := Lib.hid hat; have Hlt := Lib.hid hlt5; clear hb2 hgrow hown2 hat hlt5))
          all_goals
            have KA := Lib.hid ((((Keep.refl [] wS).alloc _).drew.mono (S' := blk slG) (by simp)).of_grown Hg2.out (fun k hk => .inr (mem_blk.2 hk)))
            have KB := Lib.hid (keep_at w5 x 3 (.slice (some ⟨gg, 0, none⟩) (p.got.length + 1) gcap))
            have hgx : x ≠ gg := by
              rcases Hat.out with q | q
              · exact fun e => hfar (e ▸ q)
              · omega
            go_wp2_with fail
            go_meet
            refine ⟨_, block_set 3 _ hh2.out, own_keep Ho2.out KB.out (fun j hj hm => hgx (by simp [blk, Value.ownBlock] at hj; simp at hm; omega)), KB.out.to (KA.out.to YS.out (fun hm => by have := HPO.out pb hm; omega)) (by simpa using hxpb), (MS.out.keep KA.out hmo hbo).keep KB.out (by simpa using Ne.symm hxm) (by simpa using Ne.symm hxb), (LS.out.keep KA.out (fun j hj hm => hor j hm hj)).keep KB.out (fun j hj hm => hxr (by simp at hm; exact hm ▸ hj)), ((KS.out.mono (S' := x :: b :: blk slG) (fun y hy _ => by simp at hy ⊢; omega)).trans (KA.out.mono (S' := x :: b :: blk slG) (fun y hy _ => by simp [hy]))).trans (KB.out.mono (S' := x :: b :: blk slG) (fun y hy _ => by simp at hy; simp [hy])), fun j hj => ?_⟩
            simp [blk, Value.ownBlock] at hj
            subst hj
            rcases Hat.out with q | q
            · exact .inl (mem_blk.2 q)
            · exact .inr (by omega)
        case rest =>
          obtain ⟨slG2, d1, d2, d3, d4, d5, d6, d7⟩ := hcut
          have XD := Lib.hid d1
          have OD := Lib.hid d2
          have YD := Lib.hid d3
          have MD := Lib.hid d4
          have LD := Lib.hid d5
          have KD := Lib.hid d6
          have PD := Lib.hid d7
          have hx2 : x ∉ blk slG2 := own_other d2 d1 (by decide)
          obtain ⟨_, _, _, y5, y6⟩ := YC.out _ d3
          clear d1 d2 d3 d4 d5 d6 d7 z2 z3 z3f hown
          have t1 := cell_of (i := 1) (v := .int .i64 p.i) XD.out rfl
          have t4 := cell_of (i := 4) (v := .int .i64 p.n) XD.out rfl
          have t5 := cell_of (i := 5) (v := .int .i64 p.mark) XD.out rfl
          have t6 := cell_of (i := 6) (v := .bool p.has) XD.out rfl
          have f1 := free_of (i := 1) XD.out
          have f4 := free_of (i := 4) XD.out
          have f5 := free_of (i := 5) XD.out
          have f6 := free_of (i := 6) XD.out
          have hpbx : ¬ x = pb := fun e => hxpb e.symm
          have hodd : (p.last.tmod 2 != 0) = isOdd p.last := rfl
          rcases hod : isOdd p.last with _ | _
          all_goals
            rw [hod] at hodd
            cases mark <;> cases skip
          · go_wp2_with fail
            go_ret
            exact step_end HY.out HE.out (block_set 1 _ (block_set 4 _ XD.out)) (by simp [Pl.next, hod]) rfl (by simp [Pl.next]) (by simp [Pl.next]) OD.out MD.out LD.out h5 KD.out (by rw [hpb]; exact PD.out) ((keep_at _ x 4 _).trans (keep_at _ x 1 _)) hx2 hxm hxb hxr _ rfl
          · go_wp2_with fail
            go_ret
            exact step_end HY.out HE.out (block_set 1 _ (block_set 4 _ XD.out)) (by simp [Pl.next, hod]) rfl (by simp [Pl.next]) (by simp [Pl.next]) OD.out MD.out LD.out h5 KD.out (by rw [hpb]; exact PD.out) ((keep_at _ x 4 _).trans (keep_at _ x 1 _)) hx2 hxm hxb hxr _ rfl
          · go_wp2_with fail
            go_ret
            exact step_end HY.out HE.out (block_set 1 _ (block_set 6 _ (block_set 5 _ (block_set 4 _ XD.out)))) (by simp [Pl.next, hod]) rfl (by simp [Pl.next]) (by simp [Pl.next]) OD.out MD.out LD.out h5 KD.out (by rw [hpb]; exact PD.out) ((((keep_at _ x 4 _).trans (keep_at _ x 5 _)).trans (keep_at _ x 6 _)).trans (keep_at _ x 1 _)) hx2 hxm hxb hxr _ rfl
          · go_wp2_with fail
            go_ret
            exact step_end HY.out HE.out (block_set 1 _ (block_set 6 _ (block_set 5 _ (block_set 4 _ XD.out)))) (by simp [Pl.next, hod]) rfl (by simp [Pl.next]) (by simp [Pl.next]) OD.out MD.out LD.out h5 KD.out (by rw [hpb]; exact PD.out) ((((keep_at _ x 4 _).trans (keep_at _ x 5 _)).trans (keep_at _ x 6 _)).trans (keep_at _ x 1 _)) hx2 hxm hxb hxr _ rfl
          · go_wp2_with fail
            go_ret
            exact step_end HY.out HE.out (block_set 1 _ (block_set 4 _ XD.out)) (by simp [Pl.next, hod]) rfl (by simp [Pl.next]) (by simp [Pl.next]) OD.out MD.out LD.out h5 KD.out (by rw [hpb]; exact PD.out) ((keep_at _ x 4 _).trans (keep_at _ x 1 _)) hx2 hxm hxb hxr _ rfl
          · go_wp2_with fail
            go_ret
            exact step_end HY.out HE.out (block_set 1 _ (block_set 1 _ (block_set 4 _ XD.out))) (by simp [Pl.next, hod]) rfl (by simp [Pl.next]) (by simp [Pl.next]) OD.out MD.out LD.out h5 KD.out (by rw [hpb]; exact PD.out) (((keep_at _ x 4 _).trans (keep_at _ x 1 _)).trans (keep_at _ x 1 _)) hx2 hxm hxb hxr _ rfl
          · go_wp2_with fail
            go_ret
            exact step_end HY.out HE.out (block_set 1 _ (block_set 6 _ (block_set 5 _ (block_set 4 _ XD.out)))) (by simp [Pl.next, hod]) rfl (by simp [Pl.next]) (by simp [Pl.next]) OD.out MD.out LD.out h5 KD.out (by rw [hpb]; exact PD.out) ((((keep_at _ x 4 _).trans (keep_at _ x 5 _)).trans (keep_at _ x 6 _)).trans (keep_at _ x 1 _)) hx2 hxm hxb hxr _ rfl
          · go_wp2_with fail
            go_ret
            exact step_end HY.out HE.out (block_set 1 _ (block_set 1 _ (block_set 6 _ (block_set 5 _ (block_set 4 _ XD.out))))) (by simp [Pl.next, hod]) rfl (by simp [Pl.next]) (by simp [Pl.next]) OD.out MD.out LD.out h5 KD.out (by rw [hpb]; exact PD.out) (((((keep_at _ x 4 _).trans (keep_at _ x 5 _)).trans (keep_at _ x 6 _)).trans (keep_at _ x 1 _)).trans (keep_at _ x 1 _)) hx2 hxm hxb hxr _ rfl
      by_cases k2 : kind = 2
      · have HE : Hid ((insOp ⟨kind, a, v, u, dep, skip, mark⟩ p.last).eff lm = (wordGet lm a, wordPut lm a (wordSum lm a vv))) := Lib.hid (by simp only [insOp, if_neg k0, if_neg k1, if_pos k2, HV.out]; rfl)
        have k0b : (kind == 0) = false := by simpa using k0
        have k1b : (kind == 1) = false := by simpa using k1
        have k2b : (kind == 2) = true := by simpa using k2
        clear k0 k1 k2
        go_wp2_with fail
        refine (ref_add M4.out a vv).mono ?_
        rintro _ wS ⟨rfl, hm5, k5⟩
        have M5 := Lib.hid hm5
        have hb5 : ∀ j ∈ blk slG, j ∉ [b] := fun j hj hm => hbo (by simp at hm; exact hm ▸ hj)
        have O5 := Lib.hid (own_keep O4.out k5 hb5)
        have L5 := Lib.hid (L4.out.keep k5 (fun j hj hm => hbr (by simp at hm; exact hm ▸ hj)))
        have Y5 := Lib.hid (k5.to Y4.out (by simpa using hpbb))
        have X5 := Lib.hid (k5.to X4.out (by simpa using hxb))
        have K5 := Lib.hid (K4.out.trans (k5.mono (S' := [x, b]) (by simp)))
        clear hm5 k5 z2 z2f y0 y1 y3 y5 y6
        obtain ⟨y0, y1, y3, y5, y6⟩ := YC.out _ Y5.out
        have z2 : wS.cell? ⟨x, 2, none⟩ = some (.int .i64 0) := cell_of X5.out rfl
        have z2f : wS.frozen? ⟨x, 2, none⟩ = false := free_of (i := 2) X5.out
        generalize wS = wT at *
        have KSx := Lib.hid (keep_at wT x 2 (.int .i64 (wordGet lm a)))
        have XS : Hid ((wT.setCell ⟨x, 2, none⟩ (.int .i64 (wordGet lm a))).heap[x]? = some (.cells #[.slice (some ⟨g, og, none⟩) l.length cap, .int .i64 p.i, .int .i64 (wordGet lm a), slG, .int .i64 p.n, .int .i64 p.mark, .bool p.has] 77 (0, 0))) := Lib.hid (block_set 2 _ X5.out)
        have OS := Lib.hid (own_keep O5.out KSx.out (fun j hj hm => hxo (by simp at hm; exact hm ▸ hj)))
        have MS := Lib.hid (M5.out.keep KSx.out (by simpa using Ne.symm hxm) (by simpa using Ne.symm hxb))
        have LS := Lib.hid (L5.out.keep KSx.out (fun j hj hm => hxr (by simp at hm; exact hm ▸ hj)))
        have YS := Lib.hid (KSx.out.to Y5.out (by simpa using hxpb))
        have KS := Lib.hid (K5.out.trans (KSx.out.mono (S' := [x, b]) (by simp)))
        go_wp2_with fail
        generalize wT.setCell ⟨x, 2, none⟩ (.int .i64 (wordGet lm a)) = wS at *
        clear y0 y1 y3 y5 y6 z2 z2f
        have z3 := cell_of (i := 3) (v := slG) XS.out rfl
        have z2 := cell_of (i := 2) (v := .int .i64 (wordGet lm a)) XS.out rfl
        have z3f := free_of (i := 3) XS.out
        have hown := OS.out
        have hxl := lt_of_block XS.out
        have hfar : slG.ownBlock ≠ some x := fun e => hxo (mem_blk.2 e)
        have hszS := KS.out.size
        go_upto_region 19 with fail
        go_cut [99] from 12 to 139 (fun s99 wd => ∃ slG2, wd.heap[x]? = some (.cells #[.slice (some ⟨g, og, none⟩) l.length cap, .int .i64 p.i, .int .i64 (wordGet lm a), slG2, .int .i64 p.n, .int .i64 p.mark, .bool p.has] 77 (0, 0)) ∧ wd.ownsRow 0 2 1 slG2 (p.got.length + 1) (p.got.map (Value.int .i64) ++ [.int .i64 (wordGet lm a)]) ∧ wd.heap[pb]? = some (.cells #[.int .u8 kind, .int .i64 a, .int .i64 v, .int .i64 u, .bool dep, .bool skip, .bool mark] 34 (0, 0)) ∧ RefRep wd m b (wordPut lm a (wordSum lm a vv)) ∧ LAt wd (some ⟨g, og, none⟩) cap l ∧ Keep (x :: b :: blk slG) w wd ∧ (∀ j ∈ blk slG2, j ∈ blk slG ∨ pb ≤ j))
        case first =>
          go_region_law ((refine step_append_lies _ (by rfl) _ _ _ (by rfl) 0 2 i0 _ 1 8 Try.underlying37 hi0 hz0 hz1 hz2 rfl (by omega) slG p.got.length (p.got.map (Value.int .i64)) (by rfl) ((hown.alloc _).drew) ⟨wS.heap.size, 0, none⟩ 1 1 [.int .i64 (wordGet lm a)] (by rfl) (by rfl) (World.news_of_block (cs := #[.int .i64 (wordGet lm a)]) (t := 2) (fr := (0, 0)) (heap_alloc_new wS _)) (by simp [Value.oneCell']) (by omega) (by unfold maxLen; omega) (by omega) (by simp) (wS.heap.size + 1) (by simp) ?_; intro gg gcap w5 hown2 hgrow hat hlt5; have hb2 : w5.heap[x]? = wS.heap[x]? := (by rw [hgrow.block x (by simp; omega) (Ne.symm hfar)]; exact Below.heap_alloc wS _ x hxl); have hh2 := Lib.hid (hb2.trans XS.out); have q3 := cell_of (i := 3) (v := slG) hh2.out rfl; have q2 := cell_of (i := 2) (v := .int .i64 (wordGet lm a)) hh2.out rfl; have g3 := free_of (i := 3) hh2.out; have Hg2 := Lib.hid hgrow; have Ho2 := Lib.hid hown2; have Hat := Lib.hid hat; have Hlt := Lib.hid hlt5; clear hb2 hgrow hown2 hat hlt5))
          all_goals
            have KA := Lib.hid ((((Keep.refl [] wS).alloc _).drew.mono (S' := blk slG) (by simp)).of_grown Hg2.out (fun k hk => .inr (mem_blk.2 hk)))
            have KB := Lib.hid (keep_at w5 x 3 (.slice (some ⟨gg, 0, none⟩) (p.got.length + 1) gcap))
            have hgx : x ≠ gg := by
              rcases Hat.out with q | q
              · exact fun e => hfar (e ▸ q)
              · omega
            go_wp2_with fail
            go_meet
            refine ⟨_, block_set 3 _ hh2.out, own_keep Ho2.out KB.out (fun j hj hm => hgx (by simp [blk, Value.ownBlock] at hj; simp at hm; omega)), KB.out.to (KA.out.to YS.out (fun hm => by have := HPO.out pb hm; omega)) (by simpa using hxpb), (MS.out.keep KA.out hmo hbo).keep KB.out (by simpa using Ne.symm hxm) (by simpa using Ne.symm hxb), (LS.out.keep KA.out (fun j hj hm => hor j hm hj)).keep KB.out (fun j hj hm => hxr (by simp at hm; exact hm ▸ hj)), ((KS.out.mono (S' := x :: b :: blk slG) (fun y hy _ => by simp at hy ⊢; omega)).trans (KA.out.mono (S' := x :: b :: blk slG) (fun y hy _ => by simp [hy]))).trans (KB.out.mono (S' := x :: b :: blk slG) (fun y hy _ => by simp at hy; simp [hy])), fun j hj => ?_⟩
            simp [blk, Value.ownBlock] at hj
            subst hj
            rcases Hat.out with q | q
            · exact .inl (mem_blk.2 q)
            · exact .inr (by omega)
        case rest =>
          obtain ⟨slG2, d1, d2, d3, d4, d5, d6, d7⟩ := hcut
          have XD := Lib.hid d1
          have OD := Lib.hid d2
          have YD := Lib.hid d3
          have MD := Lib.hid d4
          have LD := Lib.hid d5
          have KD := Lib.hid d6
          have PD := Lib.hid d7
          have hx2 : x ∉ blk slG2 := own_other d2 d1 (by decide)
          obtain ⟨_, _, _, y5, y6⟩ := YC.out _ d3
          clear d1 d2 d3 d4 d5 d6 d7 z2 z3 z3f hown
          have t1 := cell_of (i := 1) (v := .int .i64 p.i) XD.out rfl
          have t4 := cell_of (i := 4) (v := .int .i64 p.n) XD.out rfl
          have t5 := cell_of (i := 5) (v := .int .i64 p.mark) XD.out rfl
          have t6 := cell_of (i := 6) (v := .bool p.has) XD.out rfl
          have f1 := free_of (i := 1) XD.out
          have f4 := free_of (i := 4) XD.out
          have f5 := free_of (i := 5) XD.out
          have f6 := free_of (i := 6) XD.out
          have hpbx : ¬ x = pb := fun e => hxpb e.symm
          have hodd : (p.last.tmod 2 != 0) = isOdd p.last := rfl
          rcases hod : isOdd p.last with _ | _
          all_goals
            rw [hod] at hodd
            cases mark <;> cases skip
          · go_wp2_with fail
            go_ret
            exact step_end HY.out HE.out (block_set 1 _ (block_set 4 _ XD.out)) (by simp [Pl.next, hod]) rfl (by simp [Pl.next]) (by simp [Pl.next]) OD.out MD.out LD.out h5 KD.out (by rw [hpb]; exact PD.out) ((keep_at _ x 4 _).trans (keep_at _ x 1 _)) hx2 hxm hxb hxr _ rfl
          · go_wp2_with fail
            go_ret
            exact step_end HY.out HE.out (block_set 1 _ (block_set 4 _ XD.out)) (by simp [Pl.next, hod]) rfl (by simp [Pl.next]) (by simp [Pl.next]) OD.out MD.out LD.out h5 KD.out (by rw [hpb]; exact PD.out) ((keep_at _ x 4 _).trans (keep_at _ x 1 _)) hx2 hxm hxb hxr _ rfl
          · go_wp2_with fail
            go_ret
            exact step_end HY.out HE.out (block_set 1 _ (block_set 6 _ (block_set 5 _ (block_set 4 _ XD.out)))) (by simp [Pl.next, hod]) rfl (by simp [Pl.next]) (by simp [Pl.next]) OD.out MD.out LD.out h5 KD.out (by rw [hpb]; exact PD.out) ((((keep_at _ x 4 _).trans (keep_at _ x 5 _)).trans (keep_at _ x 6 _)).trans (keep_at _ x 1 _)) hx2 hxm hxb hxr _ rfl
          · go_wp2_with fail
            go_ret
            exact step_end HY.out HE.out (block_set 1 _ (block_set 6 _ (block_set 5 _ (block_set 4 _ XD.out)))) (by simp [Pl.next, hod]) rfl (by simp [Pl.next]) (by simp [Pl.next]) OD.out MD.out LD.out h5 KD.out (by rw [hpb]; exact PD.out) ((((keep_at _ x 4 _).trans (keep_at _ x 5 _)).trans (keep_at _ x 6 _)).trans (keep_at _ x 1 _)) hx2 hxm hxb hxr _ rfl
          · go_wp2_with fail
            go_ret
            exact step_end HY.out HE.out (block_set 1 _ (block_set 4 _ XD.out)) (by simp [Pl.next, hod]) rfl (by simp [Pl.next]) (by simp [Pl.next]) OD.out MD.out LD.out h5 KD.out (by rw [hpb]; exact PD.out) ((keep_at _ x 4 _).trans (keep_at _ x 1 _)) hx2 hxm hxb hxr _ rfl
          · go_wp2_with fail
            go_ret
            exact step_end HY.out HE.out (block_set 1 _ (block_set 1 _ (block_set 4 _ XD.out))) (by simp [Pl.next, hod]) rfl (by simp [Pl.next]) (by simp [Pl.next]) OD.out MD.out LD.out h5 KD.out (by rw [hpb]; exact PD.out) (((keep_at _ x 4 _).trans (keep_at _ x 1 _)).trans (keep_at _ x 1 _)) hx2 hxm hxb hxr _ rfl
          · go_wp2_with fail
            go_ret
            exact step_end HY.out HE.out (block_set 1 _ (block_set 6 _ (block_set 5 _ (block_set 4 _ XD.out)))) (by simp [Pl.next, hod]) rfl (by simp [Pl.next]) (by simp [Pl.next]) OD.out MD.out LD.out h5 KD.out (by rw [hpb]; exact PD.out) ((((keep_at _ x 4 _).trans (keep_at _ x 5 _)).trans (keep_at _ x 6 _)).trans (keep_at _ x 1 _)) hx2 hxm hxb hxr _ rfl
          · go_wp2_with fail
            go_ret
            exact step_end HY.out HE.out (block_set 1 _ (block_set 1 _ (block_set 6 _ (block_set 5 _ (block_set 4 _ XD.out))))) (by simp [Pl.next, hod]) rfl (by simp [Pl.next]) (by simp [Pl.next]) OD.out MD.out LD.out h5 KD.out (by rw [hpb]; exact PD.out) (((((keep_at _ x 4 _).trans (keep_at _ x 5 _)).trans (keep_at _ x 6 _)).trans (keep_at _ x 1 _)).trans (keep_at _ x 1 _)) hx2 hxm hxb hxr _ rfl
      have k0b : (kind == 0) = false := by simpa using k0
      have k1b : (kind == 1) = false := by simpa using k1
      have k2b : (kind == 2) = false := by simpa using k2
      have HE0 : (insOp ⟨kind, a, v, u, dep, skip, mark⟩ p.last).eff lm = (b2i (swapOk lm a u), wordSwap lm a u vv) := by simp only [insOp, if_neg k0, if_neg k1, if_neg k2, HV.out]; rfl
      clear k0 k1 k2
      rcases hsw : swapOk lm a u with _ | _
      · have HE : Hid ((insOp ⟨kind, a, v, u, dep, skip, mark⟩ p.last).eff lm = (0, wordSwap lm a u vv)) := Lib.hid (by rw [HE0, hsw]; rfl)
        clear HE0
        go_wp2_with fail
        refine (ref_swap M4.out a u vv).mono ?_
        rintro _ wS ⟨rfl, hm5, k5⟩
        rw [hsw]
        clear hsw
        have M5 := Lib.hid hm5
        have hb5 : ∀ j ∈ blk slG, j ∉ [b] := fun j hj hm => hbo (by simp at hm; exact hm ▸ hj)
        have O5 := Lib.hid (own_keep O4.out k5 hb5)
        have L5 := Lib.hid (L4.out.keep k5 (fun j hj hm => hbr (by simp at hm; exact hm ▸ hj)))
        have Y5 := Lib.hid (k5.to Y4.out (by simpa using hpbb))
        have X5 := Lib.hid (k5.to X4.out (by simpa using hxb))
        have K5 := Lib.hid (K4.out.trans (k5.mono (S' := [x, b]) (by simp)))
        clear hm5 k5 z2 z2f y0 y1 y3 y5 y6
        obtain ⟨y0, y1, y3, y5, y6⟩ := YC.out _ Y5.out
        have z2 : wS.cell? ⟨x, 2, none⟩ = some (.int .i64 0) := cell_of X5.out rfl
        have z2f : wS.frozen? ⟨x, 2, none⟩ = false := free_of (i := 2) X5.out
        have XS := X5
        have OS := O5
        have MS := M5
        have LS := L5
        have YS := Y5
        have KS := K5
        go_wp2_with fail
        clear y0 y1 y3 y5 y6 z2 z2f
        have z3 := cell_of (i := 3) (v := slG) XS.out rfl
        have z2 := cell_of (i := 2) (v := .int .i64 (0)) XS.out rfl
        have z3f := free_of (i := 3) XS.out
        have hown := OS.out
        have hxl := lt_of_block XS.out
        have hfar : slG.ownBlock ≠ some x := fun e => hxo (mem_blk.2 e)
        have hszS := KS.out.size
        go_upto_region 19 with fail
        go_cut [99] from 12 to 139 (fun s99 wd => ∃ slG2, wd.heap[x]? = some (.cells #[.slice (some ⟨g, og, none⟩) l.length cap, .int .i64 p.i, .int .i64 (0), slG2, .int .i64 p.n, .int .i64 p.mark, .bool p.has] 77 (0, 0)) ∧ wd.ownsRow 0 2 1 slG2 (p.got.length + 1) (p.got.map (Value.int .i64) ++ [.int .i64 (0)]) ∧ wd.heap[pb]? = some (.cells #[.int .u8 kind, .int .i64 a, .int .i64 v, .int .i64 u, .bool dep, .bool skip, .bool mark] 34 (0, 0)) ∧ RefRep wd m b (wordSwap lm a u vv) ∧ LAt wd (some ⟨g, og, none⟩) cap l ∧ Keep (x :: b :: blk slG) w wd ∧ (∀ j ∈ blk slG2, j ∈ blk slG ∨ pb ≤ j))
        case first =>
          go_region_law ((refine step_append_lies _ (by rfl) _ _ _ (by rfl) 0 2 i0 _ 1 8 Try.underlying37 hi0 hz0 hz1 hz2 rfl (by omega) slG p.got.length (p.got.map (Value.int .i64)) (by rfl) ((hown.alloc _).drew) ⟨wS.heap.size, 0, none⟩ 1 1 [.int .i64 (0)] (by rfl) (by rfl) (World.news_of_block (cs := #[.int .i64 (0)]) (t := 2) (fr := (0, 0)) (heap_alloc_new wS _)) (by simp [Value.oneCell']) (by omega) (by unfold maxLen; omega) (by omega) (by simp) (wS.heap.size + 1) (by simp) ?_; intro gg gcap w5 hown2 hgrow hat hlt5; have hb2 : w5.heap[x]? = wS.heap[x]? := (by rw [hgrow.block x (by simp; omega) (Ne.symm hfar)]; exact Below.heap_alloc wS _ x hxl); have hh2 := Lib.hid (hb2.trans XS.out); have q3 := cell_of (i := 3) (v := slG) hh2.out rfl; have q2 := cell_of (i := 2) (v := .int .i64 (0)) hh2.out rfl; have g3 := free_of (i := 3) hh2.out; have Hg2 := Lib.hid hgrow; have Ho2 := Lib.hid hown2; have Hat := Lib.hid hat; have Hlt := Lib.hid hlt5; clear hb2 hgrow hown2 hat hlt5))
          all_goals
            have KA := Lib.hid ((((Keep.refl [] wS).alloc _).drew.mono (S' := blk slG) (by simp)).of_grown Hg2.out (fun k hk => .inr (mem_blk.2 hk)))
            have KB := Lib.hid (keep_at w5 x 3 (.slice (some ⟨gg, 0, none⟩) (p.got.length + 1) gcap))
            have hgx : x ≠ gg := by
              rcases Hat.out with q | q
              · exact fun e => hfar (e ▸ q)
              · omega
            go_wp2_with fail
            go_meet
            refine ⟨_, block_set 3 _ hh2.out, own_keep Ho2.out KB.out (fun j hj hm => hgx (by simp [blk, Value.ownBlock] at hj; simp at hm; omega)), KB.out.to (KA.out.to YS.out (fun hm => by have := HPO.out pb hm; omega)) (by simpa using hxpb), (MS.out.keep KA.out hmo hbo).keep KB.out (by simpa using Ne.symm hxm) (by simpa using Ne.symm hxb), (LS.out.keep KA.out (fun j hj hm => hor j hm hj)).keep KB.out (fun j hj hm => hxr (by simp at hm; exact hm ▸ hj)), ((KS.out.mono (S' := x :: b :: blk slG) (fun y hy _ => by simp at hy ⊢; omega)).trans (KA.out.mono (S' := x :: b :: blk slG) (fun y hy _ => by simp [hy]))).trans (KB.out.mono (S' := x :: b :: blk slG) (fun y hy _ => by simp at hy; simp [hy])), fun j hj => ?_⟩
            simp [blk, Value.ownBlock] at hj
            subst hj
            rcases Hat.out with q | q
            · exact .inl (mem_blk.2 q)
            · exact .inr (by omega)
        case rest =>
          obtain ⟨slG2, d1, d2, d3, d4, d5, d6, d7⟩ := hcut
          have XD := Lib.hid d1
          have OD := Lib.hid d2
          have YD := Lib.hid d3
          have MD := Lib.hid d4
          have LD := Lib.hid d5
          have KD := Lib.hid d6
          have PD := Lib.hid d7
          have hx2 : x ∉ blk slG2 := own_other d2 d1 (by decide)
          obtain ⟨_, _, _, y5, y6⟩ := YC.out _ d3
          clear d1 d2 d3 d4 d5 d6 d7 z2 z3 z3f hown
          have t1 := cell_of (i := 1) (v := .int .i64 p.i) XD.out rfl
          have t4 := cell_of (i := 4) (v := .int .i64 p.n) XD.out rfl
          have t5 := cell_of (i := 5) (v := .int .i64 p.mark) XD.out rfl
          have t6 := cell_of (i := 6) (v := .bool p.has) XD.out rfl
          have f1 := free_of (i := 1) XD.out
          have f4 := free_of (i := 4) XD.out
          have f5 := free_of (i := 5) XD.out
          have f6 := free_of (i := 6) XD.out
          have hpbx : ¬ x = pb := fun e => hxpb e.symm
          have hodd : (p.last.tmod 2 != 0) = isOdd p.last := rfl
          rcases hod : isOdd p.last with _ | _
          all_goals
            rw [hod] at hodd
            cases mark <;> cases skip
          · go_wp2_with fail
            go_ret
            exact step_end HY.out HE.out (block_set 1 _ (block_set 4 _ XD.out)) (by simp [Pl.next, hod]) rfl (by simp [Pl.next]) (by simp [Pl.next]) OD.out MD.out LD.out h5 KD.out (by rw [hpb]; exact PD.out) ((keep_at _ x 4 _).trans (keep_at _ x 1 _)) hx2 hxm hxb hxr _ rfl
          · go_wp2_with fail
            go_ret
            exact step_end HY.out HE.out (block_set 1 _ (block_set 4 _ XD.out)) (by simp [Pl.next, hod]) rfl (by simp [Pl.next]) (by simp [Pl.next]) OD.out MD.out LD.out h5 KD.out (by rw [hpb]; exact PD.out) ((keep_at _ x 4 _).trans (keep_at _ x 1 _)) hx2 hxm hxb hxr _ rfl
          · go_wp2_with fail
            go_ret
            exact step_end HY.out HE.out (block_set 1 _ (block_set 6 _ (block_set 5 _ (block_set 4 _ XD.out)))) (by simp [Pl.next, hod]) rfl (by simp [Pl.next]) (by simp [Pl.next]) OD.out MD.out LD.out h5 KD.out (by rw [hpb]; exact PD.out) ((((keep_at _ x 4 _).trans (keep_at _ x 5 _)).trans (keep_at _ x 6 _)).trans (keep_at _ x 1 _)) hx2 hxm hxb hxr _ rfl
          · go_wp2_with fail
            go_ret
            exact step_end HY.out HE.out (block_set 1 _ (block_set 6 _ (block_set 5 _ (block_set 4 _ XD.out)))) (by simp [Pl.next, hod]) rfl (by simp [Pl.next]) (by simp [Pl.next]) OD.out MD.out LD.out h5 KD.out (by rw [hpb]; exact PD.out) ((((keep_at _ x 4 _).trans (keep_at _ x 5 _)).trans (keep_at _ x 6 _)).trans (keep_at _ x 1 _)) hx2 hxm hxb hxr _ rfl
          · go_wp2_with fail
            go_ret
            exact step_end HY.out HE.out (block_set 1 _ (block_set 4 _ XD.out)) (by simp [Pl.next, hod]) rfl (by simp [Pl.next]) (by simp [Pl.next]) OD.out MD.out LD.out h5 KD.out (by rw [hpb]; exact PD.out) ((keep_at _ x 4 _).trans (keep_at _ x 1 _)) hx2 hxm hxb hxr _ rfl
          · go_wp2_with fail
            go_ret
            exact step_end HY.out HE.out (block_set 1 _ (block_set 1 _ (block_set 4 _ XD.out))) (by simp [Pl.next, hod]) rfl (by simp [Pl.next]) (by simp [Pl.next]) OD.out MD.out LD.out h5 KD.out (by rw [hpb]; exact PD.out) (((keep_at _ x 4 _).trans (keep_at _ x 1 _)).trans (keep_at _ x 1 _)) hx2 hxm hxb hxr _ rfl
          · go_wp2_with fail
            go_ret
            exact step_end HY.out HE.out (block_set 1 _ (block_set 6 _ (block_set 5 _ (block_set 4 _ XD.out)))) (by simp [Pl.next, hod]) rfl (by simp [Pl.next]) (by simp [Pl.next]) OD.out MD.out LD.out h5 KD.out (by rw [hpb]; exact PD.out) ((((keep_at _ x 4 _).trans (keep_at _ x 5 _)).trans (keep_at _ x 6 _)).trans (keep_at _ x 1 _)) hx2 hxm hxb hxr _ rfl
          · go_wp2_with fail
            go_ret
            exact step_end HY.out HE.out (block_set 1 _ (block_set 1 _ (block_set 6 _ (block_set 5 _ (block_set 4 _ XD.out))))) (by simp [Pl.next, hod]) rfl (by simp [Pl.next]) (by simp [Pl.next]) OD.out MD.out LD.out h5 KD.out (by rw [hpb]; exact PD.out) (((((keep_at _ x 4 _).trans (keep_at _ x 5 _)).trans (keep_at _ x 6 _)).trans (keep_at _ x 1 _)).trans (keep_at _ x 1 _)) hx2 hxm hxb hxr _ rfl
      · have HE : Hid ((insOp ⟨kind, a, v, u, dep, skip, mark⟩ p.last).eff lm = (1, wordSwap lm a u vv)) := Lib.hid (by rw [HE0, hsw]; rfl)
        clear HE0
        go_wp2_with fail
        refine (ref_swap M4.out a u vv).mono ?_
        rintro _ wS ⟨rfl, hm5, k5⟩
        rw [hsw]
        clear hsw
        have M5 := Lib.hid hm5
        have hb5 : ∀ j ∈ blk slG, j ∉ [b] := fun j hj hm => hbo (by simp at hm; exact hm ▸ hj)
        have O5 := Lib.hid (own_keep O4.out k5 hb5)
        have L5 := Lib.hid (L4.out.keep k5 (fun j hj hm => hbr (by simp at hm; exact hm ▸ hj)))
        have Y5 := Lib.hid (k5.to Y4.out (by simpa using hpbb))
        have X5 := Lib.hid (k5.to X4.out (by simpa using hxb))
        have K5 := Lib.hid (K4.out.trans (k5.mono (S' := [x, b]) (by simp)))
        clear hm5 k5 z2 z2f y0 y1 y3 y5 y6
        obtain ⟨y0, y1, y3, y5, y6⟩ := YC.out _ Y5.out
        have z2 : wS.cell? ⟨x, 2, none⟩ = some (.int .i64 0) := cell_of X5.out rfl
        have z2f : wS.frozen? ⟨x, 2, none⟩ = false := free_of (i := 2) X5.out
        generalize wS = wT at *
        have KSx := Lib.hid (keep_at wT x 2 (.int .i64 (1)))
        have XS : Hid ((wT.setCell ⟨x, 2, none⟩ (.int .i64 (1))).heap[x]? = some (.cells #[.slice (some ⟨g, og, none⟩) l.length cap, .int .i64 p.i, .int .i64 (1), slG, .int .i64 p.n, .int .i64 p.mark, .bool p.has] 77 (0, 0))) := Lib.hid (block_set 2 _ X5.out)
        have OS := Lib.hid (own_keep O5.out KSx.out (fun j hj hm => hxo (by simp at hm; exact hm ▸ hj)))
        have MS := Lib.hid (M5.out.keep KSx.out (by simpa using Ne.symm hxm) (by simpa using Ne.symm hxb))
        have LS := Lib.hid (L5.out.keep KSx.out (fun j hj hm => hxr (by simp at hm; exact hm ▸ hj)))
        have YS := Lib.hid (KSx.out.to Y5.out (by simpa using hxpb))
        have KS := Lib.hid (K5.out.trans (KSx.out.mono (S' := [x, b]) (by simp)))
        go_wp2_with fail
        generalize wT.setCell ⟨x, 2, none⟩ (.int .i64 (1)) = wS at *
        clear y0 y1 y3 y5 y6 z2 z2f
        have z3 := cell_of (i := 3) (v := slG) XS.out rfl
        have z2 := cell_of (i := 2) (v := .int .i64 (1)) XS.out rfl
        have z3f := free_of (i := 3) XS.out
        have hown := OS.out
        have hxl := lt_of_block XS.out
        have hfar : slG.ownBlock ≠ some x := fun e => hxo (mem_blk.2 e)
        have hszS := KS.out.size
        go_upto_region 19 with fail
        go_cut [99] from 12 to 139 (fun s99 wd => ∃ slG2, wd.heap[x]? = some (.cells #[.slice (some ⟨g, og, none⟩) l.length cap, .int .i64 p.i, .int .i64 (1), slG2, .int .i64 p.n, .int .i64 p.mark, .bool p.has] 77 (0, 0)) ∧ wd.ownsRow 0 2 1 slG2 (p.got.length + 1) (p.got.map (Value.int .i64) ++ [.int .i64 (1)]) ∧ wd.heap[pb]? = some (.cells #[.int .u8 kind, .int .i64 a, .int .i64 v, .int .i64 u, .bool dep, .bool skip, .bool mark] 34 (0, 0)) ∧ RefRep wd m b (wordSwap lm a u vv) ∧ LAt wd (some ⟨g, og, none⟩) cap l ∧ Keep (x :: b :: blk slG) w wd ∧ (∀ j ∈ blk slG2, j ∈ blk slG ∨ pb ≤ j))
        case first =>
          go_region_law ((refine step_append_lies _ (by rfl) _ _ _ (by rfl) 0 2 i0 _ 1 8 Try.underlying37 hi0 hz0 hz1 hz2 rfl (by omega) slG p.got.length (p.got.map (Value.int .i64)) (by rfl) ((hown.alloc _).drew) ⟨wS.heap.size, 0, none⟩ 1 1 [.int .i64 (1)] (by rfl) (by rfl) (World.news_of_block (cs := #[.int .i64 (1)]) (t := 2) (fr := (0, 0)) (heap_alloc_new wS _)) (by simp [Value.oneCell']) (by omega) (by unfold maxLen; omega) (by omega) (by simp) (wS.heap.size + 1) (by simp) ?_; intro gg gcap w5 hown2 hgrow hat hlt5; have hb2 : w5.heap[x]? = wS.heap[x]? := (by rw [hgrow.block x (by simp; omega) (Ne.symm hfar)]; exact Below.heap_alloc wS _ x hxl); have hh2 := Lib.hid (hb2.trans XS.out); have q3 := cell_of (i := 3) (v := slG) hh2.out rfl; have q2 := cell_of (i := 2) (v := .int .i64 (1)) hh2.out rfl; have g3 := free_of (i := 3) hh2.out; have Hg2 := Lib.hid hgrow; have Ho2 := Lib.hid hown2; have Hat := Lib.hid hat; have Hlt := Lib.hid hlt5; clear hb2 hgrow hown2 hat hlt5))
          all_goals
            have KA := Lib.hid ((((Keep.refl [] wS).alloc _).drew.mono (S' := blk slG) (by simp)).of_grown Hg2.out (fun k hk => .inr (mem_blk.2 hk)))
            have KB := Lib.hid (keep_at w5 x 3 (.slice (some ⟨gg, 0, none⟩) (p.got.length + 1) gcap))
            have hgx : x ≠ gg := by
              rcases Hat.out with q | q
              · exact fun e => hfar (e ▸ q)
              · omega
            go_wp2_with fail
            go_meet
            refine ⟨_, block_set 3 _ hh2.out, own_keep Ho2.out KB.out (fun j hj hm => hgx (by simp [blk, Value.ownBlock] at hj; simp at hm; omega)), KB.out.to (KA.out.to YS.out (fun hm => by have := HPO.out pb hm; omega)) (by simpa using hxpb), (MS.out.keep KA.out hmo hbo).keep KB.out (by simpa using Ne.symm hxm) (by simpa using Ne.symm hxb), (LS.out.keep KA.out (fun j hj hm => hor j hm hj)).keep KB.out (fun j hj hm => hxr (by simp at hm; exact hm ▸ hj)), ((KS.out.mono (S' := x :: b :: blk slG) (fun y hy _ => by simp at hy ⊢; omega)).trans (KA.out.mono (S' := x :: b :: blk slG) (fun y hy _ => by simp [hy]))).trans (KB.out.mono (S' := x :: b :: blk slG) (fun y hy _ => by simp at hy; simp [hy])), fun j hj => ?_⟩
            simp [blk, Value.ownBlock] at hj
            subst hj
            rcases Hat.out with q | q
            · exact .inl (mem_blk.2 q)
            · exact .inr (by omega)
        case rest =>
          obtain ⟨slG2, d1, d2, d3, d4, d5, d6, d7⟩ := hcut
          have XD := Lib.hid d1
          have OD := Lib.hid d2
          have YD := Lib.hid d3
          have MD := Lib.hid d4
          have LD := Lib.hid d5
          have KD := Lib.hid d6
          have PD := Lib.hid d7
          have hx2 : x ∉ blk slG2 := own_other d2 d1 (by decide)
          obtain ⟨_, _, _, y5, y6⟩ := YC.out _ d3
          clear d1 d2 d3 d4 d5 d6 d7 z2 z3 z3f hown
          have t1 := cell_of (i := 1) (v := .int .i64 p.i) XD.out rfl
          have t4 := cell_of (i := 4) (v := .int .i64 p.n) XD.out rfl
          have t5 := cell_of (i := 5) (v := .int .i64 p.mark) XD.out rfl
          have t6 := cell_of (i := 6) (v := .bool p.has) XD.out rfl
          have f1 := free_of (i := 1) XD.out
          have f4 := free_of (i := 4) XD.out
          have f5 := free_of (i := 5) XD.out
          have f6 := free_of (i := 6) XD.out
          have hpbx : ¬ x = pb := fun e => hxpb e.symm
          have hodd : (p.last.tmod 2 != 0) = isOdd p.last := rfl
          rcases hod : isOdd p.last with _ | _
          all_goals
            rw [hod] at hodd
            cases mark <;> cases skip
          · go_wp2_with fail
            go_ret
            exact step_end HY.out HE.out (block_set 1 _ (block_set 4 _ XD.out)) (by simp [Pl.next, hod]) rfl (by simp [Pl.next]) (by simp [Pl.next]) OD.out MD.out LD.out h5 KD.out (by rw [hpb]; exact PD.out) ((keep_at _ x 4 _).trans (keep_at _ x 1 _)) hx2 hxm hxb hxr _ rfl
          · go_wp2_with fail
            go_ret
            exact step_end HY.out HE.out (block_set 1 _ (block_set 4 _ XD.out)) (by simp [Pl.next, hod]) rfl (by simp [Pl.next]) (by simp [Pl.next]) OD.out MD.out LD.out h5 KD.out (by rw [hpb]; exact PD.out) ((keep_at _ x 4 _).trans (keep_at _ x 1 _)) hx2 hxm hxb hxr _ rfl
          · go_wp2_with fail
            go_ret
            exact step_end HY.out HE.out (block_set 1 _ (block_set 6 _ (block_set 5 _ (block_set 4 _ XD.out)))) (by simp [Pl.next, hod]) rfl (by simp [Pl.next]) (by simp [Pl.next]) OD.out MD.out LD.out h5 KD.out (by rw [hpb]; exact PD.out) ((((keep_at _ x 4 _).trans (keep_at _ x 5 _)).trans (keep_at _ x 6 _)).trans (keep_at _ x 1 _)) hx2 hxm hxb hxr _ rfl
          · go_wp2_with fail
            go_ret
            exact step_end HY.out HE.out (block_set 1 _ (block_set 6 _ (block_set 5 _ (block_set 4 _ XD.out)))) (by simp [Pl.next, hod]) rfl (by simp [Pl.next]) (by simp [Pl.next]) OD.out MD.out LD.out h5 KD.out (by rw [hpb]; exact PD.out) ((((keep_at _ x 4 _).trans (keep_at _ x 5 _)).trans (keep_at _ x 6 _)).trans (keep_at _ x 1 _)) hx2 hxm hxb hxr _ rfl
          · go_wp2_with fail
            go_ret
            exact step_end HY.out HE.out (block_set 1 _ (block_set 4 _ XD.out)) (by simp [Pl.next, hod]) rfl (by simp [Pl.next]) (by simp [Pl.next]) OD.out MD.out LD.out h5 KD.out (by rw [hpb]; exact PD.out) ((keep_at _ x 4 _).trans (keep_at _ x 1 _)) hx2 hxm hxb hxr _ rfl
          · go_wp2_with fail
            go_ret
            exact step_end HY.out HE.out (block_set 1 _ (block_set 1 _ (block_set 4 _ XD.out))) (by simp [Pl.next, hod]) rfl (by simp [Pl.next]) (by simp [Pl.next]) OD.out MD.out LD.out h5 KD.out (by rw [hpb]; exact PD.out) (((keep_at _ x 4 _).trans (keep_at _ x 1 _)).trans (keep_at _ x 1 _)) hx2 hxm hxb hxr _ rfl
          · go_wp2_with fail
            go_ret
            exact step_end HY.out HE.out (block_set 1 _ (block_set 6 _ (block_set 5 _ (block_set 4 _ XD.out)))) (by simp [Pl.next, hod]) rfl (by simp [Pl.next]) (by simp [Pl.next]) OD.out MD.out LD.out h5 KD.out (by rw [hpb]; exact PD.out) ((((keep_at _ x 4 _).trans (keep_at _ x 5 _)).trans (keep_at _ x 6 _)).trans (keep_at _ x 1 _)) hx2 hxm hxb hxr _ rfl
          · go_wp2_with fail
            go_ret
            exact step_end HY.out HE.out (block_set 1 _ (block_set 1 _ (block_set 6 _ (block_set 5 _ (block_set 4 _ XD.out))))) (by simp [Pl.next, hod]) rfl (by simp [Pl.next]) (by simp [Pl.next]) OD.out MD.out LD.out h5 KD.out (by rw [hpb]; exact PD.out) (((((keep_at _ x 4 _).trans (keep_at _ x 5 _)).trans (keep_at _ x 6 _)).trans (keep_at _ x 1 _)).trans (keep_at _ x 1 _)) hx2 hxm hxb hxr _ rfl
  · have hj2 : (l.length : Int) ≤ (p.i : Int) := by omega
    go_enter Try.func42, Try.ntmps42
    go_wp2_with fail
    go_region_held3 (fun w' => w'.cell? ⟨x, 0, none⟩ = some (.slice ao l.length cap) ∧ w'.cell? ⟨x, 1, none⟩ = some (.int .i64 p.i)) (go_keep) (fail)
    go_wp2_with fail
    go_ret
    have kd := (Keep.refl [] w).drew
    refine ⟨ret_bool (by simp [hi]), blk slG, ?_, ?_, kd.mono (by simp), fun j hj => .inl hj⟩
    · rw [plStep_end (by omega)]
      exact H.out.keep kd (by simp) (by simp) (by simp)
    · rw [plStep_end (by omega)]
      exact HM.out.keep kd (by simp) (by simp)
end Law02
end Go.Proofs.Ytkmamebaichboaa
