/- Law 2: FrameRuns walked. No conditions but those stated. -/
import Derived.Test.YtkmamebaichboaaPlainStep
import Derived.Test.YtkmamebaichboaaRunsLaw
import Derived.Deep.RegionHeld3
namespace Go.Proofs.Ytkmamebaichboaa
open Go.ChangeShapes Go.WideShapes Go.ChangeAt Go.RowKit
set_option linter.unusedVariables false
set_option linter.unusedSimpArgs false
namespace Law02
open Prog
def Z8 : List Int := [0, 0, 0, 0, 0, 0, 0, 0]
theorem z8 : (List.replicate (min (max (8 : Int) 0) 4000).toNat (0 : Int)) = Z8 := by decide
theorem plain_new {w : World} {ao : Option Addr} {cap : Nat} {l : List Ins} (hl : LAt w ao cap l) (h5 : l.length ≤ 1000) : PlRep w.heap.size ao cap l Pl.new [] (w.alloc (.cells #[.slice ao l.length cap, .int .i64 0, .int .i64 0, .slice none 0 0, .int .i64 0, .int .i64 0, .bool false] 77)) :=
  ⟨.slice none 0 0, one_new w _, ⟨rfl, .inl ⟨rfl, rfl⟩⟩, rfl, hl.keep ((Keep.refl [] w).alloc _) (by simp), h5⟩
theorem prog_new {w : World} {ao : Option Addr} {cap : Nat} {l : List Ins} (hl : LAt w ao cap l) (h5 : l.length ≤ 1000) (hr : ∀ j ∈ roOf ao, j < w.heap.size) : PRep w.heap.size ao cap l ⟨[], 0⟩ [] (w.alloc (.cells #[.slice ao l.length cap, .slice none 0 0, .int .i64 0] 39)) :=
  ⟨.slice none 0 0, one_new w _, ⟨rfl, .inl ⟨rfl, rfl⟩⟩, rfl, hl.keep ((Keep.refl [] w).alloc _) (by simp), (fun h => Nat.lt_irrefl _ (hr _ h)), h5⟩
theorem PlRep.laid {x : Nat} {ao : Option Addr} {cap : Nat} {l : List Ins} {p : Pl} {o : List Nat} {w : World} (h : PlRep x ao cap l p o w) : LAt w ao cap l := let ⟨_, _, _, _, h4, _⟩ := h; h4
theorem PlRep.cell1 {x : Nat} {ao : Option Addr} {cap : Nat} {l : List Ins} {p : Pl} {o : List Nat} {w : World} (h : PlRep x ao cap l p o w) : w.cell? ⟨x, 1, none⟩ = some (.int .i64 p.i) := let ⟨_, h1, _⟩ := h; cell_of h1 rfl
theorem RefRep.mem {w : World} {m b n : Nat} {lm : List Int} (h : RefRep w m b lm) (hn : lm.length = n + 1) : MemRep 80 w m b lm := by
  rcases h with h | ⟨_, rfl, _⟩
  · exact h
  · simp at hn
/-- The loop of the plain accesses. -/
structure RunsAt (w0 : World) (lo x m b mr br : Nat) (ao : Option Addr) (cap : Nat) (l : List Ins) (p : Pl) (lm : List Int) (o : List Nat) (wr : World) : Prop where
  pl : PlRep x ao cap l p o wr
  ref : RefRep wr mr br lm
  mem : MemRep 134 wr m b Z8
  keep : Keep [] w0 wr
  new : ∀ j ∈ o, lo ≤ j
  le : lo ≤ wr.heap.size
theorem RunsAt.step {w0 w' wr : World} {lo x m b mr br : Nat} {ao : Option Addr} {cap : Nat} {l : List Ins} {p : Pl} {lm : List Int} {o : List Nat} {now : Int} {e : Ending} (h : RunsAt w0 lo x m b mr br ao cap l p lm o wr) (hs : StepPost x mr br ao cap l now p o lm wr e w')
    (hx : w0.heap.size ≤ x) (hbr : w0.heap.size ≤ br) (hlo : w0.heap.size ≤ lo) (h1 : m ≠ x ∧ m ≠ br ∧ m < lo) (h2 : b ≠ x ∧ b ≠ br ∧ b < lo) : ∃ o', RunsAt w0 lo x m b mr br ao cap l (plStep l now p lm).1 (plStep l now p lm).2 o' w' := by
  obtain ⟨_, o', g1, g2, g3, g4⟩ := hs
  have hno : ∀ y, y < lo → y ∉ o := fun y hy hm => by have := h.new y hm; omega
  refine ⟨o', g1, g2, h.mem.keep g3 (by simp; exact ⟨h1.1, h1.2.1, hno m h1.2.2⟩) (by simp; exact ⟨h2.1, h2.2.1, hno b h2.2.2⟩), h.keep.transS g3 (T := []) (by simp) (fun y hy hlt => ?_), fun j hj => ?_, Nat.le_trans h.le g3.size⟩
  · simp at hy
    rcases hy with rfl | rfl | hy
    · omega
    · omega
    · have := h.new y hy; omega
  · rcases g4 j hj with q | q
    · exact h.new j q
    · have := h.le; omega
theorem RunsAt.kept {w0 w' wr : World} {lo x m b mr br : Nat} {ao : Option Addr} {cap : Nat} {l : List Ins} {p : Pl} {lm : List Int} {o : List Nat} (h : RunsAt w0 lo x m b mr br ao cap l p lm o wr) (k : Keep [] wr w') : RunsAt w0 lo x m b mr br ao cap l p lm o w' :=
  ⟨h.pl.keep k (by simp) (by simp) (by simp), h.ref.keep k (by simp) (by simp), h.mem.keep k (by simp) (by simp), h.keep.trans k, h.new, Nat.le_trans h.le k.size⟩
set_option maxHeartbeats 8000000 in
set_option maxRecDepth 100000 in
theorem frameRuns_walk {w : World} {v : Value} {l : List Ins} (h : InsArg w v l) (most : Int) (hmo : -9223372036854775808 ≤ most ∧ most ≤ 9223372036854775807) :
    Calls Try.prog 17 #[v, .int .i64 most] w fun e w' => e = .returned (.bool true) ∧ Keep [] w w' := by
  obtain ⟨ao, cap, rfl, hl, hro⟩ := h
  have HL := Lib.hid hl
  have HRO := Lib.hid hro
  clear hl hro
  obtain ⟨Q, q0, qs, qq⟩ : ∃ Q : Nat → Pl × List Int, Q 0 = (Pl.new, Z8) ∧ (∀ k : Nat, plStep l k (Q k).1 (Q k).2 = Q (k + 1)) ∧ (∀ k, Q k = plRun l k (Pl.new, Z8)) := ⟨fun k => plRun l k (Pl.new, Z8), rfl, fun _ => rfl, fun _ => rfl⟩
  have Q0 := Lib.hid q0
  have QS := Lib.hid qs
  have QQ := Lib.hid qq
  clear q0 qs qq
  go_enter Try.func17, Try.ntmps17
  go_wp2_with fail
  refine (awake02 _).mono ?_
  rintro _ w0 ⟨rfl, hk0⟩
  have K0 := Lib.hid hk0
  clear hk0
  by_cases hlen : (60 : Int) < (l.length : Int)
  · go_wp2_with fail
    refine (awake02 _).mono ?_
    rintro _ w1 ⟨rfl, hk1⟩
    have K1 := Lib.hid (K0.out.trans hk1)
    clear hk1
    go_wp2_with fail
    go_ret
    exact ⟨rfl, K1.out⟩
  · have hl60 : l.length ≤ 60 := by omega
    go_wp2_with fail
    refine (word_new 8 _ (by omega)).mono ?_
    rintro _ w1 ⟨rfl, hm1, hk1, hs1⟩
    rw [z8] at hm1
    have M1 := Lib.hid hm1
    have K1 := Lib.hid hk1
    have hsz1 : w0.heap.size + 2 ≤ w1.heap.size := by omega
    clear hm1 hk1 hs1
    go_wp2_with fail
    refine (ref_new 8 _ (by omega)).mono ?_
    rintro _ w2 ⟨rfl, hm2, hk2, hs2⟩
    rw [z8] at hm2
    have hsz2 : w1.heap.size + 2 ≤ w2.heap.size := by omega
    clear hs2
    have KK2 := Lib.hid (K1.out.trans hk2)
    have L2 := Lib.hid (HL.out.keep (K0.out.trans KK2.out) (by simp))
    have RO2 : Hid (∀ j ∈ roOf ao, j < w0.heap.size) := Lib.hid (fun j hj => Nat.lt_of_lt_of_le (HRO.out j hj) K0.out.size)
    have R0 : Hid (RunsAt w0 (w2.alloc (.cells #[.slice ao l.length cap, .int .i64 0, .int .i64 0, .slice none 0 0, .int .i64 0, .int .i64 0, .bool false] 77)).heap.size w2.heap.size (w0.heap.size + 1) w0.heap.size (w1.heap.size + 1) w1.heap.size ao cap l (Q 0).1 (Q 0).2 [] (w2.alloc (.cells #[.slice ao l.length cap, .int .i64 0, .int .i64 0, .slice none 0 0, .int .i64 0, .int .i64 0, .bool false] 77))) := Lib.hid (by
      rw [Q0.out]
      have k3 := (Keep.refl [] w2).alloc (.cells #[.slice ao l.length cap, .int .i64 0, .int .i64 0, .slice none 0 0, .int .i64 0, .int .i64 0, .bool false] 77)
      exact ⟨plain_new L2.out (by omega), hm2.keep k3 (by simp) (by simp), (M1.out.keep hk2 (by simp) (by simp)).keep k3 (by simp) (by simp), KK2.out.trans k3, by simp, Nat.le_refl _⟩)
    have hz3 : (w2.alloc (.cells #[.slice ao l.length cap, .int .i64 0, .int .i64 0, .slice none 0 0, .int .i64 0, .int .i64 0, .bool false] 77)).heap.size = w2.heap.size + 1 := by simp
    clear hm2 hk2 M1 K1
    go_wp2_with fail
    generalize w2.alloc (.cells #[.slice ao l.length cap, .int .i64 0, .int .i64 0, .slice none 0 0, .int .i64 0, .int .i64 0, .bool false] 77) = w3 at *
    clear L2 KK2
    generalize hb : w0.heap.size = b at *
    generalize hbr : w1.heap.size = br at *
    generalize hx : w2.heap.size = x at *
    generalize hlo : w3.heap.size = lo at *
    go_loopw [8] (fun c wr => ∃ k : Nat, c = .int .i64 k ∧ ((k : Int) ≤ most ∨ k = 0) ∧ k ≤ (Q k).1.i + 1 ∧ ((Q k).1.i < l.length → k ≤ (Q k).1.i) ∧ ∃ o, RunsAt w0 lo x (b + 1) b (br + 1) br ao cap l (Q k).1 (Q k).2 o wr) (fun c _ => 70 - (intOf c).toNat)
    case atStart => exact ⟨0, rfl, .inr rfl, Nat.zero_le _, fun _ => Nat.zero_le _, [], R0.out⟩
    case round =>
      obtain ⟨k, rfl, hk1, hk2, hk3, o, hr⟩ := hrel
      have HR := Lib.hid hr
      have hbd := QQ.out k ▸ plRun_bounds l Z8 k
      obtain ⟨bd1, bd2, bd3, bd4⟩ := hbd
      have BD : Hid ((Q k).2.length = 8) := Lib.hid bd4
      clear bd4
      obtain ⟨slG, hX, hOw, ho, _⟩ := hr.pl
      have x1 := cell_of (i := 1) (v := .int .i64 (Q k).1.i) hX rfl
      have hbo : br ∉ o ∧ br + 1 ∉ o := ⟨fun hm => by have := hr.new _ hm; omega, fun hm => by have := hr.new _ hm; omega⟩
      have hro3 : ∀ j ∈ o, j ∉ roOf ao := fun j hj hm => by have := hr.new j hj; have := RO2.out j hm; omega
      have HRO3 := Lib.hid hro3
      have HX := Lib.hid hX
      clear hr hro3 hOw ho hX
      by_cases hgo : (k : Int) < most ∧ (k = 0 ∨ (Q k).1.i < l.length)
      · obtain ⟨hgo1, hgo2⟩ := hgo
        have HST := Lib.hid (plain_step HR.out.pl HR.out.ref hbo.1 hbo.2 (fun hm => by have := RO2.out _ hm; omega) (fun hm => by have := RO2.out _ hm; omega) HRO3.out (by omega) (by omega) (by omega) (by omega) (by omega) (k : Int))
        have hgro := fun h => QQ.out (k + 1) ▸ QQ.out k ▸ plRun_grows l Z8 k (QQ.out k ▸ h)
        have HG : Hid ((Q k).1.i < l.length → (Q k).1.i + 1 ≤ (Q (k + 1)).1.i) := Lib.hid hgro
        have hk60 : k ≤ 61 := by
          rcases hgo2 with h | h
          · omega
          · have := hk3 h; omega
        have HNX : Hid ((((k + 1 : Nat) : Int) ≤ most ∨ k + 1 = 0) ∧ k + 1 ≤ (Q (k + 1)).1.i + 1 ∧ ((Q (k + 1)).1.i < l.length → k + 1 ≤ (Q (k + 1)).1.i)) := Lib.hid (by
          refine ⟨.inl (by omega), ?_, ?_⟩
          · by_cases hi : (Q k).1.i < l.length
            · have := hgro hi; have := hk3 hi; omega
            · rcases hgo2 with h | h
              · omega
              · exact absurd h hi
          · intro hi2
            by_cases hi : (Q k).1.i < l.length
            · have := hgro hi; have := hk3 hi; omega
            · have e : Q (k + 1) = Q k := by rw [← QS.out k]; exact plStep_end (by omega) _
              rw [e] at hi2
              exact absurd hi2 hi)
        clear hgro bd3
        by_cases hk0 : k = 0
        · have hkb : ((k : Int) == 0) = true := by simp; omega
          clear hgo2 hk0
          go_wp2_with fail
          with_reducible refine HST.out.mono ?_
          intro e w5 hs5
          obtain ⟨o', h5⟩ := HR.out.step hs5 (by omega) (by omega) (by omega) (by omega) (by omega)
          rw [QS.out k] at h5
          have H5 := Lib.hid h5
          obtain ⟨rfl, _⟩ := hs5
          clear h5
          go_wp2_with fail
          go_roundw
          case rel => exact ⟨k + 1, by go_num, HNX.out.1, HNX.out.2.1, HNX.out.2.2, o', H5.out⟩
          case measure => simp [intOf]; omega
        · have hkb : ((k : Int) == 0) = false := by simp; omega
          have hi : (Q k).1.i < l.length := hgo2.resolve_left hk0
          have hi' : ((Q k).1.i : Int) < (l.length : Int) := by omega
          clear hgo2 hk0
          go_wp2_with fail
          with_reducible refine HST.out.mono ?_
          intro e w5 hs5
          obtain ⟨o', h5⟩ := HR.out.step hs5 (by omega) (by omega) (by omega) (by omega) (by omega)
          rw [QS.out k] at h5
          have H5 := Lib.hid h5
          obtain ⟨rfl, _⟩ := hs5
          clear h5
          go_wp2_with fail
          go_roundw
          case rel => exact ⟨k + 1, by go_num, HNX.out.1, HNX.out.2.1, HNX.out.2.2, o', H5.out⟩
          case measure => simp [intOf]; omega
      · have hend : ¬ (k : Int) < most ∨ (k ≠ 0 ∧ l.length ≤ (Q k).1.i) := by
          by_cases h1 : (k : Int) < most
          · right
            refine ⟨fun h => hgo ⟨h1, .inl h⟩, ?_⟩
            rcases Nat.lt_or_ge (Q k).1.i l.length with h | h
            · exact absurd ⟨h1, .inr h⟩ hgo
            · exact h
          · exact .inl h1
        obtain ⟨hov, hmem⟩ := runs_end (l := l) (m := Z8) hk1 (QQ.out k ▸ hend)
        rw [← QQ.out k] at hov hmem
        have HMEM := Lib.hid hmem
        have HOV := Lib.hid hov
        clear hov hmem
        have kA := (Keep.refl [] wr).alloc (.cells #[.slice ao l.length cap, .slice none 0 0, .int .i64 0] 39)
        have RA := Lib.hid ((HR.out.kept kA).kept (Keep.refl [] _).drew)
        have hwl := HR.out.le
        have hszA0 : wr.heap.size < (wr.alloc (.cells #[.slice ao l.length cap, .slice none 0 0, .int .i64 0] 39)).drew.heap.size := by simp
        have hsz0 := HR.out.keep.size
        have PA := Lib.hid (pStays wr.heap.size ao cap l _ _ _ _ [] (prog_new (w := wr) HR.out.pl.laid (by omega) (fun j hj => by have := RO2.out j hj; omega)) (Keep.refl [] _).drew (by simp) (by simp) (by simp))
        have HROA : Hid (∀ j ∈ roOf ao, j < (wr.alloc (.cells #[.slice ao l.length cap, .slice none 0 0, .int .i64 0] 39)).drew.heap.size ∧ j ≠ b ∧ j ∉ ([] : List Nat)) := Lib.hid (fun j hj => by have := RO2.out j hj; exact ⟨by omega, by omega, by simp⟩)
        have HLOG : Hid (∀ n : Nat, (n : Int) ≤ most → (runP (pB l) n (⟨[], 0⟩, St.new Z8)).2.log.length ≤ 900000) := Lib.hid (fun n _ => Nat.le_trans (runs_log l Z8 n) (by omega))
        clear kA hgo
        by_cases hkm : (k : Int) < most
        · have hend2 := hend.resolve_left (fun h => h hkm)
          have hkb : ((k : Int) == 0) = false := by simp; omega
          have hli : ¬ ((Q k).1.i : Int) < (l.length : Int) := by omega
          have hli2 : (l.length : Int) ≤ ((Q k).1.i : Int) := by omega
          have hm0 : (0 : Int) < most := by omega
          clear hend
          have hovc : (runP (pB l) most.toNat (⟨[], 0⟩, St.new Z8)).2.over = true := by rw [HOV.out]; simp; omega
          have HOVC := Lib.hid hovc
          clear hovc
          go_wp2_with fail
          generalize wr.alloc (.cells #[.slice ao l.length cap, .slice none 0 0, .int .i64 0] 39) = wA at *
          generalize hxp : wr.heap.size = xp at *
          have RM := Lib.hid (RefRep.mem (n := 7) RA.out.ref BD.out)
          have SA := Lib.hid (And.intro RA.out.pl.cell1 RM.out.cell0)
          have hszA : xp < wA.drew.heap.size := hszA0
          go_region_held3 (fun w' => w'.cell? ⟨x, 1, none⟩ = some (.int .i64 (Q k).1.i) ∧ w'.cell? ⟨br + 1, 0, none⟩ = some (.slice (some ⟨br, 0, none⟩) (Q k).2.length (Q k).2.length))
            (first | exact SD.out | exact SC.out | exact SB.out | exact SA.out)
            (first
              | (go_at_call 24; ((with_reducible refine (frame_runR progK (progOK xp ao cap l) (pStays xp ao cap l) RA.out.mem PA.out (by omega) (by omega) (by simp) (by simp) (by simp) (by simp) HROA.out hszA most hmo.2 HLOG.out).mono ?_); rintro _ w5 ⟨o5, rfl, hm5, _, he5, _⟩; rw [HOVC.out]; rw [HMEM.out] at hm5; have M5 := Lib.hid hm5; have K5 := Lib.hid he5.keep; have R5 := Lib.hid (RM.out.keep K5.out (by simp; omega) (by simp; omega)); have SB := Lib.hid (And.intro (cell_keep K5.out SA.out.1 (by simp; omega)) R5.out.cell0); clear hm5 he5))
              | (go_at_call 36; ((with_reducible refine (word_words M5.out).mono ?_); rintro _ w6 ⟨g6, cap6, rfl, hrow, _, _, k6⟩; have I6 := Lib.hid hrow.intsAt; have K6 := Lib.hid k6; have R6 := Lib.hid (R5.out.keep k6 (by simp) (by simp)); have SC := Lib.hid (And.intro (cell_keep K6.out SB.out.1 (by simp)) R6.out.cell0); clear hrow k6))
              | (go_at_call 40; ((with_reducible refine (ref_words (some ⟨g6, 0, none⟩) (some ⟨br, 0, none⟩) (Q k).2.length (Q k).2.length _ _ (Q k).2 (Q k).2 I6.out R6.out.intsAt rfl rfl (by rw [BD.out]; omega) (by rw [BD.out]; omega)).mono ?_); rintro _ w7 ⟨rfl, n7, rfl⟩; rw [decide_eq_true (rfl : (Q k).2 = (Q k).2)]; have K7 := Lib.hid ((Keep.refl [] w6).drewN n7); have SD := Lib.hid (And.intro (cell_keep K7.out SC.out.1 (by simp)) (R6.out.keep K7.out (by simp) (by simp)).cell0))))
          all_goals
            go_wp2_with fail
            go_ret
            have hw0 := K0.out.size
            exact ⟨ret_bool (by simp), (((K0.out.trans RA.out.keep).transS K5.out (T := []) (by simp) (by simp; omega)).trans K6.out).trans K7.out⟩
        · clear hend
          by_cases hm0 : (0 : Int) < most
          · by_cases hli : (l.length : Int) ≤ ((Q k).1.i : Int)
            · have hx0 := hm0
              have hovc : (runP (pB l) most.toNat (⟨[], 0⟩, St.new Z8)).2.over = true := by rw [HOV.out]; simp; omega
              have HOVC := Lib.hid hovc
              clear hovc
              go_wp2_with fail
              generalize wr.alloc (.cells #[.slice ao l.length cap, .slice none 0 0, .int .i64 0] 39) = wA at *
              generalize hxp : wr.heap.size = xp at *
              have RM := Lib.hid (RefRep.mem (n := 7) RA.out.ref BD.out)
              have SA := Lib.hid (And.intro RA.out.pl.cell1 RM.out.cell0)
              have hszA : xp < wA.drew.heap.size := hszA0
              go_region_held3 (fun w' => w'.cell? ⟨x, 1, none⟩ = some (.int .i64 (Q k).1.i) ∧ w'.cell? ⟨br + 1, 0, none⟩ = some (.slice (some ⟨br, 0, none⟩) (Q k).2.length (Q k).2.length))
                (first | exact SD.out | exact SC.out | exact SB.out | exact SA.out)
                (first
                  | (go_at_call 24; ((with_reducible refine (frame_runR progK (progOK xp ao cap l) (pStays xp ao cap l) RA.out.mem PA.out (by omega) (by omega) (by simp) (by simp) (by simp) (by simp) HROA.out hszA most hmo.2 HLOG.out).mono ?_); rintro _ w5 ⟨o5, rfl, hm5, _, he5, _⟩; rw [HOVC.out]; rw [HMEM.out] at hm5; have M5 := Lib.hid hm5; have K5 := Lib.hid he5.keep; have R5 := Lib.hid (RM.out.keep K5.out (by simp; omega) (by simp; omega)); have SB := Lib.hid (And.intro (cell_keep K5.out SA.out.1 (by simp; omega)) R5.out.cell0); clear hm5 he5))
                  | (go_at_call 36; ((with_reducible refine (word_words M5.out).mono ?_); rintro _ w6 ⟨g6, cap6, rfl, hrow, _, _, k6⟩; have I6 := Lib.hid hrow.intsAt; have K6 := Lib.hid k6; have R6 := Lib.hid (R5.out.keep k6 (by simp) (by simp)); have SC := Lib.hid (And.intro (cell_keep K6.out SB.out.1 (by simp)) R6.out.cell0); clear hrow k6))
                  | (go_at_call 40; ((with_reducible refine (ref_words (some ⟨g6, 0, none⟩) (some ⟨br, 0, none⟩) (Q k).2.length (Q k).2.length _ _ (Q k).2 (Q k).2 I6.out R6.out.intsAt rfl rfl (by rw [BD.out]; omega) (by rw [BD.out]; omega)).mono ?_); rintro _ w7 ⟨rfl, n7, rfl⟩; rw [decide_eq_true (rfl : (Q k).2 = (Q k).2)]; have K7 := Lib.hid ((Keep.refl [] w6).drewN n7); have SD := Lib.hid (And.intro (cell_keep K7.out SC.out.1 (by simp)) (R6.out.keep K7.out (by simp) (by simp)).cell0))))
              all_goals
                go_wp2_with fail
                go_ret
                have hw0 := K0.out.size
                exact ⟨ret_bool (by simp), (((K0.out.trans RA.out.keep).transS K5.out (T := []) (by simp) (by simp; omega)).trans K6.out).trans K7.out⟩
            · have hx0 := hm0
              have hdb : decide ((l.length : Int) ≤ ((Q k).1.i : Int)) = false := by simp; omega
              have hn1 : ¬ l.length ≤ (Q k).1.i := by omega
              have hdc : decide (l.length ≤ (Q k).1.i) = false := by simp; omega
              have hovc : (runP (pB l) most.toNat (⟨[], 0⟩, St.new Z8)).2.over = false := by rw [HOV.out]; simp; omega
              have HOVC := Lib.hid hovc
              clear hovc
              go_wp2_with fail
              generalize wr.alloc (.cells #[.slice ao l.length cap, .slice none 0 0, .int .i64 0] 39) = wA at *
              generalize hxp : wr.heap.size = xp at *
              have RM := Lib.hid (RefRep.mem (n := 7) RA.out.ref BD.out)
              have SA := Lib.hid (And.intro RA.out.pl.cell1 RM.out.cell0)
              have hszA : xp < wA.drew.heap.size := hszA0
              go_region_held3 (fun w' => w'.cell? ⟨x, 1, none⟩ = some (.int .i64 (Q k).1.i) ∧ w'.cell? ⟨br + 1, 0, none⟩ = some (.slice (some ⟨br, 0, none⟩) (Q k).2.length (Q k).2.length))
                (first | exact SD.out | exact SC.out | exact SB.out | exact SA.out)
                (first
                  | (go_at_call 24; ((with_reducible refine (frame_runR progK (progOK xp ao cap l) (pStays xp ao cap l) RA.out.mem PA.out (by omega) (by omega) (by simp) (by simp) (by simp) (by simp) HROA.out hszA most hmo.2 HLOG.out).mono ?_); rintro _ w5 ⟨o5, rfl, hm5, _, he5, _⟩; rw [HOVC.out]; rw [HMEM.out] at hm5; have M5 := Lib.hid hm5; have K5 := Lib.hid he5.keep; have R5 := Lib.hid (RM.out.keep K5.out (by simp; omega) (by simp; omega)); have SB := Lib.hid (And.intro (cell_keep K5.out SA.out.1 (by simp; omega)) R5.out.cell0); clear hm5 he5))
                  | (go_at_call 36; ((with_reducible refine (word_words M5.out).mono ?_); rintro _ w6 ⟨g6, cap6, rfl, hrow, _, _, k6⟩; have I6 := Lib.hid hrow.intsAt; have K6 := Lib.hid k6; have R6 := Lib.hid (R5.out.keep k6 (by simp) (by simp)); have SC := Lib.hid (And.intro (cell_keep K6.out SB.out.1 (by simp)) R6.out.cell0); clear hrow k6))
                  | (go_at_call 40; ((with_reducible refine (ref_words (some ⟨g6, 0, none⟩) (some ⟨br, 0, none⟩) (Q k).2.length (Q k).2.length _ _ (Q k).2 (Q k).2 I6.out R6.out.intsAt rfl rfl (by rw [BD.out]; omega) (by rw [BD.out]; omega)).mono ?_); rintro _ w7 ⟨rfl, n7, rfl⟩; rw [decide_eq_true (rfl : (Q k).2 = (Q k).2)]; have K7 := Lib.hid ((Keep.refl [] w6).drewN n7); have SD := Lib.hid (And.intro (cell_keep K7.out SC.out.1 (by simp)) (R6.out.keep K7.out (by simp) (by simp)).cell0))))
              all_goals
                go_wp2_with fail
                go_ret
                have hw0 := K0.out.size
                exact ⟨ret_bool (by simp), (((K0.out.trans RA.out.keep).transS K5.out (T := []) (by simp) (by simp; omega)).trans K6.out).trans K7.out⟩
          · have hx0 := hm0
            have hdm : decide ((0 : Int) < most) = false := by simp; omega
            have hovc : (runP (pB l) most.toNat (⟨[], 0⟩, St.new Z8)).2.over = false := by rw [HOV.out]; simp; omega
            have HOVC := Lib.hid hovc
            clear hovc
            go_wp2_with fail
            generalize wr.alloc (.cells #[.slice ao l.length cap, .slice none 0 0, .int .i64 0] 39) = wA at *
            generalize hxp : wr.heap.size = xp at *
            have RM := Lib.hid (RefRep.mem (n := 7) RA.out.ref BD.out)
            have SA := Lib.hid (And.intro RA.out.pl.cell1 RM.out.cell0)
            have hszA : xp < wA.drew.heap.size := hszA0
            refine wp_region_held_drew (S := fun w' => w'.cell? ⟨br + 1, 0, none⟩ = some (.slice (some ⟨br, 0, none⟩) (Q k).2.length (Q k).2.length)) (by kernel_rfl) SA.out.2 (fun hHeld => ?_)
            refine' wpAnyH_take (i := 0) (oi := { dst := some 48, op := Op.move (Operand.tmp 5), type := 23, pos := "law.go:186", after := #[], guard := none }) (v := _) rfl (by kernel_rfl) (by kernel_rfl) (by kernel_rfl) (fun _ _ _ h => h) (Or.inl ⟨by rfl, ?hy1⟩) hHeld ?rest1
            case hy1 => (intro w hSw; (try dsimp only at hSw); go_simp; first | done | with_reducible rfl | (simp; omega))
            try simp only [Act.put, List.setIfInBounds_toArray, List.set_cons_zero, List.set_cons_succ]
            refine' wpAnyH_take (i := 1) (oi := { dst := some 49, op := Op.move (Operand.tmp 9), type := 36, pos := "law.go:186", after := #[], guard := none }) (v := _) rfl (by kernel_rfl) (by kernel_rfl) (by kernel_rfl) (fun _ _ _ h => h) (Or.inl ⟨by rfl, ?hy2⟩) hHeld ?rest2
            case hy2 => (intro w hSw; (try dsimp only at hSw); go_simp; first | done | with_reducible rfl | (simp; omega))
            try simp only [Act.put, List.setIfInBounds_toArray, List.set_cons_zero, List.set_cons_succ]
            refine' wpAnyH_take (i := 2) (oi := { dst := some 50, op := Op.makeFunc (Fn.func 30) #[Operand.tmp 49] #[], type := 29, pos := "law.go:186", after := #[{ on := 1, ground := Ground.data }], guard := none }) (v := _) rfl (by kernel_rfl) (by kernel_rfl) (by kernel_rfl) (fun _ _ _ h => h) (Or.inl ⟨by rfl, ?hy3⟩) hHeld ?rest3
            case hy3 => (intro w hSw; (try dsimp only at hSw); go_simp; first | done | with_reducible rfl | (simp; omega))
            try simp only [Act.put, List.setIfInBounds_toArray, List.set_cons_zero, List.set_cons_succ]
            refine' wpAnyH_take (i := 3) (oi := { dst := some 51, op := Op.move (Operand.tmp 1), type := 3, pos := "law.go:186", after := #[], guard := none }) (v := _) rfl (by kernel_rfl) (by kernel_rfl) (by kernel_rfl) (fun _ _ _ h => h) (Or.inl ⟨by rfl, ?hy4⟩) hHeld ?rest4
            case hy4 => (intro w hSw; (try dsimp only at hSw); go_simp; first | done | with_reducible rfl | (simp; omega))
            try simp only [Act.put, List.setIfInBounds_toArray, List.set_cons_zero, List.set_cons_succ]
            refine' wpAnyH_take (i := 5) (oi := { dst := some 53, op := Op.move (Operand.tmp 1), type := 3, pos := "law.go:186", after := #[], guard := none }) (v := _) rfl (by kernel_rfl) (by kernel_rfl) (by kernel_rfl) (fun _ _ _ h => h) (Or.inl ⟨by rfl, ?hy5⟩) hHeld ?rest5
            case hy5 => (intro w hSw; (try dsimp only at hSw); go_simp; first | done | with_reducible rfl | (simp; omega))
            try simp only [Act.put, List.setIfInBounds_toArray, List.set_cons_zero, List.set_cons_succ]
            refine' wpAnyH_take (i := 6) (oi := { dst := some 54, op := Op.binOp BinOp.gtr 3 (Operand.tmp 53) (Operand.const (Value.int IntKind.i64 0)) 3, type := 4, pos := "law.go:186", after := #[{ on := 5, ground := Ground.data }], guard := none }) (v := .bool false) rfl (by kernel_rfl) (by kernel_rfl) (by kernel_rfl) (fun _ _ _ h => h) (Or.inl ⟨by rfl, ?hy6⟩) hHeld ?rest6
            case hy6 => (intro w hSw; (try dsimp only at hSw); go_simp; first | done | with_reducible rfl | (simp; omega))
            try simp only [Act.put, List.setIfInBounds_toArray, List.set_cons_zero, List.set_cons_succ]
            refine wpAnyH_ready (rs := [4]) (by kernel_rfl) (by simp) ?_
            refine AllReadyH.cons (o := { dst := some 52, op := Op.call { callee := Callee.value (Operand.func 24), args := #[Operand.tmp 48, Operand.tmp 50, Operand.tmp 51], argTypes := #[23, 135, 3] }, type := 4, pos := "law.go:186", after := #[{ on := 0, ground := Ground.data }, { on := 2, ground := Ground.data }, { on := 3, ground := Ground.data }], guard := none }) rfl (fun K hK => ?_) AllReadyH.nil
            go_simp
            with_reducible refine (frame_runR progK (progOK xp ao cap l) (pStays xp ao cap l) RA.out.mem PA.out (by omega) (by omega) (by simp) (by simp) (by simp) (by simp) HROA.out hszA most hmo.2 HLOG.out).mono ?_
            rintro _ w5 ⟨o5, rfl, hm5, _, he5, _⟩
            rw [HOVC.out]
            rw [HMEM.out] at hm5
            have M5 := Lib.hid hm5
            have K5 := Lib.hid he5.keep
            have R5 := Lib.hid (RM.out.keep K5.out (by simp; omega) (by simp; omega))
            have SB := Lib.hid (And.intro (cell_keep K5.out SA.out.1 (by simp; omega)) R5.out.cell0)
            clear hm5 he5
            refine hK.out _ _ SB.out.2 (fun hHeld2 => ?_)
            clear hK K
            try simp only [Act.put, List.setIfInBounds_toArray, List.set_cons_zero, List.set_cons_succ]
            refine' wpAnyH_take (i := 7) (oi := { dst := some 55, op := Op.move (Operand.tmp 54), type := 4, pos := "law.go:186", after := #[{ on := 6, ground := Ground.data }, { on := 4, ground := Ground.chain }], guard := none }) (v := _) rfl (by kernel_rfl) (by kernel_rfl) (by kernel_rfl) (fun _ _ _ h => h) (Or.inl ⟨by rfl, ?hy7⟩) hHeld2 ?rest7
            case hy7 => (intro w hSw; (try dsimp only at hSw); go_simp; first | done | with_reducible rfl | (simp; omega))
            try simp only [Act.put, List.setIfInBounds_toArray, List.set_cons_zero, List.set_cons_succ]
            refine wpAnyH_take (i := 8) (oi := { dst := some 56, op := Op.move (Operand.tmp 7), type := 74, pos := "law.go:186", after := #[{ on := 7, ground := Ground.guard }], guard := some (7, true) }) (v := undef) rfl (by kernel_rfl) (by kernel_rfl) (by kernel_rfl) (fun _ _ _ h => h) (Or.inr ⟨by rfl, rfl⟩) hHeld2 ?_
            try simp only [Act.put, List.setIfInBounds_toArray, List.set_cons_zero, List.set_cons_succ]
            refine wpAnyH_take (i := 9) (oi := { dst := some 57, op := Op.nilCheck (Operand.tmp 56), type := 0, pos := "law.go:186", after := #[{ on := 8, ground := Ground.data }, { on := 7, ground := Ground.guard }], guard := some (7, true) }) (v := undef) rfl (by kernel_rfl) (by kernel_rfl) (by kernel_rfl) (fun _ _ _ h => h) (Or.inr ⟨by rfl, rfl⟩) hHeld2 ?_
            try simp only [Act.put, List.setIfInBounds_toArray, List.set_cons_zero, List.set_cons_succ]
            refine wpAnyH_take (i := 10) (oi := { dst := some 58, op := Op.fieldAddr 77 (Operand.tmp 57) 1, type := 0, pos := "law.go:186", after := #[{ on := 9, ground := Ground.data }, { on := 7, ground := Ground.guard }], guard := some (7, true) }) (v := undef) rfl (by kernel_rfl) (by kernel_rfl) (by kernel_rfl) (fun _ _ _ h => h) (Or.inr ⟨by rfl, rfl⟩) hHeld2 ?_
            try simp only [Act.put, List.setIfInBounds_toArray, List.set_cons_zero, List.set_cons_succ]
            refine wpAnyH_take (i := 11) (oi := { dst := some 59, op := Op.load 3 (Operand.tmp 58), type := 3, pos := "law.go:186", after := #[{ on := 10, ground := Ground.data }, { on := 7, ground := Ground.guard }], guard := some (7, true) }) (v := undef) rfl (by kernel_rfl) (by kernel_rfl) (by kernel_rfl) (fun _ _ _ h => h) (Or.inr ⟨by rfl, rfl⟩) hHeld2 ?_
            try simp only [Act.put, List.setIfInBounds_toArray, List.set_cons_zero, List.set_cons_succ]
            refine wpAnyH_take (i := 12) (oi := { dst := some 60, op := Op.move (Operand.tmp 0), type := 35, pos := "law.go:186", after := #[{ on := 7, ground := Ground.guard }], guard := some (7, true) }) (v := undef) rfl (by kernel_rfl) (by kernel_rfl) (by kernel_rfl) (fun _ _ _ h => h) (Or.inr ⟨by rfl, rfl⟩) hHeld2 ?_
            try simp only [Act.put, List.setIfInBounds_toArray, List.set_cons_zero, List.set_cons_succ]
            refine wpAnyH_take (i := 13) (oi := { dst := some 61, op := Op.call { callee := Callee.builtin Builtin.len, args := #[Operand.tmp 60], argTypes := #[35] }, type := 3, pos := "law.go:186", after := #[{ on := 12, ground := Ground.data }, { on := 7, ground := Ground.guard }], guard := some (7, true) }) (v := undef) rfl (by kernel_rfl) (by kernel_rfl) (by kernel_rfl) (fun _ _ _ h => h) (Or.inr ⟨by rfl, rfl⟩) hHeld2 ?_
            try simp only [Act.put, List.setIfInBounds_toArray, List.set_cons_zero, List.set_cons_succ]
            refine wpAnyH_take (i := 14) (oi := { dst := some 62, op := Op.binOp BinOp.geq 3 (Operand.tmp 59) (Operand.tmp 61) 3, type := 4, pos := "law.go:186", after := #[{ on := 11, ground := Ground.data }, { on := 13, ground := Ground.data }, { on := 7, ground := Ground.guard }], guard := some (7, true) }) (v := undef) rfl (by kernel_rfl) (by kernel_rfl) (by kernel_rfl) (fun _ _ _ h => h) (Or.inr ⟨by rfl, rfl⟩) hHeld2 ?_
            try simp only [Act.put, List.setIfInBounds_toArray, List.set_cons_zero, List.set_cons_succ]
            refine' wpAnyH_take (i := 15) (oi := { dst := some 63, op := Op.pick (Operand.tmp 55) (Operand.tmp 62) (Operand.const (Value.bool false)), type := 4, pos := "law.go:186", after := #[{ on := 7, ground := Ground.data }, { on := 14, ground := Ground.data }], guard := none }) (v := .bool false) rfl (by kernel_rfl) (by kernel_rfl) (by kernel_rfl) (fun _ _ _ h => h) (Or.inl ⟨by rfl, ?hy8⟩) hHeld2 ?rest8
            case hy8 => (intro w hSw; (try dsimp only at hSw); go_simp; first | done | with_reducible rfl | (simp; omega))
            try simp only [Act.put, List.setIfInBounds_toArray, List.set_cons_zero, List.set_cons_succ]
            refine' wpAnyH_take (i := 16) (oi := { dst := some 64, op := Op.binOp BinOp.eql 4 (Operand.tmp 52) (Operand.tmp 63) 4, type := 4, pos := "law.go:186", after := #[{ on := 4, ground := Ground.data }, { on := 15, ground := Ground.data }], guard := none }) (v := .bool true) rfl (by kernel_rfl) (by kernel_rfl) (by kernel_rfl) (fun _ _ _ h => h) (Or.inl ⟨by rfl, ?hy9⟩) hHeld2 ?rest9
            case hy9 => (intro w hSw; (try dsimp only at hSw); go_simp; first | done | with_reducible rfl | (simp; omega))
            try simp only [Act.put, List.setIfInBounds_toArray, List.set_cons_zero, List.set_cons_succ]
            refine' wpAnyH_take (i := 17) (oi := { dst := some 65, op := Op.move (Operand.tmp 64), type := 4, pos := "law.go:186", after := #[{ on := 16, ground := Ground.data }, { on := 7, ground := Ground.chain }], guard := none }) (v := _) rfl (by kernel_rfl) (by kernel_rfl) (by kernel_rfl) (fun _ _ _ h => h) (Or.inl ⟨by rfl, ?hy10⟩) hHeld2 ?rest10
            case hy10 => (intro w hSw; (try dsimp only at hSw); go_simp; first | done | with_reducible rfl | (simp; omega))
            try simp only [Act.put, List.setIfInBounds_toArray, List.set_cons_zero, List.set_cons_succ]
            refine' wpAnyH_take (i := 18) (oi := { dst := some 66, op := Op.move (Operand.tmp 5), type := 23, pos := "law.go:186", after := #[{ on := 17, ground := Ground.guard }], guard := some (17, true) }) (v := _) rfl (by kernel_rfl) (by kernel_rfl) (by kernel_rfl) (fun _ _ _ h => h) (Or.inl ⟨by rfl, ?hy11⟩) hHeld2 ?rest11
            case hy11 => (intro w hSw; (try dsimp only at hSw); go_simp; first | done | with_reducible rfl | (simp; omega))
            try simp only [Act.put, List.setIfInBounds_toArray, List.set_cons_zero, List.set_cons_succ]
            refine' wpAnyH_take (i := 20) (oi := { dst := some 68, op := Op.move (Operand.tmp 6), type := 70, pos := "law.go:186", after := #[{ on := 17, ground := Ground.guard }], guard := some (17, true) }) (v := _) rfl (by kernel_rfl) (by kernel_rfl) (by kernel_rfl) (fun _ _ _ h => h) (Or.inl ⟨by rfl, ?hy12⟩) hHeld2 ?rest12
            case hy12 => (intro w hSw; (try dsimp only at hSw); go_simp; first | done | with_reducible rfl | (simp; omega))
            try simp only [Act.put, List.setIfInBounds_toArray, List.set_cons_zero, List.set_cons_succ]
            refine' wpAnyH_take (i := 21) (oi := { dst := some 69, op := Op.nilCheck (Operand.tmp 68), type := 0, pos := "law.go:186", after := #[{ on := 20, ground := Ground.data }, { on := 17, ground := Ground.guard }], guard := some (17, true) }) (v := _) rfl (by kernel_rfl) (by kernel_rfl) (by kernel_rfl) (fun _ _ _ h => h) (Or.inl ⟨by rfl, ?hy13⟩) hHeld2 ?rest13
            case hy13 => (intro w hSw; (try dsimp only at hSw); go_simp; first | done | with_reducible rfl | (simp; omega))
            try simp only [Act.put, List.setIfInBounds_toArray, List.set_cons_zero, List.set_cons_succ]
            refine' wpAnyH_take (i := 22) (oi := { dst := some 70, op := Op.fieldAddr 80 (Operand.tmp 69) 0, type := 0, pos := "law.go:186", after := #[{ on := 21, ground := Ground.data }, { on := 17, ground := Ground.guard }], guard := some (17, true) }) (v := _) rfl (by kernel_rfl) (by kernel_rfl) (by kernel_rfl) (fun _ _ _ h => h) (Or.inl ⟨by rfl, ?hy14⟩) hHeld2 ?rest14
            case hy14 => (intro w hSw; (try dsimp only at hSw); go_simp; first | done | with_reducible rfl | (simp; omega))
            try simp only [Act.put, List.setIfInBounds_toArray, List.set_cons_zero, List.set_cons_succ]
            refine' wpAnyH_take (i := 23) (oi := { dst := some 71, op := Op.load 37 (Operand.tmp 70), type := 37, pos := "law.go:186", after := #[{ on := 22, ground := Ground.data }, { on := 17, ground := Ground.guard }], guard := some (17, true) }) (v := _) rfl (by kernel_rfl) (by kernel_rfl) (by kernel_rfl) (fun _ _ _ h => h) (Or.inl ⟨by rfl, ?hy15⟩) hHeld2 ?rest15
            case hy15 => (intro w hSw; (try dsimp only at hSw); go_simp; first | done | with_reducible rfl | (simp; omega))
            try simp only [Act.put, List.setIfInBounds_toArray, List.set_cons_zero, List.set_cons_succ]
            refine wpAnyH_ready (rs := [19]) (by kernel_rfl) (by simp) ?_
            refine AllReadyH.cons (o := { dst := some 67, op := Op.call { callee := Callee.value (Operand.func 36), args := #[Operand.tmp 66], argTypes := #[23] }, type := 37, pos := "law.go:186", after := #[{ on := 18, ground := Ground.data }, { on := 17, ground := Ground.chain }, { on := 17, ground := Ground.guard }], guard := some (17, true) }) rfl (fun K hK => ?_) AllReadyH.nil
            go_simp
            with_reducible refine (word_words M5.out).mono ?_
            rintro _ w6 ⟨g6, cap6, rfl, hrow, _, _, k6⟩
            have I6 := Lib.hid hrow.intsAt
            have K6 := Lib.hid k6
            have R6 := Lib.hid (R5.out.keep k6 (by simp) (by simp))
            have SC := Lib.hid (And.intro (cell_keep K6.out SB.out.1 (by simp)) R6.out.cell0)
            clear hrow k6
            refine hK.out _ _ SC.out.2 (fun hHeld3 => ?_)
            clear hK K
            try simp only [Act.put, List.setIfInBounds_toArray, List.set_cons_zero, List.set_cons_succ]
            refine wpAnyH_ready (rs := [24]) (by kernel_rfl) (by simp) ?_
            refine AllReadyH.cons (o := { dst := some 72, op := Op.call { callee := Callee.value (Operand.func 40), args := #[Operand.tmp 67, Operand.tmp 71], argTypes := #[37, 37] }, type := 4, pos := "law.go:186", after := #[{ on := 19, ground := Ground.data }, { on := 23, ground := Ground.data }, { on := 19, ground := Ground.chain }, { on := 17, ground := Ground.guard }], guard := some (17, true) }) rfl (fun K hK => ?_) AllReadyH.nil
            go_simp
            with_reducible refine (ref_words (some ⟨g6, 0, none⟩) (some ⟨br, 0, none⟩) (Q k).2.length (Q k).2.length _ _ (Q k).2 (Q k).2 I6.out R6.out.intsAt rfl rfl (by rw [BD.out]; omega) (by rw [BD.out]; omega)).mono ?_
            rintro _ w7 ⟨rfl, n7, rfl⟩
            rw [decide_eq_true (rfl : (Q k).2 = (Q k).2)]
            have K7 := Lib.hid ((Keep.refl [] w6).drewN n7)
            have SD := Lib.hid (And.intro (cell_keep K7.out SC.out.1 (by simp)) (R6.out.keep K7.out (by simp) (by simp)).cell0)
            refine hK.out _ _ SD.out.2 (fun hHeld4 => ?_)
            clear hK K
            try simp only [Act.put, List.setIfInBounds_toArray, List.set_cons_zero, List.set_cons_succ]
            refine' wpAnyH_take (i := 25) (oi := { dst := some 73, op := Op.pick (Operand.tmp 65) (Operand.tmp 72) (Operand.const (Value.bool false)), type := 4, pos := "law.go:186", after := #[{ on := 17, ground := Ground.data }, { on := 24, ground := Ground.data }], guard := none }) (v := .bool true) rfl (by kernel_rfl) (by kernel_rfl) (by kernel_rfl) (fun _ _ _ h => h) (Or.inl ⟨by rfl, ?hy16⟩) hHeld4 ?rest16
            case hy16 => (intro w hSw; (try dsimp only at hSw); go_simp; first | done | with_reducible rfl | (simp; omega))
            try simp only [Act.put, List.setIfInBounds_toArray, List.set_cons_zero, List.set_cons_succ]
            refine' wpAnyH_take (i := 26) (oi := { dst := some 4, op := Op.assign (Operand.tmp 73), type := 4, pos := "law.go:186", after := #[{ on := 25, ground := Ground.data }, { on := 24, ground := Ground.chain }, { on := 0, ground := Ground.phase }, { on := 1, ground := Ground.phase }, { on := 2, ground := Ground.phase }, { on := 3, ground := Ground.phase }, { on := 4, ground := Ground.phase }, { on := 5, ground := Ground.phase }, { on := 6, ground := Ground.phase }, { on := 7, ground := Ground.phase }, { on := 8, ground := Ground.phase }, { on := 9, ground := Ground.phase }, { on := 10, ground := Ground.phase }, { on := 11, ground := Ground.phase }, { on := 12, ground := Ground.phase }, { on := 13, ground := Ground.phase }, { on := 14, ground := Ground.phase }, { on := 15, ground := Ground.phase }, { on := 16, ground := Ground.phase }, { on := 17, ground := Ground.phase }, { on := 18, ground := Ground.phase }, { on := 19, ground := Ground.phase }, { on := 20, ground := Ground.phase }, { on := 21, ground := Ground.phase }, { on := 22, ground := Ground.phase }, { on := 23, ground := Ground.phase }, { on := 24, ground := Ground.phase }, { on := 25, ground := Ground.phase }], guard := none }) (v := _) rfl (by kernel_rfl) (by kernel_rfl) (by kernel_rfl) (fun _ _ _ h => h) (Or.inl ⟨by rfl, ?hy17⟩) hHeld4 ?rest17
            case hy17 => (intro w hSw; (try dsimp only at hSw); go_simp; first | done | with_reducible rfl | (simp; omega))
            try simp only [Act.put, List.setIfInBounds_toArray, List.set_cons_zero, List.set_cons_succ]
            refine wpAnyH_done (by kernel_rfl) ?_ _
            all_goals
              go_wp2_with fail
              go_ret
              have hw0 := K0.out.size
              exact ⟨ret_bool (by simp), (((K0.out.trans RA.out.keep).transS K5.out (T := []) (by simp) (by simp; omega)).trans K6.out).trans K7.out⟩
end Law02
end Go.Proofs.Ytkmamebaichboaa
