/- Law 2: awake; FrameOver. No conditions but those stated. -/
import Derived.Test.YtkmamebaichboaaBodyLaw
import Derived.Test.YtkmamebaichboaaActs
namespace Go.Proofs.Ytkmamebaichboaa
open Go.ChangeShapes Go.WideShapes Go.ChangeAt Go.RowKit
set_option linter.unusedVariables false
set_option linter.unusedSimpArgs false
namespace Law02
open Prog
/-- A body in a frame that is under way. -/
def Live (x f m b : Nat) (ao : Option Addr) (cap : Nat) (l : List Ins) (wS : World) (q : Pr × St) (w : World) : Prop :=
  ∃ sl o, FRep w f m b sl q.2 ∧ PRep x ao cap l q.1 o w ∧ EvO [x, f, b] [] wS (blk sl ++ o) w ∧ Apart x f m b sl o ∧ (∀ j ∈ o, j < w.heap.size) ∧ RoOK (roOf ao) w f b sl o
theorem live_new {x m b : Nat} {ao : Option Addr} {cap : Nat} {l : List Ins} {lm : List Int} {w w' : World} (hp : PRep x ao cap l ⟨[], 0⟩ [] w) (hf : FRep w' w.heap.size m b (.slice none 0 0) (St.new lm)) (k : Keep [] w w') (hx : x < w.heap.size ∧ x ≠ m ∧ x ≠ b) (hro : ∀ j ∈ roOf ao, j < w.heap.size ∧ j ≠ b) :
    Live x w.heap.size m b ao cap l w (⟨[], 0⟩, St.new lm) w' := by
  refine ⟨_, [], hf, pStays x ao cap l _ _ _ _ _ hp k (by simp) (by simp) (by simp), ⟨k.mono (by simp), by simp [blk, Value.ownBlock]⟩, ⟨by omega, hx.2.1, hx.2.2, by simp [blk, Value.ownBlock], by simp, by simp, by simp, by simp, by simp⟩, by simp, fun j hj => ?_⟩
  obtain ⟨h1, h2⟩ := hro j hj
  exact ⟨k.lt h1, by omega, h2, by simp [blk, Value.ownBlock], by simp⟩
theorem live_step {x f m b : Nat} {ao : Option Addr} {cap : Nat} {l : List Ins} {wS w : World} {q q' : Pr × St} (h : Live x f m b ao cap l wS q w) (now : Int) (hq : stepP (pB l) now (q.1, q.2) = (q'.1, q'.2)) (hlen : q.2.log.length ≤ 900000) :
    Calls Try.prog 29 #[.pointer (some ⟨f, 0, none⟩), .int .i64 now, .func (.func 30) #[.pointer (some ⟨x, 0, none⟩)] #[]] w fun e w' =>
      e = .returned (.bool q'.2.over) ∧ Live x f m b ao cap l wS q' w' := by
  obtain ⟨sl, o, h1, h2, h3, h4, h5, h6⟩ := h
  refine (frame_stepR progK (progOK x ao cap l) (pStays x ao cap l) h1 h2 h4 h5 h6 hlen now hq).mono ?_
  rintro e w' ⟨he, sl1, o1, g1, g2, g3, g4, g5, g6⟩
  exact ⟨he, sl1, o1, g1, g2, h3.trans g3, g4, g5, g6⟩
theorem Live.frame {x f m b : Nat} {ao : Option Addr} {cap : Nat} {l : List Ins} {wS w : World} {q : Pr × St} (h : Live x f m b ao cap l wS q w) : ∃ sl, FRep w f m b sl q.2 := let ⟨sl, _, h1, _⟩ := h; ⟨sl, h1⟩
theorem Live.more {x f m b : Nat} {ao : Option Addr} {cap : Nat} {l : List Ins} {wS w w' : World} {q : Pr × St} (h : Live x f m b ao cap l wS q w) (k : Keep [] w w') : Live x f m b ao cap l wS q w' := by
  obtain ⟨sl, o, h1, h2, h3, h4, h5, h6⟩ := h
  exact ⟨sl, o, h1.keep k (by simp) (by simp) (by simp) (by simp), pStays x ao cap l _ _ _ _ _ h2 k (by simp) (by simp) (by simp), h3.trans ⟨k.mono (by simp), fun j hj => .inl hj⟩, h4, fun j hj => k.lt (h5 j hj), RoOK.mono h6 k.size⟩
theorem Live.keeps {x f m b : Nat} {ao : Option Addr} {cap : Nat} {l : List Ins} {wS w wB : World} {q : Pr × St} (h : Live x f m b ao cap l wS q w) (k : Keep [] wB wS) (hx : wB.heap.size ≤ x) (hf : wB.heap.size ≤ f) (hb : wB.heap.size ≤ b) : Keep [] wB w := by
  obtain ⟨sl, o, h1, h2, h3, h4, h5, h6⟩ := h
  exact k.transS h3.keep (by simp) (by simp; omega)
theorem two_ne {m b x : Nat} {w : World} {lm : List Int} {c : Array Value} {T : TypeId} (hm : MemRep 134 w m b lm) (hr : w.heap[x]? = some (.cells c T (0, 0))) (h1 : T ≠ 134) (h2 : T ≠ 2) : x ≠ m ∧ x ≠ b :=
  ⟨fun e => by subst e; rw [hm.head] at hr; simp at hr; exact h1 hr.2.symm, fun e => by subst e; rw [hm.body] at hr; simp at hr; exact h2 hr.2.symm⟩
set_option maxHeartbeats 2000000 in
set_option maxRecDepth 100000 in
theorem awake02 (w : World) : Calls Try.prog 26 #[] w fun e w' => e = .returned (.bool true) ∧ Keep [] w w' := by
  obtain ⟨R, r0, rs, rl, rm, ro1, ro2⟩ := awake_steps
  have R0 := Lib.hid r0; have RS := Lib.hid rs; have RL := Lib.hid rl; have RM := Lib.hid rm; have RO1 := Lib.hid ro1; have RO2 := Lib.hid ro2
  clear r0 rs rl rm ro1 ro2
  go_enter Try.func26, Try.ntmps26
  go_wp2_with fail
  refine (word_new 2 _ (by omega)).mono ?_
  rintro e w1 ⟨rfl, hm1, hk1, hs1⟩
  have hr : (List.replicate (min (max (2 : Int) 0) 4000).toNat (0 : Int)) = [0, 0] := by decide
  rw [hr] at hm1
  have Hm1 := Lib.hid hm1; have Hk1 := Lib.hid hk1
  have hz1 : w.heap.size + 2 ≤ w1.heap.size := by omega
  clear hm1 hk1 hs1 hr
  go_wp2_with fail
  have M2 := Lib.hid (Hm1.out.keep (((Keep.refl [] w1).alloc (.cells #[.int .u8 2, .int .i64 0, .int .i64 1, .int .i64 0, .bool false, .bool false, .bool false, .int .u8 2, .int .i64 0, .int .i64 1, .int .i64 0, .bool false, .bool false, .bool false] 34)).alloc (.cells #[.slice (some ⟨w1.heap.size, 0, none⟩) 2 2, .slice none 0 0, .int .i64 0] 39)) (by simp) (by simp))
  have G2 := Lib.hid (two_fst w1 (.cells #[.int .u8 2, .int .i64 0, .int .i64 1, .int .i64 0, .bool false, .bool false, .bool false, .int .u8 2, .int .i64 0, .int .i64 1, .int .i64 0, .bool false, .bool false, .bool false] 34) (.cells #[.slice (some ⟨w1.heap.size, 0, none⟩) 2 2, .slice none 0 0, .int .i64 0] 39))
  have X2 := Lib.hid (two_snd w1 (.cells #[.int .u8 2, .int .i64 0, .int .i64 1, .int .i64 0, .bool false, .bool false, .bool false, .int .u8 2, .int .i64 0, .int .i64 1, .int .i64 0, .bool false, .bool false, .bool false] 34) (.cells #[.slice (some ⟨w1.heap.size, 0, none⟩) 2 2, .slice none 0 0, .int .i64 0] 39))
  have K2 := Lib.hid ((Hk1.out.alloc (.cells #[.int .u8 2, .int .i64 0, .int .i64 1, .int .i64 0, .bool false, .bool false, .bool false, .int .u8 2, .int .i64 0, .int .i64 1, .int .i64 0, .bool false, .bool false, .bool false] 34)).alloc (.cells #[.slice (some ⟨w1.heap.size, 0, none⟩) 2 2, .slice none 0 0, .int .i64 0] 39))
  generalize (w1.alloc (.cells #[.int .u8 2, .int .i64 0, .int .i64 1, .int .i64 0, .bool false, .bool false, .bool false, .int .u8 2, .int .i64 0, .int .i64 1, .int .i64 0, .bool false, .bool false, .bool false] 34)).alloc (.cells #[.slice (some ⟨w1.heap.size, 0, none⟩) 2 2, .slice none 0 0, .int .i64 0] 39) = w2 at M2 G2 X2 K2 ⊢
  have NX := Lib.hid (two_ne M2.out X2.out (by decide) (by decide))
  have NG := Lib.hid (two_ne M2.out G2.out (by decide) (by decide))
  have hgl := lt_of_block G2.out
  have hxl := lt_of_block X2.out
  have hbl := lt_of_block M2.out.body
  have P2 := Lib.hid (prep_new (l := LA) (cap := 2) G2.out (by rfl) (by decide) (by decide) (by decide) X2.out (by omega))
  refine (frame_new M2.out).mono ?_
  rintro e w3 ⟨rfl, hf3, hk3, _⟩
  have L0 : Hid (Live (w1.heap.size + 1) w2.heap.size (w.heap.size + 1) w.heap.size (some ⟨w1.heap.size, 0, none⟩) 2 LA w2 (R 0) w3) :=
    Lib.hid (R0.out ▸ live_new P2.out hf3 hk3 ⟨hxl, NX.out.1, NX.out.2⟩ (fun j hj => by simp [roOf] at hj; subst hj; exact ⟨hgl, NG.out.2⟩))
  clear hf3 hk3
  have S0 : Hid (stepP (pB LA) 0 ((R 0).1, (R 0).2) = ((R 1).1, (R 1).2)) := Lib.hid (RS.out 0)
  have S1 : Hid (stepP (pB LA) 1 ((R 1).1, (R 1).2) = ((R 2).1, (R 2).2)) := Lib.hid (RS.out 1)
  go_wp2_with fail
  refine (live_step L0.out 0 S0.out (by rw [RL.out 0 (by omega)]; omega)).mono ?_
  rintro e w4 ⟨rfl, l1⟩
  have L1 := Lib.hid l1
  rw [RO1.out]
  obtain ⟨sl4, hf4⟩ := l1.frame
  have HM4 := Lib.hid (RM.out ▸ hf4.mem)
  clear l1 hf4
  go_wp2_with fail
  refine (word_load HM4.out 0).mono ?_
  rintro e w5 ⟨rfl, rfl⟩
  rw [show wordGet [1, 0] 0 = 1 from rfl]
  go_wp2_with fail
  refine (live_step L1.out 1 S1.out (by rw [RL.out 1 (by omega)]; omega)).mono ?_
  rintro e w6 ⟨rfl, l2⟩
  have L2 := Lib.hid l2
  rw [RO2.out]
  obtain ⟨sl6, hf6⟩ := l2.frame
  have HF6 := Lib.hid hf6
  clear l2 hf6
  have HL6 : Hid (((R 2).2.log.length : Int) = 2) := Lib.hid (by rw [RL.out 2 (by omega)]; rfl)
  go_wp2_with fail
  refine (frame_done HF6.out).mono ?_
  rintro e w' ⟨rfl, rfl⟩
  rw [RO2.out]
  go_wp2_with fail
  refine (frame_steps HF6.out).mono ?_
  rintro e w' ⟨rfl, rfl⟩
  rw [HL6.out]
  go_wp2_with fail
  go_ret
  exact ⟨rfl, L2.out.keeps K2.out (by omega) (by omega) (by omega)⟩
theorem frame_step_nil {w : World} {f m b : Nat} {sl : Value} {s : St} (h : FRep w f m b sl s) (ho : s.over = false) (now : Int) :
    Calls Try.prog 29 #[.pointer (some ⟨f, 0, none⟩), .int .i64 now, .nilFunc] w fun e w' => e = .returned (.bool false) ∧ w = w' := by
  have c8 := h.c8
  rw [ho] at c8
  have hq : (binOp .eql 135 .nilFunc .nilFunc).run Try.prog w = .ok (.bool true) w := by kernel_rfl
  clear ho h
  go_enter Try.func29, Try.ntmps29
  go_wp2
  go_ret
  exact ⟨rfl, rfl⟩
def LB : List Ins := [⟨2, 3, 1, 0, false, false, false⟩]
theorem over_step (now : Int) : ∃ q : Pr × St, stepP (pB LB) now (⟨[], 0⟩, St.new [0, 0, 0, 0]) = (q.1, q.2) ∧ q.2.over = true ∧ q.2.log.length = 1 ∧ q.2.mem = [0, 0, 0, 1] := by
  refine ⟨stepP (pB LB) now (⟨[], 0⟩, St.new [0, 0, 0, 0]), rfl, ?_⟩
  rw [stepP_go (B := pB LB) (now := now) (q := ((⟨[], 0⟩ : Pr), St.new [0, 0, 0, 0])) rfl]
  have h : (bodyP LB false 0 []).feed (ans (St.new [0, 0, 0, 0])) = .acc (.add 3 1) (fun v => .ret ([v], v)) := by rfl
  obtain ⟨g1, g2, g3⟩ := step_acc (bodyP LB false 0 []) (St.new [0, 0, 0, 0]) now h
  refine ⟨g3.2, ?_, ?_⟩
  · show ((bodyP LB false 0 []).run ((St.new [0, 0, 0, 0]).start now)).2.stop.log.length = 1
    rw [g1]; rfl
  · show ((bodyP LB false 0 []).run ((St.new [0, 0, 0, 0]).start now)).2.stop.mem = _
    rw [g2]; decide +kernel
end Law02
end Go.Proofs.Ytkmamebaichboaa
