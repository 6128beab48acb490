/- Law 2: FrameTwo walked. No conditions but those stated. -/
import Derived.Test.YtkmamebaichboaaTwoStart
import Derived.Test.YtkmamebaichboaaTwoArgs
import Derived.Deep.RegionHeld3
import Derived.Deep.CutRange
import Derived.BigQuiet
namespace Go.Proofs.Ytkmamebaichboaa
open Go.ChangeShapes Go.WideShapes Go.ChangeAt Go.RowKit
set_option linter.unusedVariables false
set_option linter.unusedSimpArgs false
namespace Law02
open Prog
theorem tw_ints {w w' : World} {a : Option Addr} {l : List Int} (h : IntsAt w a l) (k : Keep [] w w') : IntsAt w' a l := fun i hi =>
  let ⟨b, o, e, hc⟩ := h i hi
  ⟨b, o, e, cell_keep k hc (by simp)⟩
theorem alloc_at {w : World} {o : Obj} {i : Nat} (h : i = w.heap.size) : (w.alloc o).heap[i]? = some o := by subst h; exact heap_alloc_new w o
theorem plStep_le (l : List Ins) (now : Int) (p : Pl) (m : List Int) : (plStep l now p m).1.n ≤ p.n + 1 := by
  unfold plStep
  split
  · exact Nat.le_succ _
  · exact Nat.le_refl _
theorem tw_n {x : Nat} {ao : Option Addr} {cap : Nat} {l : List Ins} {p : Pl} {o : List Nat} {w : World} (h : PlRep x ao cap l p o w) : w.cell? ⟨x, 4, none⟩ = some (.int .i64 p.n) :=
  let ⟨_, h1, _⟩ := h
  cell_of h1 rfl
theorem tw_pgot {x : Nat} {ao : Option Addr} {cap : Nat} {l : List Ins} {p : Pl} {o : List Nat} {w : World} (h : PlRep x ao cap l p o w) : ∃ a c, w.cell? ⟨x, 3, none⟩ = some (.slice a p.got.length c) ∧ IntsAt w a p.got := by
  obtain ⟨slG, h1, h2, _⟩ := h
  obtain ⟨a, c, rfl, hi⟩ := own_ints h2 rfl
  exact ⟨a, c, cell_of h1 rfl, hi⟩
theorem tw_got {x : Nat} {ao : Option Addr} {cap : Nat} {l : List Ins} {p : Pr} {o : List Nat} {w : World} (h : PRep x ao cap l p o w) : ∃ a c, w.cell? ⟨x, 1, none⟩ = some (.slice a p.got.length c) ∧ IntsAt w a p.got := by
  obtain ⟨slG, h1, h2, _⟩ := h
  obtain ⟨a, c, rfl, hi⟩ := own_ints h2 rfl
  exact ⟨a, c, cell_of h1 rfl, hi⟩
structure Arrs (s : Nat) (F : Nat → Fix) (w : World) : Prop where
  fa : w.heap[s]? = some (.cells (arr3 3 fun i => ptr (F i).f) 72 (0, 0))
  pa : w.heap[s + 1]? = some (.cells (arr3 3 fun i => ptr (F i).x) 73 (0, 0))
  qa : w.heap[s + 2]? = some (.cells (arr3 3 fun i => ptr (F i).y) 75 (0, 0))
theorem Arrs.kept {s : Nat} {F : Nat → Fix} {w w' : World} (h : Arrs s F w) (k : Keep [] w w') : Arrs s F w' := ⟨k.to h.fa (by simp), k.to h.pa (by simp), k.to h.qa (by simp)⟩
theorem Arrs.far {s lo b c k : Nat} {F : Nat → Fix} {w w' : World} (h : Arrs s F w) (hf : Far lo b c (F k) w w') (h1 : s + 3 ≤ lo) (h2 : b < s) (h3 : c < s) (h4 : s + 3 ≤ (F k).f ∧ s + 3 ≤ (F k).x ∧ s + 3 ≤ (F k).y) : Arrs s F w' := by
  have a1 := lt_of_block h.fa
  have a2 := lt_of_block h.pa
  have a3 := lt_of_block h.qa
  refine ⟨?_, ?_, ?_⟩
  · rw [hf s (by omega) (by omega) (by omega) (by simp; omega) a1]; exact h.fa
  · rw [hf (s + 1) (by omega) (by omega) (by omega) (by simp; omega) a2]; exact h.pa
  · rw [hf (s + 2) (by omega) (by omega) (by omega) (by simp; omega) a3]; exact h.qa
theorem Arrs.cells {s k : Nat} {F : Nat → Fix} {w : World} (h : Arrs s F w) (hk : k < 3) : w.cell? ⟨s, k, none⟩ = some (.pointer (some ⟨(F k).f, 0, none⟩)) ∧ w.cell? ⟨s + 1, k, none⟩ = some (.pointer (some ⟨(F k).x, 0, none⟩)) ∧ w.cell? ⟨s + 2, k, none⟩ = some (.pointer (some ⟨(F k).y, 0, none⟩)) :=
  ⟨cell_of h.fa (arr3_get hk (Nat.le_refl _) _), cell_of h.pa (arr3_get hk (Nat.le_refl _) _), cell_of h.qa (arr3_get hk (Nat.le_refl _) _)⟩
def TZ : List Int := [0, 0, 0, 0, 0, 0, 0, 0]
theorem tz : (List.replicate (min (max (8 : Int) 0) 4000).toNat (0 : Int)) = TZ := by decide
set_option maxHeartbeats 16000000 in
set_option maxRecDepth 100000 in
theorem frameTwo_walk {w : World} {v0 v1 v2 vt : Value} {l0 l1 l2 : List Ins} {ts : List Int} (h0 : InsArg w v0 l0) (h1 : InsArg w v1 l1) (h2 : InsArg w v2 l2) (ht : IntRow .u8 w vt ts) :
    Calls Try.prog 10 #[.agg #[v0, v1, v2], vt] w fun e w' => e = .returned (.bool true) ∧ Keep [] w w' := by
  obtain ⟨a0, c0, rfl, hl0, hr0⟩ := h0
  obtain ⟨a1, c1, rfl, hl1, hr1⟩ := h1
  obtain ⟨a2, c2, rfl, hl2, hr2⟩ := h2
  obtain ⟨ta, tc, rfl, htl, htm, htc⟩ := ht
  unfold maxLen at htm
  have HTC := Lib.hid htc
  obtain ⟨G, hG⟩ : ∃ G : Nat → Lst, G = fun i => if i = 0 then ⟨a0, c0, l0⟩ else if i = 1 then ⟨a1, c1, l1⟩ else ⟨a2, c2, l2⟩ := ⟨_, rfl⟩
  have HGL : Hid (∀ i, i < 3 → LAt w (G i).ao (G i).cap (G i).l ∧ ∀ j ∈ roOf (G i).ao, j < w.heap.size) := Lib.hid (by
    intro i hi
    rw [hG]
    have h : i = 0 ∨ i = 1 ∨ i = 2 := by omega
    rcases h with rfl | rfl | rfl
    · exact ⟨hl0, hr0⟩
    · exact ⟨hl1, hr1⟩
    · exact ⟨hl2, hr2⟩)
  have HLB : Hid ((w.alloc (.cells #[.slice a0 l0.length c0, .slice a1 l1.length c1, .slice a2 l2.length c2] 69)).heap[w.heap.size]? = some (.cells (arr3 3 fun i => .slice (G i).ao (G i).l.length (G i).cap) 69 (0, 0))) := Lib.hid (by
    rw [hG]
    exact heap_alloc_new w _)
  clear hl0 hl1 hl2 hr0 hr1 hr2 htc hG
  go_enter Try.func10, Try.ntmps10
  go_wp2_with fail
  refine (awake02 _).mono ?_
  rintro _ w0 ⟨rfl, hk0⟩
  have K0 : Hid (Keep [] w w0) := Lib.hid (((Keep.refl [] w).alloc _).trans hk0)
  have LB0 := Lib.hid (hk0.to HLB.out (by simp))
  clear hk0 HLB
  by_cases hlen : (120 : Int) < (ts.length : Int)
  · go_wp2_with fail
    refine (awake02 _).mono ?_
    rintro _ w1 ⟨rfl, hk1⟩
    have K1 := Lib.hid (K0.out.trans hk1)
    clear hk1
    go_wp2_with fail
    go_ret
    exact ⟨rfl, K1.out⟩
  · have ht120 : ts.length ≤ 120 := by omega
    go_wp2_with fail
    refine (word_new 8 _ (by omega)).mono ?_
    rintro _ w1 ⟨rfl, hm1, hk1, hs1⟩
    rw [tz] at hm1
    have hsz1 : w0.heap.size + 2 ≤ w1.heap.size := by omega
    have M1 := Lib.hid hm1
    have K1 := Lib.hid hk1
    clear hm1 hk1 hs1
    go_wp2_with fail
    refine (ref_new 8 _ (by omega)).mono ?_
    rintro _ w2 ⟨rfl, hm2, hk2, hs2⟩
    rw [tz] at hm2
    have hsz2 : w1.heap.size + 2 ≤ w2.heap.size := by omega
    have M2 := Lib.hid (M1.out.keep hk2 (by simp) (by simp))
    have R2 := Lib.hid hm2
    have K2 := Lib.hid (K1.out.trans hk2)
    clear hm2 hk2 hs2 M1 K1
    go_wp2_with fail
    have hlb : w.heap.size < w0.heap.size := lt_of_block LB0.out
    have KA : Hid (Keep [] w2 (((w2.alloc (.cells #[.pointer none, .pointer none, .pointer none] 72)).alloc (.cells #[.pointer none, .pointer none, .pointer none] 73)).alloc (.cells #[.pointer none, .pointer none, .pointer none] 75))) := Lib.hid ((((Keep.refl [] w2).alloc _).alloc _).alloc _)
    have P0 : Hid (Pre w2.heap.size (w0.heap.size + 1) w0.heap.size (w1.heap.size + 1) w1.heap.size TZ G (fun _ => (0, 0, 0)) 0 (((w2.alloc (.cells #[.pointer none, .pointer none, .pointer none] 72)).alloc (.cells #[.pointer none, .pointer none, .pointer none] 73)).alloc (.cells #[.pointer none, .pointer none, .pointer none] 75))) := Lib.hid
      ⟨(fun i hi => absurd hi (Nat.not_lt_zero _)), (fun i hi => absurd hi (Nat.not_lt_zero _)), (fun i hi => absurd hi (Nat.not_lt_zero _)), (fun i hi => absurd hi (Nat.not_lt_zero _)), M2.out.keep KA.out (by simp) (by simp), R2.out.keep KA.out (by simp) (by simp), three_fst w2 _ _ _, three_snd w2 _ _ _, three_thd w2 _ _ _, by simp, by omega⟩
    have K3 := Lib.hid (K2.out.trans KA.out)
    generalize ((w2.alloc (.cells #[.pointer none, .pointer none, .pointer none] 72)).alloc (.cells #[.pointer none, .pointer none, .pointer none] 73)).alloc (.cells #[.pointer none, .pointer none, .pointer none] 75) = w3 at P0 K3 ⊢
    clear M2 R2 K2 KA
    generalize hcE : w1.heap.size = c at *
    generalize hbE : w0.heap.size = b at *
    generalize hsE : w2.heap.size = s at *
    clear hcE hsE
    have HBE := Lib.hid hbE
    clear hbE
    generalize hlE : w.heap.size = lb at *
    have HLE := Lib.hid hlE
    clear hlE
    go_loopw [24] (fun c_ wr => ∃ (k : Nat) (A : Nat → Nat × Nat × Nat), c_ = .int .i64 k ∧ k ≤ 3 ∧ Pre s (b + 1) b (c + 1) c TZ G A k wr ∧ Keep [] w0 wr ∧ ∀ i, i < k → (G i).l.length ≤ 30) (fun c_ _ => 3 - (intOf c_).toNat)
    case atStart => exact ⟨0, _, rfl, Nat.zero_le _, P0.out, K3.out, fun i hi => absurd hi (Nat.not_lt_zero _)⟩
    case round =>
      obtain ⟨k, A, rfl, hk3, hpre, hk0, hl30⟩ := hrel
      have PR := Lib.hid hpre
      have KR := Lib.hid hk0
      have HL30 := Lib.hid hl30
      clear hpre hk0 hl30
      by_cases hkl : k < 3
      · have hkl' : (k : Int) < 3 := by omega
        have hk0' : (0 : Int) ≤ (k : Int) := by omega
        have cl := cell_of (i := k) (KR.out.to LB0.out (by simp)) (arr3_get hkl (Nat.le_refl _) _)
        have HCL := Lib.hid cl
        by_cases hbig : (30 : Int) < ((G k).l.length : Int)
        · go_wp2_with fail
          go_ret
          exact ⟨rfl, K0.out.trans KR.out⟩
        · have hl30 : (G k).l.length ≤ 30 := by omega
          go_upto_region 12 with fail
          have AF : Hid (A3 wr s 72) := Lib.hid ⟨_, PR.out.fa, rfl⟩
          have AP : Hid (A3 wr (s + 1) 73) := Lib.hid ⟨_, PR.out.pa, rfl⟩
          have AQ : Hid (A3 wr (s + 1 + 1) 75) := Lib.hid ⟨_, PR.out.qa, rfl⟩
          have hlow := PR.out.low
          have hsz := PR.out.size
          have hsz3 : s + 3 ≤ wr.heap.size := by omega
          have HSZ := Lib.hid hsz
          have MR := Lib.hid PR.out.mem
          have hlbs : lb < s := by have := HBE.out; omega
          clear hbig hsz
          obtain ⟨gf, hgf⟩ := A3.ghost (g := s) (k := k) (T := 72) hkl
          obtain ⟨gp, hgp⟩ := A3.ghost (g := s + 1) (k := k) (T := 73) hkl
          obtain ⟨gq, hgq⟩ := A3.ghost (g := s + 1 + 1) (k := k) (T := 75) hkl
          have hff : ∀ w' : World, A3 w' s 72 → w'.frozen? ⟨s, k, none⟩ = false := fun w' h => (h.st hkl).2
          have hfp : ∀ w' : World, A3 w' (s + 1) 73 → w'.frozen? ⟨s + 1, k, none⟩ = false := fun w' h => (h.st hkl).2
          have hfq : ∀ w' : World, A3 w' (s + 1 + 1) 75 → w'.frozen? ⟨s + 1 + 1, k, none⟩ = false := fun w' h => (h.st hkl).2
          have SA := Lib.hid (And.intro (cell_keep (S := []) (Keep.refl [] wr).drew cl (by simp)) (And.intro (And.intro (hgf _ AF.out.drew) (hff _ AF.out.drew)) (And.intro (And.intro (hgp _ AP.out.drew) (hfp _ AP.out.drew)) (And.intro (hgq _ AQ.out.drew) (hfq _ AQ.out.drew)))))
          have Hgf := Lib.hid hgf
          have Hgp := Lib.hid hgp
          have Hgq := Lib.hid hgq
          have Hff := Lib.hid hff
          have Hfp := Lib.hid hfp
          have Hfq := Lib.hid hfq
          clear hgf hgp hgq hff hfp hfq
          go_region_held3 (fun w' => w'.cell? ⟨lb, k, none⟩ = some (.slice (G k).ao (G k).l.length (G k).cap) ∧ (w'.cell? ⟨s, k, none⟩ = some (gf w') ∧ w'.frozen? ⟨s, k, none⟩ = false) ∧ (w'.cell? ⟨s + 1, k, none⟩ = some (gp w') ∧ w'.frozen? ⟨s + 1, k, none⟩ = false) ∧ (w'.cell? ⟨s + 1 + 1, k, none⟩ = some (gq w') ∧ w'.frozen? ⟨s + 1 + 1, k, none⟩ = false))
            (first | exact SA.out | exact ⟨cell_keep (S := [s, s + 1, s + 1 + 1]) (by repeat' (first | with_reducible exact Keep.refl _ _ | with_reducible exact KS8.out | with_reducible apply Keep.drew | with_reducible apply Keep.alloc | (with_reducible refine Keep.setCell ?_ (Or.inr (by simp)) _))) HCL.out (by simp; omega), ⟨Hgf.out _ (by repeat' (first | with_reducible exact AF8.out | with_reducible exact AP8.out | with_reducible exact AQ8.out | with_reducible exact AF.out | with_reducible exact AP.out | with_reducible exact AQ.out | with_reducible apply A3.drew | with_reducible apply A3.alloc | with_reducible apply A3.set)), Hff.out _ (by repeat' (first | with_reducible exact AF8.out | with_reducible exact AP8.out | with_reducible exact AQ8.out | with_reducible exact AF.out | with_reducible exact AP.out | with_reducible exact AQ.out | with_reducible apply A3.drew | with_reducible apply A3.alloc | with_reducible apply A3.set))⟩, ⟨Hgp.out _ (by repeat' (first | with_reducible exact AF8.out | with_reducible exact AP8.out | with_reducible exact AQ8.out | with_reducible exact AF.out | with_reducible exact AP.out | with_reducible exact AQ.out | with_reducible apply A3.drew | with_reducible apply A3.alloc | with_reducible apply A3.set)), Hfp.out _ (by repeat' (first | with_reducible exact AF8.out | with_reducible exact AP8.out | with_reducible exact AQ8.out | with_reducible exact AF.out | with_reducible exact AP.out | with_reducible exact AQ.out | with_reducible apply A3.drew | with_reducible apply A3.alloc | with_reducible apply A3.set))⟩, ⟨Hgq.out _ (by repeat' (first | with_reducible exact AF8.out | with_reducible exact AP8.out | with_reducible exact AQ8.out | with_reducible exact AF.out | with_reducible exact AP.out | with_reducible exact AQ.out | with_reducible apply A3.drew | with_reducible apply A3.alloc | with_reducible apply A3.set)), Hfq.out _ (by repeat' (first | with_reducible exact AF8.out | with_reducible exact AP8.out | with_reducible exact AQ8.out | with_reducible exact AF.out | with_reducible exact AP.out | with_reducible exact AQ.out | with_reducible apply A3.drew | with_reducible apply A3.alloc | with_reducible apply A3.set))⟩⟩)
            (first
              | (go_at_call 28; ((with_reducible refine (frame_new (MR.out.keep (S := []) (by repeat' (first | with_reducible exact Keep.refl _ _ | with_reducible exact KW8.out | with_reducible apply Keep.drew | with_reducible apply Keep.alloc)) (by simp) (by simp))).mono ?_); rintro _ w8 ⟨rfl, hf8, hk8, hs8⟩; have KW8 : Hid (Keep [] wr w8) := Lib.hid (Keep.trans (by repeat' (first | with_reducible exact Keep.refl _ _ | with_reducible exact KW8.out | with_reducible apply Keep.drew | with_reducible apply Keep.alloc)) hk8); (first | have X8 : Hid (w8.heap[wr.heap.size]? = some (.cells #[.slice (G k).ao (G k).l.length (G k).cap, .slice none 0 0, .int .i64 0] 39 (0, 0))) := Lib.hid (hk8.to (by first | exact heap_alloc_new wr _ | exact heap_old2 (heap_alloc_new wr _)) (by simp)) | have X8 : Hid (w8.heap[wr.heap.size + 1]? = some (.cells #[.slice (G k).ao (G k).l.length (G k).cap, .slice none 0 0, .int .i64 0] 39 (0, 0))) := Lib.hid (hk8.to (by exact two_snd wr _ _) (by simp)) | skip); (first | have Y8 : Hid (w8.heap[wr.heap.size]? = some (.cells #[.slice (G k).ao (G k).l.length (G k).cap, .int .i64 0, .int .i64 0, .slice none 0 0, .int .i64 0, .int .i64 0, .bool false] 77 (0, 0))) := Lib.hid (hk8.to (by first | exact heap_alloc_new wr _ | exact heap_old2 (heap_alloc_new wr _)) (by simp)) | have Y8 : Hid (w8.heap[wr.heap.size + 1]? = some (.cells #[.slice (G k).ao (G k).l.length (G k).cap, .int .i64 0, .int .i64 0, .slice none 0 0, .int .i64 0, .int .i64 0, .bool false] 77 (0, 0))) := Lib.hid (hk8.to (by exact two_snd wr _ _) (by simp)) | skip); have KS8 : Hid (Keep [s, s + 1, s + 1 + 1] wr w8) := Lib.hid (KW8.out.mono (by simp)); have AF8 := Lib.hid (AF.out.kept KW8.out); have AP8 := Lib.hid (AP.out.kept KW8.out); have AQ8 := Lib.hid (AQ.out.kept KW8.out); have FA8 := Lib.hid (KW8.out.to PR.out.fa (by simp)); have PA8 := Lib.hid (KW8.out.to PR.out.pa (by simp)); have QA8 : Hid (w8.heap[s + 1 + 1]? = some (.cells (arr3 k fun i => ptr (A i).2.2) 75 (0, 0))) := Lib.hid (KW8.out.to PR.out.qa (by simp)); (try simp at hf8); (try simp at hs8); have F8 := Lib.hid hf8; have HS8 := Lib.hid hs8; have hge8 : wr.heap.size + 1 ≤ w8.heap.size := (by have := HS8.out; omega); clear hf8 hk8 hs8))
              | (fail))
          all_goals
            go_wp2_with fail
            have h88 := HS8.out
            go_roundw
            case rel =>
              first
                | refine ⟨k + 1, setA A k (_, wr.heap.size, wr.heap.size + 1), by go_num, by omega, Pre.step (x := wr.heap.size) (y := wr.heap.size + 1) PR.out hkl (by repeat' (first | with_reducible exact Keep.refl _ _ | with_reducible exact KS8.out | with_reducible apply Keep.drew | with_reducible apply Keep.alloc | (with_reducible refine Keep.setCell ?_ (Or.inr (by simp)) _))) (by simp; omega) (F8.out.keep (S := [s, s + 1, s + 1 + 1]) (by repeat' (first | with_reducible exact Keep.refl _ _ | with_reducible exact KX8.out | with_reducible apply Keep.drew | with_reducible apply Keep.alloc | (with_reducible refine Keep.setCell ?_ (Or.inr (by simp)) _))) (by simp; omega) (by simp; omega) (by simp; omega) (by simp [Value.ownBlock])) (by (repeat' (first | (with_reducible refine alloc_at ?_; (simp; fail_if_success (focus skip))) | with_reducible exact X8.out | (with_reducible refine heap_old2 ?_) | (with_reducible refine heap_far ?_ (by omega)))); fail_if_success (focus skip)) (by (repeat' (first | (with_reducible refine alloc_at ?_; (simp; fail_if_success (focus skip))) | with_reducible exact Y8.out | (with_reducible refine heap_old2 ?_) | (with_reducible refine heap_far ?_ (by omega)))); fail_if_success (focus skip)) (by (repeat' (first | with_reducible exact FA8.out | (with_reducible refine heap_old2 ?_) | (with_reducible refine heap_far ?_ (by omega)) | (with_reducible refine block_set _ _ ?_))); fail_if_success (focus skip)) (by (repeat' (first | with_reducible exact PA8.out | (with_reducible refine heap_old2 ?_) | (with_reducible refine heap_far ?_ (by omega)) | (with_reducible refine block_set _ _ ?_))); fail_if_success (focus skip)) (by (repeat' (first | with_reducible exact QA8.out | (with_reducible refine heap_old2 ?_) | (with_reducible refine heap_far ?_ (by omega)) | (with_reducible refine block_set _ _ ?_))); fail_if_success (focus skip)) (by refine ⟨by omega, by omega, by omega, by omega, by omega, by omega⟩), ?k0, ?li⟩
                | refine ⟨k + 1, setA A k (_, wr.heap.size + 1, wr.heap.size), by go_num, by omega, Pre.step (x := wr.heap.size + 1) (y := wr.heap.size) PR.out hkl (by repeat' (first | with_reducible exact Keep.refl _ _ | with_reducible exact KS8.out | with_reducible apply Keep.drew | with_reducible apply Keep.alloc | (with_reducible refine Keep.setCell ?_ (Or.inr (by simp)) _))) (by simp; omega) (F8.out.keep (S := [s, s + 1, s + 1 + 1]) (by repeat' (first | with_reducible exact Keep.refl _ _ | with_reducible exact KX8.out | with_reducible apply Keep.drew | with_reducible apply Keep.alloc | (with_reducible refine Keep.setCell ?_ (Or.inr (by simp)) _))) (by simp; omega) (by simp; omega) (by simp; omega) (by simp [Value.ownBlock])) (by (repeat' (first | (with_reducible refine alloc_at ?_; (simp; fail_if_success (focus skip))) | with_reducible exact X8.out | (with_reducible refine heap_old2 ?_) | (with_reducible refine heap_far ?_ (by omega)))); fail_if_success (focus skip)) (by (repeat' (first | (with_reducible refine alloc_at ?_; (simp; fail_if_success (focus skip))) | with_reducible exact Y8.out | (with_reducible refine heap_old2 ?_) | (with_reducible refine heap_far ?_ (by omega)))); fail_if_success (focus skip)) (by (repeat' (first | with_reducible exact FA8.out | (with_reducible refine heap_old2 ?_) | (with_reducible refine heap_far ?_ (by omega)) | (with_reducible refine block_set _ _ ?_))); fail_if_success (focus skip)) (by (repeat' (first | with_reducible exact PA8.out | (with_reducible refine heap_old2 ?_) | (with_reducible refine heap_far ?_ (by omega)) | (with_reducible refine block_set _ _ ?_))); fail_if_success (focus skip)) (by (repeat' (first | with_reducible exact QA8.out | (with_reducible refine heap_old2 ?_) | (with_reducible refine heap_far ?_ (by omega)) | (with_reducible refine block_set _ _ ?_))); fail_if_success (focus skip)) (by refine ⟨by omega, by omega, by omega, by omega, by omega, by omega⟩), ?k0, ?li⟩
                | refine ⟨k + 1, setA A k (_, wr.heap.size, w8.heap.size), by go_num, by omega, Pre.step (x := wr.heap.size) (y := w8.heap.size) PR.out hkl (by repeat' (first | with_reducible exact Keep.refl _ _ | with_reducible exact KS8.out | with_reducible apply Keep.drew | with_reducible apply Keep.alloc | (with_reducible refine Keep.setCell ?_ (Or.inr (by simp)) _))) (by simp; omega) (F8.out.keep (S := [s, s + 1, s + 1 + 1]) (by repeat' (first | with_reducible exact Keep.refl _ _ | with_reducible exact KX8.out | with_reducible apply Keep.drew | with_reducible apply Keep.alloc | (with_reducible refine Keep.setCell ?_ (Or.inr (by simp)) _))) (by simp; omega) (by simp; omega) (by simp; omega) (by simp [Value.ownBlock])) (by (repeat' (first | (with_reducible refine alloc_at ?_; (simp; fail_if_success (focus skip))) | with_reducible exact X8.out | (with_reducible refine heap_old2 ?_) | (with_reducible refine heap_far ?_ (by omega)))); fail_if_success (focus skip)) (by (repeat' (first | (with_reducible refine alloc_at ?_; (simp; fail_if_success (focus skip))) | with_reducible exact Y8.out | (with_reducible refine heap_old2 ?_) | (with_reducible refine heap_far ?_ (by omega)))); fail_if_success (focus skip)) (by (repeat' (first | with_reducible exact FA8.out | (with_reducible refine heap_old2 ?_) | (with_reducible refine heap_far ?_ (by omega)) | (with_reducible refine block_set _ _ ?_))); fail_if_success (focus skip)) (by (repeat' (first | with_reducible exact PA8.out | (with_reducible refine heap_old2 ?_) | (with_reducible refine heap_far ?_ (by omega)) | (with_reducible refine block_set _ _ ?_))); fail_if_success (focus skip)) (by (repeat' (first | with_reducible exact QA8.out | (with_reducible refine heap_old2 ?_) | (with_reducible refine heap_far ?_ (by omega)) | (with_reducible refine block_set _ _ ?_))); fail_if_success (focus skip)) (by refine ⟨by omega, by omega, by omega, by omega, by omega, by omega⟩), ?k0, ?li⟩
                | refine ⟨k + 1, setA A k (_, w8.heap.size, wr.heap.size), by go_num, by omega, Pre.step (x := w8.heap.size) (y := wr.heap.size) PR.out hkl (by repeat' (first | with_reducible exact Keep.refl _ _ | with_reducible exact KS8.out | with_reducible apply Keep.drew | with_reducible apply Keep.alloc | (with_reducible refine Keep.setCell ?_ (Or.inr (by simp)) _))) (by simp; omega) (F8.out.keep (S := [s, s + 1, s + 1 + 1]) (by repeat' (first | with_reducible exact Keep.refl _ _ | with_reducible exact KX8.out | with_reducible apply Keep.drew | with_reducible apply Keep.alloc | (with_reducible refine Keep.setCell ?_ (Or.inr (by simp)) _))) (by simp; omega) (by simp; omega) (by simp; omega) (by simp [Value.ownBlock])) (by (repeat' (first | (with_reducible refine alloc_at ?_; (simp; fail_if_success (focus skip))) | with_reducible exact X8.out | (with_reducible refine heap_old2 ?_) | (with_reducible refine heap_far ?_ (by omega)))); fail_if_success (focus skip)) (by (repeat' (first | (with_reducible refine alloc_at ?_; (simp; fail_if_success (focus skip))) | with_reducible exact Y8.out | (with_reducible refine heap_old2 ?_) | (with_reducible refine heap_far ?_ (by omega)))); fail_if_success (focus skip)) (by (repeat' (first | with_reducible exact FA8.out | (with_reducible refine heap_old2 ?_) | (with_reducible refine heap_far ?_ (by omega)) | (with_reducible refine block_set _ _ ?_))); fail_if_success (focus skip)) (by (repeat' (first | with_reducible exact PA8.out | (with_reducible refine heap_old2 ?_) | (with_reducible refine heap_far ?_ (by omega)) | (with_reducible refine block_set _ _ ?_))); fail_if_success (focus skip)) (by (repeat' (first | with_reducible exact QA8.out | (with_reducible refine heap_old2 ?_) | (with_reducible refine heap_far ?_ (by omega)) | (with_reducible refine block_set _ _ ?_))); fail_if_success (focus skip)) (by refine ⟨by omega, by omega, by omega, by omega, by omega, by omega⟩), ?k0, ?li⟩
                | refine ⟨k + 1, setA A k (_, w8.heap.size, w8.heap.size + 1), by go_num, by omega, Pre.step (x := w8.heap.size) (y := w8.heap.size + 1) PR.out hkl (by repeat' (first | with_reducible exact Keep.refl _ _ | with_reducible exact KS8.out | with_reducible apply Keep.drew | with_reducible apply Keep.alloc | (with_reducible refine Keep.setCell ?_ (Or.inr (by simp)) _))) (by simp; omega) (F8.out.keep (S := [s, s + 1, s + 1 + 1]) (by repeat' (first | with_reducible exact Keep.refl _ _ | with_reducible exact KX8.out | with_reducible apply Keep.drew | with_reducible apply Keep.alloc | (with_reducible refine Keep.setCell ?_ (Or.inr (by simp)) _))) (by simp; omega) (by simp; omega) (by simp; omega) (by simp [Value.ownBlock])) (by (repeat' (first | (with_reducible refine alloc_at ?_; (simp; fail_if_success (focus skip))) | with_reducible exact X8.out | (with_reducible refine heap_old2 ?_) | (with_reducible refine heap_far ?_ (by omega)))); fail_if_success (focus skip)) (by (repeat' (first | (with_reducible refine alloc_at ?_; (simp; fail_if_success (focus skip))) | with_reducible exact Y8.out | (with_reducible refine heap_old2 ?_) | (with_reducible refine heap_far ?_ (by omega)))); fail_if_success (focus skip)) (by (repeat' (first | with_reducible exact FA8.out | (with_reducible refine heap_old2 ?_) | (with_reducible refine heap_far ?_ (by omega)) | (with_reducible refine block_set _ _ ?_))); fail_if_success (focus skip)) (by (repeat' (first | with_reducible exact PA8.out | (with_reducible refine heap_old2 ?_) | (with_reducible refine heap_far ?_ (by omega)) | (with_reducible refine block_set _ _ ?_))); fail_if_success (focus skip)) (by (repeat' (first | with_reducible exact QA8.out | (with_reducible refine heap_old2 ?_) | (with_reducible refine heap_far ?_ (by omega)) | (with_reducible refine block_set _ _ ?_))); fail_if_success (focus skip)) (by refine ⟨by omega, by omega, by omega, by omega, by omega, by omega⟩), ?k0, ?li⟩
                | refine ⟨k + 1, setA A k (_, w8.heap.size + 1, w8.heap.size), by go_num, by omega, Pre.step (x := w8.heap.size + 1) (y := w8.heap.size) PR.out hkl (by repeat' (first | with_reducible exact Keep.refl _ _ | with_reducible exact KS8.out | with_reducible apply Keep.drew | with_reducible apply Keep.alloc | (with_reducible refine Keep.setCell ?_ (Or.inr (by simp)) _))) (by simp; omega) (F8.out.keep (S := [s, s + 1, s + 1 + 1]) (by repeat' (first | with_reducible exact Keep.refl _ _ | with_reducible exact KX8.out | with_reducible apply Keep.drew | with_reducible apply Keep.alloc | (with_reducible refine Keep.setCell ?_ (Or.inr (by simp)) _))) (by simp; omega) (by simp; omega) (by simp; omega) (by simp [Value.ownBlock])) (by (repeat' (first | (with_reducible refine alloc_at ?_; (simp; fail_if_success (focus skip))) | with_reducible exact X8.out | (with_reducible refine heap_old2 ?_) | (with_reducible refine heap_far ?_ (by omega)))); fail_if_success (focus skip)) (by (repeat' (first | (with_reducible refine alloc_at ?_; (simp; fail_if_success (focus skip))) | with_reducible exact Y8.out | (with_reducible refine heap_old2 ?_) | (with_reducible refine heap_far ?_ (by omega)))); fail_if_success (focus skip)) (by (repeat' (first | with_reducible exact FA8.out | (with_reducible refine heap_old2 ?_) | (with_reducible refine heap_far ?_ (by omega)) | (with_reducible refine block_set _ _ ?_))); fail_if_success (focus skip)) (by (repeat' (first | with_reducible exact PA8.out | (with_reducible refine heap_old2 ?_) | (with_reducible refine heap_far ?_ (by omega)) | (with_reducible refine block_set _ _ ?_))); fail_if_success (focus skip)) (by (repeat' (first | with_reducible exact QA8.out | (with_reducible refine heap_old2 ?_) | (with_reducible refine heap_far ?_ (by omega)) | (with_reducible refine block_set _ _ ?_))); fail_if_success (focus skip)) (by refine ⟨by omega, by omega, by omega, by omega, by omega, by omega⟩), ?k0, ?li⟩
              case k0 => exact KR.out.transS (T := []) (S' := [s, s + 1, s + 1 + 1]) (by repeat' (first | with_reducible exact Keep.refl _ _ | with_reducible exact KS8.out | with_reducible apply Keep.drew | with_reducible apply Keep.alloc | (with_reducible refine Keep.setCell ?_ (Or.inr (by simp)) _))) (by simp) (fun z hz hlt => by simp at hz; have := HBE.out; omega)
              case li =>
                intro i hi
                by_cases hik : i = k
                · subst hik; exact hl30
                · exact HL30.out i (by omega)
            case measure => simp [intOf]; omega
      · have hke : k = 3 := by omega
        subst hke
        have hlow := PR.out.low
        have hbw0 : w0.heap.size = b := HBE.out
        have T0 : Hid (Trio 3 w0 (s + 3 + 3 * 3) (b + 1) b (c + 1) c (mkF G A) (fun _ => ⟨(⟨[], 0⟩, St.new TZ), Pl.new, .slice none 0 0, [], []⟩) TZ TZ wr) := Lib.hid (PR.out.trio KR.out (fun i hi => ⟨((HGL.out i hi).1.keep K0.out (by simp)).keep KR.out (by simp), Nat.le_trans (HL30.out i hi) (by decide), fun j hj => by have h1 := (HGL.out i hi).2 j hj; have h2 := K0.out.size; have h3 := HLE.out; omega⟩) (by omega) (by omega))
        have HF4 : Hid (∀ i, i < 3 → s + 3 ≤ ((mkF G A) i).f ∧ s + 3 ≤ ((mkF G A) i).x ∧ s + 3 ≤ ((mkF G A) i).y) := Lib.hid (fun i hi => by have := PR.out.at_ i hi; unfold mkF; dsimp only; omega)
        have AR0 : Hid (Arrs s (mkF G A) wr) := Lib.hid ⟨PR.out.fa, PR.out.pa, PR.out.qa⟩
        have HFL : Hid (∀ i, i < 3 → ((mkF G A) i).l.length ≤ 30) := Lib.hid HL30.out
        have hlo3 : s + 3 ≤ s + 3 + 3 * 3 := by omega
        generalize mkF G A = F at *
        generalize s + 3 + 3 * 3 = lo at *
        clear hbw0
        go_wp2_with fail
        go_loopw [53] (fun c_ wz => ∃ (n : Nat) (D : Nat → Dyn) (lm : List Int), c_ = .int .i64 n ∧ n ≤ ts.length ∧ Trio 3 w0 lo (b + 1) b (c + 1) c F D lm lm wz ∧ Arrs s F wz ∧ ∀ i, i < 3 → Rel (F i).l (D i).q (D i).p lm ∧ (D i).p.n ≤ n ∧ (D i).p.i ≤ (F i).l.length + 1 ∧ (D i).p.n ≤ (D i).p.i ∧ (D i).p.got.length = (D i).p.n) (fun c_ _ => ts.length - (intOf c_).toNat)
        case atStart => exact ⟨0, _, TZ, rfl, Nat.zero_le _, T0.out, AR0.out, fun i hi => ⟨Rel.new _ _, Nat.le_refl _, Nat.zero_le _, Nat.le_refl _, rfl⟩⟩
        case round =>
          obtain ⟨n, D, lm, rfl, hn, htr, har, hrl⟩ := hrel
          have TR := Lib.hid htr
          have AR := Lib.hid har
          have RL := Lib.hid hrl
          clear htr har hrl
          by_cases hnl : n < ts.length
          · have hnl' : (n : Int) < ts.length := by omega
            have hn0' : (0 : Int) ≤ (n : Int) := by omega
            obtain ⟨x, hx⟩ : ∃ x, ts[n]? = some x := ⟨_, List.getElem?_eq_getElem hnl⟩
            obtain ⟨⟨tb, tof, rfl, _, htc⟩, hwf⟩ := HTC.out n x hx
            have hx8 := bounds_u8 hwf
            have hcell := cell_keep (K0.out.trans (TR.out.ss 0 (by omega)).keep) htc (by simp)
            obtain ⟨kk, hkk⟩ : ∃ kk : Nat, x % 3 = kk := ⟨(x % 3).toNat, by omega⟩
            have hkk3 : kk < 3 := by omega
            have hkk3i : (kk : Int) < 3 := by omega
            have hkk0i : (0 : Int) ≤ (kk : Int) := by omega
            clear htc hx hwf
            go_upto_region 18 with fail
            rw [hkk]
            have HKK := Lib.hid hkk
            clear hkk hcell
            have ha1 := (AR.out.cells hkk3).1
            have RLk := Lib.hid (RL.out kk hkk3)
            have HS := Lib.hid (TR.out.ss kk hkk3)
            go_wp2_with fail
            refine (frame_done HS.out.fr).mono ?_
            rintro _ _ ⟨rfl, rfl⟩
            obtain ⟨dn, hdn⟩ : ∃ dn, (D kk).q.2.over = dn := ⟨_, rfl⟩
            rw [hdn]
            have HDN := Lib.hid hdn
            clear hdn
            obtain ⟨q', hq'⟩ : ∃ q', stepP (pB (F kk).l) (n : Int) (D kk).q = q' := ⟨_, rfl⟩
            have HQ := Lib.hid hq'
            have hlog : (D kk).q.2.log.length ≤ 900000 := by have := RLk.out.1.len; have := RLk.out.2.1; omega
            have HLG := Lib.hid hlog
            have SA := Lib.hid (And.intro (AR.out.kept (Keep.refl [] wr).drew |>.cells hkk3).1 (AR.out.kept (Keep.refl [] wr).drew |>.cells hkk3).2.1)
            clear hq' hlog ha1
            go_wp2_with fail
            go_region_held3 (fun w' => w'.cell? ⟨s, kk, none⟩ = some (.pointer (some ⟨(F kk).f, 0, none⟩)) ∧ w'.cell? ⟨s + 1, kk, none⟩ = some (.pointer (some ⟨(F kk).x, 0, none⟩)))
              (first | exact SA.out | exact SB.out | go_keep)
              (first
                | (go_at_call 29; ((with_reducible refine ((TR.out.kept (by repeat' (first | with_reducible exact Keep.refl _ _ | with_reducible apply Keep.drew | with_reducible apply Keep.alloc))).frame hkk3 (n : Int) HQ.out HLG.out).mono ?_); rintro _ w6 ⟨rfl, d, hd1, hd2, ht6, hf6⟩; have T6 := Lib.hid ht6; have A6 := Lib.hid ((AR.out.kept (by repeat' (first | with_reducible exact Keep.refl _ _ | with_reducible apply Keep.drew | with_reducible apply Keep.alloc))).far hf6 hlo3 (by omega) (by omega) (HF4.out kk hkk3)); have SB := Lib.hid (And.intro (A6.out.cells hkk3).1 (A6.out.cells hkk3).2.1); clear ht6 hf6))
                | (fail))
            have HD1 := Lib.hid hd1
            have HD2 := Lib.hid hd2
            have hmk := TR.out.mem kk hkk3
            have HMK := Lib.hid hmk
            clear hd1 hd2 hmk
            go_upto_if 76 with fail
            go_cut [82] from 54 to 124 (fun _ wc => ∃ (D2 : Nat → Dyn) (lm2 : List Int), Trio 3 w0 lo (b + 1) b (c + 1) c F D2 lm2 lm2 wc ∧ Arrs s F wc ∧ ∀ i, i < 3 → Rel (F i).l (D2 i).q (D2 i).p lm2 ∧ (D2 i).p.n ≤ n + 1 ∧ (D2 i).p.i ≤ (F i).l.length + 1 ∧ (D2 i).p.n ≤ (D2 i).p.i ∧ (D2 i).p.got.length = (D2 i).p.n)
            case first =>
              cases dn
              rotate_left
              · go_wp2_with fail
                go_meet
                have hov := HDN.out
                have hqq : q' = (D kk).q := by rw [← HQ.out]; exact stepP_over hov
                have T7 := T6.out
                rw [hqq, HMK.out] at T7
                refine ⟨_, lm, T7, A6.out, fun i hi => ?_⟩
                by_cases hik : i = kk
                · subst hik
                  rw [setD_same, HD1.out, HD2.out, hqq]
                  exact ⟨RLk.out.1, by have := RLk.out.2.1; omega, RLk.out.2.2⟩
                · rw [setD_ne hik]
                  have h := RL.out i hi
                  exact ⟨h.1.turn, by have := h.2.1; dsimp only; omega, h.2.2⟩
              · have hovf := HDN.out
                have hq3 := (A6.out.cells hkk3).2.2
                have hst := RLk.out.1.step hovf (n : Int)
                rw [HQ.out] at hst
                have HST := Lib.hid hst
                clear hovf
                have hbd := plStep_bounds (l := (F kk).l) (p := (D kk).p) (m := lm) (now := (n : Int)) RLk.out.2.2.1 RLk.out.2.2.2.1 RLk.out.2.2.2.2
                have HBD := Lib.hid hbd
                clear hst hbd
                go_wp2_with fail
                refine (T6.out.plain hkk3 (by rw [setD_same, HD2.out]; have := RLk.out.2.1; omega) (by rw [setD_same, HD2.out]; have := RLk.out.2.2.1; have := HFL.out kk hkk3; omega) (by rw [setD_same, HD2.out]; have := RLk.out.2.2.2.2; have := RLk.out.2.1; omega) (n : Int)).mono ?_
                rintro _ w7 ⟨rfl, d2, he1, he2, ht7, hf7⟩
                rw [setD_same] at he1 he2
                rw [setD_same, HD2.out] at ht7
                rw [HD1.out] at he1
                rw [HD2.out] at he2
                have hmm := HST.out.1.mem
                rw [hmm] at ht7
                have T7 := Lib.hid ht7
                have A7 := Lib.hid (A6.out.far hf7 hlo3 (by omega) (by omega) (HF4.out kk hkk3))
                have HE1 := Lib.hid he1
                have HE2 := Lib.hid he2
                clear ht7 hf7 he1 he2 hmm
                go_wp2_with fail
                go_meet
                refine ⟨_, _, T7.out, A7.out, fun i hi => ?_⟩
                by_cases hik : i = kk
                · subst hik
                  rw [setD_same, HE1.out, HE2.out]
                  refine ⟨HST.out.1, ?_, HBD.out⟩
                  have h3 := HST.out.1.len
                  have h4 : (plStep (F i).l (n : Int) (D i).p lm).1.n ≤ (D i).p.n + 1 := plStep_le _ _ _ _
                  have := RLk.out.2.1
                  omega
                · rw [setD_ne hik, setD_ne hik]
                  have h := RL.out i hi
                  exact ⟨h.1.turn.turn, by have := h.2.1; dsimp only; omega, h.2.2⟩
            case rest =>
              obtain ⟨D2, lm2, ht2, ha2, hr2⟩ := hcut
              have T2 := Lib.hid ht2
              have A2 := Lib.hid ha2
              have R2 := Lib.hid hr2
              clear ht2 ha2 hr2 T6 A6 HD1 HD2 HMK SA HS HQ HLG RLk
              obtain ⟨aoR, hcR, hiR⟩ := RefRep.ints ((T2.out.kept (Keep.refl [] wc).drew).ss kk hkk3).ref
              have HIR := Lib.hid hiR
              have MA := Lib.hid (show MemRep 134 wc.drew (b + 1) b lm2 from (T2.out.mem kk hkk3) ▸ ((T2.out.kept (Keep.refl [] wc).drew).ss kk hkk3).fr.mem)
              have SA := Lib.hid (And.intro hcR (And.intro ((A2.out.kept (Keep.refl [] wc).drew).cells hkk3).1 (And.intro (show wc.drew.cell? ⟨s + 1 + 1, kk, none⟩ = _ from ((A2.out.kept (Keep.refl [] wc).drew).cells hkk3).2.2) (tw_n ((T2.out.kept (Keep.refl [] wc).drew).ss kk hkk3).pl))))
              have hml := MA.out.most
              have hsl : Hid (((D2 kk).q.2.log.length : Int) = ((D2 kk).p.n : Int)) := Lib.hid (by rw [(R2.out kk hkk3).1.len])
              clear hcR hiR
              go_wp2_with fail
              go_region_held3 (fun w' => w'.cell? ⟨c + 1, 0, none⟩ = some (.slice aoR lm2.length lm2.length) ∧ w'.cell? ⟨s, kk, none⟩ = some (.pointer (some ⟨(F kk).f, 0, none⟩)) ∧ w'.cell? ⟨s + 1 + 1, kk, none⟩ = some (.pointer (some ⟨(F kk).y, 0, none⟩)) ∧ w'.cell? ⟨(F kk).y, 4, none⟩ = some (.int .i64 (D2 kk).p.n))
                (first | exact SC.out | exact SB.out | exact SA.out)
                (first
                  | (go_at_call 36; ((with_reducible refine (word_words MA.out).mono ?_); rintro _ w8 ⟨g8, cap8, rfl, hrow, _, _, k8⟩; have I8 := Lib.hid hrow.intsAt; have J8 := Lib.hid (tw_ints HIR.out k8); have K8 : Hid (Keep [] wc w8) := Lib.hid ((Keep.refl [] wc).drew.trans k8); have SB := Lib.hid (And.intro (cell_keep k8 SA.out.1 (by simp)) (And.intro (cell_keep k8 SA.out.2.1 (by simp)) (And.intro (cell_keep k8 SA.out.2.2.1 (by simp)) (cell_keep k8 SA.out.2.2.2 (by simp))))); clear k8 hrow))
                  | (go_at_call 40; ((with_reducible refine (ref_words (some ⟨g8, 0, none⟩) aoR lm2.length lm2.length _ _ lm2 lm2 I8.out J8.out rfl rfl (by omega) (by omega)).mono ?_); rintro _ w9 ⟨rfl, n9, rfl⟩; rw [decide_eq_true (rfl : lm2 = lm2)]; have k9 := (Keep.refl [] w8).drewN n9; have K9 := Lib.hid (K8.out.trans k9); have SC := Lib.hid (And.intro (cell_keep k9 SB.out.1 (by simp)) (And.intro (cell_keep k9 SB.out.2.1 (by simp)) (And.intro (cell_keep k9 SB.out.2.2.1 (by simp)) (cell_keep k9 SB.out.2.2.2 (by simp))))); clear k9))
                  | (go_at_call 33; ((with_reducible refine (frame_steps ((T2.out.kept K9.out).ss kk hkk3).fr).mono ?_); rintro _ _ ⟨rfl, rfl⟩; rw [hsl.out])))
              generalize hw9 : w8.drewN n9 = w9 at *
              clear hw9
              by_cases hov : (D2 kk).q.2.over = true
              · have HOV := Lib.hid hov
                have heg : (D2 kk).q.1.got = (D2 kk).p.got := ((R2.out kk hkk3).1.over hov).2
                obtain ⟨aP, cP, hcP, hiP⟩ := tw_got ((T2.out.kept (K9.out.trans (Keep.refl [] w9).drew)).ss kk hkk3).pr
                obtain ⟨aG, cG, hcG, hiG⟩ := tw_pgot ((T2.out.kept (K9.out.trans (Keep.refl [] w9).drew)).ss kk hkk3).pl
                rw [heg] at hcP hiP
                have HIP := Lib.hid hiP
                have HIG := Lib.hid hiG
                have hgl : (D2 kk).p.got.length ≤ 100000 := by have := (R2.out kk hkk3).2.2.2.2; have := (R2.out kk hkk3).2.1; omega
                have A9 := A2.out.kept (K9.out.trans (Keep.refl [] w9).drew)
                have SE := Lib.hid (And.intro (A9.cells hkk3).1 (And.intro (A9.cells hkk3).2.1 (And.intro (show w9.drew.cell? ⟨s + 1 + 1, kk, none⟩ = _ from (A9.cells hkk3).2.2) (And.intro hcP hcG))))
                clear hov hcP hcG hiP hiG heg A9
                go_wp2_with fail
                go_region_held3 (fun w' => w'.cell? ⟨s, kk, none⟩ = some (.pointer (some ⟨(F kk).f, 0, none⟩)) ∧ w'.cell? ⟨s + 1, kk, none⟩ = some (.pointer (some ⟨(F kk).x, 0, none⟩)) ∧ w'.cell? ⟨s + 1 + 1, kk, none⟩ = some (.pointer (some ⟨(F kk).y, 0, none⟩)) ∧ w'.cell? ⟨(F kk).x, 1, none⟩ = some (.slice aP (D2 kk).p.got.length cP) ∧ w'.cell? ⟨(F kk).y, 3, none⟩ = some (.slice aG (D2 kk).p.got.length cG))
                  (first | exact SF.out | exact SE.out)
                  (first
                    | (go_at_call 32; ((with_reducible refine (frame_done ((T2.out.kept (K9.out.trans (Keep.refl [] w9).drew)).ss kk hkk3).fr).mono ?_); rintro _ _ ⟨rfl, rfl⟩; rw [HOV.out]))
                    | (go_at_call 40; ((with_reducible refine (ref_words aP aG (D2 kk).p.got.length (D2 kk).p.got.length _ _ (D2 kk).p.got (D2 kk).p.got HIP.out HIG.out rfl rfl (by omega) (by omega)).mono ?_); rintro _ w10 ⟨rfl, n10, rfl⟩; rw [decide_eq_true (rfl : (D2 kk).p.got = (D2 kk).p.got)]; have k10 := (Keep.refl [] w9.drew).drewN n10; have K10 := Lib.hid ((Keep.refl [] w9).drew.trans k10); have SF := Lib.hid (And.intro (cell_keep k10 SE.out.1 (by simp)) (And.intro (cell_keep k10 SE.out.2.1 (by simp)) (And.intro (cell_keep k10 SE.out.2.2.1 (by simp)) (And.intro (cell_keep k10 SE.out.2.2.2.1 (by simp)) (cell_keep k10 SE.out.2.2.2.2 (by simp)))))); clear k10)))
                all_goals
                  go_wp2_with fail
                  go_roundw
                  case rel =>
                    (repeat apply Exists.intro)
                    exact ⟨⟨n + 1, D2, lm2, by go_num, by omega, T2.out.kept (K9.out.drewN _), A2.out.kept (K9.out.drewN _), R2.out⟩, rfl⟩
                  case measure => simp [intOf]; omega
              · have hovf : (D2 kk).q.2.over = false := by simpa using hov
                have HOV := Lib.hid hovf
                have A9 := A2.out.kept (K9.out.trans (Keep.refl [] w9).drew)
                have ca := (A2.out.kept K9.out |>.cells hkk3).1
                have cb := (A9.cells hkk3).1
                have HDONE : Hid (∀ m : Nat, Calls Try.prog 32 #[.pointer (some ⟨(F kk).f, 0, none⟩)] (w9.drewN m) fun e w'' => e = .returned (.bool false) ∧ ∃ m', w'' = w9.drewN m') := Lib.hid (fun m => (frame_done ((T2.out.kept (K9.out.drewN m)).ss kk hkk3).fr).mono (fun e w'' h => ⟨by rw [h.1, HOV.out], m, h.2.symm⟩))
                clear hov hovf A9
                go_wp2_with fail
                go_quiet (first | (go_at_call 32; exact HDONE.out _))
                go_wp2_with fail
                go_roundw
                case rel =>
                  (repeat apply Exists.intro)
                  exact ⟨⟨n + 1, D2, lm2, by go_num, by omega, T2.out.kept (K9.out.drewN _), A2.out.kept (K9.out.drewN _), R2.out⟩, rfl⟩
                case measure => simp [intOf]; omega
          · go_wp2_with fail
            go_ret
            exact ⟨rfl, K0.out.trans (TR.out.ss 0 (by omega)).keep⟩
end Law02
end Go.Proofs.Ytkmamebaichboaa
