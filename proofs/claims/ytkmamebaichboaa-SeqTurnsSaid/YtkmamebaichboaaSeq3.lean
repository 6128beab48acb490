/- The contracts of the package seq: Take without a mark, Read. No conditions but those stated. -/
import Derived.Test.YtkmamebaichboaaSeq2
import Derived.Test.YtkmamebaichboaaWord
namespace Go.Proofs.Ytkmamebaichboaa
open Go.ChangeShapes Go.WideShapes Go.ChangeAt Go.RowKit
set_option linter.unusedVariables false
set_option linter.unusedSimpArgs false
namespace SeqL
theorem evenL_off (pos : Int) : ∀ (n : Nat) (c : Int) (s : St), s.off = true → seqEvenL pos n c s = (c, s)
  | 0, c, s, h => rfl
  | n + 1, c, s, h => by simp [seqEvenL, h]
theorem even_off (pos : Int) (s : St) (h : s.off = true) : seqEven pos s = (0, s) := by
  unfold seqEven
  rw [load_off pos s h]
  exact evenL_off pos _ _ _ h
theorem loads_off (pos : Int) : ∀ (n i : Nat) (s : St), s.off = true → (seqLoads pos i n s).2 = s
  | 0, i, s, h => rfl
  | n + 1, i, s, h => by
    simp only [seqLoads]
    rw [load_off _ s h]
    exact loads_off pos n (i + 1) s h
theorem take_end {pos : Int} {n gk : Nat} {s2 sA sB sC : St} {c d : Int} {L : List Int} (hf : Fuel gk s2) (q1 : seqEven pos s2 = (c, sA)) (q2 : seqLoads pos 0 n sA = (L, sB)) (q3 : St.load pos sB = (d, sC)) (hle : s2.pos ≤ s2.log.length) (ho : sC.off = true) : seqTakeL pos n gk s2 = ([], sC) := by
  by_cases h2 : s2.off = true
  · rw [even_off pos s2 h2] at q1
    cases q1
    have hB := loads_off pos n 0 s2 h2
    rw [q2] at hB
    simp only at hB
    subst hB
    rw [load_off pos _ h2] at q3
    cases q3
    cases gk with
    | zero => rfl
    | succ k =>
      simp only [seqTakeL, even_off pos _ h2]
      have : (seqLoads pos 0 n sB).2 = sB := loads_off pos n 0 sB h2
      rw [this, load_off pos sB h2]
      simp [h2]
  · obtain ⟨k, rfl⟩ := fuel_pos hf (by simpa using h2) hle
    simp only [seqTakeL, q1, q2, q3, ho, if_true]
theorem take_more {pos : Int} {n gk : Nat} {s2 sA sB sC : St} {c d : Int} {L : List Int} (hf : Fuel gk s2) (q1 : seqEven pos s2 = (c, sA)) (q2 : seqLoads pos 0 n sA = (L, sB)) (q3 : St.load pos sB = (d, sC)) (hle : s2.pos ≤ s2.log.length) (ho : sC.off = false) :
    ∃ k, gk = k + 1 ∧ Fuel k sC ∧ seqTakeL pos n gk s2 = if d = c then (L, sC) else seqTakeL pos n k sC := by
  by_cases h2 : s2.off = true
  · exfalso
    rw [even_off pos s2 h2] at q1
    cases q1
    have hB := loads_off pos n 0 s2 h2
    rw [q2] at hB
    simp only at hB
    subst hB
    rw [load_off pos _ h2] at q3
    cases q3
    rw [h2] at ho
    cases ho
  · have h2' : s2.off = false := by simpa using h2
    obtain ⟨k, rfl⟩ := fuel_pos hf h2' hle
    have f1 := even_fuel (pos := pos) hf h2' hle
    have l1 := even_le (pos := pos) hle
    rw [q1] at f1 l1
    have f2 := (loads_le pos n 0 sA l1).2 k f1
    have l2 := (loads_le pos n 0 sA l1).1
    rw [q2] at f2 l2
    have f3 := load_mono (a := pos) f2 l2
    rw [q3] at f3
    refine ⟨k, rfl, f3, ?_⟩
    simp only [seqTakeL, q1, q2, q3, ho, Bool.false_eq_true, if_false]
theorem fill_row {w : World} {g n : Nat} {L : List Int} (hr : w.heap[g]? = some (.cells (fillA L 0) 2 (0, 0))) (hl : L.length = n) (hn : n ≤ 1000) : w.ownsRow 0 2 1 (.slice (some ⟨g, 0, none⟩) n n) L.length (L.map (Value.int .i64)) := by
  subst hl
  exact ⟨by simp, .inr ⟨g, L.length, fillA L 0, rfl, Nat.zero_le _, hr, Nat.le_refl _, by unfold maxLen; omega, by simp [fillA], by simp [fillA, List.take_of_length_le]⟩⟩
def seqRead (pos N : Int) (s : St) : List Int × St := if seqW N = 0 then ([], s) else seqTakeL pos N.toNat WN s
set_option maxHeartbeats 4000000 in
theorem seq_take {w : World} {f m b : Nat} {sl : Value} {s : St} (h : FRep w f m b sl s) (pos N : Int) (hp : 0 ≤ pos ∧ pos ≤ 1000000) {l : List Int} {s' : St} (hq : seqRead pos N s = (l, s')) :
    Calls Try.prog 113 #[.pointer (some ⟨f, 0, none⟩), .int .i64 pos, .int .i64 N, .bool false] w (RPost f m b sl w l s') := by
  unfold seqRead at hq
  have H := Lib.hid h
  clear h
  by_cases h0 : seqW N = 0
  · rw [if_pos h0] at hq
    obtain ⟨rfl, rfl⟩ := Prod.mk.inj hq
    go_enter Try.func113, Try.ntmps113
    go_wp2_with fail
    refine (seq_words _ _).mono ?_
    rintro e w1 ⟨rfl, rfl⟩
    rw [h0]
    go_wp2_with fail
    go_ret
    exact ⟨_, _, rfl, H.out, Ev.refl _ _ _, nil_row, by simp [Value.ownBlock]⟩
  · rw [if_neg h0] at hq
    have hN : 1 ≤ N ∧ N ≤ 16 := by
      unfold seqW at h0
      by_cases hc : N < 1 ∨ 16 < N
      · rw [if_pos hc] at h0; exact absurd rfl h0
      · omega
    obtain ⟨n, rfl⟩ : ∃ n : Nat, N = n := ⟨N.toNat, by omega⟩
    have hn : 1 ≤ n ∧ n ≤ 16 := by omega
    have hb0 : (seqW (n : Int) == 0) = false := by simpa using h0
    have e9 : ((n : Int)).toNat = n := by omega
    rw [e9] at hq
    have HQ := Lib.hid hq
    obtain ⟨i0, hi0, hz0, hz1, hz2⟩ := info_parts info64
    have hfu : Fuel WN s := .inr (by have := H.out.small; unfold WN; omega)
    have HF := Lib.hid hfu
    clear hq h0 e9 hfu
    go_enter Try.func113, Try.ntmps113
    go_wp2_with fail
    refine (seq_words _ _).mono ?_
    rintro e w1 ⟨rfl, rfl⟩
    go_wp2_with fail
    go_loopg [12] WN (fun gk _ wr => ∃ s2 sl2, FRep wr f m b sl2 s2 ∧ Ev [f, b] sl w sl2 wr ∧ Fuel gk s2 ∧ seqTakeL pos n gk s2 = (l, s'))
    case atStart => exact ⟨s, sl, H.out, Ev.refl _ _ _, HF.out, HQ.out⟩
    case round =>
      obtain ⟨s2, sl2, h2, e2, hf2, hw2⟩ := hrel
      have H2 := Lib.hid h2; have E2 := Lib.hid e2; have HF2 := Lib.hid hf2; have HW2 := Lib.hid hw2
      have HLE := Lib.hid h2.le
      rcases q1 : seqEven pos s2 with ⟨c, sA⟩
      rcases q2 : seqLoads pos 0 n sA with ⟨L, sB⟩
      rcases q3 : St.load pos sB with ⟨d, sC⟩
      have hLl : L.length = n := by have := loads_len pos n 0 sA; rw [q2] at this; exact this
      have Q1 := Lib.hid q1; have Q2 := Lib.hid q2; have Q3 := Lib.hid q3; have HLL := Lib.hid hLl
      clear h2 e2 hf2 hw2 q1 q2 q3 hLl
      go_wp2_with fail
      refine (seq_even H2.out pos Q1.out).mono ?_
      rintro e w3 ⟨sl3, rfl, h3, e3⟩
      have H3 := Lib.hid h3; have E3 := Lib.hid (E2.out.trans e3)
      clear h3 e3
      go_wp2_with (at_make; refine wpList_make_exact _ rfl _ _ 37 rfl 2 i0 _ Try.underlying37 hi0 hz0 _ _ _ _ n rfl rfl rfl rfl (by rw [hz2]; omega) (by omega) ?_)
      have KA : Hid (Keep [] w3 (w3.alloc (.cells (madeCells #[Value.int .i64 0] n) 2))) := Lib.hid ((Keep.refl [] w3).alloc _)
      have H4 := Lib.hid (H3.out.keep KA.out (by simp) (by simp) (by simp) (by simp))
      have E4 : Hid (Ev [f, b] sl w sl3 (w3.alloc (.cells (madeCells #[Value.int .i64 0] n) 2))) := Lib.hid (E3.out.trans (Ev.ofKeep KA.out (by simp)))
      have F4 : Hid (Fill w f m b sl3 w3.heap.size [] n (w3.alloc (.cells (madeCells #[Value.int .i64 0] n) 2))) := Lib.hid (by
        have n4 := H3.out.ne
        have n1 := lt_of_block H3.out.head
        have n2 := lt_of_block H3.out.mem.head
        have n3 := lt_of_block H3.out.mem.body
        refine ⟨?_, E3.out.keep.size, by omega, by omega, by omega, fun hm => ?_⟩
        · rw [made_ints]; exact heap_alloc_new w3 _
        · have := (n4.2.2.2 _ (mem_blk.1 hm)).2.2.2; omega)
      generalize w3.alloc (.cells (madeCells #[Value.int .i64 0] n) 2) = w4 at H4 E4 F4 ⊢
      generalize w3.heap.size = g at *
      clear KA
      go_loopw [23] (fun c_ wz => ∃ (i : Nat) (sD : St) (slD : Value) (vs : List Int), c_ = .int .i64 i ∧ i ≤ n ∧ vs.length = i ∧ FRep wz f m b slD sD ∧ Ev [f, b] sl w slD wz ∧ Fill w f m b slD g vs (n - i) wz ∧ vs ++ (seqLoads pos i (n - i) sD).1 = L ∧ (seqLoads pos i (n - i) sD).2 = sB) (fun c_ _ => n - (intOf c_).toNat)
      case atStart => exact ⟨0, sA, sl3, [], rfl, Nat.zero_le _, rfl, H4.out, E4.out, F4.out, by rw [Nat.sub_zero, Q2.out]; rfl, by rw [Nat.sub_zero, Q2.out]⟩
      case round =>
        obtain ⟨i, sD, slD, vs, rfl, hi, hvs, h5, e5, f5, hl1, hl2⟩ := hrel
        have H5 := Lib.hid h5; have E5 := Lib.hid e5; have F5 := Lib.hid f5; have HVS := Lib.hid hvs; have HL1 := Lib.hid hl1; have HL2 := Lib.hid hl2
        clear h5 e5 f5 hvs hl1 hl2
        by_cases hin : i < n
        · have hin' : (i : Int) < n := by omega
          have hi0' : (0 : Int) ≤ (i : Int) := by omega
          have hw1 : wrap64 (pos + 1) = pos + 1 := IntWalk.wrap64_in _ (by omega)
          have hw2 : wrap64 (pos + 1 + (i : Int)) = pos + 1 + i := IntWalk.wrap64_in _ (by omega)
          obtain ⟨k, hk⟩ : ∃ k, n - i = k + 1 := ⟨n - i - 1, by omega⟩
          have hk2 : n - (i + 1) = k := by omega
          rcases q6 : St.load (pos + 1 + (i : Int)) sD with ⟨v, sE⟩
          have g1 := HL1.out
          have g2 := HL2.out
          rw [hk] at g1 g2
          simp only [seqLoads, q6] at g1 g2
          have G1 := Lib.hid g1; have G2 := Lib.hid g2; have Q6 := Lib.hid q6; have HK := Lib.hid hk; have HK2 := Lib.hid hk2
          clear g1 g2 q6 hk hk2
          go_wp2_with fail
          refine (frame_loadE H5.out (pos + 1 + (i : Int)) Q6.out).mono ?_
          rintro e w6 ⟨sl6, rfl, h6, e6⟩
          have f6 := F5.out.step e6
          rw [HK.out] at f6
          have c6 : w6.cell? ⟨g, i, none⟩ = some (.int .i64 0) := by have := cell_of (i := vs.length) f6.row (fill_at vs k); rw [HVS.out] at this; exact this
          have z6 : w6.frozen? ⟨g, i, none⟩ = false := free_of f6.row
          have H6 := Lib.hid h6; have E6 := Lib.hid (E5.out.trans e6); have F6 := Lib.hid f6
          clear h6 e6 f6
          go_wp2_with fail
          go_roundw
          case rel =>
            obtain ⟨a1, a2, a3, a4⟩ := F6.out.ap
            refine ⟨i + 1, sE, sl6, vs ++ [v], by go_num, by omega, by rw [List.length_append, HVS.out]; rfl, H6.out.keep (S := [g]) ((Keep.refl [g] w6).setCell (.inr (by simp)) _) (by simpa using Ne.symm a1) (by simpa using Ne.symm a2) (by simpa using Ne.symm a3) (fun y hy => by simp; rintro rfl; exact a4 (mem_blk.2 hy)), ⟨E6.out.keep.setCell (.inl F6.out.new) _, E6.out.new⟩, ⟨?_, F6.out.new, F6.out.ap⟩, by rw [HK2.out, List.append_assoc]; exact G1.out, by rw [HK2.out]; exact G2.out⟩
            rw [HK2.out, ← fill_set, HVS.out]
            exact block_set i _ F6.out.row
          case measure => simp [intOf]; omega
        · have hie : i = n := by omega
          have g1 := HL1.out
          have g2 := HL2.out
          have f5 := F5.out
          rw [hie, Nat.sub_self] at g1 g2 f5
          simp only [seqLoads, List.append_nil] at g1 g2
          subst g1
          subst g2
          subst hie
          have F5' := Lib.hid f5
          clear f5 HL1 HL2 F5
          go_wp2_with fail
          refine (frame_loadE H5.out pos Q3.out).mono ?_
          rintro e w6 ⟨sl6, rfl, h6, e6⟩
          have H6 := Lib.hid h6; have E6 := Lib.hid (E5.out.trans e6); have F6 := Lib.hid (F5'.out.step e6)
          clear h6 e6
          cases ho : sC.off with
          | true =>
            have hend := take_end HF2.out Q1.out Q2.out Q3.out HLE.out ho
            rw [HW2.out] at hend
            obtain ⟨rfl, rfl⟩ := Prod.mk.inj hend
            have Ho := Lib.hid ho
            clear ho hend
            go_wp2_with fail
            refine (frame_off H6.out).mono ?_
            rintro e w7 ⟨rfl, rfl⟩
            rw [Ho.out]
            go_wp2_with fail
            go_ret
            exact ⟨_, _, rfl, H6.out, E6.out, nil_row, by simp [Value.ownBlock]⟩
          | false =>
            obtain ⟨k, rfl, hfk, hmore⟩ := take_more HF2.out Q1.out Q2.out Q3.out HLE.out ho
            rw [HW2.out] at hmore
            have Ho := Lib.hid ho
            have HFK := Lib.hid hfk
            clear ho hfk
            by_cases hdc : d = c
            · rw [if_pos hdc] at hmore
              obtain ⟨rfl, rfl⟩ := Prod.mk.inj hmore
              subst hdc
              clear hmore
              go_wp2_with fail
              refine (frame_off H6.out).mono ?_
              rintro e w7 ⟨rfl, rfl⟩
              rw [Ho.out]
              go_wp2_with fail
              go_ret
              have hr := F6.out.row
              obtain ⟨a1, a2, a3, a4⟩ := F6.out.ap
              have hvl := HVS.out
              exact ⟨_, _, rfl, H6.out, E6.out, fill_row hr hvl (by omega), fun y hy => by simp [Value.ownBlock] at hy; subst hy; exact ⟨F6.out.new, lt_of_block hr, a4⟩⟩
            · rw [if_neg hdc] at hmore
              have HM := Lib.hid hmore
              have hd1 : (d == c) = false := by simpa using hdc
              clear hmore hdc
              go_wp2_with fail
              refine (frame_off H6.out).mono ?_
              rintro e w7 ⟨rfl, rfl⟩
              rw [Ho.out]
              go_wp2_with fail
              go_roundg k
              case measure => omega
              case rel => exact ⟨_, sl6, H6.out, E6.out, HFK.out, HM.out.symm⟩
theorem seq_read {w : World} {f m b : Nat} {sl : Value} {s : St} (h : FRep w f m b sl s) (pos N : Int) (hp : 0 ≤ pos ∧ pos ≤ 1000000) {l : List Int} {s' : St} (hq : seqRead pos N s = (l, s')) :
    Calls Try.prog 92 #[.pointer (some ⟨f, 0, none⟩), .int .i64 pos, .int .i64 N] w (RPost f m b sl w l s') := by
  have H := Lib.hid (seq_take h pos N hp hq)
  clear h hq
  go_enter Try.func92, Try.ntmps92
  go_wp2_with fail
  refine H.out.mono ?_
  rintro e w1 ⟨sl1, v, rfl, h1, e1, r1, g1⟩
  have R1 := Lib.hid (And.intro h1 (And.intro e1 (And.intro r1 g1)))
  clear h1 e1 r1 g1
  go_wp2_with fail
  go_ret
  exact ⟨_, _, rfl, R1.out⟩
end SeqL
end Go.Proofs.Ytkmamebaichboaa
