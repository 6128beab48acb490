/- Law 2: FrameAgain: the walk. No conditions but those stated. -/
import Derived.Test.YtkmamebaichboaaFrameAgain1
import Derived.Test.YtkmamebaichboaaFrameOver
namespace Go.Proofs.Ytkmamebaichboaa
open Go.ChangeShapes Go.WideShapes Go.ChangeAt Go.RowKit
set_option linter.unusedVariables false
set_option linter.unusedSimpArgs false
namespace Law02
open Prog
theorem infoIns : (Try.prog.info? 34).map (fun i => (i.zero, i.size, i.bytes)) = some (some (.agg #[.int .u8 0, .int .i64 0, .int .i64 0, .int .i64 0, .bool false, .bool false, .bool false]), 7, 40) := by kernel_rfl
theorem flatIns_append (l m : List Ins) : flatIns (l ++ m) = flatIns l ++ flatIns m := by
  induction l with
  | nil => rfl
  | cons x l ih => simp [flatIns, ih]
theorem flatIns_length (l : List Ins) : (flatIns l).length = l.length * 7 := by
  induction l with
  | nil => rfl
  | cons x l ih => simp [flatIns, ih]; omega
theorem LG_succ (n : Nat) : LG (n + 1) = LG n ++ [A2] := by simp [LG, List.replicate_succ']
theorem LG_length (n : Nat) : (LG n).length = n + 1 := by simp [LG]
/-- Another turned a word. -/
theorem Live.turn {x f m b : Nat} {ao : Option Addr} {cap : Nat} {l : List Ins} {wS w w' : World} {q : Pr × St} {lm : List Int} (h : Live x f m b ao cap l wS q w) (k : Keep [b] w w') (hm : MemRep 134 w' m b lm) : Live x f m b ao cap l wS (q.1, { q.2 with mem := lm }) w' := by
  obtain ⟨sl, o, h1, h2, h3, h4, h5, h6⟩ := h
  have hne := h1.ne
  refine ⟨sl, o, h1.withMem k (by simpa using hne.2.1) (fun y hy hin => ?_) hm, pStays x ao cap l _ _ _ _ _ h2 k (by simpa using h4.xb) (not_one h4.ob) (fun j hj => by simpa using (h6 j hj).2.2.1), h3.trans ⟨k.mono (by simp), fun j hj => .inl hj⟩, h4, fun j hj => k.lt (h5 j hj), RoOK.mono h6 k.size⟩
  have := (hne.2.2.2 y hy).2.2.1
  simp at hin
  exact this hin
theorem own_first {w : World} {g : Nat} (h : w.heap[g]? = some (.cells #[.int .u8 0, .int .i64 0, .int .i64 0, .int .i64 0, .bool false, .bool false, .bool false] 34 (0, 0))) : w.ownsRow 0 34 7 (.slice (some ⟨g, 0, none⟩) 1 1) 1 (flatIns (LG 0)) :=
  ⟨rfl, .inr ⟨g, 1, _, rfl, Nat.zero_le _, h, Nat.le_refl _, by decide, rfl, rfl⟩⟩
set_option maxHeartbeats 2000000 in
set_option maxRecDepth 100000 in
theorem frameAgain_walk (v u steps : Int) (hv : -9223372036854775808 ≤ v ∧ v ≤ 9223372036854775807) (hu : -9223372036854775808 ≤ u ∧ u ≤ 9223372036854775807) (hs : 0 ≤ steps ∧ steps ≤ 255) (w : World) :
    Calls Try.prog 4 #[.int .i64 v, .int .i64 u, .int .u8 steps] w fun e w' => e = .returned (.bool true) ∧ Keep [] w w' := by
  obtain ⟨i0, hi0, hz0, hz1, hz2⟩ := info_parts infoIns
  go_enter Try.func4, Try.ntmps4
  go_wp2_with fail
  refine (awake02 _).mono ?_
  rintro e w0 ⟨rfl, hk0⟩
  have K0 := Lib.hid hk0
  have hz := hk0.size
  clear hk0
  go_wp2_with fail
  refine (word_new 3 _ (by omega)).mono ?_
  rintro e w1 ⟨rfl, hm1, hk1, hs1⟩
  have hr : (List.replicate (min (max (3 : Int) 0) 4000).toNat (0 : Int)) = [0, 0, 0] := by decide
  rw [hr] at hm1
  have M1 := Lib.hid hm1
  have K1 := Lib.hid (K0.out.trans hk1)
  clear hm1 hk1 hr K0 hs1
  go_wp2_with fail
  refine (word_store M1.out 0 v).mono ?_
  rintro e w2 ⟨rfl, hm2, hk2⟩
  rw [show wordPut [0, 0, 0] 0 v = [v, 0, 0] from rfl] at hm2
  have M2 := Lib.hid (hm2.keep ((Keep.refl [] w2).alloc (.cells #[.int .u8 0, .int .i64 0, .int .i64 0, .int .i64 0, .bool false, .bool false, .bool false] 34)) (by simp) (by simp))
  have O2 := Lib.hid (own_first (one_new w2 (.cells #[.int .u8 0, .int .i64 0, .int .i64 0, .int .i64 0, .bool false, .bool false, .bool false] 34)))
  have K2 := Lib.hid ((K1.out.transS hk2 (T := []) (by simp) (by simp; omega)).alloc (.cells #[.int .u8 0, .int .i64 0, .int .i64 0, .int .i64 0, .bool false, .bool false, .bool false] 34))
  have hw2 : w.heap.size ≤ w2.heap.size := (K1.out.transS hk2 (T := []) (by simp) (by simp; omega)).size
  clear hm2 hk2 M1 K1
  go_wp2_with fail
  have hnb : 0 ≤ steps % 20 ∧ steps % 20 ≤ 19 := by omega
  obtain ⟨n, hn⟩ : ∃ n : Nat, steps % 20 = n := ⟨(steps % 20).toNat, by omega⟩
  rw [hn] at hnb
  have Hn := Lib.hid hn
  rw [hn]
  clear hn
  generalize w2.alloc (.cells #[.int .u8 0, .int .i64 0, .int .i64 0, .int .i64 0, .bool false, .bool false, .bool false] 34) = w3 at M2 O2 K2 ⊢
  generalize w2.heap.size = g0 at *
  go_loopw [9, 27] (fun a c wr => ∃ t : Nat, c = .int .i64 t ∧ t ≤ n ∧ ∃ gg cap, a = .slice (some ⟨gg, 0, none⟩) (t + 1) cap ∧ wr.ownsRow 0 34 7 (.slice (some ⟨gg, 0, none⟩) (t + 1) cap) (t + 1) (flatIns (LG t)) ∧ w.heap.size ≤ gg ∧ MemRep 134 wr (w0.heap.size + 1) w0.heap.size [v, 0, 0] ∧ Keep [] w wr)
    (fun _ c _ => n - (intOf c).toNat)
  case atStart => exact ⟨0, rfl, by omega, g0, 1, rfl, O2.out, hw2, M2.out, K2.out⟩
  case round =>
    obtain ⟨t, rfl, htn, gg, cap, rfl, hown, hgg, hm, hk⟩ := hrel
    have HM := Lib.hid hm; have HK := Lib.hid hk; have HO := Lib.hid hown
    clear hm hk hown
    by_cases hlt : t < n
    · have hlt' : (t : Int) < n := by omega
      have hown := HO.out.alloc (.cells #[.int .u8 2, .int .i64 2, .int .i64 1, .int .i64 0, .bool false, .bool false, .bool false] 34)
      go_wp2_with (at_builtin; refine wpList_append_lies _ rfl _ _ _ rfl 0 34 i0 _ 7 40 Try.underlying35 hi0 hz0 hz1 hz2 rfl (by omega) (.slice (some ⟨gg, 0, none⟩) (t + 1) cap) (t + 1) (flatIns (LG t)) rfl hown ⟨wr.heap.size, 0, none⟩ 1 1 (flatIns [A2]) rfl rfl (World.news_of_block (cs := #[.int .u8 2, .int .i64 2, .int .i64 1, .int .i64 0, .bool false, .bool false, .bool false]) (t := 34) (fr := (0, 0)) (heap_alloc_new wr _)) (by simp [flatIns, Value.oneCell']) (by omega) (by unfold maxLen; omega) (by omega) (by simp) (wr.heap.size + 1) (by simp) ?_; intro gg2 cap2 w5 hown2 hgrow hat hlt5)
      have hne : w0.heap.size + 1 ≠ gg ∧ w0.heap.size ≠ gg := by
        rcases HO.out.2 with ⟨hq, _⟩ | ⟨g9, cap9, cur9, hq, _, hg9, _⟩
        · cases hq
        · simp only [Value.slice.injEq, Option.some.injEq, Addr.mk.injEq] at hq
          obtain ⟨⟨rfl, _⟩, _⟩ := hq
          have := two_ne HM.out hg9 (by decide) (by decide)
          exact ⟨this.1.symm, this.2.symm⟩
      have hM5 : MemRep 134 w5 (w0.heap.size + 1) w0.heap.size [v, 0, 0] := HM.out.keep (((Keep.refl [gg] wr).alloc _).of_grown hgrow (fun k hk => .inr (by simpa [Value.ownBlock, eq_comm] using hk))) (by simpa using hne.1) (by simpa using hne.2)
      have hK5 : Keep [] w w5 := (HK.out.alloc _).of_grown hgrow (fun k hk => .inl (by simp [Value.ownBlock] at hk; omega))
      have hg5 : w.heap.size ≤ gg2 := by
        rcases hat with q | q
        · simp [Value.ownBlock] at q; omega
        · have := HK.out.size; omega
      refine ⟨⟨t + 1, by go_num, by omega, gg2, cap2, rfl, ?_, hg5, hM5, hK5⟩, by simp [intOf]; omega⟩
      have e : flatIns (LG (t + 1)) = flatIns (LG t) ++ flatIns [A2] := by rw [LG_succ, flatIns_append]
      rw [e]
      exact hown2
    · have htn' : t = n := by omega
      subst htn'
      have hfull : ∃ cur, wr.heap[gg]? = some (.cells cur 34 (0, 0)) ∧ t + 1 ≤ cap ∧ cap ≤ maxLen ∧ cur.toList.take ((t + 1) * 7) = flatIns (LG t) := by
        rcases HO.out.2 with ⟨hq, _⟩ | ⟨g9, cap9, cur9, hq, _, hg9, hc1, hc2, _, ht9⟩
        · cases hq
        · simp only [Value.slice.injEq, Option.some.injEq, Addr.mk.injEq] at hq
          obtain ⟨⟨rfl, _⟩, _, rfl⟩ := hq
          exact ⟨cur9, hg9, hc1, hc2, ht9⟩
      obtain ⟨cur, hgc, hc1, hc2, htk⟩ := hfull
      have NG := Lib.hid (two_ne HM.out hgc (by decide) (by decide))
      have KA : Hid (Keep [] wr (wr.alloc (.cells #[.slice (some ⟨gg, 0, none⟩) (t + 1) cap, .slice none 0 0, .int .i64 0] 39))) := Lib.hid ((Keep.refl [] wr).alloc _)
      have G4 := Lib.hid (KA.out.to hgc (by simp))
      have X4 := Lib.hid (one_new wr (.cells #[.slice (some ⟨gg, 0, none⟩) (t + 1) cap, .slice none 0 0, .int .i64 0] 39))
      have M4 := Lib.hid (HM.out.keep KA.out (by simp) (by simp))
      have K4 := Lib.hid (HK.out.trans KA.out)
      have hggl := lt_of_block hgc
      have hwr := HK.out.size
      have hbl := lt_of_block HM.out.body
      have hml := lt_of_block HM.out.head
      have HTk := Lib.hid htk
      clear htk hgc HM HO HK M2 O2
      go_wp2_with fail
      generalize wr.alloc (.cells #[.slice (some ⟨gg, 0, none⟩) (t + 1) cap, .slice none 0 0, .int .i64 0] 39) = w4 at G4 X4 M4 K4 ⊢
      generalize hxe : wr.heap.size = x at *
      clear hxe KA
      have LL := Lib.hid (LG_length t)
      have P4 : Hid (PRep x (some ⟨gg, 0, none⟩) cap (LG t) ⟨[], 0⟩ [] w4) := Lib.hid (prep_new (l := LG t) (cap := cap) G4.out (by rw [LL.out]; exact HTk.out) (by rw [LL.out]; exact hc1) hc2 (by rw [LL.out]; omega) (by rw [LL.out]; exact X4.out) (by omega))
      refine (frame_new M4.out).mono ?_
      rintro e w5 ⟨rfl, hf5, hk5, hs5⟩
      have hgx := lt_of_block G4.out
      have hxx := lt_of_block X4.out
      have L5 : Hid (Live x w4.heap.size (w0.heap.size + 1) w0.heap.size (some ⟨gg, 0, none⟩) cap (LG t) w4 (⟨[], 0⟩, St.new [v, 0, 0]) w5) :=
        Lib.hid (live_new P4.out hf5 hk5 ⟨hxx, by omega, by omega⟩ (fun j hj => by simp [roOf] at hj; subst hj; exact ⟨hgx, NG.out.2⟩))
      have hfw : w.heap.size ≤ w4.heap.size := K4.out.size
      clear hf5 hk5 hs5
      generalize w4.heap.size = f at *
      obtain ⟨q0, hq0⟩ : ∃ q0, stepP (pB (LG t)) 0 (⟨[], 0⟩, St.new [v, 0, 0]) = q0 := ⟨_, rfl⟩
      have N0 := Lib.hid (hq0 ▸ again_first t v)
      have S0 : Hid (stepP (pB (LG t)) 0 (⟨[], 0⟩, St.new [v, 0, 0]) = (q0.1, q0.2)) := Lib.hid hq0
      clear hq0
      go_wp2_with fail
      refine (live_step L5.out 0 S0.out (by show 0 ≤ 900000; omega)).mono ?_
      rintro e w6 ⟨rfl, hl6⟩
      have L6 := Lib.hid hl6
      clear hl6
      go_wp2_with fail
      go_loopw [44] (fun c wz => ∃ k : Nat, c = .int .i64 k ∧ k ≤ t ∧ ∃ q m0, Now t v m0 k q ∧ Live x f (w0.heap.size + 1) w0.heap.size (some ⟨gg, 0, none⟩) cap (LG t) w4 q wz) (fun c _ => t - (intOf c).toNat)
      case atStart => exact ⟨0, rfl, by omega, q0, v, N0.out, L6.out⟩
      case round =>
        obtain ⟨k, rfl, hkt, q, m0, hN, hL⟩ := hrel
        have HN := Lib.hid hN; have HL := Lib.hid hL
        obtain ⟨slF, hF⟩ := hL.frame
        have HF := Lib.hid hF
        have HMem : Hid (MemRep 134 wr (w0.heap.size + 1) w0.heap.size [m0, 0, (k : Int)]) := Lib.hid (hN.mem ▸ hF.mem)
        clear hN hL hF N0 L6 S0 L5 P4 X4 M4 G4
        by_cases hkk : k < t
        · have hkk' : (k : Int) < t := by omega
          go_wp2_with fail
          refine (word_store HMem.out 0 u).mono ?_
          rintro e w7 ⟨rfl, hm7, hk7⟩
          rw [show wordPut [m0, 0, (k : Int)] 0 u = [u, 0, (k : Int)] from rfl] at hm7
          have L7 := Lib.hid (HL.out.turn hk7 hm7)
          clear hm7 hk7
          obtain ⟨q', hq'⟩ : ∃ q', stepP (pB (LG t)) ((k : Int) + 1) (q.1, { q.2 with mem := [u, 0, (k : Int)] }) = q' := ⟨_, rfl⟩
          have N7 := Lib.hid (hq' ▸ again_next t (by omega) v m0 u k hkk q HN.out ((k : Int) + 1))
          have S7 : Hid (stepP (pB (LG t)) ((k : Int) + 1) (q.1, { q.2 with mem := [u, 0, (k : Int)] }) = (q'.1, q'.2)) := Lib.hid hq'
          clear hq'
          go_wp2_with fail
          refine (live_step L7.out ((k : Int) + 1) S7.out (by show q.2.log.length ≤ 900000; rw [HN.out.len]; omega)).mono ?_
          rintro e w8 ⟨rfl, hl8⟩
          have L8 := Lib.hid hl8
          clear hl8
          go_wp2_with fail
          go_roundw
          case measure => simp [intOf]; omega
          case rel => exact ⟨k + 1, by go_num, by omega, q', u, N7.out, L8.out⟩
        · have hkt' : k = t := by omega
          subst hkt'
          have hfin := HN.out.fin rfl
          have Ho := Lib.hid hfin.1
          have Hg := Lib.hid hfin.2
          have Hl : Hid ((q.2.log.length : Int) = k + 1) := Lib.hid (by rw [HN.out.len]; simp)
          obtain ⟨sl9, o9, g1, ⟨slG, p1, p2, p3, p4⟩, g3⟩ := HL.out
          rw [hfin.2] at p2
          have hGlen : (v :: up k).length = k + 1 := by simp [up_len]
          rw [hGlen] at p2
          obtain ⟨gq, capq, hslG, _, _⟩ := p2.form (by omega)
          have hcellv : wr.cell? ⟨gq, 0, none⟩ = some (.int .i64 v) := by
            rcases p2.2 with ⟨hq, _⟩ | ⟨g9, cap9, cur9, hq, _, hg9, _, _, _, ht9⟩
            · rw [hslG] at hq; cases hq
            · rw [hslG] at hq
              simp only [Value.slice.injEq, Option.some.injEq, Addr.mk.injEq] at hq
              obtain ⟨⟨rfl, _⟩, _⟩ := hq
              exact OwnRow.cell (xs := (v :: up k).map (Value.int .i64)) ⟨cur9, hg9, by rw [List.length_map, hGlen]; simpa using ht9⟩ 0 _ rfl
          have hcellx : wr.cell? ⟨x, 1, none⟩ = some (.slice (some ⟨gq, 0, none⟩) (k + 1) capq) := by
            have := cell_of (i := 1) (v := slG) p1 rfl
            rw [this, hslG]
          have HKf : Hid (Keep [] w wr) := Lib.hid (HL.out.keeps K4.out (by omega) (by omega) (by omega))
          clear g1 p1 p2 p3 p4 g3 hslG hfin
          go_wp2_with fail
          refine (word_load HMem.out 2).mono ?_
          rintro e w' ⟨rfl, rfl⟩
          rw [show wordGet [m0, 0, (k : Int)] 2 = k from rfl]
          go_wp2_with fail
          refine (frame_done HF.out).mono ?_
          rintro e w' ⟨rfl, rfl⟩
          rw [Ho.out]
          go_wp2_with fail
          refine (frame_steps HF.out).mono ?_
          rintro e w' ⟨rfl, rfl⟩
          rw [Hl.out]
          go_wp2_with fail
          go_ret
          exact ⟨by first | rfl | (simp; done), HKf.out⟩
end Law02
end Go.Proofs.Ytkmamebaichboaa
