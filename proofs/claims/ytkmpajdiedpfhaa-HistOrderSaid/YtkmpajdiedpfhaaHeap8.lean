/- The contract of Order. No conditions but those stated. -/
import Derived.Test.YtkmpajdiedpfhaaHeap7
namespace Go.Proofs.Ytkmpajdiedpfhaa
open Go.ChangeShapes Go.WideShapes Go.ChangeAt Go.RowKit Go.Joins
set_option linter.unusedVariables false
set_option linter.unusedSimpArgs false
namespace Hist
open Same Clone
def OrderPost (w : World) (l : List EvD) (e : Ending) (w' : World) : Prop :=
  ∃ (v' : Value) (es : List (EvD × Nat)), e = .returned v' ∧ es.Pairwise klt ∧ es.Perm (notedOf l) ∧ FreshSl w.heap.size w' 44 13 (EvF w.heap.size w') v' (es.map (·.1)) ∧ Keep [] w w'
theorem events_nil' (w : World) : Calls Try.prog 21 #[.pointer none] w (EventsPost w []) := by
  refine (events_nil w).mono ?_
  rintro _ w' ⟨rfl, k⟩
  exact ⟨_, rfl, .inl ⟨rfl, none, 0, rfl, by simp [maxLen]⟩, k⟩
/-- One event more in a slice of the call's own. -/
theorem grow_ev {lo : Nat} {w w5 w7 : World} {v v' : Value} {l : List EvD} {x : EvD} {f : Nat → List Value} {news : List Value} (ho : w.ownsRow lo 44 13 v l.length (flatR f l.length))
    (hf : ∀ (i : Nat) (x : EvD), l[i]? = some x → (f i).length = 13 ∧ EvF lo w x (f i)) (k2 : Keep [] w w5) (hn : news.length = 13) (hev : EvF lo w5 x news)
    (hown : w7.ownsRow lo 44 13 v' (l.length + 1) (flatR f l.length ++ news)) (hg : w5.grownBy w7 v.ownBlock) : GrowSl lo w7 44 13 (EvF lo w7) v' (l ++ [x]) := by
  have oA := owns_move ho k2 (NoRow.nil _ _)
  have kg := grown_keep hg
  refine GrowSl.push (Rep' := EvF lo w7) (fun i y hi => ⟨(hf i y hi).1, ((hf i y hi).2.keepT k2 (NoRow.nil _ _)).keepT kg (owns_norow oA (by decide))⟩) hown hn (hev.keepT kg (owns_norow oA (by decide)))
theorem ord_grown {lo n q : Nat} {w w' : World} {v vg : Value} {f : Nat → NE} {m : Nat} {xs : List Value} (h : OrdRep lo w q v n f) (ho : w.ownsRow lo 44 13 vg m xs) (hg : w.grownBy w' vg.ownBlock) : OrdRep lo w' q v n f :=
  ⟨box_grown h.1 ho (by decide) hg, h.2.keepT (grown_keep hg) (owns_norow ho (by decide))⟩
theorem noted_field (v0 v1 v2 v3 v4 v5 v6 v7 v8 v9 v10 v11 v12 v13 : Value) (w : World) : (Instr.field 75 (.agg #[v0, v1, v2, v3, v4, v5, v6, v7, v8, v9, v10, v11, v12, v13]) 0).run Try.prog w = .ok (.agg #[v0, v1, v2, v3, v4, v5, v6, v7, v8, v9, v10, v11, v12]) w := by kernel_rfl
def ordLen (q : Nat) (w : World) : Nat := match w.cell? ⟨q, 0, none⟩ with | some (.slice _ n _) => n | _ => 0
/-- The second loop. -/
structure L2W (w : World) (q : Nat) (l : List EvD) (c : Value) (wr : World) : Prop where
  ord : ∃ v n f es, OrdRep w.heap.size wr q v n f ∧ n ≤ 100 ∧ L2 l es f n ∧ EvAll w.heap.size wr n f ∧ es.length + n ≤ 100 ∧ GrowSl w.heap.size wr 44 13 (EvF w.heap.size wr) c (es.map (·.1))
  keep : Keep [] w wr
theorem L2W.start {w wr : World} {q : Nat} {l : List EvD} {ve : Value} (h : L1 w q l ve l.length wr) (hl : l.length ≤ 100) : L2W w q l (.slice none 0 0) wr := by
  obtain ⟨⟨v, n, f, h1, h2, h3, h4, h5⟩, h6, h7⟩ := h
  rw [List.take_of_length_le (by simp)] at h4
  exact ⟨⟨v, n, f, [], h1, by omega, L2.start h3 h4, h5, by simp; omega, GrowSl.nil⟩, h7⟩
set_option maxHeartbeats 4000000 in
set_option maxRecDepth 100000 in
theorem order_ev {w : World} {p : Value} {l : List EvD} (hE : ∀ w1, Keep [] w w1 → Calls Try.prog 21 #[p] w1 (EventsPost w1 l)) (hl : l.length ≤ 100) :
    Calls Try.prog 22 #[p] w (OrderPost w l) := by
  have HE := Lib.hid (hE _ (((Keep.refl [] w).alloc (.cells #[] 75)).alloc (.cells #[.slice (some ⟨w.heap.size, 0, none⟩) 0 0] 72)))
  have KK := Lib.hid (((Keep.refl [] w).alloc (.cells #[] 75)).alloc (.cells #[.slice (some ⟨w.heap.size, 0, none⟩) 0 0] 72))
  have BX := Lib.hid (two_fst w (.cells #[] 75) (.cells #[.slice (some ⟨w.heap.size, 0, none⟩) 0 0] 72))
  have BY := Lib.hid (two_snd w (.cells #[] 75) (.cells #[.slice (some ⟨w.heap.size, 0, none⟩) 0 0] 72))
  clear hE
  obtain ⟨i0, hi0, hz0, hz1, hz2⟩ := info_parts event_info
  have qa := noted_assert
  have qf := noted_field
  go_enter Try.func22, Try.ntmps22
  go_wp2_with fail
  refine HE.out.mono ?_
  rintro _ w2 ⟨ve, rfl, hfr, k2⟩
  have K2 := Lib.hid (KK.out.trans k2)
  have HF : Hid (FreshSl w.heap.size w2 44 13 (EvF w.heap.size w2) ve l) := Lib.hid (FreshSl.lo_mono (FreshSl.keepT hfr (Keep.refl [] _) (NoRow.nil _ _) (fun _ _ _ h => EvF.lo_mono h KK.out.size)) KK.out.size)
  have L0 := Lib.hid (L1.start (q := w.heap.size + 1) (k2.to BY.out (by simp)) (k2.to BX.out (by simp)) (Nat.le_refl _) HF.out K2.out)
  obtain ⟨vo, vc, rfl, hc1, hc2⟩ := FreshSl.form HF.out
  clear hfr k2
  unfold maxLen at hc2
  generalize hnn : l.length = n at *
  have Hn := Lib.hid hnn
  clear hnn
  go_wp2_with fail
  go_loopw [12] (fun c wr => ∃ k : Nat, c = .int .i64 k ∧ k ≤ n ∧ L1 w (w.heap.size + 1) l (.slice vo n vc) k wr) (fun c _ => n - (intOf c).toNat)
  case atStart => exact ⟨0, rfl, Nat.zero_le _, L0.out⟩
  case round =>
    obtain ⟨k, rfl, hk, hL⟩ := hrel
    have HL := Lib.hid hL
    clear hL
    by_cases hkl : k < n
    · have hkl' : (k : Int) < n := by omega
      obtain ⟨x, hx⟩ := get_of Hn hkl
      have HX := Lib.hid hx
      obtain ⟨_, _, e1, _, _, h3⟩ := (FreshSl.sld HL.out.evs)
      cases e1
      obtain ⟨b, o, cs, rfl, _, _, _, hc, hev⟩ := h3 k x hx
      have HEV := Lib.hid hev
      obtain ⟨v1, v2, rfl, hs1, hs2, _⟩ := id hev
      obtain ⟨a1, c1, rfl, _⟩ := FreshSl.form hs1
      obtain ⟨a2, c2, rfl, _⟩ := FreshSl.form hs2
      clear hs1 hs2 hev hx h3
      have g0 := hc 0 _ rfl
      have g1 := hc 1 _ rfl
      have g2 := hc 2 _ rfl
      have g3 := hc 3 _ rfl
      have g4 := hc 4 _ rfl
      have g5 := hc 5 _ rfl
      have g6 := hc 6 _ rfl
      have g7 := hc 7 _ rfl
      have g8 := hc 8 _ rfl
      have g9 := hc 9 _ rfl
      have g10 := hc 10 _ rfl
      have g11 := hc 11 _ rfl
      have g12 := hc 12 _ rfl
      simp only [Nat.add_zero] at g0
      have kA := (Keep.refl [] wr).alloc (.cells #[.int .i64 x.k, .int .i64 x.step, .int .i64 x.core, .int .i64 x.thr, .int .i64 x.call.k, .int .i64 x.call.h, .int .i64 x.call.a, .int .i64 x.call.b, .slice a1 x.call.words.length c1, .int .i64 x.call.t, .int .i64 x.code, .int .i64 x.cnt, .slice a2 x.words.length c2] 44)
      have KA := Lib.hid kA
      obtain ⟨x0, x1, x2, x3, x4, x5, x6, x7, x8, x9, x10, x11, x12⟩ := cells13 (heap_alloc_new wr (.cells #[.int .i64 x.k, .int .i64 x.step, .int .i64 x.core, .int .i64 x.thr, .int .i64 x.call.k, .int .i64 x.call.h, .int .i64 x.call.a, .int .i64 x.call.b, .slice a1 x.call.words.length c1, .int .i64 x.call.t, .int .i64 x.code, .int .i64 x.cnt, .slice a2 x.words.length c2] 44))
      clear kA hc
      by_cases hkp : keepB x = true
      · have HKP := Lib.hid hkp
        have hcase : ((x.k == 1) = true) ∨ ((x.k == 1) = false ∧ (x.k == 3) = true) ∨ ((x.k == 1) = false ∧ (x.k == 3) = false ∧ (x.k == 4) = true) := by
          unfold keepB at hkp
          cases h1 : (x.k == 1) <;> cases h3 : (x.k == 3) <;> cases h4 : (x.k == 4) <;> simp_all
        clear hkp
        obtain ⟨v, nn, f, p1, p2, p3, p4, p5⟩ := HL.out.ord
        have P1 := Lib.hid p1
        have P2 := Lib.hid p2
        have P3 := Lib.hid p3
        have P4 := Lib.hid p4
        have P5 := Lib.hid p5
        clear p1 p2 p3 p4 p5
        rcases hcase with hc1 | ⟨hc1, hc2⟩ | ⟨hc1, hc2, hc3⟩
        all_goals
          go_wp2_with fail
          refine (heap_push (e := ⟨x, k, a1, c1, a2, c2⟩) (P1.out.kept KA.out) (by have := P2.out; omega) (Nat.le_trans HL.out.keep.size KA.out.size)).mono ?_
          rintro _ wB ⟨rfl, v', f', r1, r2, r3, r4, r5⟩
          have LB := Lib.hid (L1.push HX.out HKP.out rfl (by omega) P1.out P2.out P3.out P4.out P5.out HL.out.evs HL.out.keep HEV.out KA.out r1 r2 r3 r4)
          clear r1 r2 r3 r4 r5 g0 g1 g2 g3 g4 g5 g6 g7 g8 g9 g10 g11 g12 x0 x1 x2 x3 x4 x5 x6 x7 x8 x9 x10 x11 x12
          go_wp2_with fail
          go_roundw
          case rel => exact ⟨k + 1, by go_num, by omega, LB.out⟩
          case measure => simp [intOf]; omega
      · have hkf : keepB x = false := by simpa using hkp
        have HKP := Lib.hid hkf
        have hc1 : (x.k == 1) = false := by unfold keepB at hkf; simp at hkf ⊢; omega
        have hc2 : (x.k == 3) = false := by unfold keepB at hkf; simp at hkf ⊢; omega
        have hc3 : (x.k == 4) = false := by unfold keepB at hkf; simp at hkf ⊢; omega
        clear hkp hkf
        go_wp2_with fail
        go_roundw
        case rel => exact ⟨k + 1, by go_num, by omega, HL.out.skip KA.out HX.out HKP.out⟩
        case measure => simp [intOf]; omega
    · have hke : k = n := by omega
      subst hke
      have HL2 := Lib.hid (L2W.start (by rw [Hn.out]; exact HL.out) (by rw [Hn.out]; omega))
      go_wp2_with fail
      go_loopw [6] (fun c wz => L2W w (w.heap.size + 1) l c wz) (fun _ wz => ordLen (w.heap.size + 1) wz)
      case atStart => exact HL2.out
      case round =>
        obtain ⟨⟨v, nn, f, es, r1, r2, r3, r4, r5, r6⟩, r7⟩ := hrel
        have R1 := Lib.hid r1
        have R3 := Lib.hid r3
        have R4 := Lib.hid r4
        have R6 := Lib.hid r6
        have R7 := Lib.hid r7
        have c0 := cells1 r1.1
        by_cases hn0 : nn = 0
        · subst hn0
          obtain ⟨ao, cap, rfl, _⟩ := r1.2.form
          obtain ⟨ag, cg, rfl⟩ := r6.form
          clear r1 r3 r4 r6 r7
          go_wp2_with fail
          refine ord_len.mono ?_
          rintro _ _ ⟨rfl, rfl⟩
          go_wp2_with fail
          go_ret
          obtain ⟨q1, q2⟩ := L2.done R3.out
          have h6 := R6.out.fresh
          rw [List.length_map] at h6
          exact ⟨_, es, rfl, q1, q2, h6, R7.out⟩
        · obtain ⟨m, rfl⟩ : ∃ m, nn = m + 1 := ⟨nn - 1, by omega⟩
          obtain ⟨g, cap, rfl, hg, _⟩ := r1.2.row (by omega)
          have HG := Lib.hid hg
          generalize hle : es.map (·.1) = le at *
          have HLE := Lib.hid hle
          have hlen : le.length ≤ 99 := by rw [← hle, List.length_map]; omega
          have HM := Lib.hid r5
          have HM2 := Lib.hid r2
          obtain ⟨ag, cg, rfl⟩ := r6.form
          clear r1 r3 r4 r6 r7 r5 hle hg
          generalize hmm : m + 1 = mm at *
          have hpos : (0 : Int) < (mm : Int) := by omega
          go_wp2_with fail
          refine ord_len.mono ?_
          rintro _ _ ⟨rfl, rfl⟩
          go_wp2_with fail
          subst hmm
          refine (heap_pop R1.out (by have := HM2.out; omega)).mono ?_
          rintro _ wB ⟨f', rfl, s1, s2, s3, s4, s5⟩
          have NR : Hid (∀ e, 72 ≠ e → 75 ≠ e → NoRow _ [w.heap.size + 1, g] e) := Lib.hid (fun e a b => OrdRep.norow R1.out a b)
          have S1 := Lib.hid s1
          have S2 := Lib.hid s2
          have S3 := Lib.hid s3
          have S4 := Lib.hid s4
          have S5 := Lib.hid s5
          have EA := Lib.hid (EvAll.keepT R4.out s5 (NR.out _ (by decide) (by decide)))
          have GB := Lib.hid (GrowSl.keepT R6.out s5 (NR.out _ (by decide) (by decide)) (fun _ _ _ h => h.keepT s5 (NR.out _ (by decide) (by decide))))
          have E0 := Lib.hid (EA.out 0 (by omega))
          obtain ⟨fg, hgo, hgf⟩ := GB.out
          have HGO := Lib.hid hgo
          have HGF := Lib.hid hgf
          rw [NE.cells_eq]
          have HL2 := Lib.hid (L2.pop R3.out s2 s3 s4)
          generalize f 0 = e0 at *
          clear s1 s2 s3 s4 s5 hgo hgf c0
          unfold NE.v1 NE.v2 at *
          have H1 := Lib.hid (one_ev (x := e0.x) (v1 := .slice e0.p1 e0.x.call.words.length e0.k1) (v2 := .slice e0.p2 e0.x.words.length e0.k2))
          have KAL : Hid (Keep [] wB (wB.alloc (.cells #[.int .i64 e0.x.k, .int .i64 e0.x.step, .int .i64 e0.x.core, .int .i64 e0.x.thr, .int .i64 e0.x.call.k, .int .i64 e0.x.call.h, .int .i64 e0.x.call.a, .int .i64 e0.x.call.b, .slice e0.p1 e0.x.call.words.length e0.k1, .int .i64 e0.x.call.t, .int .i64 e0.x.code, .int .i64 e0.x.cnt, .slice e0.p2 e0.x.words.length e0.k2] 44))) := Lib.hid ((Keep.refl [] wB).alloc _)
          have hsz : w.heap.size ≤ (wB.alloc (.cells #[.int .i64 e0.x.k, .int .i64 e0.x.step, .int .i64 e0.x.core, .int .i64 e0.x.thr, .int .i64 e0.x.call.k, .int .i64 e0.x.call.h, .int .i64 e0.x.call.a, .int .i64 e0.x.call.b, .slice e0.p1 e0.x.call.words.length e0.k1, .int .i64 e0.x.call.t, .int .i64 e0.x.code, .int .i64 e0.x.cnt, .slice e0.p2 e0.x.words.length e0.k2] 44)).heap.size := Nat.le_trans R7.out.size (Nat.le_trans S5.out.size KAL.out.size)
          go_wp2_with (at_builtin; refine wpList_append_lies _ rfl _ _ 35 rfl w.heap.size 44 i0 _ 13 136 Try.underlying35 hi0 hz0 hz1 hz2 rfl (by omega) (.slice ag le.length cg) le.length (flatR fg le.length) rfl (owns_move HGO.out KAL.out (NoRow.nil _ _)) _ 1 1 [.int .i64 e0.x.k, .int .i64 e0.x.step, .int .i64 e0.x.core, .int .i64 e0.x.thr, .int .i64 e0.x.call.k, .int .i64 e0.x.call.h, .int .i64 e0.x.call.a, .int .i64 e0.x.call.b, .slice e0.p1 e0.x.call.words.length e0.k1, .int .i64 e0.x.call.t, .int .i64 e0.x.code, .int .i64 e0.x.cnt, .slice e0.p2 e0.x.words.length e0.k2] rfl rfl (World.news_of_block (al1 wB _)) H1.out (by omega) (by unfold maxLen; omega) (by omega) hsz _ rfl ?_; intro gg cap7 w7 hown hgrow hat hlt; have HOW := Lib.hid hown; have HGR := Lib.hid hgrow; clear hown hgrow hat hlt)
          have O7 := Lib.hid (ord_grown (S1.out.kept KAL.out) (owns_move HGO.out KAL.out (NoRow.nil _ _)) HGR.out)
          have KG := Lib.hid (grown_keep HGR.out)
          have NG := owns_norow (e' := 2) (owns_move HGO.out KAL.out (NoRow.nil _ _)) (by decide)
          go_roundw
          case rel =>
            refine ⟨⟨_, m, f', es ++ [e0.pr], O7.out, by have := HM2.out; omega, HL2.out, ?_, by have := HM.out; simp; omega, ?_⟩, ?_⟩
            · intro i hi
              have h := S3.out.all (P := fun e => EvF w.heap.size wB e.x (evCells e.x e.v1 e.v2)) EA.out i (by omega)
              exact (h.keepT KAL.out (NoRow.nil _ _)).keepT KG.out NG
            · rw [List.map_append, HLE.out]
              exact grow_ev HGO.out HGF.out KAL.out rfl (E0.out.keepT KAL.out (NoRow.nil _ _)) HOW.out HGR.out
            · refine ((R7.out.transS S5.out (T := []) (by simp) (fun y hy hlt => ?_)).trans KAL.out).transS KG.out (T := []) (by simp) (fun y hy hlt => ?_)
              · have := HG.out
                simp at hy
                omega
              · rcases HGO.out.2 with ⟨h1, _⟩ | ⟨g', cap', cur, h1, hb, _⟩
                · rw [h1] at hy; simp [Value.ownBlock] at hy
                · rw [h1] at hy; simp [Value.ownBlock] at hy; omega
          case measure =>
            have c1 := cells1 R1.out.1
            have c7 := cells1 O7.out.1
            simp only [ordLen, c1, c7]
            omega
end Hist
end Go.Proofs.Ytkmpajdiedpfhaa
