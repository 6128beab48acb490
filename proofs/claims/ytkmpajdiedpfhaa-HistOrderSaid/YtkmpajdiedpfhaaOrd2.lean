/- The law HistOrder walked. No conditions but those stated. -/
import Derived.Test.YtkmpajdiedpfhaaOrd5
import Derived.Deep.RegionHeld3
namespace Go.Proofs.Ytkmpajdiedpfhaa
open Go.ChangeShapes Go.WideShapes Go.ChangeAt Go.RowKit Go.Joins
set_option linter.unusedVariables false
set_option linter.unusedSimpArgs false
namespace Hist
open Same Clone
/-- The first loop of the law: the history, and what is wanted of it. -/
structure OrdAt (w0 : World) (lo hb : Nat) (l : List EvD) (k : Nat) (vh vw : Value) (ws : List (EvD × Nat)) (wr : World) : Prop where
  hist : HRep lo wr hb vh (l.take k)
  want : Want l k ws
  row : GrowSl lo wr 44 13 (EvRep All w0) vw (ws.map (·.1))
  apart : ∀ g, vh.ownBlock = some g → vw.ownBlock ≠ some g
  keep : Keep [] w0 wr
theorem grow_apart {lo e size : Nat} {α : Type} {w w' : World} {S : List Nat} {Rep : α → List Value → Prop} {v : Value} {l : List α} (h : GrowSl lo w e size Rep v l) (k : Keep S w w') (hS : ∀ g, v.ownBlock = some g → g ∉ S) : GrowSl lo w' e size Rep v l := by
  obtain ⟨f, ho, hf⟩ := h
  refine ⟨f, ⟨ho.1, ?_⟩, hf⟩
  rcases ho.2 with h2 | ⟨g, cap, cur, rfl, hb, hh, h3⟩
  · exact .inl h2
  · exact .inr ⟨g, cap, cur, rfl, hb, k.to hh (hS g rfl), h3⟩
theorem grow_lt {lo e size : Nat} {α : Type} {w : World} {Rep : α → List Value → Prop} {v : Value} {l : List α} (h : GrowSl lo w e size Rep v l) : ∀ g, v.ownBlock = some g → lo ≤ g ∧ g < w.heap.size := by
  obtain ⟨f, ho, hf⟩ := h
  intro g hg
  rcases ho.2 with ⟨rfl, _⟩ | ⟨g', cap, cur, rfl, hb, hh, h3⟩
  · simp [Value.ownBlock] at hg
  · simp [Value.ownBlock] at hg
    subst hg
    exact ⟨hb, lt_of_block hh⟩
/-- An event more in the history. -/
theorem OrdAt.add {w0 wr w4 : World} {lo hb k : Nat} {l : List EvD} {vh vh' vw : Value} {ws : List (EvD × Nat)} {x : EvD} (h : OrdAt w0 lo hb l k vh vw ws wr) (hx : l[k]? = some x) (hlo : w0.heap.size ≤ hb) (hlb : hb < lo) (h4 : HRep lo w4 hb vh' (l.take k ++ [x])) (k4 : Keep (hb :: vh.ownBlock.toList) wr w4) (hg : ∀ g, vh'.ownBlock = some g → vh.ownBlock = some g ∨ wr.heap.size ≤ g) :
    HRep lo w4 hb vh' (l.take (k + 1)) ∧ GrowSl lo w4 44 13 (EvRep All w0) vw (ws.map (·.1)) ∧ (∀ g, vh'.ownBlock = some g → vw.ownBlock ≠ some g) ∧ Keep [] w0 w4 := by
  have hgl := grow_lt h.row
  have hhl := grow_lt h.hist.2
  refine ⟨?_, ?_, ?_, ?_⟩
  · rw [List.take_add_one, hx]; exact h4
  · refine grow_apart h.row k4 (fun g hg' hm => ?_)
    have := hgl g hg'
    simp at hm
    rcases hm with rfl | hm
    · omega
    · exact h.apart g hm hg'
  · intro g hg' he
    rcases hg g hg' with h1 | h1
    · exact h.apart g h1 he
    · have := (hgl g he).2; omega
  · refine h.keep.transS k4 (T := []) (by simp) (fun y hy hlt => ?_)
    simp at hy
    rcases hy with rfl | hy
    · omega
    · have := (hhl y hy).1; omega
theorem keep26 {w w' : World} {bA oA bB oB : Nat} {u0 t0 u1 t1 u2 t2 u3 t3 u4 t4 u5 t5 u6 t6 u7 t7 u8 t8 u9 t9 u10 t10 u11 t11 u12 t12 : Value} (k : Keep [] w w') (h : (w.cell? ⟨bA, oA, none⟩ = some u0 ∧ w.cell? ⟨bA, oA + 1, none⟩ = some u1 ∧ w.cell? ⟨bA, oA + 2, none⟩ = some u2 ∧ w.cell? ⟨bA, oA + 3, none⟩ = some u3 ∧ w.cell? ⟨bA, oA + 4, none⟩ = some u4 ∧ w.cell? ⟨bA, oA + 5, none⟩ = some u5 ∧ w.cell? ⟨bA, oA + 6, none⟩ = some u6 ∧ w.cell? ⟨bA, oA + 7, none⟩ = some u7 ∧ w.cell? ⟨bA, oA + 8, none⟩ = some u8 ∧ w.cell? ⟨bA, oA + 9, none⟩ = some u9 ∧ w.cell? ⟨bA, oA + 10, none⟩ = some u10 ∧ w.cell? ⟨bA, oA + 11, none⟩ = some u11 ∧ w.cell? ⟨bA, oA + 12, none⟩ = some u12) ∧ (w.cell? ⟨bB, oB, none⟩ = some t0 ∧ w.cell? ⟨bB, oB + 1, none⟩ = some t1 ∧ w.cell? ⟨bB, oB + 2, none⟩ = some t2 ∧ w.cell? ⟨bB, oB + 3, none⟩ = some t3 ∧ w.cell? ⟨bB, oB + 4, none⟩ = some t4 ∧ w.cell? ⟨bB, oB + 5, none⟩ = some t5 ∧ w.cell? ⟨bB, oB + 6, none⟩ = some t6 ∧ w.cell? ⟨bB, oB + 7, none⟩ = some t7 ∧ w.cell? ⟨bB, oB + 8, none⟩ = some t8 ∧ w.cell? ⟨bB, oB + 9, none⟩ = some t9 ∧ w.cell? ⟨bB, oB + 10, none⟩ = some t10 ∧ w.cell? ⟨bB, oB + 11, none⟩ = some t11 ∧ w.cell? ⟨bB, oB + 12, none⟩ = some t12)) : (w'.cell? ⟨bA, oA, none⟩ = some u0 ∧ w'.cell? ⟨bA, oA + 1, none⟩ = some u1 ∧ w'.cell? ⟨bA, oA + 2, none⟩ = some u2 ∧ w'.cell? ⟨bA, oA + 3, none⟩ = some u3 ∧ w'.cell? ⟨bA, oA + 4, none⟩ = some u4 ∧ w'.cell? ⟨bA, oA + 5, none⟩ = some u5 ∧ w'.cell? ⟨bA, oA + 6, none⟩ = some u6 ∧ w'.cell? ⟨bA, oA + 7, none⟩ = some u7 ∧ w'.cell? ⟨bA, oA + 8, none⟩ = some u8 ∧ w'.cell? ⟨bA, oA + 9, none⟩ = some u9 ∧ w'.cell? ⟨bA, oA + 10, none⟩ = some u10 ∧ w'.cell? ⟨bA, oA + 11, none⟩ = some u11 ∧ w'.cell? ⟨bA, oA + 12, none⟩ = some u12) ∧ (w'.cell? ⟨bB, oB, none⟩ = some t0 ∧ w'.cell? ⟨bB, oB + 1, none⟩ = some t1 ∧ w'.cell? ⟨bB, oB + 2, none⟩ = some t2 ∧ w'.cell? ⟨bB, oB + 3, none⟩ = some t3 ∧ w'.cell? ⟨bB, oB + 4, none⟩ = some t4 ∧ w'.cell? ⟨bB, oB + 5, none⟩ = some t5 ∧ w'.cell? ⟨bB, oB + 6, none⟩ = some t6 ∧ w'.cell? ⟨bB, oB + 7, none⟩ = some t7 ∧ w'.cell? ⟨bB, oB + 8, none⟩ = some t8 ∧ w'.cell? ⟨bB, oB + 9, none⟩ = some t9 ∧ w'.cell? ⟨bB, oB + 10, none⟩ = some t10 ∧ w'.cell? ⟨bB, oB + 11, none⟩ = some t11 ∧ w'.cell? ⟨bB, oB + 12, none⟩ = some t12) := by
  obtain ⟨⟨g0, g1, g2, g3, g4, g5, g6, g7, g8, g9, g10, g11, g12⟩, ⟨m0, m1, m2, m3, m4, m5, m6, m7, m8, m9, m10, m11, m12⟩⟩ := h
  exact ⟨⟨cell_keep k g0 (by simp), cell_keep k g1 (by simp), cell_keep k g2 (by simp), cell_keep k g3 (by simp), cell_keep k g4 (by simp), cell_keep k g5 (by simp), cell_keep k g6 (by simp), cell_keep k g7 (by simp), cell_keep k g8 (by simp), cell_keep k g9 (by simp), cell_keep k g10 (by simp), cell_keep k g11 (by simp), cell_keep k g12 (by simp)⟩, ⟨cell_keep k m0 (by simp), cell_keep k m1 (by simp), cell_keep k m2 (by simp), cell_keep k m3 (by simp), cell_keep k m4 (by simp), cell_keep k m5 (by simp), cell_keep k m6 (by simp), cell_keep k m7 (by simp), cell_keep k m8 (by simp), cell_keep k m9 (by simp), cell_keep k m10 (by simp), cell_keep k m11 (by simp), cell_keep k m12 (by simp)⟩⟩
set_option maxHeartbeats 16000000 in
set_option maxRecDepth 100000 in
theorem histOrder_walk {w : World} {v : Value} {l : List EvD} (h : SlD All w 13 (EvRep All w) v l) :
    Calls Try.prog 6 #[v] w fun e w' => e = .returned (.bool true) ∧ Keep [] w w' := by
  have HL := Lib.hid h
  obtain ⟨ao, cap, rfl⟩ := h.form
  clear h
  go_enter Try.func6, Try.ntmps6
  go_wp2_with fail
  refine (awake26 _).mono ?_
  rintro _ w1 ⟨rfl, k1⟩
  have K1 := Lib.hid k1
  have L1 := Lib.hid (HL.out.keep (B' := All) (Rep' := EvRep All w1) k1.size (fun b _ hl => k1.block b hl (by simp)) (fun _ h => h) (fun _ _ _ h => h.kept k1))
  clear k1
  go_wp2_with fail
  refine (few_ev L1.out).mono ?_
  rintro _ w2 ⟨r, rfl, hfew, k2⟩
  have K2 := Lib.hid (K1.out.trans k2)
  have L2 := Lib.hid (L1.out.keep (B' := All) (Rep' := EvRep All w2) k2.size (fun b _ hl => k2.block b hl (by simp)) (fun _ h => h) (fun _ _ _ h => h.kept k2))
  clear k2
  cases r
  · go_wp2_with fail
    refine (awake26 _).mono ?_
    rintro _ w3 ⟨rfl, k3⟩
    have K3 := Lib.hid (K2.out.trans k3)
    clear k3
    go_wp2_with fail
    go_ret
    exact ⟨rfl, K3.out⟩
  · obtain ⟨hl100, hsm⟩ := hfew rfl
    have HSM := Lib.hid hsm
    have hn100 := Lib.hid hl100
    clear hfew hsm
    generalize hnn : l.length = n at *
    have Hn := Lib.hid hnn
    clear hnn
    have O0 : Hid (OrdAt w2 (w2.heap.size + 1) w2.heap.size l 0 (.slice none 0 0) (.slice none 0 0) [] (w2.alloc (.cells #[.slice none 0 0] 38))) := Lib.hid ⟨⟨heap_alloc_new w2 _, GrowSl.nil⟩, Want.start l, GrowSl.nil, by simp [Value.ownBlock], (Keep.refl [] w2).alloc _⟩
    have hz3 : w2.heap.size + 1 ≤ (w2.alloc (.cells #[.slice none 0 0] 38)).heap.size := by simp
    go_wp2_with fail
    go_loopw [4, 21] (fun a c wr => ∃ k : Nat, c = .int .i64 k ∧ k ≤ n ∧ w2.heap.size + 1 ≤ wr.heap.size ∧ ∃ vh ws, OrdAt w2 (w2.heap.size + 1) w2.heap.size l k vh a ws wr) (fun _ c _ => n - (intOf c).toNat)
    case atStart => exact ⟨0, rfl, Nat.zero_le _, hz3, _, _, O0.out⟩
    case round =>
      obtain ⟨k, rfl, hk, hz, vh, ws, ho⟩ := hrel
      have HO := Lib.hid ho
      obtain ⟨aw, cw, rfl⟩ := ho.row.form
      rw [List.length_map]
      clear ho
      by_cases hkl : k < n
      · have hkl' : (k : Int) < n := by omega
        obtain ⟨x, hx⟩ := get_of Hn hkl
        have HX := Lib.hid hx
        obtain ⟨_, _, he1, _, _, h3⟩ := L2.out
        cases he1
        obtain ⟨b, o, cs, rfl, _, _, _, hc, hev⟩ := h3 k x hx
        obtain ⟨v1, v2, rfl, hs1, hs2, _⟩ := id hev
        obtain ⟨a1, c1, rfl⟩ := hs1.form
        obtain ⟨a2, c2, rfl⟩ := hs2.form
        have HEV := Lib.hid hev
        clear hs1 hs2 hev hx h3
        have g0 := cell_keep HO.out.keep (hc 0 _ rfl) (by simp)
        have g1 := cell_keep HO.out.keep (hc 1 _ rfl) (by simp)
        have g2 := cell_keep HO.out.keep (hc 2 _ rfl) (by simp)
        have g3 := cell_keep HO.out.keep (hc 3 _ rfl) (by simp)
        have g4 := cell_keep HO.out.keep (hc 4 _ rfl) (by simp)
        have g5 := cell_keep HO.out.keep (hc 5 _ rfl) (by simp)
        have g6 := cell_keep HO.out.keep (hc 6 _ rfl) (by simp)
        have g7 := cell_keep HO.out.keep (hc 7 _ rfl) (by simp)
        have g8 := cell_keep HO.out.keep (hc 8 _ rfl) (by simp)
        have g9 := cell_keep HO.out.keep (hc 9 _ rfl) (by simp)
        have g10 := cell_keep HO.out.keep (hc 10 _ rfl) (by simp)
        have g11 := cell_keep HO.out.keep (hc 11 _ rfl) (by simp)
        have g12 := cell_keep HO.out.keep (hc 12 _ rfl) (by simp)
        simp only [Nat.add_zero] at g0
        have c0 := hc 0 _ rfl
        simp only [Nat.add_zero] at c0
        have C0 := Lib.hid c0
        have CST := Lib.hid (hc 1 _ rfl)
        have HC13 := Lib.hid hc
        clear hc c0
        have hsx := HSM.out x (List.mem_of_getElem? HX.out)
        go_wp2_with fail
        refine (hist_add HO.out.hist (by rw [List.length_take]; omega) hz (HEV.out.kept HO.out.keep) (Nat.le_trans hsx.1 (by decide)) (Nat.le_trans hsx.2 (by decide))).mono ?_
        rintro _ w4 ⟨rfl, vh', h4, k4, hg4⟩
        obtain ⟨p1, p2, p3, p4⟩ := HO.out.add HX.out (Nat.le_refl _) (Nat.lt_succ_self _) h4 k4 hg4
        have P1 := Lib.hid p1
        have P2 := Lib.hid p2
        have P3 := Lib.hid p3
        have P4 := Lib.hid p4
        have hz4 := Nat.le_trans hz k4.size
        clear h4 k4 hg4 p1 p2 p3 p4 g0 g1 g2 g3 g4 g5 g6 g7 g8 g9 g10 g11 g12
        have d0 := cell_keep P4.out C0.out (by simp)
        by_cases hkp : keepB x = true
        · have HKP := Lib.hid hkp
          have hcase : ((x.k != 1) = false) ∨ ((x.k != 1) = true ∧ (x.k != 3) = false) ∨ ((x.k != 1) = true ∧ (x.k != 3) = true ∧ (x.k != 4) = false) := by
            unfold keepB at hkp
            simp at hkp ⊢
            omega
          have D0 := Lib.hid d0
          have dst := cell_keep P4.out CST.out (by simp)
          have DST := Lib.hid dst
          have hwlen := HO.out.want.len
          have HWL := Lib.hid hwlen
          clear hkp dst hwlen
          go_upto_region 9 with fail
          go_cut [50] from 29 to 50 (fun s50 wc => s50 = .bool false ∧ wc = w4)
          case first =>
            rcases hcase with hc1 | ⟨hc1, hc2⟩ | ⟨hc1, hc2, hc3⟩
            all_goals
              go_wp2_with fail
              go_meet
              exact ⟨rfl, rfl⟩
          case rest =>
            obtain ⟨rfl, rfl⟩ := hcut
            clear hcase d0
            have hcl := P2.out.form
            go_wp2_with fail
            go_loopw [6] (fun c wz => ∃ at_ : Nat, c = .int .i64 at_ ∧ at_ ≤ ws.length ∧ (∀ i y, at_ ≤ i → ws[i]? = some y → x.step < y.1.step) ∧ Keep [] wc wz) (fun c _ => (intOf c).toNat)
            case atStart => exact ⟨ws.length, rfl, Nat.le_refl _, (fun i y hi hy => by rw [List.getElem?_eq_none hi] at hy; cases hy), Keep.refl _ _⟩
            case round =>
              obtain ⟨at_, rfl, hat, hgt, hkz⟩ := hrel
              have HKZ := Lib.hid hkz
              have HGT := Lib.hid hgt
              clear hkz hgt
              have st := cell_keep HKZ.out DST.out (by simp)
              by_cases hat0 : at_ = 0
              · subst hat0
                go_wp2_with fail
                refine wp_region_held_drew (S := fun w' => True) (by kernel_rfl) trivial (fun hHeld => ?_)
                refine' wpAnyH_take (i := 0) (oi := { dst := some 53, op := Op.move (Operand.tmp 6), type := 3, pos := "law.go:45", after := #[], guard := none }) (v := _) rfl (by kernel_rfl) (by kernel_rfl) (by kernel_rfl) (fun _ _ _ h => h) (Or.inl ⟨by rfl, ?hy1⟩) hHeld ?rest1
                case hy1 => (intro w hSw; (try dsimp only at hSw); go_simp; first | done | with_reducible rfl | (simp; omega))
                try simp only [Act.put, List.setIfInBounds_toArray, List.set_cons_zero, List.set_cons_succ]
                refine' wpAnyH_take (i := 1) (oi := { dst := some 54, op := Op.binOp BinOp.gtr 3 (Operand.tmp 53) (Operand.const (Value.int IntKind.i64 0)) 3, type := 4, pos := "law.go:45", after := #[{ on := 0, ground := Ground.data }], guard := none }) (v := .bool false) rfl (by kernel_rfl) (by kernel_rfl) (by kernel_rfl) (fun _ _ _ h => h) (Or.inl ⟨by rfl, ?hy2⟩) hHeld ?rest2
                case hy2 => (intro w hSw; (try dsimp only at hSw); go_simp; first | done | with_reducible rfl | (simp; omega))
                try simp only [Act.put, List.setIfInBounds_toArray, List.set_cons_zero, List.set_cons_succ]
                refine' wpAnyH_take (i := 2) (oi := { dst := some 55, op := Op.move (Operand.tmp 54), type := 4, pos := "law.go:45", after := #[{ on := 1, ground := Ground.data }], guard := none }) (v := _) rfl (by kernel_rfl) (by kernel_rfl) (by kernel_rfl) (fun _ _ _ h => h) (Or.inl ⟨by rfl, ?hy3⟩) hHeld ?rest3
                case hy3 => (intro w hSw; (try dsimp only at hSw); go_simp; first | done | with_reducible rfl | (simp; omega))
                try simp only [Act.put, List.setIfInBounds_toArray, List.set_cons_zero, List.set_cons_succ]
                refine wpAnyH_take (i := 3) (oi := { dst := some 56, op := Op.move (Operand.tmp 4), type := 35, pos := "law.go:45", after := #[{ on := 2, ground := Ground.guard }], guard := some (2, true) }) (v := undef) rfl (by kernel_rfl) (by kernel_rfl) (by kernel_rfl) (fun _ _ _ h => h) (Or.inr ⟨by rfl, rfl⟩) hHeld ?_
                try simp only [Act.put, List.setIfInBounds_toArray, List.set_cons_zero, List.set_cons_succ]
                refine wpAnyH_take (i := 4) (oi := { dst := some 57, op := Op.move (Operand.tmp 6), type := 3, pos := "law.go:45", after := #[{ on := 2, ground := Ground.guard }], guard := some (2, true) }) (v := undef) rfl (by kernel_rfl) (by kernel_rfl) (by kernel_rfl) (fun _ _ _ h => h) (Or.inr ⟨by rfl, rfl⟩) hHeld ?_
                try simp only [Act.put, List.setIfInBounds_toArray, List.set_cons_zero, List.set_cons_succ]
                refine wpAnyH_take (i := 5) (oi := { dst := some 58, op := Op.binOp BinOp.sub 3 (Operand.tmp 57) (Operand.const (Value.int IntKind.i64 1)) 3, type := 3, pos := "law.go:45", after := #[{ on := 4, ground := Ground.data }, { on := 2, ground := Ground.guard }], guard := some (2, true) }) (v := undef) rfl (by kernel_rfl) (by kernel_rfl) (by kernel_rfl) (fun _ _ _ h => h) (Or.inr ⟨by rfl, rfl⟩) hHeld ?_
                try simp only [Act.put, List.setIfInBounds_toArray, List.set_cons_zero, List.set_cons_succ]
                refine wpAnyH_take (i := 6) (oi := { dst := some 59, op := Op.indexAddr 35 (Operand.tmp 56) (Operand.tmp 58), type := 0, pos := "law.go:45", after := #[{ on := 3, ground := Ground.data }, { on := 5, ground := Ground.data }, { on := 2, ground := Ground.guard }], guard := some (2, true) }) (v := undef) rfl (by kernel_rfl) (by kernel_rfl) (by kernel_rfl) (fun _ _ _ h => h) (Or.inr ⟨by rfl, rfl⟩) hHeld ?_
                try simp only [Act.put, List.setIfInBounds_toArray, List.set_cons_zero, List.set_cons_succ]
                refine wpAnyH_take (i := 7) (oi := { dst := some 60, op := Op.fieldAddr 44 (Operand.tmp 59) 1, type := 0, pos := "law.go:45", after := #[{ on := 6, ground := Ground.data }, { on := 2, ground := Ground.guard }], guard := some (2, true) }) (v := undef) rfl (by kernel_rfl) (by kernel_rfl) (by kernel_rfl) (fun _ _ _ h => h) (Or.inr ⟨by rfl, rfl⟩) hHeld ?_
                try simp only [Act.put, List.setIfInBounds_toArray, List.set_cons_zero, List.set_cons_succ]
                refine wpAnyH_take (i := 8) (oi := { dst := some 61, op := Op.load 3 (Operand.tmp 60), type := 3, pos := "law.go:45", after := #[{ on := 7, ground := Ground.data }, { on := 2, ground := Ground.guard }], guard := some (2, true) }) (v := undef) rfl (by kernel_rfl) (by kernel_rfl) (by kernel_rfl) (fun _ _ _ h => h) (Or.inr ⟨by rfl, rfl⟩) hHeld ?_
                try simp only [Act.put, List.setIfInBounds_toArray, List.set_cons_zero, List.set_cons_succ]
                refine wpAnyH_take (i := 9) (oi := { dst := some 62, op := Op.move (Operand.tmp 0), type := 35, pos := "law.go:45", after := #[{ on := 2, ground := Ground.guard }], guard := some (2, true) }) (v := undef) rfl (by kernel_rfl) (by kernel_rfl) (by kernel_rfl) (fun _ _ _ h => h) (Or.inr ⟨by rfl, rfl⟩) hHeld ?_
                try simp only [Act.put, List.setIfInBounds_toArray, List.set_cons_zero, List.set_cons_succ]
                refine wpAnyH_take (i := 10) (oi := { dst := some 63, op := Op.move (Operand.tmp 5), type := 3, pos := "law.go:45", after := #[{ on := 2, ground := Ground.guard }], guard := some (2, true) }) (v := undef) rfl (by kernel_rfl) (by kernel_rfl) (by kernel_rfl) (fun _ _ _ h => h) (Or.inr ⟨by rfl, rfl⟩) hHeld ?_
                try simp only [Act.put, List.setIfInBounds_toArray, List.set_cons_zero, List.set_cons_succ]
                refine wpAnyH_take (i := 11) (oi := { dst := some 64, op := Op.indexAddr 35 (Operand.tmp 62) (Operand.tmp 63), type := 0, pos := "law.go:45", after := #[{ on := 9, ground := Ground.data }, { on := 10, ground := Ground.data }, { on := 2, ground := Ground.guard }], guard := some (2, true) }) (v := undef) rfl (by kernel_rfl) (by kernel_rfl) (by kernel_rfl) (fun _ _ _ h => h) (Or.inr ⟨by rfl, rfl⟩) hHeld ?_
                try simp only [Act.put, List.setIfInBounds_toArray, List.set_cons_zero, List.set_cons_succ]
                refine wpAnyH_take (i := 12) (oi := { dst := some 65, op := Op.fieldAddr 44 (Operand.tmp 64) 1, type := 0, pos := "law.go:45", after := #[{ on := 11, ground := Ground.data }, { on := 2, ground := Ground.guard }], guard := some (2, true) }) (v := undef) rfl (by kernel_rfl) (by kernel_rfl) (by kernel_rfl) (fun _ _ _ h => h) (Or.inr ⟨by rfl, rfl⟩) hHeld ?_
                try simp only [Act.put, List.setIfInBounds_toArray, List.set_cons_zero, List.set_cons_succ]
                refine wpAnyH_take (i := 13) (oi := { dst := some 66, op := Op.load 3 (Operand.tmp 65), type := 3, pos := "law.go:45", after := #[{ on := 12, ground := Ground.data }, { on := 2, ground := Ground.guard }], guard := some (2, true) }) (v := undef) rfl (by kernel_rfl) (by kernel_rfl) (by kernel_rfl) (fun _ _ _ h => h) (Or.inr ⟨by rfl, rfl⟩) hHeld ?_
                try simp only [Act.put, List.setIfInBounds_toArray, List.set_cons_zero, List.set_cons_succ]
                refine wpAnyH_take (i := 14) (oi := { dst := some 67, op := Op.binOp BinOp.gtr 3 (Operand.tmp 61) (Operand.tmp 66) 3, type := 4, pos := "law.go:45", after := #[{ on := 8, ground := Ground.data }, { on := 13, ground := Ground.data }, { on := 2, ground := Ground.guard }], guard := some (2, true) }) (v := undef) rfl (by kernel_rfl) (by kernel_rfl) (by kernel_rfl) (fun _ _ _ h => h) (Or.inr ⟨by rfl, rfl⟩) hHeld ?_
                try simp only [Act.put, List.setIfInBounds_toArray, List.set_cons_zero, List.set_cons_succ]
                refine' wpAnyH_take (i := 15) (oi := { dst := some 68, op := Op.pick (Operand.tmp 55) (Operand.tmp 67) (Operand.const (Value.bool false)), type := 4, pos := "law.go:45", after := #[{ on := 2, ground := Ground.data }, { on := 14, ground := Ground.data }], guard := none }) (v := .bool false) rfl (by kernel_rfl) (by kernel_rfl) (by kernel_rfl) (fun _ _ _ h => h) (Or.inl ⟨by rfl, ?hy4⟩) hHeld ?rest4
                case hy4 => (intro w hSw; (try dsimp only at hSw); go_simp; first | done | with_reducible rfl | (simp; omega))
                try simp only [Act.put, List.setIfInBounds_toArray, List.set_cons_zero, List.set_cons_succ]
                refine wpAnyH_done (by kernel_rfl) ?_ _
                have hb9 : (ws.map (·.1)).length = 0 + (ws.length - 0) := by rw [List.length_map]; omega
                obtain ⟨i0, hi0, hz0, hz1, hz2⟩ := info_parts event_info
                obtain ⟨f, hown, hfr⟩ := P2.out
                have hf13 : ∀ i, i < 0 → (f i).length = 13 := fun i hi => (hfr i _ (List.getElem?_eq_getElem (by rw [List.length_map]; omega))).1
                have hlen1 : (flatR f 0).length = 0 * 13 := flatR_length _ hf13
                have hlen2 : (flatR (fun i => f (0 + i)) (ws.length - 0)).length = (ws.length - 0) * 13 := flatR_length _ (fun i hi => (hfr (0 + i) _ (List.getElem?_eq_getElem (by rw [List.length_map]; omega))).1)
                have hone := flat_two (at_ := 0) (b := ws.length - 0) (fun _ _ h => ev_one h) hfr hb9
                have hcw : ws.length ≤ cw := by
                  rcases hown.2 with ⟨q1, q2⟩ | ⟨g9, cap9, cur9, q1, _, _, q2, _⟩
                  · rw [List.length_map] at q2; omega
                  · cases q1; rw [List.length_map] at q2; exact q2
                rw [hb9] at hown
                have HOWN := Lib.hid hown
                have NL := Lib.hid (news_left hown HKZ.out)
                have NR := Lib.hid (news_right hown hf13 HKZ.out)
                have HFR := Lib.hid hfr
                have HL1 := Lib.hid hlen1
                have HL2 := Lib.hid hlen2
                have HON := Lib.hid hone
                have HB9 := Lib.hid hb9
                have LOZ := Lib.hid (Nat.le_trans hz4 HKZ.out.size)
                have hws9 : ws.length ≤ 100 := by have := HWL.out; have := hn100.out; omega
                have HCW := Lib.hid (fun (w9 : World) (k9 : Keep [] wr w9) => conj13 (fun j u hj => cell_keep ((P4.out.trans HKZ.out).trans k9) (HC13.out j u hj) (by simp)))
                have SA := Lib.hid (HCW.out wr.drew.drew (Keep.refl [] wr).drew.drew)
                have hs1 : (0 : Int) ≤ ((0 : Nat) : Int) := by omega
                have hs2 : ((0 : Nat) : Int) ≤ (cw : Int) := by omega
                have hs3 : ((0 : Nat) : Int) ≤ (ws.length : Int) := by omega
                have hk00 : (0 : Int) ≤ (k : Int) := by omega
                clear hown hfr hf13 hlen1 hlen2 hone hb9 hcl
                go_wp2_with fail
                go_region_held3 (fun w' => w'.cell? ⟨b, o + k * 13, none⟩ = some (.int .i64 x.k) ∧ w'.cell? ⟨b, o + k * 13 + 1, none⟩ = some (.int .i64 x.step) ∧ w'.cell? ⟨b, o + k * 13 + 2, none⟩ = some (.int .i64 x.core) ∧ w'.cell? ⟨b, o + k * 13 + 3, none⟩ = some (.int .i64 x.thr) ∧ w'.cell? ⟨b, o + k * 13 + 4, none⟩ = some (.int .i64 x.call.k) ∧ w'.cell? ⟨b, o + k * 13 + 5, none⟩ = some (.int .i64 x.call.h) ∧ w'.cell? ⟨b, o + k * 13 + 6, none⟩ = some (.int .i64 x.call.a) ∧ w'.cell? ⟨b, o + k * 13 + 7, none⟩ = some (.int .i64 x.call.b) ∧ w'.cell? ⟨b, o + k * 13 + 8, none⟩ = some (.slice a1 x.call.words.length c1) ∧ w'.cell? ⟨b, o + k * 13 + 9, none⟩ = some (.int .i64 x.call.t) ∧ w'.cell? ⟨b, o + k * 13 + 10, none⟩ = some (.int .i64 x.code) ∧ w'.cell? ⟨b, o + k * 13 + 11, none⟩ = some (.int .i64 x.cnt) ∧ w'.cell? ⟨b, o + k * 13 + 12, none⟩ = some (.slice a2 x.words.length c2))
                  (first | exact SA.out | exact HCW.out _ (by repeat' (first | with_reducible exact Keep.refl _ _ | with_reducible exact HC.out.kp | with_reducible exact HB.out.kp | with_reducible exact HA.out.kp | with_reducible apply Keep.drew | with_reducible apply Keep.alloc)))
                  (first
                    | (refine step_ins (wz := wr) (by rfl) _ _ _ (by rfl) (w2.heap.size + 1) 44 i0 _ 13 136 Try.underlying35 hi0 hz0 hz1 hz2 rfl (by decide) (by decide) _ _ _ [] (by rfl) (lit_owns (by have := LOZ.out; first | omega | (simp; omega)) (by decide) (by first | with_reducible exact ald1 _ _ | with_reducible exact ald22 _ _ _ | with_reducible exact ald21 _ _ _)) _ 0 _ (flatR f 0) (by rfl) HL1.out (by intro j u hj; obtain ⟨gw, he, hc9⟩ := NL.out j u hj; first | (subst he; exact ⟨⟨gw, 0, none⟩, (by simp [Addr.add]), (by rw [addr_add, Nat.zero_add]; exact cell_keep (S := []) (by repeat' (first | with_reducible exact Keep.refl _ _ | with_reducible exact HC.out.kp | with_reducible exact HB.out.kp | with_reducible exact HA.out.kp | with_reducible apply Keep.drew | with_reducible apply Keep.alloc)) hc9 (by simp))⟩) | (cases he; exact ⟨⟨bW, 0, none⟩, (by simp [Addr.add]), (by rw [addr_add, Nat.zero_add]; exact cell_keep (S := []) (by repeat' (first | with_reducible exact Keep.refl _ _ | with_reducible exact HC.out.kp | with_reducible exact HB.out.kp | with_reducible exact HA.out.kp | with_reducible apply Keep.drew | with_reducible apply Keep.alloc)) hc9 (by simp))⟩)) HON.out.1 0 (by omega) (by omega) LOZ.out (by repeat' (first | with_reducible exact Keep.refl _ _ | with_reducible exact HC.out.kp | with_reducible exact HB.out.kp | with_reducible exact HA.out.kp | with_reducible apply Keep.drew | with_reducible apply Keep.alloc)) (by first | exact Nat.le_refl _ | omega | simp) ?_; intro gA cA wA hA kA; have HA := Lib.hid hA; (first | have BA : Hid (wA.heap[wr.heap.size]? = some (.cells #[.int .i64 x.k, .int .i64 x.step, .int .i64 x.core, .int .i64 x.thr, .int .i64 x.call.k, .int .i64 x.call.h, .int .i64 x.call.a, .int .i64 x.call.b, .slice a1 x.call.words.length c1, .int .i64 x.call.t, .int .i64 x.code, .int .i64 x.cnt, .slice a2 x.words.length c2] 44 (0, 0))) := Lib.hid (kA.to (ald21 _ _ _) (by simp)) | have BA : Hid (wA.heap[wr.heap.size + 1]? = some (.cells #[.int .i64 x.k, .int .i64 x.step, .int .i64 x.core, .int .i64 x.thr, .int .i64 x.call.k, .int .i64 x.call.h, .int .i64 x.call.a, .int .i64 x.call.b, .slice a1 x.call.words.length c1, .int .i64 x.call.t, .int .i64 x.code, .int .i64 x.cnt, .slice a2 x.words.length c2] 44 (0, 0))) := Lib.hid (kA.to (ald22 _ _ _) (by simp)) | skip); clear hA kA)
                    | (refine step_ins (wz := wr) (by rfl) _ _ _ (by rfl) (w2.heap.size + 1) 44 i0 _ 13 136 Try.underlying35 hi0 hz0 hz1 hz2 rfl (by decide) (by decide) _ _ _ _ (by rfl) (by first | exact HA.out.1 | exact owns_move HA.out.1 ((Keep.refl [] wA).alloc _) (NoRow.nil _ _)) _ 1 _ [.int .i64 x.k, .int .i64 x.step, .int .i64 x.core, .int .i64 x.thr, .int .i64 x.call.k, .int .i64 x.call.h, .int .i64 x.call.a, .int .i64 x.call.b, .slice a1 x.call.words.length c1, .int .i64 x.call.t, .int .i64 x.code, .int .i64 x.cnt, .slice a2 x.words.length c2] (by rfl) (by rfl) (by intro j u hj; exact ⟨_, rfl, World.news_of_block (by first | with_reducible exact al1 _ _ | exact BA.out) j u hj⟩) one_ev 1 (by omega) (by omega) LOZ.out (by repeat' (first | with_reducible exact Keep.refl _ _ | with_reducible exact HC.out.kp | with_reducible exact HB.out.kp | with_reducible exact HA.out.kp | with_reducible apply Keep.drew | with_reducible apply Keep.alloc)) HA.out.2.1 ?_; intro gB cB wB hB kB; have HB := Lib.hid hB; clear hB kB)
                    | (refine step_ins (wz := wr) (by rfl) _ _ _ (by rfl) (w2.heap.size + 1) 44 i0 _ 13 136 Try.underlying35 hi0 hz0 hz1 hz2 rfl (by decide) (by decide) _ _ _ _ (by rfl) HB.out.1 _ (ws.length - 0) _ (flatR (fun i => f (0 + i)) (ws.length - 0)) (by rfl) HL2.out (by intro j u hj; obtain ⟨gw, he, hne, hc9⟩ := NR.out j u hj; first | (subst he; exact ⟨⟨gw, 0 * 13, none⟩, (by simp [Addr.add, hne]), (by rw [addr_add]; exact cell_keep (S := []) (by repeat' (first | with_reducible exact Keep.refl _ _ | with_reducible exact HC.out.kp | with_reducible exact HB.out.kp | with_reducible exact HA.out.kp | with_reducible apply Keep.drew | with_reducible apply Keep.alloc)) hc9 (by simp))⟩) | (cases he; exact ⟨⟨bW, 0 * 13, none⟩, (by simp [Addr.add, hne]), (by rw [addr_add]; exact cell_keep (S := []) (by repeat' (first | with_reducible exact Keep.refl _ _ | with_reducible exact HC.out.kp | with_reducible exact HB.out.kp | with_reducible exact HA.out.kp | with_reducible apply Keep.drew | with_reducible apply Keep.alloc)) hc9 (by simp))⟩)) HON.out.2 (ws.length + 1) (by omega) (by omega) LOZ.out (by repeat' (first | with_reducible exact Keep.refl _ _ | with_reducible exact HC.out.kp | with_reducible exact HB.out.kp | with_reducible exact HA.out.kp | with_reducible apply Keep.drew | with_reducible apply Keep.alloc)) HB.out.2.1 ?_; intro gC cC wC hC kC; have HC := Lib.hid hC; clear hC kC))
                all_goals
                  go_wp2_with fail
                  go_roundw
                  case rel =>
                    refine ⟨k + 1, by go_num, by omega, Nat.le_trans LOZ.out HC.out.kp.size, vh', ws.take 0 ++ (x, k) :: ws.drop 0, P1.out.kept (HKZ.out.trans HC.out.kp), HO.out.want.insert HX.out HKP.out (by omega) HGT.out (.inl rfl), ?_, fun g hg he => ?_, (P4.out.trans HKZ.out).trans HC.out.kp⟩
                    · rw [show ((ws.take 0 ++ (x, k) :: ws.drop 0).map (·.1)) = (ws.map (·.1)).take 0 ++ x :: (ws.map (·.1)).drop 0 from by simp [List.map_take, List.map_drop]]
                      exact grow_ins (b := ws.length - 0) (by omega) (by rw [List.nil_append]; rfl) HB9.out HFR.out rfl HEV.out HC.out.1
                    · have h1 := (grow_lt P1.out.2 g hg).2
                      have h2 := HC.out.2.1
                      have h3 := HKZ.out.size
                      simp [Value.ownBlock] at he
                      omega
                  case measure => simp [intOf]; omega
              · obtain ⟨a_, rfl⟩ : ∃ a_, at_ = a_ + 1 := ⟨at_ - 1, by omega⟩
                obtain ⟨y, hy⟩ : ∃ y, ws[a_]? = some y := ⟨ws[a_], List.getElem?_eq_getElem (by omega)⟩
                have HYY := Lib.hid hy
                obtain ⟨_, _, heW, _, _, hW⟩ := (GrowSl.keepT P2.out HKZ.out (NoRow.nil _ _) (fun _ _ _ h => h)).fresh.sld
                rw [List.length_map] at heW
                cases heW
                obtain ⟨bW, oW, csW, rfl, _, _, _, hcW, hevW⟩ := hW a_ y.1 (by rw [List.getElem?_map, hy]; rfl)
                obtain ⟨vW1, vW2, rfl, _⟩ := hevW
                have sW := hcW 1 _ rfl
                have hi1 : ((a_ + 1 : Nat) : Int) - 1 = (a_ : Int) := by omega
                have hi2 : (0 : Int) ≤ (a_ : Int) := by omega
                have hi3 : (a_ : Int) < (ws.length : Int) := by omega
                have hi4 : (0 : Int) < ((a_ + 1 : Nat) : Int) := by omega
                have hkk0 : (0 : Int) ≤ (k : Int) := by omega
                clear hcW hW hy
                generalize hat2 : a_ + 1 = at_ at *
                have HAT2 := Lib.hid hat2
                have hi5 : 0 < at_ := by omega
                have hws9 : ws.length ≤ 100 := by have := HWL.out; have := hn100.out; omega
                have hw3 : IntKind.i64.wrap (a_ : Int) = (a_ : Int) := wrap_small a_ (by omega)
                have hw4 : wrap64 (a_ : Int) = (a_ : Int) := wrap64_small a_ (by omega)
                have hi6 : decide ((0 : Int) < (at_ : Int)) = true := by simp; omega
                have hi7 : decide (0 < at_) = true := by simp; omega
                by_cases hlt : x.step < y.1.step
                · have SA := Lib.hid (And.intro sW st)
                  go_wp2_with fail
                  go_region_held3 (fun w' => w'.cell? ⟨bW, oW + a_ * 13 + 1, none⟩ = some (.int .i64 y.1.step) ∧ w'.cell? ⟨b, o + k * 13 + 1, none⟩ = some (.int .i64 x.step)) (go_keep) (fail)
                  all_goals
                    clear hw3 hw4
                    go_wp2_with fail
                    go_roundw
                    case rel =>
                      refine ⟨a_, by go_num, by omega, fun i z hi hz => ?_, (HKZ.out.trans (Keep.refl [] _).drew)⟩
                      by_cases hie : i = a_
                      · subst hie
                        have := HYY.out
                        rw [this] at hz
                        cases hz
                        exact hlt
                      · exact HGT.out i z (by omega) hz
                    case measure => simp [intOf]; omega
                · have hnlt : y.1.step ≤ x.step := by omega
                  go_wp2_with fail
                  go_region_held3 (fun w' => w'.cell? ⟨bW, oW + a_ * 13 + 1, none⟩ = some (.int .i64 y.1.step) ∧ w'.cell? ⟨b, o + k * 13 + 1, none⟩ = some (.int .i64 x.step)) (go_keep) (fail)
                  all_goals
                    clear hw3 hw4 hi1 hi2 hi3 hi4 hi5 hi6 hi7 hat2
                    have hb9 : (ws.map (·.1)).length = at_ + (ws.length - at_) := by rw [List.length_map]; omega
                    obtain ⟨i0, hi0, hz0, hz1, hz2⟩ := info_parts event_info
                    obtain ⟨f, hown, hfr⟩ := P2.out
                    have hf13 : ∀ i, i < at_ → (f i).length = 13 := fun i hi => (hfr i _ (List.getElem?_eq_getElem (by rw [List.length_map]; omega))).1
                    have hlen1 : (flatR f at_).length = at_ * 13 := flatR_length _ hf13
                    have hlen2 : (flatR (fun i => f (at_ + i)) (ws.length - at_)).length = (ws.length - at_) * 13 := flatR_length _ (fun i hi => (hfr (at_ + i) _ (List.getElem?_eq_getElem (by rw [List.length_map]; omega))).1)
                    have hone := flat_two (at_ := at_) (b := ws.length - at_) (fun _ _ h => ev_one h) hfr hb9
                    have hcw : ws.length ≤ cw := by
                      rcases hown.2 with ⟨q1, q2⟩ | ⟨g9, cap9, cur9, q1, _, _, q2, _⟩
                      · rw [List.length_map] at q2; omega
                      · cases q1; rw [List.length_map] at q2; exact q2
                    rw [hb9] at hown
                    have HOWN := Lib.hid hown
                    have NL := Lib.hid (news_left hown HKZ.out)
                    have NR := Lib.hid (news_right hown hf13 HKZ.out)
                    have HFR := Lib.hid hfr
                    have HL1 := Lib.hid hlen1
                    have HL2 := Lib.hid hlen2
                    have HON := Lib.hid hone
                    have HB9 := Lib.hid hb9
                    have LOZ := Lib.hid (Nat.le_trans hz4 HKZ.out.size)
                    have hws9 : ws.length ≤ 100 := by have := HWL.out; have := hn100.out; omega
                    have HCW := Lib.hid (fun (w9 : World) (k9 : Keep [] wr w9) => conj13 (fun j u hj => cell_keep ((P4.out.trans HKZ.out).trans k9) (HC13.out j u hj) (by simp)))
                    have SA := Lib.hid (HCW.out wr.drew.drew (Keep.refl [] wr).drew.drew)
                    have hs1 : (0 : Int) ≤ ((at_ : Nat) : Int) := by omega
                    have hs2 : ((at_ : Nat) : Int) ≤ (cw : Int) := by omega
                    have hs3 : ((at_ : Nat) : Int) ≤ (ws.length : Int) := by omega
                    have hk00 : (0 : Int) ≤ (k : Int) := by omega
                    clear hown hfr hf13 hlen1 hlen2 hone hb9 hcl
                    go_wp2_with fail
                    go_region_held3 (fun w' => w'.cell? ⟨b, o + k * 13, none⟩ = some (.int .i64 x.k) ∧ w'.cell? ⟨b, o + k * 13 + 1, none⟩ = some (.int .i64 x.step) ∧ w'.cell? ⟨b, o + k * 13 + 2, none⟩ = some (.int .i64 x.core) ∧ w'.cell? ⟨b, o + k * 13 + 3, none⟩ = some (.int .i64 x.thr) ∧ w'.cell? ⟨b, o + k * 13 + 4, none⟩ = some (.int .i64 x.call.k) ∧ w'.cell? ⟨b, o + k * 13 + 5, none⟩ = some (.int .i64 x.call.h) ∧ w'.cell? ⟨b, o + k * 13 + 6, none⟩ = some (.int .i64 x.call.a) ∧ w'.cell? ⟨b, o + k * 13 + 7, none⟩ = some (.int .i64 x.call.b) ∧ w'.cell? ⟨b, o + k * 13 + 8, none⟩ = some (.slice a1 x.call.words.length c1) ∧ w'.cell? ⟨b, o + k * 13 + 9, none⟩ = some (.int .i64 x.call.t) ∧ w'.cell? ⟨b, o + k * 13 + 10, none⟩ = some (.int .i64 x.code) ∧ w'.cell? ⟨b, o + k * 13 + 11, none⟩ = some (.int .i64 x.cnt) ∧ w'.cell? ⟨b, o + k * 13 + 12, none⟩ = some (.slice a2 x.words.length c2))
                      (first | exact SA.out | exact HCW.out _ (by repeat' (first | with_reducible exact Keep.refl _ _ | with_reducible exact HC.out.kp | with_reducible exact HB.out.kp | with_reducible exact HA.out.kp | with_reducible apply Keep.drew | with_reducible apply Keep.alloc)))
                      (first
                        | (refine step_ins (wz := wr) (by rfl) _ _ _ (by rfl) (w2.heap.size + 1) 44 i0 _ 13 136 Try.underlying35 hi0 hz0 hz1 hz2 rfl (by decide) (by decide) _ _ _ [] (by rfl) (lit_owns (by have := LOZ.out; first | omega | (simp; omega)) (by decide) (by first | with_reducible exact ald1 _ _ | with_reducible exact ald22 _ _ _ | with_reducible exact ald21 _ _ _)) _ at_ _ (flatR f at_) (by rfl) HL1.out (by intro j u hj; obtain ⟨gw, he, hc9⟩ := NL.out j u hj; first | (subst he; exact ⟨⟨gw, 0, none⟩, (by simp [Addr.add]), (by rw [addr_add, Nat.zero_add]; exact cell_keep (S := []) (by repeat' (first | with_reducible exact Keep.refl _ _ | with_reducible exact HC.out.kp | with_reducible exact HB.out.kp | with_reducible exact HA.out.kp | with_reducible apply Keep.drew | with_reducible apply Keep.alloc)) hc9 (by simp))⟩) | (cases he; exact ⟨⟨bW, 0, none⟩, (by simp [Addr.add]), (by rw [addr_add, Nat.zero_add]; exact cell_keep (S := []) (by repeat' (first | with_reducible exact Keep.refl _ _ | with_reducible exact HC.out.kp | with_reducible exact HB.out.kp | with_reducible exact HA.out.kp | with_reducible apply Keep.drew | with_reducible apply Keep.alloc)) hc9 (by simp))⟩)) HON.out.1 at_ (by omega) (by omega) LOZ.out (by repeat' (first | with_reducible exact Keep.refl _ _ | with_reducible exact HC.out.kp | with_reducible exact HB.out.kp | with_reducible exact HA.out.kp | with_reducible apply Keep.drew | with_reducible apply Keep.alloc)) (by first | exact Nat.le_refl _ | omega | simp) ?_; intro gA cA wA hA kA; have HA := Lib.hid hA; (first | have BA : Hid (wA.heap[wr.heap.size]? = some (.cells #[.int .i64 x.k, .int .i64 x.step, .int .i64 x.core, .int .i64 x.thr, .int .i64 x.call.k, .int .i64 x.call.h, .int .i64 x.call.a, .int .i64 x.call.b, .slice a1 x.call.words.length c1, .int .i64 x.call.t, .int .i64 x.code, .int .i64 x.cnt, .slice a2 x.words.length c2] 44 (0, 0))) := Lib.hid (kA.to (ald21 _ _ _) (by simp)) | have BA : Hid (wA.heap[wr.heap.size + 1]? = some (.cells #[.int .i64 x.k, .int .i64 x.step, .int .i64 x.core, .int .i64 x.thr, .int .i64 x.call.k, .int .i64 x.call.h, .int .i64 x.call.a, .int .i64 x.call.b, .slice a1 x.call.words.length c1, .int .i64 x.call.t, .int .i64 x.code, .int .i64 x.cnt, .slice a2 x.words.length c2] 44 (0, 0))) := Lib.hid (kA.to (ald22 _ _ _) (by simp)) | skip); clear hA kA)
                        | (refine step_ins (wz := wr) (by rfl) _ _ _ (by rfl) (w2.heap.size + 1) 44 i0 _ 13 136 Try.underlying35 hi0 hz0 hz1 hz2 rfl (by decide) (by decide) _ _ _ _ (by rfl) (by first | exact HA.out.1 | exact owns_move HA.out.1 ((Keep.refl [] wA).alloc _) (NoRow.nil _ _)) _ 1 _ [.int .i64 x.k, .int .i64 x.step, .int .i64 x.core, .int .i64 x.thr, .int .i64 x.call.k, .int .i64 x.call.h, .int .i64 x.call.a, .int .i64 x.call.b, .slice a1 x.call.words.length c1, .int .i64 x.call.t, .int .i64 x.code, .int .i64 x.cnt, .slice a2 x.words.length c2] (by rfl) (by rfl) (by intro j u hj; exact ⟨_, rfl, World.news_of_block (by first | with_reducible exact al1 _ _ | exact BA.out) j u hj⟩) one_ev (at_ + 1) (by omega) (by omega) LOZ.out (by repeat' (first | with_reducible exact Keep.refl _ _ | with_reducible exact HC.out.kp | with_reducible exact HB.out.kp | with_reducible exact HA.out.kp | with_reducible apply Keep.drew | with_reducible apply Keep.alloc)) HA.out.2.1 ?_; intro gB cB wB hB kB; have HB := Lib.hid hB; clear hB kB)
                        | (refine step_ins (wz := wr) (by rfl) _ _ _ (by rfl) (w2.heap.size + 1) 44 i0 _ 13 136 Try.underlying35 hi0 hz0 hz1 hz2 rfl (by decide) (by decide) _ _ _ _ (by rfl) HB.out.1 _ (ws.length - at_) _ (flatR (fun i => f (at_ + i)) (ws.length - at_)) (by rfl) HL2.out (by intro j u hj; obtain ⟨gw, he, hne, hc9⟩ := NR.out j u hj; first | (subst he; exact ⟨⟨gw, at_ * 13, none⟩, (by simp [Addr.add, hne]), (by rw [addr_add]; exact cell_keep (S := []) (by repeat' (first | with_reducible exact Keep.refl _ _ | with_reducible exact HC.out.kp | with_reducible exact HB.out.kp | with_reducible exact HA.out.kp | with_reducible apply Keep.drew | with_reducible apply Keep.alloc)) hc9 (by simp))⟩) | (cases he; exact ⟨⟨bW, at_ * 13, none⟩, (by simp [Addr.add, hne]), (by rw [addr_add]; exact cell_keep (S := []) (by repeat' (first | with_reducible exact Keep.refl _ _ | with_reducible exact HC.out.kp | with_reducible exact HB.out.kp | with_reducible exact HA.out.kp | with_reducible apply Keep.drew | with_reducible apply Keep.alloc)) hc9 (by simp))⟩)) HON.out.2 (ws.length + 1) (by omega) (by omega) LOZ.out (by repeat' (first | with_reducible exact Keep.refl _ _ | with_reducible exact HC.out.kp | with_reducible exact HB.out.kp | with_reducible exact HA.out.kp | with_reducible apply Keep.drew | with_reducible apply Keep.alloc)) HB.out.2.1 ?_; intro gC cC wC hC kC; have HC := Lib.hid hC; clear hC kC))
                    all_goals
                      go_wp2_with fail
                      go_roundw
                      case rel =>
                        refine ⟨k + 1, by go_num, by omega, Nat.le_trans LOZ.out HC.out.kp.size, vh', ws.take at_ ++ (x, k) :: ws.drop at_, P1.out.kept (HKZ.out.trans HC.out.kp), HO.out.want.insert HX.out HKP.out (by omega) HGT.out (.inr ⟨y, (by rw [show at_ - 1 = a_ from by have := HAT2.out; omega]; exact HYY.out), hnlt⟩), ?_, fun g hg he => ?_, (P4.out.trans HKZ.out).trans HC.out.kp⟩
                        · rw [show ((ws.take at_ ++ (x, k) :: ws.drop at_).map (·.1)) = (ws.map (·.1)).take at_ ++ x :: (ws.map (·.1)).drop at_ from by simp [List.map_take, List.map_drop]]
                          exact grow_ins (b := ws.length - at_) (by omega) (by rw [List.nil_append]; rfl) HB9.out HFR.out rfl HEV.out HC.out.1
                        · have h1 := (grow_lt P1.out.2 g hg).2
                          have h2 := HC.out.2.1
                          have h3 := HKZ.out.size
                          simp [Value.ownBlock] at he
                          omega
                      case measure => simp [intOf]; omega
        · have hkf : keepB x = false := by simpa using hkp
          have HKF := Lib.hid hkf
          have hc1 : (x.k != 1) = true := by unfold keepB at hkf; simp at hkf ⊢; omega
          have hc2 : (x.k != 3) = true := by unfold keepB at hkf; simp at hkf ⊢; omega
          have hc3 : (x.k != 4) = true := by unfold keepB at hkf; simp at hkf ⊢; omega
          clear hkp hkf
          go_wp2_with fail
          go_roundw
          case rel =>
            refine ⟨k + 1, by go_num, by omega, hz4, vh', ws, P1.out, HO.out.want.skip HX.out HKF.out, ?_, ?_, P4.out⟩
            · have h := P2.out; rw [List.length_map] at h; exact h
            · have h := P3.out; rw [List.length_map] at h; exact h
          case measure => simp [intOf]; omega
      · have hke : k = n := by omega
        subst hke
        have hist := HO.out.hist
        rw [List.take_of_length_le (by rw [Hn.out]; omega)] at hist
        have HH := Lib.hid hist
        have HLE : Hid (l.length ≤ 100) := Lib.hid (by rw [Hn.out]; exact hn100.out)
        clear hist
        go_wp2_with fail
        refine (events_ev HH.out HLE.out HSM.out).mono ?_
        rintro _ w5 ⟨vE, rfl, hfE, k5⟩
        have K5 := Lib.hid (HO.out.keep.trans k5)
        have H5 := Lib.hid (HH.out.kept k5)
        have KR5 := Lib.hid k5
        have FE := Lib.hid hfE
        obtain ⟨aE, cE, rfl, _⟩ := FreshSl.form hfE
        rw [Hn.out]
        clear k5 hfE
        go_wp2_with fail
        refine (order_hist H5.out HLE.out HSM.out).mono ?_
        rintro _ w6 ⟨vO, es, rfl, he1, he2, hfO, k6⟩
        have hwe : ws = es := Want.done (l := l) (by rw [Hn.out]; exact HO.out.want) he1 he2
        subst hwe
        have K6 := Lib.hid (K5.out.trans k6)
        have H6 := Lib.hid (H5.out.kept k6)
        have FE6 := Lib.hid (FreshSl.keepT FE.out k6 (NoRow.nil _ _) (fun _ _ _ h => h.keepT k6 (NoRow.nil _ _)))
        have FW6 := Lib.hid ((GrowSl.keepT HO.out.row (KR5.out.trans k6) (NoRow.nil _ _) (fun _ _ _ h => h)).fresh)
        have FO := Lib.hid hfO
        obtain ⟨aO, cO, rfl, _⟩ := FreshSl.form hfO
        rw [List.length_map]
        have hws : ws.length ≤ 100 := by have := HO.out.want.len; have := hn100.out; omega
        clear k6 hfO he1 he2
        generalize hwl : ws.length = wl at *
        have Hwl := Lib.hid hwl
        clear hwl
        go_wp2_with fail
        refine (hist_len H6.out (by rw [Hn.out]; have := hn100.out; omega)).mono ?_
        rintro _ w7 ⟨rfl, k7⟩
        rw [Hn.out]
        have K7 := Lib.hid (K6.out.trans k7)
        have FE7 := Lib.hid (FreshSl.keepT FE6.out k7 (NoRow.nil _ _) (fun _ _ _ h => h.keepT k7 (NoRow.nil _ _))).sld
        have FO7 := Lib.hid (FreshSl.keepT FO.out k7 (NoRow.nil _ _) (fun _ _ _ h => h.keepT k7 (NoRow.nil _ _))).sld
        have FW7 := Lib.hid (FreshSl.keepT FW6.out k7 (NoRow.nil _ _) (fun _ _ _ h => h)).sld
        have n100 : k ≤ 100 := hn100.out
        clear k7 FE6 FO FW6 FE
        have q1 : ((k : Int) != (k : Int)) = false := by simp
        have q2 : ((wl : Int) != (wl : Int)) = false := by simp
        go_wp2_with fail
        go_loopw [109] (fun c wr => ∃ i : Nat, c = .int .i64 i ∧ i ≤ k ∧ Keep [] w7 wr) (fun c _ => k - (intOf c).toNat)
        case atStart => exact ⟨0, rfl, Nat.zero_le _, Keep.refl _ _⟩
        case round =>
          obtain ⟨i, rfl, hi, hk⟩ := hrel
          have HK := Lib.hid hk
          clear hk
          by_cases hil : i < k
          · have hil' : (i : Int) < k := by omega
            have hi0 : (0 : Int) ≤ (i : Int) := by omega
            obtain ⟨_, _, heA, _, _, hA⟩ := FE7.out
            cases heA
            obtain ⟨x, hx⟩ := get_of Hn hil
            obtain ⟨bA, oA, csA, rfl, _, _, _, hcA, hevA0⟩ := hA i x hx
            have hevA := hevA0.rep
            obtain ⟨_, _, heB, _, _, hB⟩ := L2.out
            cases heB
            obtain ⟨bB, oB, csB, rfl, _, _, _, hcB0, hevB⟩ := hB i x hx
            have hcB := fun (j : Nat) (u : Value) (h : csB[j]? = some u) => cell_keep K7.out (hcB0 j u h) (by simp)
            clear hx hA hB hevA0 hcB0
            obtain ⟨v3, v4, rfl, hsA1, hsA2, _⟩ := id hevA
            obtain ⟨v5, v6, rfl, hsB1, hsB2, _⟩ := id hevB
            obtain ⟨a3, c3, rfl⟩ := hsA1.form
            obtain ⟨a4, c4, rfl⟩ := hsA2.form
            obtain ⟨a5, c5, rfl⟩ := hsB1.form
            obtain ⟨a6, c6, rfl⟩ := hsB2.form
            have EA := Lib.hid (hevA.kept (HK.out.trans (Keep.refl [] _).drew))
            have EB := Lib.hid (hevB.kept ((K7.out.trans HK.out).trans (Keep.refl [] _).drew))
            clear hsA1 hsA2 hsB1 hsB2 hevA hevB
            unfold evCells at EA EB
            have g0 := cell_keep HK.out (hcA 0 _ rfl) (by simp)
            have g1 := cell_keep HK.out (hcA 1 _ rfl) (by simp)
            have g2 := cell_keep HK.out (hcA 2 _ rfl) (by simp)
            have g3 := cell_keep HK.out (hcA 3 _ rfl) (by simp)
            have g4 := cell_keep HK.out (hcA 4 _ rfl) (by simp)
            have g5 := cell_keep HK.out (hcA 5 _ rfl) (by simp)
            have g6 := cell_keep HK.out (hcA 6 _ rfl) (by simp)
            have g7 := cell_keep HK.out (hcA 7 _ rfl) (by simp)
            have g8 := cell_keep HK.out (hcA 8 _ rfl) (by simp)
            have g9 := cell_keep HK.out (hcA 9 _ rfl) (by simp)
            have g10 := cell_keep HK.out (hcA 10 _ rfl) (by simp)
            have g11 := cell_keep HK.out (hcA 11 _ rfl) (by simp)
            have g12 := cell_keep HK.out (hcA 12 _ rfl) (by simp)
            have m0 := cell_keep HK.out (hcB 0 _ rfl) (by simp)
            have m1 := cell_keep HK.out (hcB 1 _ rfl) (by simp)
            have m2 := cell_keep HK.out (hcB 2 _ rfl) (by simp)
            have m3 := cell_keep HK.out (hcB 3 _ rfl) (by simp)
            have m4 := cell_keep HK.out (hcB 4 _ rfl) (by simp)
            have m5 := cell_keep HK.out (hcB 5 _ rfl) (by simp)
            have m6 := cell_keep HK.out (hcB 6 _ rfl) (by simp)
            have m7 := cell_keep HK.out (hcB 7 _ rfl) (by simp)
            have m8 := cell_keep HK.out (hcB 8 _ rfl) (by simp)
            have m9 := cell_keep HK.out (hcB 9 _ rfl) (by simp)
            have m10 := cell_keep HK.out (hcB 10 _ rfl) (by simp)
            have m11 := cell_keep HK.out (hcB 11 _ rfl) (by simp)
            have m12 := cell_keep HK.out (hcB 12 _ rfl) (by simp)
            simp only [Nat.add_zero] at g0 m0
            clear hcA hcB
            have KD := Lib.hid (HK.out.trans (Keep.refl [] _).drew)
            have SA := Lib.hid (show (_root_.Go.World.cell? wr.drew ⟨bA, oA + i * 13, none⟩ = some (.int .i64 x.k) ∧ _root_.Go.World.cell? wr.drew ⟨bA, oA + i * 13 + 1, none⟩ = some (.int .i64 x.step) ∧ _root_.Go.World.cell? wr.drew ⟨bA, oA + i * 13 + 2, none⟩ = some (.int .i64 x.core) ∧ _root_.Go.World.cell? wr.drew ⟨bA, oA + i * 13 + 3, none⟩ = some (.int .i64 x.thr) ∧ _root_.Go.World.cell? wr.drew ⟨bA, oA + i * 13 + 4, none⟩ = some (.int .i64 x.call.k) ∧ _root_.Go.World.cell? wr.drew ⟨bA, oA + i * 13 + 5, none⟩ = some (.int .i64 x.call.h) ∧ _root_.Go.World.cell? wr.drew ⟨bA, oA + i * 13 + 6, none⟩ = some (.int .i64 x.call.a) ∧ _root_.Go.World.cell? wr.drew ⟨bA, oA + i * 13 + 7, none⟩ = some (.int .i64 x.call.b) ∧ _root_.Go.World.cell? wr.drew ⟨bA, oA + i * 13 + 8, none⟩ = some (.slice a3 x.call.words.length c3) ∧ _root_.Go.World.cell? wr.drew ⟨bA, oA + i * 13 + 9, none⟩ = some (.int .i64 x.call.t) ∧ _root_.Go.World.cell? wr.drew ⟨bA, oA + i * 13 + 10, none⟩ = some (.int .i64 x.code) ∧ _root_.Go.World.cell? wr.drew ⟨bA, oA + i * 13 + 11, none⟩ = some (.int .i64 x.cnt) ∧ _root_.Go.World.cell? wr.drew ⟨bA, oA + i * 13 + 12, none⟩ = some (.slice a4 x.words.length c4)) ∧ (_root_.Go.World.cell? wr.drew ⟨bB, oB + i * 13, none⟩ = some (.int .i64 x.k) ∧ _root_.Go.World.cell? wr.drew ⟨bB, oB + i * 13 + 1, none⟩ = some (.int .i64 x.step) ∧ _root_.Go.World.cell? wr.drew ⟨bB, oB + i * 13 + 2, none⟩ = some (.int .i64 x.core) ∧ _root_.Go.World.cell? wr.drew ⟨bB, oB + i * 13 + 3, none⟩ = some (.int .i64 x.thr) ∧ _root_.Go.World.cell? wr.drew ⟨bB, oB + i * 13 + 4, none⟩ = some (.int .i64 x.call.k) ∧ _root_.Go.World.cell? wr.drew ⟨bB, oB + i * 13 + 5, none⟩ = some (.int .i64 x.call.h) ∧ _root_.Go.World.cell? wr.drew ⟨bB, oB + i * 13 + 6, none⟩ = some (.int .i64 x.call.a) ∧ _root_.Go.World.cell? wr.drew ⟨bB, oB + i * 13 + 7, none⟩ = some (.int .i64 x.call.b) ∧ _root_.Go.World.cell? wr.drew ⟨bB, oB + i * 13 + 8, none⟩ = some (.slice a5 x.call.words.length c5) ∧ _root_.Go.World.cell? wr.drew ⟨bB, oB + i * 13 + 9, none⟩ = some (.int .i64 x.call.t) ∧ _root_.Go.World.cell? wr.drew ⟨bB, oB + i * 13 + 10, none⟩ = some (.int .i64 x.code) ∧ _root_.Go.World.cell? wr.drew ⟨bB, oB + i * 13 + 11, none⟩ = some (.int .i64 x.cnt) ∧ _root_.Go.World.cell? wr.drew ⟨bB, oB + i * 13 + 12, none⟩ = some (.slice a6 x.words.length c6)) from by simp only [World.cell?_drew]; exact ⟨⟨g0, g1, g2, g3, g4, g5, g6, g7, g8, g9, g10, g11, g12⟩, ⟨m0, m1, m2, m3, m4, m5, m6, m7, m8, m9, m10, m11, m12⟩⟩)
            go_wp2_with fail
            go_region_held3 (fun w' => (w'.cell? ⟨bA, oA + i * 13, none⟩ = some (.int .i64 x.k) ∧ w'.cell? ⟨bA, oA + i * 13 + 1, none⟩ = some (.int .i64 x.step) ∧ w'.cell? ⟨bA, oA + i * 13 + 2, none⟩ = some (.int .i64 x.core) ∧ w'.cell? ⟨bA, oA + i * 13 + 3, none⟩ = some (.int .i64 x.thr) ∧ w'.cell? ⟨bA, oA + i * 13 + 4, none⟩ = some (.int .i64 x.call.k) ∧ w'.cell? ⟨bA, oA + i * 13 + 5, none⟩ = some (.int .i64 x.call.h) ∧ w'.cell? ⟨bA, oA + i * 13 + 6, none⟩ = some (.int .i64 x.call.a) ∧ w'.cell? ⟨bA, oA + i * 13 + 7, none⟩ = some (.int .i64 x.call.b) ∧ w'.cell? ⟨bA, oA + i * 13 + 8, none⟩ = some (.slice a3 x.call.words.length c3) ∧ w'.cell? ⟨bA, oA + i * 13 + 9, none⟩ = some (.int .i64 x.call.t) ∧ w'.cell? ⟨bA, oA + i * 13 + 10, none⟩ = some (.int .i64 x.code) ∧ w'.cell? ⟨bA, oA + i * 13 + 11, none⟩ = some (.int .i64 x.cnt) ∧ w'.cell? ⟨bA, oA + i * 13 + 12, none⟩ = some (.slice a4 x.words.length c4)) ∧ (w'.cell? ⟨bB, oB + i * 13, none⟩ = some (.int .i64 x.k) ∧ w'.cell? ⟨bB, oB + i * 13 + 1, none⟩ = some (.int .i64 x.step) ∧ w'.cell? ⟨bB, oB + i * 13 + 2, none⟩ = some (.int .i64 x.core) ∧ w'.cell? ⟨bB, oB + i * 13 + 3, none⟩ = some (.int .i64 x.thr) ∧ w'.cell? ⟨bB, oB + i * 13 + 4, none⟩ = some (.int .i64 x.call.k) ∧ w'.cell? ⟨bB, oB + i * 13 + 5, none⟩ = some (.int .i64 x.call.h) ∧ w'.cell? ⟨bB, oB + i * 13 + 6, none⟩ = some (.int .i64 x.call.a) ∧ w'.cell? ⟨bB, oB + i * 13 + 7, none⟩ = some (.int .i64 x.call.b) ∧ w'.cell? ⟨bB, oB + i * 13 + 8, none⟩ = some (.slice a5 x.call.words.length c5) ∧ w'.cell? ⟨bB, oB + i * 13 + 9, none⟩ = some (.int .i64 x.call.t) ∧ w'.cell? ⟨bB, oB + i * 13 + 10, none⟩ = some (.int .i64 x.code) ∧ w'.cell? ⟨bB, oB + i * 13 + 11, none⟩ = some (.int .i64 x.cnt) ∧ w'.cell? ⟨bB, oB + i * 13 + 12, none⟩ = some (.slice a6 x.words.length c6)))
              (first | exact SB.out | go_keep)
              (first
                | (go_at_call 24; ((with_reducible refine (same_ev EA.out EB.out).mono ?_); rintro _ w8 ⟨rfl, k8⟩; rw [sameE_refl]; have K8 := Lib.hid (KD.out.trans k8); have SB := Lib.hid (keep26 k8 SA.out); clear k8))
                | (fail))
            all_goals
              go_wp2_with fail
              go_roundw
              case rel => exact ⟨i + 1, by go_num, by omega, K8.out⟩
              case measure => simp [intOf]; omega
          · have hie : i = k := by omega
            subst hie
            have HK1 := HK
            clear HK
            go_wp2_with fail
            go_loopw [125] (fun c wr => ∃ i : Nat, c = .int .i64 i ∧ i ≤ wl ∧ Keep [] w7 wr) (fun c _ => wl - (intOf c).toNat)
            case atStart => exact ⟨0, rfl, Nat.zero_le _, HK1.out⟩
            case round =>
              obtain ⟨i, rfl, hi, hk⟩ := hrel
              have HK := Lib.hid hk
              clear hk
              by_cases hil : i < wl
              · have hil' : (i : Int) < wl := by omega
                have hi0 : (0 : Int) ≤ (i : Int) := by omega
                obtain ⟨_, _, heA, _, _, hA⟩ := FO7.out
                obtain ⟨p, hp⟩ := get_of Hwl hil
                have hx : (ws.map (·.1))[i]? = some p.1 := by rw [List.getElem?_map, hp]; rfl
                rw [List.length_map, Hwl.out] at heA
                cases heA
                generalize p.1 = x at hx
                obtain ⟨bA, oA, csA, rfl, _, _, _, hcA, hevA0⟩ := hA i x hx
                have hevA := hevA0.rep
                obtain ⟨_, _, heB, _, _, hB⟩ := FW7.out
                rw [List.length_map, Hwl.out] at heB
                cases heB
                obtain ⟨bB, oB, csB, rfl, _, _, _, hcB, hevB⟩ := hB i x hx
                clear hx hA hB hevA0 hp
                obtain ⟨v3, v4, rfl, hsA1, hsA2, _⟩ := id hevA
                obtain ⟨v5, v6, rfl, hsB1, hsB2, _⟩ := id hevB
                obtain ⟨a3, c3, rfl⟩ := hsA1.form
                obtain ⟨a4, c4, rfl⟩ := hsA2.form
                obtain ⟨a5, c5, rfl⟩ := hsB1.form
                obtain ⟨a6, c6, rfl⟩ := hsB2.form
                have EA := Lib.hid (hevA.kept (HK.out.trans (Keep.refl [] _).drew))
                have EB := Lib.hid (hevB.kept ((K7.out.trans HK.out).trans (Keep.refl [] _).drew))
                clear hsA1 hsA2 hsB1 hsB2 hevA hevB
                unfold evCells at EA EB
                have g0 := cell_keep HK.out (hcA 0 _ rfl) (by simp)
                have g1 := cell_keep HK.out (hcA 1 _ rfl) (by simp)
                have g2 := cell_keep HK.out (hcA 2 _ rfl) (by simp)
                have g3 := cell_keep HK.out (hcA 3 _ rfl) (by simp)
                have g4 := cell_keep HK.out (hcA 4 _ rfl) (by simp)
                have g5 := cell_keep HK.out (hcA 5 _ rfl) (by simp)
                have g6 := cell_keep HK.out (hcA 6 _ rfl) (by simp)
                have g7 := cell_keep HK.out (hcA 7 _ rfl) (by simp)
                have g8 := cell_keep HK.out (hcA 8 _ rfl) (by simp)
                have g9 := cell_keep HK.out (hcA 9 _ rfl) (by simp)
                have g10 := cell_keep HK.out (hcA 10 _ rfl) (by simp)
                have g11 := cell_keep HK.out (hcA 11 _ rfl) (by simp)
                have g12 := cell_keep HK.out (hcA 12 _ rfl) (by simp)
                have m0 := cell_keep HK.out (hcB 0 _ rfl) (by simp)
                have m1 := cell_keep HK.out (hcB 1 _ rfl) (by simp)
                have m2 := cell_keep HK.out (hcB 2 _ rfl) (by simp)
                have m3 := cell_keep HK.out (hcB 3 _ rfl) (by simp)
                have m4 := cell_keep HK.out (hcB 4 _ rfl) (by simp)
                have m5 := cell_keep HK.out (hcB 5 _ rfl) (by simp)
                have m6 := cell_keep HK.out (hcB 6 _ rfl) (by simp)
                have m7 := cell_keep HK.out (hcB 7 _ rfl) (by simp)
                have m8 := cell_keep HK.out (hcB 8 _ rfl) (by simp)
                have m9 := cell_keep HK.out (hcB 9 _ rfl) (by simp)
                have m10 := cell_keep HK.out (hcB 10 _ rfl) (by simp)
                have m11 := cell_keep HK.out (hcB 11 _ rfl) (by simp)
                have m12 := cell_keep HK.out (hcB 12 _ rfl) (by simp)
                simp only [Nat.add_zero] at g0 m0
                clear hcA hcB
                have KD := Lib.hid (HK.out.trans (Keep.refl [] _).drew)
                have SA := Lib.hid (show (_root_.Go.World.cell? wr.drew ⟨bA, oA + i * 13, none⟩ = some (.int .i64 x.k) ∧ _root_.Go.World.cell? wr.drew ⟨bA, oA + i * 13 + 1, none⟩ = some (.int .i64 x.step) ∧ _root_.Go.World.cell? wr.drew ⟨bA, oA + i * 13 + 2, none⟩ = some (.int .i64 x.core) ∧ _root_.Go.World.cell? wr.drew ⟨bA, oA + i * 13 + 3, none⟩ = some (.int .i64 x.thr) ∧ _root_.Go.World.cell? wr.drew ⟨bA, oA + i * 13 + 4, none⟩ = some (.int .i64 x.call.k) ∧ _root_.Go.World.cell? wr.drew ⟨bA, oA + i * 13 + 5, none⟩ = some (.int .i64 x.call.h) ∧ _root_.Go.World.cell? wr.drew ⟨bA, oA + i * 13 + 6, none⟩ = some (.int .i64 x.call.a) ∧ _root_.Go.World.cell? wr.drew ⟨bA, oA + i * 13 + 7, none⟩ = some (.int .i64 x.call.b) ∧ _root_.Go.World.cell? wr.drew ⟨bA, oA + i * 13 + 8, none⟩ = some (.slice a3 x.call.words.length c3) ∧ _root_.Go.World.cell? wr.drew ⟨bA, oA + i * 13 + 9, none⟩ = some (.int .i64 x.call.t) ∧ _root_.Go.World.cell? wr.drew ⟨bA, oA + i * 13 + 10, none⟩ = some (.int .i64 x.code) ∧ _root_.Go.World.cell? wr.drew ⟨bA, oA + i * 13 + 11, none⟩ = some (.int .i64 x.cnt) ∧ _root_.Go.World.cell? wr.drew ⟨bA, oA + i * 13 + 12, none⟩ = some (.slice a4 x.words.length c4)) ∧ (_root_.Go.World.cell? wr.drew ⟨bB, oB + i * 13, none⟩ = some (.int .i64 x.k) ∧ _root_.Go.World.cell? wr.drew ⟨bB, oB + i * 13 + 1, none⟩ = some (.int .i64 x.step) ∧ _root_.Go.World.cell? wr.drew ⟨bB, oB + i * 13 + 2, none⟩ = some (.int .i64 x.core) ∧ _root_.Go.World.cell? wr.drew ⟨bB, oB + i * 13 + 3, none⟩ = some (.int .i64 x.thr) ∧ _root_.Go.World.cell? wr.drew ⟨bB, oB + i * 13 + 4, none⟩ = some (.int .i64 x.call.k) ∧ _root_.Go.World.cell? wr.drew ⟨bB, oB + i * 13 + 5, none⟩ = some (.int .i64 x.call.h) ∧ _root_.Go.World.cell? wr.drew ⟨bB, oB + i * 13 + 6, none⟩ = some (.int .i64 x.call.a) ∧ _root_.Go.World.cell? wr.drew ⟨bB, oB + i * 13 + 7, none⟩ = some (.int .i64 x.call.b) ∧ _root_.Go.World.cell? wr.drew ⟨bB, oB + i * 13 + 8, none⟩ = some (.slice a5 x.call.words.length c5) ∧ _root_.Go.World.cell? wr.drew ⟨bB, oB + i * 13 + 9, none⟩ = some (.int .i64 x.call.t) ∧ _root_.Go.World.cell? wr.drew ⟨bB, oB + i * 13 + 10, none⟩ = some (.int .i64 x.code) ∧ _root_.Go.World.cell? wr.drew ⟨bB, oB + i * 13 + 11, none⟩ = some (.int .i64 x.cnt) ∧ _root_.Go.World.cell? wr.drew ⟨bB, oB + i * 13 + 12, none⟩ = some (.slice a6 x.words.length c6)) from by simp only [World.cell?_drew]; exact ⟨⟨g0, g1, g2, g3, g4, g5, g6, g7, g8, g9, g10, g11, g12⟩, ⟨m0, m1, m2, m3, m4, m5, m6, m7, m8, m9, m10, m11, m12⟩⟩)
                go_wp2_with fail
                go_region_held3 (fun w' => (w'.cell? ⟨bA, oA + i * 13, none⟩ = some (.int .i64 x.k) ∧ w'.cell? ⟨bA, oA + i * 13 + 1, none⟩ = some (.int .i64 x.step) ∧ w'.cell? ⟨bA, oA + i * 13 + 2, none⟩ = some (.int .i64 x.core) ∧ w'.cell? ⟨bA, oA + i * 13 + 3, none⟩ = some (.int .i64 x.thr) ∧ w'.cell? ⟨bA, oA + i * 13 + 4, none⟩ = some (.int .i64 x.call.k) ∧ w'.cell? ⟨bA, oA + i * 13 + 5, none⟩ = some (.int .i64 x.call.h) ∧ w'.cell? ⟨bA, oA + i * 13 + 6, none⟩ = some (.int .i64 x.call.a) ∧ w'.cell? ⟨bA, oA + i * 13 + 7, none⟩ = some (.int .i64 x.call.b) ∧ w'.cell? ⟨bA, oA + i * 13 + 8, none⟩ = some (.slice a3 x.call.words.length c3) ∧ w'.cell? ⟨bA, oA + i * 13 + 9, none⟩ = some (.int .i64 x.call.t) ∧ w'.cell? ⟨bA, oA + i * 13 + 10, none⟩ = some (.int .i64 x.code) ∧ w'.cell? ⟨bA, oA + i * 13 + 11, none⟩ = some (.int .i64 x.cnt) ∧ w'.cell? ⟨bA, oA + i * 13 + 12, none⟩ = some (.slice a4 x.words.length c4)) ∧ (w'.cell? ⟨bB, oB + i * 13, none⟩ = some (.int .i64 x.k) ∧ w'.cell? ⟨bB, oB + i * 13 + 1, none⟩ = some (.int .i64 x.step) ∧ w'.cell? ⟨bB, oB + i * 13 + 2, none⟩ = some (.int .i64 x.core) ∧ w'.cell? ⟨bB, oB + i * 13 + 3, none⟩ = some (.int .i64 x.thr) ∧ w'.cell? ⟨bB, oB + i * 13 + 4, none⟩ = some (.int .i64 x.call.k) ∧ w'.cell? ⟨bB, oB + i * 13 + 5, none⟩ = some (.int .i64 x.call.h) ∧ w'.cell? ⟨bB, oB + i * 13 + 6, none⟩ = some (.int .i64 x.call.a) ∧ w'.cell? ⟨bB, oB + i * 13 + 7, none⟩ = some (.int .i64 x.call.b) ∧ w'.cell? ⟨bB, oB + i * 13 + 8, none⟩ = some (.slice a5 x.call.words.length c5) ∧ w'.cell? ⟨bB, oB + i * 13 + 9, none⟩ = some (.int .i64 x.call.t) ∧ w'.cell? ⟨bB, oB + i * 13 + 10, none⟩ = some (.int .i64 x.code) ∧ w'.cell? ⟨bB, oB + i * 13 + 11, none⟩ = some (.int .i64 x.cnt) ∧ w'.cell? ⟨bB, oB + i * 13 + 12, none⟩ = some (.slice a6 x.words.length c6)))
                  (first | exact SB.out | go_keep)
                  (first
                    | (go_at_call 24; ((with_reducible refine (same_ev EA.out EB.out).mono ?_); rintro _ w8 ⟨rfl, k8⟩; rw [sameE_refl]; have K8 := Lib.hid (KD.out.trans k8); have SB := Lib.hid (keep26 k8 SA.out); clear k8))
                    | (fail))
                all_goals
                  go_wp2_with fail
                  go_roundw
                  case rel => exact ⟨i + 1, by go_num, by omega, K8.out⟩
                  case measure => simp [intOf]; omega
              · have hie : i = wl := by omega
                subst hie
                go_wp2_with fail
                go_ret
                exact ⟨rfl, ((K2.out.trans K7.out).trans HK.out)⟩
end Hist
end Go.Proofs.Ytkmpajdiedpfhaa
