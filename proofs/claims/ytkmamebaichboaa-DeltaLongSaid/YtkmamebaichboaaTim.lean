/- Law 7: the document's timers: Insert and Remove. No conditions but those stated. -/
import Derived.Test.YtkmamebaichboaaDelta5
import Derived.Test.YtkmamebaichboaaQu
namespace Go.Proofs.Ytkmamebaichboaa
open Go.ChangeShapes Go.WideShapes Go.ChangeAt Go.RowKit
set_option linter.unusedVariables false
set_option linter.unusedSimpArgs false
namespace Law07
theorem cell_stays {S : List Nat} {w w' : World} (k : Keep S w w') {g i : Nat} {v : Value} (h : w.cell? ⟨g, i, none⟩ = some v) (hg : g ∉ S) : w'.cell? ⟨g, i, none⟩ = some v := by
  rw [World.cell?_of_block (w := w) (k.block g (World.block_lt_of_cell? w ⟨g, i, none⟩ h) hg)]; exact h
theorem infoTim : (Try.prog.info? 123).map (fun i => (i.zero, i.size, i.bytes)) = some (some (.agg #[.int .i64 0, .int .i64 0]), 2, 16) := by kernel_rfl
def cells2 (q : Int × Int) : List Value := [.int .i64 q.1, .int .i64 q.2]
def flat2 (l : List (Int × Int)) : List Value := l.flatMap cells2
theorem flat2_len : ∀ l, (flat2 l).length = l.length * 2
  | [] => rfl
  | q :: r => by
    have := flat2_len r
    unfold flat2 at this ⊢
    simp [cells2, this]
    omega
theorem flat2_app (l m : List (Int × Int)) : flat2 (l ++ m) = flat2 l ++ flat2 m := by simp [flat2]
theorem flat2_get : ∀ (l : List (Int × Int)) (i : Nat) (q : Int × Int), l[i]? = some q → (flat2 l)[i * 2]? = some (.int .i64 q.1) ∧ (flat2 l)[i * 2 + 1]? = some (.int .i64 q.2)
  | [], i, q, h => by simp at h
  | p :: r, 0, q, h => by
    simp at h
    subst h
    exact ⟨rfl, rfl⟩
  | p :: r, i + 1, q, h => by
    have := flat2_get r i q (by simpa using h)
    have e1 : (i + 1) * 2 = i * 2 + 1 + 1 := by omega
    have e2 : (i + 1) * 2 + 1 = i * 2 + 1 + 1 + 1 := by omega
    rw [e1]
    exact this
/-- A row of timers of the call's own, or nil. -/
def TQ (w : World) (base : Nat) (v : Value) (l : List (Int × Int)) : Prop := w.ownsRow base 123 2 v l.length (flat2 l)
theorem TQ.nil {w : World} {base : Nat} : TQ w base (.slice none 0 0) [] := ⟨rfl, .inl ⟨rfl, rfl⟩⟩
section
variable {w w' : World} {base : Nat} {v : Value} {l : List (Int × Int)}
theorem TQ.keep (h : TQ w base v l) {S : List Nat} (k : Keep S w w') (hs : ∀ j ∈ blk v, j ∉ S) : TQ w' base v l := by
  refine ⟨h.1, ?_⟩
  rcases h.2 with hn | ⟨g, cap, cur, rfl, hb, hg, rest⟩
  · exact .inl hn
  · exact .inr ⟨g, cap, cur, rfl, hb, k.to hg (hs g (mem_blk.2 rfl)), rest⟩
theorem TQ.low (h : TQ w base v l) : ∀ g ∈ blk v, base ≤ g ∧ g < w.heap.size := by
  intro g hg
  rw [mem_blk] at hg
  rcases h.2 with ⟨e, _⟩ | ⟨g', cap, cur, e, hb, hh, rest⟩
  · rw [e] at hg; simp [Value.ownBlock] at hg
  · rw [e] at hg; simp [Value.ownBlock] at hg; subst hg; exact ⟨hb, lt_of_block hh⟩
theorem TQ.mono {b' : Nat} (h : TQ w base v l) (hb : b' ≤ base) : TQ w b' v l := by
  refine ⟨h.1, ?_⟩
  rcases h.2 with hn | ⟨g, cap, cur, rfl, hb2, rest⟩
  · exact .inl hn
  · exact .inr ⟨g, cap, cur, rfl, Nat.le_trans hb hb2, rest⟩
theorem TQ.form (h : TQ w base v l) : ∃ ao cap, v = .slice ao l.length cap ∧ l.length ≤ cap := by
  rcases h.2 with ⟨e, h0⟩ | ⟨g, cap, cur, e, hb, hh, hn, rest⟩
  · exact ⟨none, 0, by rw [e, h0], by omega⟩
  · exact ⟨_, cap, e, hn⟩
theorem TQ.cell (h : TQ w base v l) {i : Nat} {q : Int × Int} (hi : l[i]? = some q) : ∃ g cap, v = .slice (some ⟨g, 0, none⟩) l.length cap ∧ w.cell? ⟨g, i * 2, none⟩ = some (.int .i64 q.1) ∧ w.cell? ⟨g, i * 2 + 1, none⟩ = some (.int .i64 q.2) := by
  rcases h.2 with ⟨e, h0⟩ | ⟨g, cap, cur, e, hb, hh, hn, hc, hz, ht⟩
  · rw [List.eq_nil_of_length_eq_zero h0] at hi
    simp at hi
  · obtain ⟨g1, g2⟩ := flat2_get l i q hi
    have look : ∀ (j : Nat) (u : Value), (flat2 l)[j]? = some u → w.cell? ⟨g, j, none⟩ = some u := by
      intro j u hu
      refine cell_of hh ?_
      rw [← ht, List.getElem?_take] at hu
      split at hu
      · simpa using hu
      · cases hu
    exact ⟨g, cap, e, look _ _ g1, look _ _ g2⟩
end
theorem wpList_append_tq {w : World} {ops : Array Oper} {rest : List Oper} {o : Oper} {a : Go.Act} {Q : Exit → Go.Act → World → Prop} (hgd : o.guard = none) (s x : Operand)
    (ho : o.op = .call { callee := .builtin .append, args := #[s, x], argTypes := #[114, 114] }) (i : TypeInfo) (hi : Try.prog.info? 123 = some i) (hz : i.zero = some (.agg #[.int .i64 0, .int .i64 0])) (hsize : i.size = 2) (hby : i.bytes = 16)
    {base : Nat} {v : Value} {l : List (Int × Int)} (hs : a.eval s = v) (hw : TQ w base v l) (ad : Addr) (c : Nat) (q : Int × Int) (hx : a.eval x = .slice (some ad) 1 c) (hnews : ∀ (j : Nat) (u : Value), (cells2 q)[j]? = some u → w.cell? (ad.add j) = some u) (n : Nat) (hln : l.length = n) (hn : n ≤ 1000) (hbase : base ≤ w.heap.size)
    (h : ∀ ao cap w', TQ w' base (.slice ao (n + 1) cap) (l ++ [q]) → Keep (blk v) w w' → wpList Try.prog ops Q rest (a.put o.dst (.slice ao (n + 1) cap)) w') : wpList Try.prog ops Q (o :: rest) a w := by
  subst hln
  refine wpList_append_lies _ hgd s x _ ho base 123 i _ 2 16 Try.underlying114 hi hz hsize hby rfl (by omega) v l.length (flat2 l) hs hw ad 1 c (cells2 q) hx rfl hnews (by intro u hu; simp [cells2] at hu; rcases hu with rfl | rfl <;> rfl) (by omega) (by unfold maxLen; omega) (by omega) hbase _ rfl ?_
  intro g cap w' hown hgr hat hlt
  refine h _ cap w' ?_ ((Keep.refl (blk v) w).of_grown hgr (fun k hk => .inr (mem_blk.2 hk)))
  have e : flat2 (l ++ [q]) = flat2 l ++ cells2 q := by rw [flat2_app]; rfl
  unfold TQ
  rw [e, List.length_append]
  exact hown
def TimRep (w : World) (y base : Nat) (v : Value) (l : List (Int × Int)) : Prop := w.heap[y]? = some (.cells #[v] 116 (0, 0)) ∧ TQ w base v l
set_option maxHeartbeats 4000000 in
theorem tim_insert {w : World} {y base : Nat} {v : Value} {l : List (Int × Int)} (h : TimRep w y base v l) (hl : l.length ≤ 100) (k t : Int) :
    Calls Try.prog 61 #[.pointer (some ⟨y, 0, none⟩), .int .i64 k, .int .i64 t] w fun e w' => e = .returned (.tuple #[]) ∧ ∃ v', TimRep w' y w.heap.size v' (insL k t l) ∧ Keep [y] w w' := by
  obtain ⟨i0, hi0, hz0, hz1, hz2⟩ := info_parts infoTim
  obtain ⟨hy, hv⟩ := h
  obtain ⟨av, cv, rfl, hcv⟩ := hv.form
  have HY := Lib.hid hy
  have HV := Lib.hid hv
  have cy := cell_of (i := 0) hy rfl
  have hyl := lt_of_block hy
  have hvl : Hid (∀ g ∈ blk (.slice av l.length cv), g < w.heap.size) := Lib.hid (fun g hg => (hv.low g hg).2)
  clear hy hv
  go_enter Try.func61, Try.ntmps61
  go_wp2_with fail
  clear cy
  go_loopw [6, 7, 14] (fun s6 s7 c_ wr => ∃ (i : Nat) (out : List (Int × Int)) (g : Bool), s7 = .bool g ∧ c_ = .int .i64 i ∧ i ≤ l.length ∧ TQ wr w.heap.size s6 out ∧ out.length = i + (if g = true then 1 else 0) ∧ Keep [] w wr ∧ out ++ (if g = true then l.drop i else insL k t (l.drop i)) = insL k t l) (fun _ _ c_ _ => l.length - (intOf c_).toNat)
  case atStart => exact ⟨0, [], false, rfl, rfl, Nat.zero_le _, TQ.nil, rfl, Keep.refl _ _, by simp⟩
  case round =>
    obtain ⟨i, out, g, rfl, rfl, hi, ho, hol, hk, he⟩ := hrel
    obtain ⟨ao, co, rfl, hco⟩ := ho.form
    have cy : wr.cell? ⟨y, 0, none⟩ = some (.slice av l.length cv) := cell_of (i := 0) (hk.to HY.out (by simp)) rfl
    have HO := Lib.hid ho; have HK := Lib.hid hk; have HE := Lib.hid he
    have hsz := hk.size
    clear ho hk he
    by_cases hil : i < l.length
    · have hil' : (i : Int) < (l.length : Int) := by omega
      have hi0' : (0 : Int) ≤ (i : Int) := by omega
      obtain ⟨q, hq⟩ : ∃ q, l[i]? = some q := ⟨_, List.getElem?_eq_getElem hil⟩
      obtain ⟨gv, cv2, e1, c1, c2⟩ := (HV.out.keep HK.out (by simp)).cell hq
      cases e1
      have HD : Hid (l.drop i = q :: l.drop (i + 1)) := Lib.hid (by rw [List.drop_eq_getElem_cons hil]; rw [List.getElem?_eq_getElem hil] at hq; cases hq; rfl)
      clear hq
      have hgv := hvl.out gv (by simp [blk, Value.ownBlock])
      have W5 := Lib.hid (HO.out.keep ((Keep.refl [] wr).alloc (.cells #[.int .i64 q.1, .int .i64 q.2] 123)) (by simp))
      cases g with
      | true =>
        simp only [if_true] at hol
        have hol2 := hol
        rw [hol2] at HO W5 ⊢
        go_wp2_with (at_builtin; refine wpList_append_tq rfl _ _ rfl i0 hi0 hz0 hz1 hz2 rfl W5.out ⟨wr.heap.size, 0, none⟩ 1 q (by first | rfl | simp [Go.Act.eval, Go.Act.put]) (World.news_of_block (cs := #[.int .i64 q.1, .int .i64 q.2]) (t := 123) (fr := (0, 0)) (heap_alloc_new wr _)) (i + 1) hol2 (by omega) (by simp; omega) ?_; intro ao5 co5 w5 hq5 hk5)
        go_roundw
        case rel =>
          refine ⟨i + 1, out ++ [q], true, rfl, by go_num, by omega, hq5, by simp [hol2], (HK.out.alloc _).transS hk5 (T := []) (by simp) (fun y hy hlt => by have := (HO.out.low y hy).1; omega), ?_⟩
          have := HE.out
          rw [HD.out] at this
          simpa using this
        case measure => simp [intOf]; omega
      | false =>
        simp only [Bool.false_eq_true, if_false, Nat.add_zero] at hol
        by_cases hlt : t < q.2
        · have hdl : decide (t < q.2) = true := decide_eq_true hlt
          have W1 := Lib.hid (HO.out.keep ((Keep.refl [] wr).alloc (.cells #[.int .i64 k, .int .i64 t] 123)) (by simp))
          have KA := Lib.hid ((Keep.refl [] wr).alloc (.cells #[.int .i64 k, .int .i64 t] 123))
          have HIN : Hid (insL k t (q :: l.drop (i + 1)) = (k, t) :: q :: l.drop (i + 1)) := Lib.hid (if_pos hlt)
          have C1 := Lib.hid (And.intro c1 (And.intro c2 cy))
          rw [hol] at HO W1 ⊢
          clear hlt
          go_wp2_with (at_builtin; first
            | (refine wpList_append_tq rfl _ _ rfl i0 hi0 hz0 hz1 hz2 rfl W1.out ⟨wr.heap.size, 0, none⟩ 1 (k, t) (by first | rfl | simp [Go.Act.eval, Go.Act.put]) (World.news_of_block (cs := #[.int .i64 k, .int .i64 t]) (t := 123) (fr := (0, 0)) (heap_alloc_new wr _)) i hol (by omega) (by simp; omega) ?_; intro ao5 co5 w5 hq5 hk5; have Q5 := Lib.hid hq5; have K5 : Hid (Keep [] w w5) := Lib.hid ((HK.out.alloc _).transS hk5 (T := []) (by simp) (fun y hy hlt => by have := (HO.out.low y hy).1; omega)); have hs5 := K5.out.size; have far : ∀ z, z < w.heap.size → z ∉ blk (.slice ao i co) := (fun z hz hm => by have := (HO.out.low z hm).1; omega); have cA := cell_stays hk5 (cell_stays KA.out C1.out.1 (by simp)) (far gv hgv); have cB := cell_stays hk5 (cell_stays KA.out C1.out.2.1 (by simp)) (far gv hgv); have cC := cell_stays hk5 (cell_stays KA.out C1.out.2.2 (by simp)) (far y hyl); have W6 := Lib.hid (hq5.keep ((Keep.refl [] w5).alloc (.cells #[.int .i64 q.1, .int .i64 q.2] 123)) (by simp)); clear hq5 hk5 far)
            | (refine wpList_append_tq rfl _ _ rfl i0 hi0 hz0 hz1 hz2 rfl W6.out ⟨w5.heap.size, 0, none⟩ 1 q (by first | rfl | simp [Go.Act.eval, Go.Act.put]) (World.news_of_block (cs := #[.int .i64 q.1, .int .i64 q.2]) (t := 123) (fr := (0, 0)) (heap_alloc_new w5 _)) (i + 1) (by simp [hol]) (by omega) (by simp; omega) ?_; intro ao7 co7 w7 hq7 hk7)
            | fail)
          go_roundw
          case rel =>
            refine ⟨i + 1, out ++ [(k, t)] ++ [q], true, rfl, by go_num, by omega, hq7, by simp [hol], (K5.out.alloc _).transS hk7 (T := []) (by simp) (fun y hy hlt => by have := (Q5.out.low y hy).1; omega), ?_⟩
            have := HE.out
            rw [HD.out] at this
            simp only [Bool.false_eq_true, if_false, HIN.out] at this
            simpa using this
          case measure => simp [intOf]; omega
        · have hdl : decide (t < q.2) = false := decide_eq_false hlt
          have HIN : Hid (insL k t (q :: l.drop (i + 1)) = q :: insL k t (l.drop (i + 1))) := Lib.hid (if_neg hlt)
          rw [hol] at HO W5 ⊢
          clear hlt
          go_wp2_with (at_builtin; refine wpList_append_tq rfl _ _ rfl i0 hi0 hz0 hz1 hz2 rfl W5.out ⟨wr.heap.size, 0, none⟩ 1 q (by first | rfl | simp [Go.Act.eval, Go.Act.put]) (World.news_of_block (cs := #[.int .i64 q.1, .int .i64 q.2]) (t := 123) (fr := (0, 0)) (heap_alloc_new wr _)) i hol (by omega) (by simp; omega) ?_; intro ao5 co5 w5 hq5 hk5)
          go_roundw
          case rel =>
            refine ⟨i + 1, out ++ [q], false, rfl, by go_num, by omega, hq5, by simp [hol], (HK.out.alloc _).transS hk5 (T := []) (by simp) (fun y hy hlt => by have := (HO.out.low y hy).1; omega), ?_⟩
            have := HE.out
            rw [HD.out] at this
            simp only [Bool.false_eq_true, if_false, HIN.out] at this
            simpa using this
          case measure => simp [intOf]; omega
    · have hie : i = l.length := by omega
      have hil' : ¬ (i : Int) < (l.length : Int) := by omega
      have HD : Hid (l.drop i = []) := Lib.hid (List.drop_eq_nil_of_le (by omega))
      have HI := Lib.hid hie
      have zy : wr.frozen? ⟨y, 0, none⟩ = false := free_of (HK.out.to HY.out (by simp))
      have keepY : ∀ (w5 : World) (v5 : Value), Keep [] w w5 → w5.heap[y]? = some (.cells #[.slice av l.length cv] 116 (0, 0)) → ∀ l', TQ w5 w.heap.size v5 l' → l' = insL k t l → ∃ v', TimRep (w5.setCell ⟨y, 0, none⟩ v5) y w.heap.size v' (insL k t l) ∧ Keep [y] w (w5.setCell ⟨y, 0, none⟩ v5) := by
        intro w5 v5 k5 h5 l' h6 h7
        subst h7
        have ks : Keep [y] w5 (w5.setCell ⟨y, 0, none⟩ v5) := (Keep.refl _ _).setCell (.inr (by simp)) _
        exact ⟨v5, ⟨block_set 0 v5 h5, h6.keep ks (fun j hj hm => by have := (h6.low j hj).1; simp at hm; omega)⟩, (k5.mono (S' := [y]) (by simp)).trans ks⟩
      have KY := Lib.hid keepY
      clear hie keepY
      cases g with
      | true =>
        go_wp2_with fail
        go_end0
        have := HE.out
        rw [HD.out] at this
        simp only [if_true, List.append_nil] at this
        simp only [if_true] at hol
        rw [hol] at HO
        obtain ⟨v', r1, r2⟩ := KY.out wr _ HK.out (HK.out.to HY.out (by simp)) out HO.out this
        exact ⟨rfl, ⟨v', r1⟩, r2⟩
      | false =>
        simp only [Bool.false_eq_true, if_false, Nat.add_zero] at hol
        have W1 := Lib.hid (HO.out.keep ((Keep.refl [] wr).alloc (.cells #[.int .i64 k, .int .i64 t] 123)) (by simp))
        have KA := Lib.hid ((Keep.refl [] wr).alloc (.cells #[.int .i64 k, .int .i64 t] 123))
        rw [hol] at HO W1 ⊢
        go_wp2_with (at_builtin; (refine wpList_append_tq rfl _ _ rfl i0 hi0 hz0 hz1 hz2 rfl W1.out ⟨wr.heap.size, 0, none⟩ 1 (k, t) (by first | rfl | simp [Go.Act.eval, Go.Act.put]) (World.news_of_block (cs := #[.int .i64 k, .int .i64 t]) (t := 123) (fr := (0, 0)) (heap_alloc_new wr _)) i hol (by omega) (by simp; omega) ?_; intro ao5 co5 w5 hq5 hk5; have Q5 := Lib.hid hq5; have K5 : Hid (Keep [] w w5) := Lib.hid ((HK.out.alloc _).transS hk5 (T := []) (by simp) (fun y hy hlt => by have := (HO.out.low y hy).1; omega)); have Y5 := Lib.hid (K5.out.to HY.out (by simp)); have cC := cell_of (i := 0) Y5.out rfl; have zC := free_of (i := 0) Y5.out; clear hq5 hk5))
        go_end0
        have := HE.out
        rw [HD.out] at this
        simp only [Bool.false_eq_true, if_false] at this
        obtain ⟨v', r1, r2⟩ := KY.out w5 _ K5.out Y5.out _ Q5.out this
        exact ⟨rfl, ⟨v', r1⟩, r2⟩
set_option maxHeartbeats 4000000 in
theorem tim_remove {w : World} {y base : Nat} {v : Value} {l : List (Int × Int)} (h : TimRep w y base v l) (hl : l.length ≤ 100) (k : Int) :
    Calls Try.prog 63 #[.pointer (some ⟨y, 0, none⟩), .int .i64 k] w fun e w' => e = .returned (.tuple #[]) ∧ ∃ v', TimRep w' y w.heap.size v' (l.filter fun q => q.1 != k) ∧ Keep [y] w w' := by
  obtain ⟨i0, hi0, hz0, hz1, hz2⟩ := info_parts infoTim
  obtain ⟨hy, hv⟩ := h
  obtain ⟨av, cv, rfl, hcv⟩ := hv.form
  have HY := Lib.hid hy
  have HV := Lib.hid hv
  have cy := cell_of (i := 0) hy rfl
  have hyl := lt_of_block hy
  clear hy hv
  go_enter Try.func63, Try.ntmps63
  go_wp2_with fail
  clear cy
  go_loopw [4, 11] (fun s4 c_ wr => ∃ (i : Nat) (out : List (Int × Int)), c_ = .int .i64 i ∧ i ≤ l.length ∧ TQ wr w.heap.size s4 out ∧ out.length ≤ i ∧ Keep [] w wr ∧ out ++ (l.drop i).filter (fun q => q.1 != k) = l.filter (fun q => q.1 != k)) (fun _ c_ _ => l.length - (intOf c_).toNat)
  case atStart => exact ⟨0, [], rfl, Nat.zero_le _, TQ.nil, Nat.le_refl _, Keep.refl _ _, by simp⟩
  case round =>
    obtain ⟨i, out, rfl, hi, ho, hol, hk, he⟩ := hrel
    obtain ⟨ao, co, rfl, hco⟩ := ho.form
    have cy : wr.cell? ⟨y, 0, none⟩ = some (.slice av l.length cv) := cell_of (i := 0) (hk.to HY.out (by simp)) rfl
    have HO := Lib.hid ho; have HK := Lib.hid hk; have HE := Lib.hid he
    have hsz := hk.size
    clear ho hk he
    by_cases hil : i < l.length
    · have hil' : (i : Int) < (l.length : Int) := by omega
      have hi0' : (0 : Int) ≤ (i : Int) := by omega
      obtain ⟨q, hq⟩ : ∃ q, l[i]? = some q := ⟨_, List.getElem?_eq_getElem hil⟩
      obtain ⟨gv, cv2, e1, c1, c2⟩ := (HV.out.keep HK.out (by simp)).cell hq
      cases e1
      have HD : Hid (l.drop i = q :: l.drop (i + 1)) := Lib.hid (by rw [List.drop_eq_getElem_cons hil]; rw [List.getElem?_eq_getElem hil] at hq; cases hq; rfl)
      clear hq
      have W5 := Lib.hid (HO.out.keep ((Keep.refl [] wr).alloc (.cells #[.int .i64 q.1, .int .i64 q.2] 123)) (by simp))
      by_cases hqk : q.1 = k
      · have hb : (q.1 != k) = false := by simpa using hqk
        have HB := Lib.hid hb
        clear hqk
        go_wp2_with fail
        go_roundw
        case rel =>
          refine ⟨i + 1, out, by go_num, by omega, HO.out, by omega, HK.out, ?_⟩
          have := HE.out
          rw [HD.out, List.filter_cons_of_neg (by rw [HB.out]; simp)] at this
          exact this
        case measure => simp [intOf]; omega
      · have hb : (q.1 != k) = true := by simpa using hqk
        have HB := Lib.hid hb
        clear hqk
        go_wp2_with (at_builtin; refine wpList_append_tq rfl _ _ rfl i0 hi0 hz0 hz1 hz2 rfl W5.out ⟨wr.heap.size, 0, none⟩ 1 q (by first | rfl | simp [Go.Act.eval, Go.Act.put]) (World.news_of_block (cs := #[.int .i64 q.1, .int .i64 q.2]) (t := 123) (fr := (0, 0)) (heap_alloc_new wr _)) out.length rfl (by omega) (by simp; omega) ?_; intro ao5 co5 w5 hq5 hk5)
        go_roundw
        case rel =>
          refine ⟨i + 1, out ++ [q], by go_num, by omega, by simpa using hq5, by simp; omega, (HK.out.alloc _).transS hk5 (T := []) (by simp) (fun y hy hlt => by have := (HO.out.low y hy).1; omega), ?_⟩
          have := HE.out
          rw [HD.out, List.filter_cons_of_pos (by rw [HB.out])] at this
          simpa using this
        case measure => simp [intOf]; omega
    · have hil' : ¬ (i : Int) < (l.length : Int) := by omega
      have HD : Hid (l.drop i = []) := Lib.hid (List.drop_eq_nil_of_le (by omega))
      have zy : wr.frozen? ⟨y, 0, none⟩ = false := free_of (HK.out.to HY.out (by simp))
      go_wp2_with fail
      go_end0
      have he := HE.out
      rw [HD.out] at he
      simp only [List.filter_nil, List.append_nil] at he
      rw [← he]
      have ks : Keep [y] wr (wr.setCell ⟨y, 0, none⟩ (.slice ao out.length co)) := (Keep.refl _ _).setCell (.inr (by simp)) _
      exact ⟨rfl, ⟨_, block_set 0 _ (HK.out.to HY.out (by simp)), HO.out.keep ks (fun j hj hm => by have := (HO.out.low j hj).1; simp at hm; omega)⟩, (HK.out.mono (S' := [y]) (by simp)).trans ks⟩
end Law07
end Go.Proofs.Ytkmamebaichboaa
