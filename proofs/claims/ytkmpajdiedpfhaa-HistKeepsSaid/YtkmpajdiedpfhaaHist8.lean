/- The law HistKeeps walked. No conditions but those stated. -/
import Derived.Test.YtkmpajdiedpfhaaHist7
namespace Go.Proofs.Ytkmpajdiedpfhaa
open Go.ChangeShapes Go.WideShapes Go.ChangeAt Go.RowKit Go.Joins
set_option linter.unusedVariables false
set_option linter.unusedSimpArgs false
namespace Hist
open Same Clone
/-- A row of n cells of the call's own, or none. -/
def RowOk (w : World) (lo : Nat) (ao : Option Addr) (n : Nat) : Prop := n = 0 ∨ ∃ g xs, ao = some ⟨g, 0, none⟩ ∧ lo ≤ g ∧ OwnRow w g 2 xs ∧ xs.length = n
def blk (ao : Option Addr) (n : Nat) : List Nat := if n = 0 then [] else match ao with | some a => [a.block] | none => []
theorem RowOk.of {lo n cap : Nat} {w : World} {ao : Option Addr} {l : List Int} (h : FreshSl lo w 2 1 WordRep (.slice ao n cap) l) (hn : l.length = n) : RowOk w lo ao n := by
  subst hn
  rcases h with ⟨rfl, _⟩ | ⟨g, cap', e1, hg, hle, hc, f, ho, hf⟩
  · exact .inl rfl
  · cases e1
    refine .inr ⟨g, _, rfl, hg, ho, ?_⟩
    rw [flatR_length l.length (k := 1) (fun i hi => (hf i _ (List.getElem?_eq_getElem hi)).1)]
    omega
theorem RowOk.blk_of {lo n : Nat} {w : World} {ao : Option Addr} (h : RowOk w lo ao n) : ∀ y, y ∈ blk ao n → lo ≤ y ∧ y < w.heap.size ∧ ∃ cs, w.heap[y]? = some (.cells cs 2 (0, 0)) := by
  intro y hy
  unfold blk at hy
  split at hy
  · cases hy
  · rename_i hn
    rcases h with h | ⟨g, xs, rfl, hg, ho, _⟩
    · exact absurd h hn
    · simp at hy
      subst hy
      exact ⟨hg, ho.lt, let ⟨cs, h, _⟩ := ho; ⟨cs, h⟩⟩
theorem RowOk.keepT {lo n : Nat} {w w' : World} {S : List Nat} {ao : Option Addr} (h : RowOk w lo ao n) (k : Keep S w w') (hS : ∀ y, y ∈ blk ao n → y ∉ S) : RowOk w' lo ao n := by
  rcases h with h | ⟨g, xs, rfl, hg, ho, hl⟩
  · exact .inl h
  · by_cases hn : n = 0
    · exact .inl hn
    · exact .inr ⟨g, xs, rfl, hg, ho.keep k (hS g (by simp [blk, hn])), hl⟩
/-- A block of another type is none of them. -/
theorem RowOk.not_mem {lo n b : Nat} {w : World} {ao : Option Addr} {T : TypeId} {cs : Array Value} {fz : Nat × Nat} (h : RowOk w lo ao n) (hb : w.heap[b]? = some (.cells cs T fz)) (hT : T ≠ 2) : b ∉ blk ao n := by
  intro hm
  obtain ⟨_, _, cs', h'⟩ := h.blk_of b hm
  rw [hb] at h'
  cases h'
  exact hT rfl
theorem RowOk.put {lo n k : Nat} {w : World} {ao : Option Addr} (h : RowOk w lo ao n) (hk : k < n) : ∃ g u, ao = some ⟨g, 0, none⟩ ∧ w.cell? ⟨g, k, none⟩ = some u ∧ w.frozen? ⟨g, k, none⟩ = false ∧ ∀ v, RowOk (w.setCell ⟨g, k, none⟩ v) lo ao n ∧ Keep (blk ao n) w (w.setCell ⟨g, k, none⟩ v) := by
  rcases h with h | ⟨g, xs, rfl, hg, ho, hl⟩
  · omega
  · refine ⟨g, xs[k]'(by omega), rfl, ho.cell k _ (List.getElem?_eq_getElem (by omega)), ho.free k, fun v => ⟨.inr ⟨g, xs.set k v, rfl, hg, ho.set k v, by simpa using hl⟩, ?_⟩⟩
    have : blk (some ⟨g, 0, none⟩) n = [g] := by unfold blk; rw [if_neg (by omega)]
    rw [this]
    exact keep_at w g k v
theorem HRep.keepLo {lo h : Nat} {v : Value} {w w' : World} {l : List EvD} {S : List Nat} (hr : HRep lo w h v l) (k : Keep S w w') (hS : ∀ y, y ∈ S → y < lo ∧ y ≠ h) : HRep lo w' h v l := by
  obtain ⟨h1, f, h2, h3⟩ := hr
  have fr : ∀ {l : List Int} {v : Value}, FreshSl lo w 2 1 WordRep v l → FreshSl lo w' 2 1 WordRep v l := by
    intro l v h
    rcases h with h | ⟨g, cap, e1, hg, hle, hc, hr⟩
    · exact .inl h
    · exact .inr ⟨g, cap, e1, hg, hle, hc, hr.keep k (fun hm => by have := (hS g hm).1; omega) (fun _ _ _ h => h)⟩
  refine ⟨k.to h1 (fun hm => (hS h hm).2 rfl), f, ⟨h2.1, ?_⟩, fun i x hi => ⟨(h3 i x hi).1, ?_⟩⟩
  · rcases h2.2 with h4 | ⟨g, cap, cur, e, hb, hh, h5⟩
    · exact .inl h4
    · exact .inr ⟨g, cap, cur, e, hb, k.to hh (fun hm => by have := (hS g hm).1; omega), h5⟩
  · obtain ⟨v1, v2, e, f1, f2, f3⟩ := (h3 i x hi).2
    exact ⟨v1, v2, e, fr f1, fr f2, f3⟩
theorem sld_all {α : Type} {B : Nat → Prop} {w : World} {size : Nat} {Rep : α → List Value → Prop} {v : Value} {l : List α} (h : SlD B w size Rep v l) : SlD All w size Rep v l := h.keep (Nat.le_refl _) (fun _ _ _ => rfl) (fun _ _ => trivial) (fun _ _ _ h => h)
def Small (x : EvD) : Prop := inI64 x.k ∧ inI64 x.step ∧ inI64 x.core ∧ inI64 x.thr ∧ inI64 x.call.k ∧ inI64 x.call.h ∧ inI64 x.call.a ∧ inI64 x.call.b ∧ inI64 x.call.t ∧ inI64 x.code ∧ inI64 x.cnt
theorem order_nil0 (w : World) : Calls Try.prog 22 #[.pointer none] w fun e w' => (∃ a c, e = .returned (.slice a 0 c)) ∧ Keep [] w w' := by
  refine (order_nil w).mono ?_
  rintro _ w' ⟨v, es, rfl, _, hp, hf, k⟩
  have he : es = [] := List.perm_nil.1 (by simpa [notedOf] using hp)
  subst he
  obtain ⟨a, c, rfl, _⟩ := FreshSl.form hf
  exact ⟨⟨a, c, rfl⟩, k⟩
theorem events_one {lo h : Nat} {v : Value} {w : World} {x : EvD} (hr : HRep lo w h v [x]) (hs : smallE x) :
    Calls Try.prog 21 #[.pointer (some ⟨h, 0, none⟩)] w fun e w' => ∃ g cap a3 c3 a4 c4, e = .returned (.slice (some ⟨g, 0, none⟩) 1 cap) ∧ (∃ cur, w'.heap[g]? = some (.cells cur 44 (0, 0))) ∧ w.heap.size ≤ g ∧ (w'.cell? ⟨g, 0, none⟩ = some (.int .i64 x.k) ∧ w'.cell? ⟨g, 1, none⟩ = some (.int .i64 x.step) ∧ w'.cell? ⟨g, 2, none⟩ = some (.int .i64 x.core) ∧ w'.cell? ⟨g, 3, none⟩ = some (.int .i64 x.thr) ∧ w'.cell? ⟨g, 4, none⟩ = some (.int .i64 x.call.k) ∧ w'.cell? ⟨g, 5, none⟩ = some (.int .i64 x.call.h) ∧ w'.cell? ⟨g, 6, none⟩ = some (.int .i64 x.call.a) ∧ w'.cell? ⟨g, 7, none⟩ = some (.int .i64 x.call.b) ∧ w'.cell? ⟨g, 8, none⟩ = some (.slice a4 x.call.words.length c4) ∧ w'.cell? ⟨g, 9, none⟩ = some (.int .i64 x.call.t) ∧ w'.cell? ⟨g, 10, none⟩ = some (.int .i64 x.code) ∧ w'.cell? ⟨g, 11, none⟩ = some (.int .i64 x.cnt) ∧ w'.cell? ⟨g, 12, none⟩ = some (.slice a3 x.words.length c3)) ∧
      EvF w.heap.size w' x [.int .i64 x.k, .int .i64 x.step, .int .i64 x.core, .int .i64 x.thr, .int .i64 x.call.k, .int .i64 x.call.h, .int .i64 x.call.a, .int .i64 x.call.b, .slice a4 x.call.words.length c4, .int .i64 x.call.t, .int .i64 x.code, .int .i64 x.cnt, .slice a3 x.words.length c3] ∧ RowOk w' w.heap.size a3 x.words.length ∧ 1 ≤ cap ∧ cap ≤ 9223372036854775807 ∧ Keep [] w w' := by
  refine (events_ev hr (by simp) (by intro y hy; simp at hy; subst hy; exact hs)).mono ?_
  rintro _ w' ⟨v9, rfl, hf, k⟩
  rcases hf with ⟨h0, _⟩ | ⟨g, cap, rfl, hg, hle, hc, hr⟩
  · cases h0
  · obtain ⟨f, ⟨cur, hb, _⟩, _⟩ := id hr
    obtain ⟨cs, hl, hcell, hev⟩ := RowD.cell hr 0 x rfl
    obtain ⟨v1, v2, rfl, f1, f2, f3⟩ := hev
    obtain ⟨a4, c4, rfl, _⟩ := FreshSl.form f1
    obtain ⟨a3, c3, rfl, _⟩ := FreshSl.form f2
    simp only [Nat.zero_mul, Nat.zero_add] at hcell
    refine ⟨g, cap, a3, c3, a4, c4, rfl, ⟨cur, hb⟩, hg, ⟨hcell 0 _ rfl, hcell 1 _ rfl, hcell 2 _ rfl, hcell 3 _ rfl, hcell 4 _ rfl, hcell 5 _ rfl, hcell 6 _ rfl, hcell 7 _ rfl, hcell 8 _ rfl, hcell 9 _ rfl, hcell 10 _ rfl, hcell 11 _ rfl, hcell 12 _ rfl⟩, ⟨_, _, rfl, f1, f2, f3⟩, RowOk.of f2 rfl, hle, by unfold maxLen at hc; omega, k⟩
set_option maxHeartbeats 16000000 in
set_option maxRecDepth 100000 in
theorem histKeeps_walk {w : World} {x : EvD} {cs : List Value} {z : Int} (h1 : EvRep All w x cs) (hz : inI64 z) :
    Calls Try.prog 7 #[.agg cs.toArray, .int .i64 z] w fun e w' => e = .returned (.bool true) ∧ Keep [] w w' := by
  have E1 := Lib.hid h1
  obtain ⟨_, _, rfl, s1, s2, hin⟩ := h1
  have HIN : Hid (Small x) := Lib.hid hin
  obtain ⟨xp, xq, rfl⟩ := s1.form
  obtain ⟨xr, xs, rfl⟩ := s2.form
  clear s1 s2 hin
  unfold evCells at *
  have BX := Lib.hid (heap_alloc_new w (.cells #[.int .i64 x.k, .int .i64 x.step, .int .i64 x.core, .int .i64 x.thr, .int .i64 x.call.k, .int .i64 x.call.h, .int .i64 x.call.a, .int .i64 x.call.b, .slice xp x.call.words.length xq, .int .i64 x.call.t, .int .i64 x.code, .int .i64 x.cnt, .slice xr x.words.length xs] 44))
  have K1 := Lib.hid ((Keep.refl [] w).alloc (.cells #[.int .i64 x.k, .int .i64 x.step, .int .i64 x.core, .int .i64 x.thr, .int .i64 x.call.k, .int .i64 x.call.h, .int .i64 x.call.a, .int .i64 x.call.b, .slice xp x.call.words.length xq, .int .i64 x.call.t, .int .i64 x.code, .int .i64 x.cnt, .slice xr x.words.length xs] 44))
  have E1a := Lib.hid (E1.out.kept K1.out)
  have hz1 : w.heap.size + 1 = (w.alloc (.cells #[.int .i64 x.k, .int .i64 x.step, .int .i64 x.core, .int .i64 x.thr, .int .i64 x.call.k, .int .i64 x.call.h, .int .i64 x.call.a, .int .i64 x.call.b, .slice xp x.call.words.length xq, .int .i64 x.call.t, .int .i64 x.code, .int .i64 x.cnt, .slice xr x.words.length xs] 44)).heap.size := by simp
  have hb0 : w.heap.size < (w.alloc (.cells #[.int .i64 x.k, .int .i64 x.step, .int .i64 x.core, .int .i64 x.thr, .int .i64 x.call.k, .int .i64 x.call.h, .int .i64 x.call.a, .int .i64 x.call.b, .slice xp x.call.words.length xq, .int .i64 x.call.t, .int .i64 x.code, .int .i64 x.cnt, .slice xr x.words.length xs] 44)).heap.size := by simp
  go_enter Try.func7, Try.ntmps7
  go_wp2_with fail
  generalize w.alloc (.cells #[.int .i64 x.k, .int .i64 x.step, .int .i64 x.core, .int .i64 x.thr, .int .i64 x.call.k, .int .i64 x.call.h, .int .i64 x.call.a, .int .i64 x.call.b, .slice xp x.call.words.length xq, .int .i64 x.call.t, .int .i64 x.code, .int .i64 x.cnt, .slice xr x.words.length xs] 44) = w1 at *
  generalize hb00 : w.heap.size = b0 at *
  refine (awake26 _).mono ?_
  rintro _ w2 ⟨rfl, k2⟩
  have K2 := Lib.hid k2
  have X2 := Lib.hid (k2.to BX.out (by simp))
  clear k2
  obtain ⟨ce0, ce1, ce2, ce3, ce4, ce5, ce6, ce7, ce8, ce9, ce10, ce11, ce12⟩ := cells13 X2.out
  have KL := Lib.hid ((Keep.refl [] w2).alloc (.cells #[.int .i64 x.k, .int .i64 x.step, .int .i64 x.core, .int .i64 x.thr, .int .i64 x.call.k, .int .i64 x.call.h, .int .i64 x.call.a, .int .i64 x.call.b, .slice xp x.call.words.length xq, .int .i64 x.call.t, .int .i64 x.code, .int .i64 x.cnt, .slice xr x.words.length xs] 44))
  have FL := Lib.hid (lit_sld (l := [x]) (n := 1) (f := fun i => [.int .i64 x.k, .int .i64 x.step, .int .i64 x.core, .int .i64 x.thr, .int .i64 x.call.k, .int .i64 x.call.h, .int .i64 x.call.a, .int .i64 x.call.b, .slice xp x.call.words.length xq, .int .i64 x.call.t, .int .i64 x.code, .int .i64 x.cnt, .slice xr x.words.length xs]) (heap_alloc_new w2 (.cells #[.int .i64 x.k, .int .i64 x.step, .int .i64 x.core, .int .i64 x.thr, .int .i64 x.call.k, .int .i64 x.call.h, .int .i64 x.call.a, .int .i64 x.call.b, .slice xp x.call.words.length xq, .int .i64 x.call.t, .int .i64 x.code, .int .i64 x.cnt, .slice xr x.words.length xs] 44)) rfl rfl (by omega) (by
    intro i z hi
    match i, hi with
    | 0, hi => cases hi; exact ⟨rfl, (E1a.out.kept K2.out).kept KL.out⟩))
  go_wp2_with fail
  refine (few_ev FL.out).mono ?_
  rintro _ w3 ⟨r, rfl, hfew, k3⟩
  have K3 := Lib.hid ((K2.out.trans KL.out).trans k3)
  have X3 := Lib.hid (K3.out.to BX.out (by simp))
  clear k3 ce0 ce1 ce2 ce3 ce4 ce5 ce6 ce7 ce8 ce9 ce10 ce11 ce12 KL FL X2 K2
  cases r
  · go_wp2_with fail
    refine (awake26 _).mono ?_
    rintro _ w4 ⟨rfl, k4⟩
    have K4 := Lib.hid ((K1.out.trans K3.out).trans k4)
    clear k4
    go_wp2_with fail
    go_ret
    exact ⟨rfl, K4.out⟩
  · obtain ⟨_, hsm⟩ := hfew rfl
    have hsx := hsm x (by simp)
    have HSX := Lib.hid hsx
    obtain ⟨hw1, hw2⟩ := hsx
    clear hsm hfew
    have E3 := Lib.hid (E1a.out.kept K3.out)
    obtain ⟨_, _, he3, s31, s32, _⟩ := id E3.out
    simp only [evCells, List.cons.injEq, and_true, true_and] at he3
    obtain ⟨rfl, rfl⟩ := he3
    have S31 := Lib.hid s31
    have S32 := Lib.hid s32
    clear s31 s32
    obtain ⟨i4, hi4, hz40, hz41, hz42⟩ := info_parts cloneI_info
    have KO := Lib.hid ((Keep.refl [] w3).alloc (.cells #[.int .i64 x.k, .int .i64 x.step, .int .i64 x.core, .int .i64 x.thr, .int .i64 x.call.k, .int .i64 x.call.h, .int .i64 x.call.a, .int .i64 x.call.b, .slice xp x.call.words.length xq, .int .i64 x.call.t, .int .i64 x.code, .int .i64 x.cnt, .slice xr x.words.length xs] 44))
    have XO := Lib.hid (heap_alloc_new w3 (.cells #[.int .i64 x.k, .int .i64 x.step, .int .i64 x.core, .int .i64 x.thr, .int .i64 x.call.k, .int .i64 x.call.h, .int .i64 x.call.a, .int .i64 x.call.b, .slice xp x.call.words.length xq, .int .i64 x.call.t, .int .i64 x.code, .int .i64 x.cnt, .slice xr x.words.length xs] 44))
    have KP := Lib.hid (KO.out.alloc (.cells #[] 2))
    obtain ⟨ce0, ce1, ce2, ce3, ce4, ce5, ce6, ce7, ce8, ce9, ce10, ce11, ce12⟩ := cells13 (KP.out.to X3.out (by simp))
    have hbl : b0 < w3.heap.size := Nat.lt_of_lt_of_le hb0 K3.out.size
    obtain ⟨m0, m1, m2, m3, m4, m5, m6, m7, m8, m9, m10, m11, m12⟩ := cells13 X3.out
    go_wp2_with (at_builtin; refine wpList_append_sl rfl _ _ _ rfl 2 i4 _ 1 8 Try.underlying40 hi4 hz40 hz41 hz42 rfl (by omega) (by omega) _ rfl rfl S32.out KP.out WordRep.one (by omega) ?_)
    intro a1 c1 w5 hf5 hk5
    have K35 := Lib.hid (KP.out.trans hk5)
    have XO5 := Lib.hid (hk5.to (heap_old XO.out) (by simp))
    have F1 := Lib.hid hf5
    have X5 := Lib.hid (K35.out.to X3.out (by simp))
    have R15 := RowOk.of hf5 rfl
    have HB1 := Lib.hid (fun y hy => let h := R15.blk_of y hy; (⟨h.1, h.2.1⟩ : w3.heap.size ≤ y ∧ y < w5.heap.size))
    have z35 : w3.heap.size < w5.heap.size := by have := lt_of_block XO5.out; omega
    clear hf5 hk5 R15 ce0 ce1 ce2 ce3 ce4 ce5 ce6 ce7 ce8 ce9 ce10 ce11 ce12 m0 m1 m2 m3 m4 m5 m6 m7 m8 m9 m10 m11 m12 KO XO KP
    obtain ⟨q0, q1, q2, q3, q4, q5, q6, q7, q8, q9, q10, q11, q12⟩ := cells13 XO5.out
    have f12 := free_of (i := 12) XO5.out
    have KS := Lib.hid (keep_at w5 w3.heap.size 12 (.slice a1 x.words.length c1))
    have XO6 : Hid ((w5.setCell ⟨w3.heap.size, 12, none⟩ (.slice a1 x.words.length c1)).heap[w3.heap.size]? = some (.cells #[.int .i64 x.k, .int .i64 x.step, .int .i64 x.core, .int .i64 x.thr, .int .i64 x.call.k, .int .i64 x.call.h, .int .i64 x.call.a, .int .i64 x.call.b, .slice xp x.call.words.length xq, .int .i64 x.call.t, .int .i64 x.code, .int .i64 x.cnt, .slice a1 x.words.length c1] 44 (0, 0))) := Lib.hid (block_set 12 _ XO5.out)
    have e8 := cell_keep (KS.out.alloc (.cells #[] 2)) (cell_of (i := 8) X5.out rfl) (by simp; omega)
    have K36 := Lib.hid (K35.out.transS KS.out (T := []) (by simp) (by simp))
    have F16 := Lib.hid (FreshSl.keepT F1.out KS.out (NoRow.one XO5.out (by decide)) (fun _ _ _ h => h))
    have S61 := Lib.hid (sld_move (B' := Old w3) (Rep' := WordRep) S31.out K36.out.size (fun b _ hl => K36.out.block b hl (by simp)) (fun b _ hl => hl) (fun _ _ _ h => h))
    go_wp2_with (at_builtin; refine wpList_append_sl rfl _ _ _ rfl 2 i4 _ 1 8 Try.underlying40 hi4 hz40 hz41 hz42 rfl (by omega) (by omega) _ rfl rfl S61.out ((Keep.refl [] _).alloc _) WordRep.one (by omega) ?_)
    have z56 : w5.heap.size = (w5.setCell ⟨w3.heap.size, 12, none⟩ (.slice a1 x.words.length c1)).heap.size := by simp
    generalize w5.setCell ⟨w3.heap.size, 12, none⟩ (.slice a1 x.words.length c1) = w6 at *
    intro a2 c2 w7 hf7 hk7
    have K67 := Lib.hid (((Keep.refl [] w6).alloc (.cells #[] 2)).trans hk7)
    have XO7 := Lib.hid (K67.out.to XO6.out (by simp))
    have R27 := RowOk.of hf7 rfl
    have HB2 := Lib.hid (fun y hy => let h := R27.blk_of y hy; (⟨h.1, h.2.1⟩ : w5.heap.size ≤ y ∧ y < w7.heap.size))
    have F27 := Lib.hid hf7
    have F17 := Lib.hid (FreshSl.keepT F16.out K67.out (NoRow.nil _ _) (fun _ _ _ h => h))
    have z67 := K67.out.size
    clear hf7 hk7 R27 e8 f12 q0 q1 q2 q3 q4 q5 q6 q7 q8 q9 q10 q11 q12 F1 F16 XO5 XO6 KS
    obtain ⟨q0, q1, q2, q3, q4, q5, q6, q7, q8, q9, q10, q11, q12⟩ := cells13 XO7.out
    have f8 := free_of (i := 8) XO7.out
    have KS := Lib.hid (keep_at w7 w3.heap.size 8 (.slice a2 x.call.words.length c2))
    have XO8 : Hid ((w7.setCell ⟨w3.heap.size, 8, none⟩ (.slice a2 x.call.words.length c2)).heap[w3.heap.size]? = some (.cells #[.int .i64 x.k, .int .i64 x.step, .int .i64 x.core, .int .i64 x.thr, .int .i64 x.call.k, .int .i64 x.call.h, .int .i64 x.call.a, .int .i64 x.call.b, .slice a2 x.call.words.length c2, .int .i64 x.call.t, .int .i64 x.code, .int .i64 x.cnt, .slice a1 x.words.length c1] 44 (0, 0))) := Lib.hid (block_set 8 _ XO7.out)
    have F18 := Lib.hid (FreshSl.keepT F17.out KS.out (NoRow.one XO7.out (by decide)) (fun _ _ _ h => h))
    have F28 := Lib.hid (FreshSl.keepT F27.out KS.out (NoRow.one XO7.out (by decide)) (fun _ _ _ h => h))
    have z78 : w7.heap.size = (w7.setCell ⟨w3.heap.size, 8, none⟩ (.slice a2 x.call.words.length c2)).heap.size := by simp
    go_wp2_with fail
    generalize w7.setCell ⟨w3.heap.size, 8, none⟩ (.slice a2 x.call.words.length c2) = w8 at *
    have BH := Lib.hid (heap_alloc_new w8 (.cells #[.slice none 0 0] 38))
    obtain ⟨n0, n1, n2, n3, n4, n5, n6, n7, n8, n9, n10, n11, n12⟩ := cells13 (heap_old (o := .cells #[.slice none 0 0] 38) XO8.out)
    have z89 : w8.heap.size + 1 = (w8.alloc (.cells #[.slice none 0 0] 38)).heap.size := by simp
    clear q0 q1 q2 q3 q4 q5 q6 q7 q8 q9 q10 q11 q12 f8
    go_wp2_with fail
    have K89 := Lib.hid ((Keep.refl [] w8).alloc (.cells #[.slice none 0 0] 38))
    have XO9 := Lib.hid (K89.out.to XO8.out (by simp))
    have F19 := Lib.hid (FreshSl.keepT F18.out K89.out (NoRow.nil _ _) (fun _ _ _ h => h))
    have F29 := Lib.hid (FreshSl.keepT F28.out K89.out (NoRow.nil _ _) (fun _ _ _ h => h))
    generalize w8.alloc (.cells #[.slice none 0 0] 38) = w9 at *
    have EV9 : Hid (EvRep All w9 x [.int .i64 x.k, .int .i64 x.step, .int .i64 x.core, .int .i64 x.thr, .int .i64 x.call.k, .int .i64 x.call.h, .int .i64 x.call.a, .int .i64 x.call.b, .slice a2 x.call.words.length c2, .int .i64 x.call.t, .int .i64 x.code, .int .i64 x.cnt, .slice a1 x.words.length c1]) := Lib.hid ⟨_, _, rfl, sld_all F29.out.sld, sld_all F19.out.sld, HIN.out⟩
    have K39 := Lib.hid (((K36.out.trans K67.out).transS KS.out (T := []) (by simp) (by simp)).trans K89.out)
    clear n0 n1 n2 n3 n4 n5 n6 n7 n8 n9 n10 n11 n12 F17 F27 F18 F28 XO7 XO8 KS
    refine (hist_add (lo := w9.heap.size) (h := w8.heap.size) (v := .slice none 0 0) (l := []) ⟨BH.out, GrowSl.nil⟩ (by simp) (Nat.le_refl _) EV9.out (by omega) (by omega)).mono ?_
    rintro _ w10 ⟨rfl, v10, h10, k10, _⟩
    have H10 : Hid (HRep w9.heap.size w10 w8.heap.size v10 [x]) := Lib.hid h10
    have k10' : Keep [w8.heap.size] w9 w10 := k10
    have XO10 := Lib.hid (k10'.to XO9.out (by simp; omega))
    have R1 := Lib.hid (RowOk.of (FreshSl.keepT F19.out k10' (NoRow.one BH.out (by decide)) (fun _ _ _ h => h)) rfl)
    have R2 := Lib.hid (RowOk.of (FreshSl.keepT F29.out k10' (NoRow.one BH.out (by decide)) (fun _ _ _ h => h)) rfl)
    have KT10 := Lib.hid ((K3.out.trans K39.out).transS k10' (T := []) (by simp) (by simp; have := K3.out.size; omega))
    have hlo9 : w8.heap.size < w9.heap.size := by omega
    clear h10 k10 k10' F19 F29 EV9 XO9 BH K39 K89
    obtain ⟨q0, q1, q2, q3, q4, q5, q6, q7, q8, q9, q10, q11, q12⟩ := cells13 XO10.out
    generalize hb1 : w3.heap.size = b1 at *
    have hK31 := K3.out.size
    go_wp2_with fail
    go_loopw [39] (fun c wr => ∃ k : Nat, c = .int .i64 k ∧ k ≤ x.words.length ∧ Keep (blk a1 x.words.length) w10 wr ∧ RowOk wr b1 a1 x.words.length) (fun c _ => x.words.length - (intOf c).toNat)
    case atStart => exact ⟨0, rfl, Nat.zero_le _, Keep.refl _ _, R1.out⟩
    case round =>
      obtain ⟨k, rfl, hk, hkp, hrow⟩ := hrel
      have HK := Lib.hid hkp
      have HW := Lib.hid hrow
      clear hkp hrow q0 q1 q2 q3 q4 q5 q6 q7 q8 q9 q10 q11 q12
      have XOr := Lib.hid (HK.out.to XO10.out (R1.out.not_mem XO10.out (by decide)))
      obtain ⟨q0, q1, q2, q3, q4, q5, q6, q7, q8, q9, q10, q11, q12⟩ := cells13 XOr.out
      by_cases hkl : k < x.words.length
      · have hkl' : (k : Int) < x.words.length := by omega
        obtain ⟨g, u, rfl, hu, hfz, hput⟩ := HW.out.put hkl
        have HP := Lib.hid hput
        clear hput
        go_wp2_with fail
        go_roundw
        case rel => exact ⟨k + 1, by go_num, by omega, HK.out.trans (HP.out _).2, (HP.out _).1⟩
        case measure => simp [intOf]; omega
      · have R2r := Lib.hid (R2.out.keepT HK.out (fun y hy hy2 => by have h1 := HB1.out y hy2; have h2 := HB2.out y hy; omega))
        have KTr := Lib.hid (KT10.out.transS HK.out (T := []) (by simp) (fun y hy hlt => by have h1 := HB1.out y hy; omega))
        have H11 := Lib.hid (H10.out.keepLo HK.out (fun y hy => by have h1 := HB1.out y hy; omega))
        clear HW
        go_wp2_with fail
        go_loopw [52] (fun c wz => ∃ k2 : Nat, c = .int .i64 k2 ∧ k2 ≤ x.call.words.length ∧ Keep (blk a2 x.call.words.length) wr wz ∧ RowOk wz w5.heap.size a2 x.call.words.length) (fun c _ => x.call.words.length - (intOf c).toNat)
        case atStart => exact ⟨0, rfl, Nat.zero_le _, Keep.refl _ _, R2r.out⟩
        case round =>
          obtain ⟨k2, rfl, hk2, hkp, hrow⟩ := hrel
          have HK2 := Lib.hid hkp
          have HW2 := Lib.hid hrow
          clear hkp hrow q0 q1 q2 q3 q4 q5 q6 q7 q8 q9 q10 q11 q12
          have XOz := Lib.hid (HK2.out.to XOr.out (R2r.out.not_mem XOr.out (by decide)))
          obtain ⟨q0, q1, q2, q3, q4, q5, q6, q7, q8, q9, q10, q11, q12⟩ := cells13 XOz.out
          by_cases hkl2 : k2 < x.call.words.length
          · have hkl' : (k2 : Int) < x.call.words.length := by omega
            obtain ⟨g, u, rfl, hu, hfz, hput⟩ := HW2.out.put hkl2
            have HP := Lib.hid hput
            clear hput
            go_wp2_with fail
            go_roundw
            case rel => exact ⟨k2 + 1, by go_num, by omega, HK2.out.trans (HP.out _).2, (HP.out _).1⟩
            case measure => simp [intOf]; omega
          · have KT12 := Lib.hid (KTr.out.transS HK2.out (T := []) (by simp) (fun y hy hlt => by have h1 := HB2.out y hy; omega))
            have H12 := Lib.hid (H11.out.keepLo HK2.out (fun y hy => by have h1 := HB2.out y hy; omega))
            clear HW2 q0 q1 q2 q3 q4 q5 q6 q7 q8 q9 q10 q11 q12
            go_wp2_with fail
            refine (events_one H12.out HSX.out).mono ?_
            rintro _ w13 ⟨g9, cap9, a3, c3, a4, c4, rfl, hb9, hg9, hcc, hev, hr3, hcap1, hcap2, k13⟩
            have R3 := Lib.hid hr3
            have HB9 := Lib.hid hb9
            have CC := Lib.hid hcc
            have K13 := Lib.hid k13
            have HB3 := Lib.hid (fun y hy => (hr3.blk_of y hy).1)
            have hg9n : g9 ∉ blk a3 x.words.length := let ⟨cur, h⟩ := hb9; hr3.not_mem h (by decide)
            clear hr3 hb9 hcc k13 hev
            obtain ⟨q0, q1, q2, q3, q4, q5, q6, q7, q8, q9, q10, q11, q12⟩ := CC.out
            go_wp2_with fail
            go_loopw [68] (fun c wy => ∃ k3 : Nat, c = .int .i64 k3 ∧ k3 ≤ x.words.length ∧ Keep (blk a3 x.words.length) w13 wy ∧ RowOk wy wr.heap.size a3 x.words.length) (fun c _ => x.words.length - (intOf c).toNat)
            case atStart => exact ⟨0, rfl, Nat.zero_le _, Keep.refl _ _, R3.out⟩
            case round =>
              obtain ⟨k3, rfl, hk3, hkp, hrow⟩ := hrel
              have HK3 := Lib.hid hkp
              have HW3 := Lib.hid hrow
              have y12 := cell_keep hkp q12 hg9n
              clear hkp hrow q0 q1 q2 q3 q4 q5 q6 q7 q8 q9 q10 q11 q12
              by_cases hkl3 : k3 < x.words.length
              · have hkl' : (k3 : Int) < x.words.length := by omega
                obtain ⟨g, u, rfl, hu, hfz, hput⟩ := HW3.out.put hkl3
                have HP := Lib.hid hput
                clear hput
                go_wp2_with fail
                go_roundw
                case rel => exact ⟨k3 + 1, by go_num, by omega, HK3.out.trans (HP.out _).2, (HP.out _).1⟩
                case measure => simp [intOf]; omega
              · have KF := Lib.hid (K13.out.transS HK3.out (T := []) (by simp) (fun y hy hlt => by have h1 := HB3.out y hy; omega))
                have H14 := Lib.hid (H12.out.kept KF.out)
                have KT14 := Lib.hid (KT12.out.trans KF.out)
                have X14 := Lib.hid (KT14.out.to BX.out (by simp))
                obtain ⟨q0, q1, q2, q3, q4, q5, q6, q7, q8, q9, q10, q11, q12⟩ := cells13 X14.out
                clear HW3 y12
                go_wp2_with fail
                refine (hist_add_nil (x := x) (v1 := .slice xp x.call.words.length xq) (v2 := .slice xr x.words.length xs)).mono ?_
                rintro _ w15 ⟨rfl, k15⟩
                have KTA := Lib.hid ((KT14.out.trans k15).drew)
                have HA := Lib.hid ((H14.out.kept k15).kept (Keep.refl [] w15).drew)
                have XA := Lib.hid (KTA.out.to BX.out (by simp))
                have SA := Lib.hid (cells13 XA.out)
                obtain ⟨s0, s1, s2, s3, s4, s5, s6, s7, s8, s9, s10, s11, s12⟩ := cells13 (k15.to X14.out (by simp))
                clear k15 q0 q1 q2 q3 q4 q5 q6 q7 q8 q9 q10 q11 q12
                go_wp2_with fail
                go_region_law (first
                    | (go_simp; go_at_call 21; ((with_reducible refine (events_one HA.out HSX.out).mono ?_); rintro _ wB ⟨gB, capB, a3B, c3B, a4B, c4B, rfl, _, _, hcc, hev, _, _, _, kB⟩; have EVB := Lib.hid hev.rep; have KTB := Lib.hid (KTA.out.trans kB); have SB := Lib.hid (cells13 (KTB.out.to BX.out (by simp))); have EB := Lib.hid (E1a.out.kept KTB.out); obtain ⟨t0, t1, t2, t3, t4, t5, t6, t7, t8, t9, t10, t11, t12⟩ := hcc; obtain ⟨v0, v1, v2, v3, v4, v5, v6, v7, v8, v9, v10, v11, v12⟩ := SB.out; clear hev kB))
                    | (go_simp; go_at_call 24; ((with_reducible refine (same_ev EVB.out EB.out).mono ?_); rintro _ wC ⟨rfl, kC⟩; rw [sameE_refl]; have KTC := Lib.hid (KTB.out.trans kC); have SC := Lib.hid (cells13 (KTC.out.to BX.out (by simp))); clear kC))
                    | (go_simp; go_at_call 23; ((with_reducible refine (hist_len_nil _).mono ?_); rintro _ wD ⟨rfl, kD⟩; have KTD := Lib.hid (KTC.out.trans kD); have SD := Lib.hid (cells13 (KTD.out.to BX.out (by simp))); clear kD))
                    | (go_simp; go_at_call 21; ((with_reducible refine (events_nil _).mono ?_); rintro _ wE ⟨rfl, kE⟩; have KTE := Lib.hid (KTD.out.trans kE); have SE := Lib.hid (cells13 (KTE.out.to BX.out (by simp))); clear kE))
                    | (go_simp; go_at_call 22; ((with_reducible refine (order_nil0 _).mono ?_); rintro _ wF ⟨⟨aF, cF, rfl⟩, kF⟩; have KTF := Lib.hid (KTE.out.trans kF); have SF := Lib.hid (cells13 (KTF.out.to BX.out (by simp))); clear kF)))
                all_goals
                  go_wp2_with fail
                  go_ret
                  exact ⟨ret_bool (by simp), K1.out.trans KTF.out⟩
end Hist
end Go.Proofs.Ytkmpajdiedpfhaa
