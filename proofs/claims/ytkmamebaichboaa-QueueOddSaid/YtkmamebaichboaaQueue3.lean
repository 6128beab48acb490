/- Law 6: the body that looks. No conditions but those stated. -/
import Derived.Test.YtkmamebaichboaaQueue2
import Derived.Test.YtkmamebaichboaaFlat
import Derived.Deep.RegionLaw
import Derived.Deep.AppendLies
import Derived.Deep.DeepCutAuto
import Derived.Deep.RegionHeld3
namespace Go.Proofs.Ytkmamebaichboaa
open Go.ChangeShapes Go.WideShapes Go.ChangeAt Go.RowKit
set_option linter.unusedVariables false
set_option linter.unusedSimpArgs false
namespace Law06
open LinkL Prog
def rest2 : Prog Bool := do
  let k ← ld (wrap64 50)
  let o ← isOff
  if o then pure true else do
    let u ← ld 5
    pure true
def lookP : Prog Bool := do
  let v ← ld 5
  let o ← isOff
  if o then pure false else do
    let n ← ld (wrap64 20)
    let o ← isOff
    if o then pure false else rest2
def A4 : List AOp := [.load 5, .load (wrap64 20), .load (wrap64 50), .load 5]
theorem effs4 : effs A4 M7 = [128, 50, 20, 128] := by decide +kernel
theorem look_solo : lookP.cost M7 ≤ 5000 ∧ lookP.solo M7 = (true, M7) := by decide +kernel
theorem look_feed : (∀ i, i < A4.length → ∃ o k, lookP.feed ((effs A4 M7).take i) = .acc o k ∧ A4[i]? = some o) ∧ ∃ a, lookP.feed (effs A4 M7) = .ret a := by
  rw [effs4]
  refine ⟨fun i hi => ?_, ⟨true, rfl⟩⟩
  match i, hi with
  | 0, _ => exact ⟨_, _, rfl, rfl⟩
  | 1, _ => exact ⟨_, _, rfl, rfl⟩
  | 2, _ => exact ⟨_, _, rfl, rfl⟩
  | 3, _ => exact ⟨_, _, rfl, rfl⟩
section
variable {w : World} {f m b : Nat} {sl : Value} {s : St}
theorem Jld {A : List AOp} {M : List Int} {i : Nat} {s s1 : St} {a v : Int} (h : J A M i s) (ho : A[i]? = some (.load a)) (hq : St.load a s = (v, s1)) : (s1.off = true ∧ v = 0) ∨ (s1.off = false ∧ v = (effs A M)[i]?.getD 0 ∧ J A M (i + 1) s1) := by
  have := h.acc ho
  rw [← St.load_acc, hq] at this
  rcases this with ⟨h1, h2⟩ | ⟨h1, h2⟩
  · exact .inl ⟨h1, h2⟩
  · exact .inr ⟨h2.off, h1, h2⟩
theorem look_first (h : FRep w f m b sl s) (hj : J A4 M7 0 s) : Calls Try.prog 122 #[.pointer (some ⟨f, 0, none⟩), .int .i64 5] w fun e w' =>
    ∃ sl' s' v p g, e = .returned (.tuple #[.int .i64 v, .int .i64 p, .bool g]) ∧ FRep w' f m b sl' s' ∧ Ev [f, b] sl w sl' w' ∧ ((g = false ∧ lookP.run s = (false, s')) ∨ (g = true ∧ v = 50 ∧ p = 7 ∧ J A4 M7 2 s' ∧ lookP.run s = rest2.run s')) := by
  rcases q1 : St.load 5 s with ⟨v1, s1⟩
  rcases Jld hj rfl q1 with ⟨h1, h2⟩ | ⟨h1, h2, h3⟩
  · subst h2
    refine (q_first h (q_below_off h q1 h1)).mono ?_
    rintro e w' ⟨sl', he, g1, g2⟩
    refine ⟨sl', s1, 0, 0, false, he, g1, g2, .inl ⟨rfl, ?_⟩⟩
    unfold lookP
    simp [q1, h1]
  · have hv : v1 = 128 := by rw [h2, effs4]; rfl
    subst hv
    rcases q2 : St.load (wrap64 20) s1 with ⟨v2, s2⟩
    rcases Jld h3 rfl q2 with ⟨k1, k2⟩ | ⟨k1, k2, k3⟩
    · have hF : lkFirst 20 s1 = ((0, false), s2) := by unfold lkFirst lkNext; simp [q2, k1]
      refine (q_first h (q_below_hit h q1 h1 hF (.inr ⟨rfl, rfl, rfl⟩))).mono ?_
      rintro e w' ⟨sl', he, g1, g2⟩
      refine ⟨sl', s2, 0, 0, false, he, g1, g2, .inl ⟨rfl, ?_⟩⟩
      unfold lookP
      simp [q1, h1, q2, k1]
    · have hv2 : v2 = 50 := by rw [k2, effs4]; rfl
      subst hv2
      have hF : lkFirst 20 s1 = ((50, true), s2) := by unfold lkFirst lkNext; simp [q2, k1]
      refine (q_first h (q_below_hit h q1 h1 hF (.inl ⟨rfl, rfl, rfl⟩))).mono ?_
      rintro e w' ⟨sl', he, g1, g2⟩
      refine ⟨sl', s2, 50, 7, true, he, g1, g2, .inr ⟨rfl, rfl, rfl, k3, ?_⟩⟩
      unfold lookP
      simp [q1, h1, q2, k1]
theorem look_after (h : FRep w f m b sl s) (hj : J A4 M7 2 s) : Calls Try.prog 107 #[.pointer (some ⟨f, 0, none⟩), .int .i64 5, .int .i64 50, .int .i64 7] w fun e w' =>
    ∃ sl' s', e = .returned (.tuple #[.int .i64 0, .int .i64 0, .bool false]) ∧ FRep w' f m b sl' s' ∧ Ev [f, b] sl w sl' w' ∧ rest2.run s = (true, s') := by
  rcases q1 : St.load (wrap64 50) s with ⟨v1, s1⟩
  rcases Jld hj rfl q1 with ⟨h1, h2⟩ | ⟨h1, h2, h3⟩
  · have hN : lkNext 20 50 s = ((0, false), s1) := by unfold lkNext; simp [q1, h1]
    refine (q_after7 (s' := s1) (v2 := 0) h hN (by rw [if_pos h1]) (.inl rfl)).mono ?_
    rintro e w' ⟨sl', he, g1, g2⟩
    refine ⟨sl', s1, he, g1, g2, ?_⟩
    unfold rest2
    simp [q1, h1]
  · have hv : v1 = 20 := by rw [h2, effs4]; rfl
    subst hv
    have hN : lkNext 20 50 s = ((0, false), s1) := by unfold lkNext; simp [q1, h1]
    rcases q2 : St.load 5 s1 with ⟨v2, s2⟩
    have hv2 : v2 = 0 ∨ v2 = 128 := by
      rcases Jld h3 rfl q2 with ⟨k1, k2⟩ | ⟨k1, k2, k3⟩
      · exact .inl k2
      · exact .inr (by rw [k2, effs4]; rfl)
    refine (q_after7 (s' := s2) (v2 := v2) h hN (by rw [if_neg (by rw [h1]; simp)]; exact q2) hv2).mono ?_
    rintro e w' ⟨sl', he, g1, g2⟩
    refine ⟨sl', s2, he, g1, g2, ?_⟩
    unfold rest2
    simp [q1, h1, q2]
end
theorem cell_stays {S : List Nat} {w w' : World} (k : Keep S w w') {g i : Nat} {v : Value} (h : w.cell? ⟨g, i, none⟩ = some v) (hg : g ∉ S) : w'.cell? ⟨g, i, none⟩ = some v := by
  rw [World.cell?_of_block (w := w) (k.block g (World.block_lt_of_cell? w ⟨g, i, none⟩ h) hg)]; exact h
/-- What a look has found. -/
def LRep (x : Nat) (r : Bool) (o : List Nat) (w : World) : Prop :=
  ∃ v1 v2, w.heap[x]? = some (.cells #[v1, v2] 167 (0, 0)) ∧ ((r = false ∧ o = []) ∨ (r = true ∧ ∃ a1 c1 g2 c2, v1 = .slice a1 1 c1 ∧ v2 = .slice (some ⟨g2, 0, none⟩) 1 c2 ∧ w.cell? ⟨g2, 0, none⟩ = some (.int .i64 7) ∧ o = [g2]))
theorem lStays (x : Nat) : RStays x (LRep x) := by
  rintro r o w w' S ⟨v1, v2, h1, h2⟩ k hx ho
  refine ⟨v1, v2, k.to h1 hx, ?_⟩
  rcases h2 with h2 | ⟨h2, a1, c1, g2, c2, e1, e2, h3, rfl⟩
  · exact .inl h2
  · exact .inr ⟨h2, a1, c1, g2, c2, e1, e2, cell_stays k h3 (ho g2 (by simp)), rfl⟩
theorem lookK : ∀ (y z : Addr) (wx : World), (callFunc 102 #[.pointer (some y), .pointer (some z)]).run Try.prog wx = .ok (.enter 102 #[.pointer (some y), .pointer (some z)]) wx := fun _ _ _ => by kernel_rfl
theorem infoInt : (Try.prog.info? 3).map (fun i => (i.zero, i.size, i.bytes)) = some (some (.int .i64 0), 1, 8) := by kernel_rfl
theorem look_end {w wr wf w9 : World} {x f m b g2 c1 c2 : Nat} {a1 : Option Addr} {sl sl2 sl9 : Value} {s s2 s9 : St} {o : List Nat} (H2 : FRep wr f m b sl2 s2) (Q2 : lookP.run s = rest2.run s2) (E2 : EvO [x, f, b] (blk sl ++ o) w (blk sl2 ++ []) wr) (A2 : Apart x f m b sl2 []) (hx : x < wr.heap.size)
    (KF : Keep [x] wr wf) (XF : wf.heap[x]? = some (.cells #[.slice a1 1 c1, .slice (some ⟨g2, 0, none⟩) 1 c2] 167 (0, 0))) (CF : wf.cell? ⟨g2, 0, none⟩ = some (.int .i64 7)) (hg : wr.heap.size ≤ g2 ∧ g2 < wf.heap.size)
    (h9 : FRep w9 f m b sl9 s9) (e9 : Ev [f, b] sl2 wf sl9 w9) (hr9 : rest2.run s2 = (true, s9)) :
    ∃ sl1 o1, FRep w9 f m b sl1 (lookP.run s).2 ∧ LRep x (lookP.run s).1 o1 w9 ∧ EvO [x, f, b] (blk sl ++ o) w (blk sl1 ++ o1) w9 ∧ Apart x f m b sl1 o1 ∧ (∀ k ∈ o1, k < w9.heap.size) := by
  have hf := lt_of_block H2.head
  have hm := lt_of_block H2.mem.head
  have hb := lt_of_block H2.mem.body
  have hsl : ∀ k ∈ blk sl2, k < wr.heap.size := fun k hk => (H2.ne.2.2.2 k (mem_blk.1 hk)).2.2.2
  have hgS : g2 ∉ [f, b] ++ blk sl2 := by
    intro hmem
    simp at hmem
    rcases hmem with h | h | h
    · omega
    · omega
    · have := hsl g2 h; omega
  have hap := apart_ev A2 (lt_of_block XF) e9 h9
  rw [Q2, hr9]
  refine ⟨sl9, [g2], h9, ⟨_, _, e9.keep.to XF (by simp; exact ⟨A2.xf, A2.xb, A2.xl⟩), .inr ⟨rfl, a1, c1, g2, c2, rfl, rfl, cell_stays e9.keep CF hgS, rfl⟩⟩, ?_, ⟨hap.xf, hap.xm, hap.xb, hap.xl, by simp; omega, by simp; omega, by simp; omega, by simp; omega, fun k hk hk2 => ?_⟩, fun k hk => ?_⟩
  · have b1 : EvO [x, f, b] (blk sl2 ++ []) wr (blk sl2 ++ [g2]) wf := ⟨KF.mono (by simp), fun k hk => by
      rcases List.mem_append.1 hk with h | h
      · exact .inl (List.mem_append.2 (.inl h))
      · simp at h; exact .inr (by omega)⟩
    exact (E2.trans b1).trans ((e9.mono (Y := [x, f, b]) (by simp)).toO [g2])
  · simp at hk
    subst hk
    rw [mem_blk] at hk2
    rcases e9.new with h | h
    · rw [h] at hk2; have := hsl k (mem_blk.2 hk2); omega
    · have := h k hk2; omega
  · simp at hk
    subst hk
    exact e9.keep.lt hg.2
set_option maxHeartbeats 16000000 in
set_option maxRecDepth 100000 in
theorem lookAt (x : Nat) {r : Bool} {s : St} (hj : J A4 M7 0 s) : BodyAt 102 x (LRep x) (progB (fun _ => lookP) (fun _ q => q)) r s := by
  rintro f m b w sl o hf ⟨v1, v2, hr, _⟩ ha ho
  obtain ⟨i0, hi0, hz0, hz1, hz2⟩ := info_parts infoInt
  have e2 : progB (fun _ : Bool => lookP) (fun _ q => q) r s = lookP.run s := rfl
  rw [e2]
  have c0 := cell_of (i := 0) hr rfl
  have z0 := free_of (i := 0) hr
  have c1 : (w.setCell ⟨x, 0, none⟩ (.slice none 0 0)).cell? ⟨x, 1, none⟩ = some v2 := cell_of (block_set 0 (.slice none 0 0) hr) rfl
  have z1 := free_of (i := 1) (block_set 0 (.slice none 0 0) hr)
  have hk : Keep [x] w ((w.setCell ⟨x, 0, none⟩ (.slice none 0 0)).setCell ⟨x, 1, none⟩ (.slice none 0 0)) := ((Keep.refl _ _).setCell (.inr (by simp)) _).setCell (.inr (by simp)) _
  have XA := Lib.hid (block_set 1 (.slice none 0 0) (block_set 0 (.slice none 0 0) hr))
  have FA := Lib.hid (hf.keep hk (by simpa using ha.xf.symm) (by simpa using ha.xm.symm) (by simpa using ha.xb.symm) (own_ne ha.xl))
  have EA : Hid (EvO [x, f, b] (blk sl ++ o) w (blk sl ++ []) ((w.setCell ⟨x, 0, none⟩ (.slice none 0 0)).setCell ⟨x, 1, none⟩ (.slice none 0 0))) := Lib.hid ⟨hk.mono (by simp), fun k hk => .inl (by simp at hk ⊢; exact .inl hk)⟩
  have AA : Hid (Apart x f m b sl []) := Lib.hid ⟨ha.xf, ha.xm, ha.xb, ha.xl, by simp, by simp, by simp, by simp, by simp⟩
  have hxl := lt_of_block hr
  have HJ := Lib.hid hj
  clear hr hf ha ho hk hj e2
  go_enter Try.func102, Try.ntmps102
  go_upto_region 1 with fail
  have hsz : w.heap.size ≤ ((w.setCell ⟨x, 0, none⟩ (.slice none 0 0)).setCell ⟨x, 1, none⟩ (.slice none 0 0)).heap.size := EA.out.keep.size
  generalize (w.setCell ⟨x, 0, none⟩ (.slice none 0 0)).setCell ⟨x, 1, none⟩ (.slice none 0 0) = wa at XA FA EA hsz ⊢
  clear c0 z0 c1 z1
  go_wp2_with fail
  refine (look_first FA.out HJ.out).mono ?_
  rintro e w1 ⟨sl1, s1, zn, zp, zg, rfl, h1, e1, hres⟩
  have H1 := Lib.hid h1
  have X1 := Lib.hid (e1.keep.to XA.out (by simp; exact ⟨AA.out.xf, AA.out.xb, AA.out.xl⟩))
  have A1 := Lib.hid (apart_ev AA.out (Nat.lt_of_lt_of_le hxl hsz) e1 h1)
  have E1 := Lib.hid (EA.out.trans ((e1.mono (Y := [x, f, b]) (by simp)).toO []))
  have HRes := Lib.hid hres
  clear h1 e1 hres
  go_wp2_with fail
  go_loopw [4, 5, 6] (fun zn zp zok wr => (zok = .bool false ∧ ∃ sl1 o1, FRep wr f m b sl1 (lookP.run s).2 ∧ LRep x (lookP.run s).1 o1 wr ∧ EvO [x, f, b] (blk sl ++ o) w (blk sl1 ++ o1) wr ∧ Apart x f m b sl1 o1 ∧ (∀ k ∈ o1, k < wr.heap.size)) ∨
      (zn = .int .i64 50 ∧ zp = .int .i64 7 ∧ zok = .bool true ∧ ∃ sl1 s1, FRep wr f m b sl1 s1 ∧ J A4 M7 2 s1 ∧ lookP.run s = rest2.run s1 ∧ wr.heap[x]? = some (.cells #[.slice none 0 0, .slice none 0 0] 167 (0, 0)) ∧ EvO [x, f, b] (blk sl ++ o) w (blk sl1 ++ []) wr ∧ Apart x f m b sl1 []))
    (fun _ _ zok _ => match zok with | .bool true => 1 | _ => 0)
  case atStart =>
    rcases HRes.out with ⟨rfl, h2⟩ | ⟨rfl, rfl, rfl, h3, h4⟩
    · refine .inl ⟨rfl, sl1, [], ?_, ⟨_, _, X1.out, .inl ⟨?_, rfl⟩⟩, E1.out, A1.out, by simp⟩
      · rw [h2]; exact H1.out
      · rw [h2]
    · exact .inr ⟨rfl, rfl, rfl, sl1, s1, H1.out, h3, h4, X1.out, E1.out, A1.out⟩
  case round =>
    rcases hrel with ⟨rfl, hfin⟩ | ⟨rfl, rfl, rfl, sl2, s2, h2, hj2, hq2, hx2, e2, a2⟩
    · have HFin := Lib.hid hfin
      clear hfin
      go_wp2_with fail
      go_end0
      exact ⟨rfl, HFin.out⟩
    · have H2 := Lib.hid h2; have J2 := Lib.hid hj2; have Q2 := Lib.hid hq2; have X2 := Lib.hid hx2; have E2 := Lib.hid e2; have A2 := Lib.hid a2
      have c0 := cell_of (i := 0) hx2 rfl
      have c1 := cell_of (i := 1) hx2 rfl
      have hxr := lt_of_block hx2
      clear h2 hj2 hq2 hx2 e2 a2 HRes H1 X1 A1 E1
      go_upto_region 3 with fail
      go_region_law (first
        | (refine step_append_lies _ (by rfl) _ _ _ (by rfl) 0 3 i0 _ 1 8 Try.underlying165 hi0 hz0 hz1 hz2 rfl (by omega) (.slice none 0 0) 0 [] (by rfl) ⟨rfl, .inl ⟨rfl, rfl⟩⟩ ⟨wr.heap.size, 0, none⟩ 1 1 [.int .i64 50] (by rfl) (by rfl) (World.news_of_block (cs := #[.int .i64 50]) (t := 3) (fr := (0, 0)) (heap_alloc_new wr _)) (by simp [Value.oneCell']) (by omega) (by unfold maxLen; omega) (by omega) (by simp) _ rfl ?_; intro gg cap w5 hown hgrow hat hlt5; have K5 : Hid (Keep [] wr w5) := Lib.hid ((((Keep.refl [] wr).alloc _).drew).of_grown hgrow (by simp [Value.ownBlock])); have CA : Hid True := Lib.hid trivial; have c15 := cell_of (i := 1) (K5.out.to X2.out (by simp)) rfl; have c16 : (w5.alloc (.cells #[.int .i64 7] 3)).cell? ⟨x, 1, none⟩ = some (.slice none 0 0) := cell_of (i := 1) (((Keep.refl [] w5).alloc _).to (K5.out.to X2.out (by simp)) (by simp)) rfl; clear hown hgrow hat hlt5)
        | (refine step_append_lies _ (by rfl) _ _ _ (by rfl) 0 3 i0 _ 1 8 Try.underlying165 hi0 hz0 hz1 hz2 rfl (by omega) (.slice none 0 0) 0 [] (by rfl) ⟨rfl, .inl ⟨rfl, rfl⟩⟩ ⟨wr.heap.size, 0, none⟩ 1 1 [.int .i64 50] (by rfl) (by rfl) (World.news_of_block (cs := #[.int .i64 50]) (t := 3) (fr := (0, 0)) (two_fst wr _ _)) (by simp [Value.oneCell']) (by omega) (by unfold maxLen; omega) (by omega) (by simp) _ rfl ?_; intro gg cap w5 hown hgrow hat hlt5; have K5 : Hid (Keep [] wr w5) := Lib.hid (((((Keep.refl [] wr).alloc _).alloc _).drew).of_grown hgrow (by simp [Value.ownBlock])); have CB : Hid (w5.heap[wr.heap.size + 1]? = some (.cells #[.int .i64 7] 3 (0, 0))) := Lib.hid (((Keep.refl [] _).of_grown hgrow (by simp [Value.ownBlock])).to (two_snd wr _ _) (by simp)); have c15 := cell_of (i := 1) (K5.out.to X2.out (by simp)) rfl; have c16 : (w5.alloc (.cells #[.int .i64 7] 3)).cell? ⟨x, 1, none⟩ = some (.slice none 0 0) := cell_of (i := 1) (((Keep.refl [] w5).alloc _).to (K5.out.to X2.out (by simp)) (by simp)) rfl; clear hown hgrow hat hlt5)
        | (refine step_append_lies _ (by rfl) _ _ _ (by rfl) 0 3 i0 _ 1 8 Try.underlying165 hi0 hz0 hz1 hz2 rfl (by omega) (.slice none 0 0) 0 [] (by rfl) ⟨rfl, .inl ⟨rfl, rfl⟩⟩ ⟨wr.heap.size + 1, 0, none⟩ 1 1 [.int .i64 50] (by rfl) (by rfl) (World.news_of_block (cs := #[.int .i64 50]) (t := 3) (fr := (0, 0)) (two_snd wr _ _)) (by simp [Value.oneCell']) (by omega) (by unfold maxLen; omega) (by omega) (by simp) _ rfl ?_; intro gg cap w5 hown hgrow hat hlt5; have K5 : Hid (Keep [] wr w5) := Lib.hid (((((Keep.refl [] wr).alloc _).alloc _).drew).of_grown hgrow (by simp [Value.ownBlock])); have CC : Hid (w5.heap[wr.heap.size]? = some (.cells #[.int .i64 7] 3 (0, 0))) := Lib.hid (((Keep.refl [] _).of_grown hgrow (by simp [Value.ownBlock])).to (two_fst wr _ _) (by simp)); have c15 := cell_of (i := 1) (K5.out.to X2.out (by simp)) rfl; have c16 : (w5.alloc (.cells #[.int .i64 7] 3)).cell? ⟨x, 1, none⟩ = some (.slice none 0 0) := cell_of (i := 1) (((Keep.refl [] w5).alloc _).to (K5.out.to X2.out (by simp)) (by simp)) rfl; clear hown hgrow hat hlt5)
        | (refine step_append_lies _ (by rfl) _ _ _ (by rfl) 0 3 i0 _ 1 8 Try.underlying165 hi0 hz0 hz1 hz2 rfl (by omega) (.slice none 0 0) 0 [] (by rfl) ⟨rfl, .inl ⟨rfl, rfl⟩⟩ ⟨w5.heap.size, 0, none⟩ 1 1 [.int .i64 7] (by rfl) (by rfl) (World.news_of_block (cs := #[.int .i64 7]) (t := 3) (fr := (0, 0)) (heap_alloc_new w5 _)) (by simp [Value.oneCell']) (by omega) (by unfold maxLen; omega) (by omega) (by simp) _ rfl ?_; intro gg2 cap2 w7 hown hgrow hat hlt7; have K7 : Hid (Keep [] wr w7) := Lib.hid ((K5.out.trans ((Keep.refl [] w5).alloc (.cells #[.int .i64 7] 3))).of_grown hgrow (by simp [Value.ownBlock])); have OW := Lib.hid hown; have GW : Hid (wr.heap.size ≤ gg2 ∧ gg2 < w7.heap.size) := Lib.hid ⟨by rcases hat with h | h; (simp [Value.ownBlock] at h); (have h9 := (K5.out.trans ((Keep.refl [] w5).alloc (.cells #[.int .i64 7] 3))).size; first | omega | (simp at h h9; omega) | (simp at h; omega) | (simp at h9; omega)), hlt7⟩; have X7 := Lib.hid (K7.out.to X2.out (by simp)); have d0 := cell_of (i := 0) X7.out rfl; have y0 := free_of (i := 0) X7.out; have d1 := cell_of (i := 1) (block_set 0 (.slice (some ⟨gg, 0, none⟩) 1 cap) X7.out) rfl; have y1 := free_of (i := 1) (block_set 0 (.slice (some ⟨gg, 0, none⟩) 1 cap) X7.out); clear hown hgrow hat hlt7)
        | (refine step_append_lies _ (by rfl) _ _ _ (by rfl) 0 3 i0 _ 1 8 Try.underlying165 hi0 hz0 hz1 hz2 rfl (by omega) (.slice none 0 0) 0 [] (by rfl) ⟨rfl, .inl ⟨rfl, rfl⟩⟩ ⟨wr.heap.size + 1, 0, none⟩ 1 1 [.int .i64 7] (by rfl) (by rfl) (World.news_of_block (cs := #[.int .i64 7]) (t := 3) (fr := (0, 0)) (CB.out)) (by simp [Value.oneCell']) (by omega) (by unfold maxLen; omega) (by omega) (by simp) _ rfl ?_; intro gg2 cap2 w7 hown hgrow hat hlt7; have K7 : Hid (Keep [] wr w7) := Lib.hid (K5.out.of_grown hgrow (by simp [Value.ownBlock])); have OW := Lib.hid hown; have GW : Hid (wr.heap.size ≤ gg2 ∧ gg2 < w7.heap.size) := Lib.hid ⟨by rcases hat with h | h; (simp [Value.ownBlock] at h); (have h9 := K5.out.size; first | omega | (simp at h h9; omega) | (simp at h; omega) | (simp at h9; omega)), hlt7⟩; have X7 := Lib.hid (K7.out.to X2.out (by simp)); have d0 := cell_of (i := 0) X7.out rfl; have y0 := free_of (i := 0) X7.out; have d1 := cell_of (i := 1) (block_set 0 (.slice (some ⟨gg, 0, none⟩) 1 cap) X7.out) rfl; have y1 := free_of (i := 1) (block_set 0 (.slice (some ⟨gg, 0, none⟩) 1 cap) X7.out); clear hown hgrow hat hlt7)
        | (refine step_append_lies _ (by rfl) _ _ _ (by rfl) 0 3 i0 _ 1 8 Try.underlying165 hi0 hz0 hz1 hz2 rfl (by omega) (.slice none 0 0) 0 [] (by rfl) ⟨rfl, .inl ⟨rfl, rfl⟩⟩ ⟨wr.heap.size, 0, none⟩ 1 1 [.int .i64 7] (by rfl) (by rfl) (World.news_of_block (cs := #[.int .i64 7]) (t := 3) (fr := (0, 0)) (CC.out)) (by simp [Value.oneCell']) (by omega) (by unfold maxLen; omega) (by omega) (by simp) _ rfl ?_; intro gg2 cap2 w7 hown hgrow hat hlt7; have K7 : Hid (Keep [] wr w7) := Lib.hid (K5.out.of_grown hgrow (by simp [Value.ownBlock])); have OW := Lib.hid hown; have GW : Hid (wr.heap.size ≤ gg2 ∧ gg2 < w7.heap.size) := Lib.hid ⟨by rcases hat with h | h; (simp [Value.ownBlock] at h); (have h9 := K5.out.size; first | omega | (simp at h h9; omega) | (simp at h; omega) | (simp at h9; omega)), hlt7⟩; have X7 := Lib.hid (K7.out.to X2.out (by simp)); have d0 := cell_of (i := 0) X7.out rfl; have y0 := free_of (i := 0) X7.out; have d1 := cell_of (i := 1) (block_set 0 (.slice (some ⟨gg, 0, none⟩) 1 cap) X7.out) rfl; have y1 := free_of (i := 1) (block_set 0 (.slice (some ⟨gg, 0, none⟩) 1 cap) X7.out); clear hown hgrow hat hlt7)
        | fail)
      all_goals
        have KF : Hid (Keep [x] wr ((w7.setCell ⟨x, 0, none⟩ (.slice (some ⟨gg, 0, none⟩) 1 cap)).setCell ⟨x, 1, none⟩ (.slice (some ⟨gg2, 0, none⟩) 1 cap2))) := Lib.hid ((K7.out.mono (S' := [x]) (by simp)).trans (((Keep.refl _ _).setCell (.inr (by simp)) _).setCell (.inr (by simp)) _))
        have XF : Hid (((w7.setCell ⟨x, 0, none⟩ (.slice (some ⟨gg, 0, none⟩) 1 cap)).setCell ⟨x, 1, none⟩ (.slice (some ⟨gg2, 0, none⟩) 1 cap2)).heap[x]? = some (.cells #[.slice (some ⟨gg, 0, none⟩) 1 cap, .slice (some ⟨gg2, 0, none⟩) 1 cap2] 167 (0, 0))) := Lib.hid (block_set 1 (.slice (some ⟨gg2, 0, none⟩) 1 cap2) (block_set 0 (.slice (some ⟨gg, 0, none⟩) 1 cap) X7.out))
        have CF : Hid (((w7.setCell ⟨x, 0, none⟩ (.slice (some ⟨gg, 0, none⟩) 1 cap)).setCell ⟨x, 1, none⟩ (.slice (some ⟨gg2, 0, none⟩) 1 cap2)).cell? ⟨gg2, 0, none⟩ = some (.int .i64 7)) := Lib.hid (cell_stays (S := [x]) (((Keep.refl _ _).setCell (.inr (by simp)) _).setCell (.inr (by simp)) _) ((OwnRow.of_owns OW.out rfl).1.cell 0 _ rfl) (by have := GW.out; simp; omega))
        have GF : Hid (wr.heap.size ≤ gg2 ∧ gg2 < ((w7.setCell ⟨x, 0, none⟩ (.slice (some ⟨gg, 0, none⟩) 1 cap)).setCell ⟨x, 1, none⟩ (.slice (some ⟨gg2, 0, none⟩) 1 cap2)).heap.size) := Lib.hid ⟨GW.out.1, Nat.lt_of_lt_of_le GW.out.2 (Keep.size (S := [x]) (((Keep.refl _ _).setCell (.inr (by simp)) _).setCell (.inr (by simp)) _))⟩
        have FF := Lib.hid (H2.out.keep KF.out (by simpa using A2.out.xf.symm) (by simpa using A2.out.xm.symm) (by simpa using A2.out.xb.symm) (own_ne A2.out.xl))
        clear d0 y0 d1 y1 c15 c16 c0 c1 K5 K7 OW GW X7
        go_wp2_with fail
        refine (look_after FF.out J2.out).mono ?_
        rintro e w9 ⟨sl9, s9, rfl, h9, e9, hr9⟩
        have FIN := Lib.hid (look_end H2.out Q2.out E2.out A2.out hxr KF.out XF.out CF.out GF.out h9 e9 hr9)
        clear h9 e9 hr9
        go_wp2_with fail
        go_roundw
        case rel => exact .inl ⟨rfl, FIN.out⟩
        case measure => decide
end Law06
end Go.Proofs.Ytkmamebaichboaa
