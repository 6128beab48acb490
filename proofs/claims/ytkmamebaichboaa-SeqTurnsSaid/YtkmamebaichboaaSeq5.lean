/- Law 4: the body of a Read; each body run alone; what a Write and a Read do alone. No conditions but those stated. -/
import Derived.Test.YtkmamebaichboaaSeq4
namespace Go.Proofs.Ytkmamebaichboaa
open Go.ChangeShapes Go.WideShapes Go.ChangeAt Go.RowKit
set_option linter.unusedVariables false
set_option linter.unusedSimpArgs false
namespace SeqL
open Prog
theorem own_kept {w w' : World} {S : List Nat} {e : TypeId} {c n : Nat} {v : Value} {xs : List Value} (h : w.ownsRow 0 e c v n xs) (k : Keep S w w') (hs : ∀ j ∈ blk v, j ∉ S) : w'.ownsRow 0 e c v n xs := by
  refine ⟨h.1, ?_⟩
  rcases h.2 with hn | ⟨g, cap, cur, rfl, hb, hg, rest⟩
  · exact .inl hn
  · exact .inr ⟨g, cap, cur, rfl, hb, k.to hg (hs g (mem_blk.2 rfl)), rest⟩
theorem put_f {x f m b : Nat} {sl : Value} {w : World} {s : St} {c : Array Value} {T : TypeId} (h : FRep w f m b sl s) (hr : w.heap[x]? = some (.cells c T (0, 0))) (ha : Apart x f m b sl []) (i : Nat) (v : Value) :
    FRep (w.setCell ⟨x, i, none⟩ v) f m b sl s ∧ (w.setCell ⟨x, i, none⟩ v).heap[x]? = some (.cells (c.setIfInBounds i v) T (0, 0)) := by
  have hk : Keep [x] w (w.setCell ⟨x, i, none⟩ v) := (Keep.refl _ _).setCell (.inr (by simp)) _
  exact ⟨h.keep hk (by simpa using ha.xf.symm) (by simpa using ha.xm.symm) (by simpa using ha.xb.symm) (own_ne ha.xl), block_set i v hr⟩
theorem rStays (x : Nat) (pos N : Int) : RStays x (RRec x pos N) := by
  rintro r o w w' S ⟨v, h1, h2, rfl⟩ k hx ho
  exact ⟨v, k.to h1 hx, own_kept h2 k ho, rfl⟩
theorem r_K : ∀ (y z : Addr) (wx : World), (callFunc 50 #[.pointer (some y), .pointer (some z)]).run Try.prog wx = .ok (.enter 50 #[.pointer (some y), .pointer (some z)]) wx := fun _ _ _ => by kernel_rfl
set_option maxHeartbeats 2000000 in
theorem r_body (x : Nat) (pos N : Int) (hp : 0 ≤ pos ∧ pos ≤ 1000000) : BodyOK 50 x (RRec x pos N) (progB (fun _ => readP pos N) (fun _ r => r)) := by
  rintro f m b w sl s r o h ⟨v0, h1, h2, rfl⟩ ha ho
  rcases q : seqRead pos N s with ⟨l, s'⟩
  have hq : progB (fun _ : List Int => readP pos N) (fun _ r => r) r s = (l, s') := by simp only [progB, read_run, q]
  rw [hq]
  clear hq
  have c0 : w.drew.cell? ⟨x, 0, none⟩ = some (.int .i64 pos) := cell_of h1 rfl
  have c1 : w.drew.cell? ⟨x, 1, none⟩ = some (.int .i64 N) := cell_of h1 rfl
  have HCW := Lib.hid (seq_read (h.keep (Keep.refl [] w).drew (by simp) (by simp) (by simp) (by simp)) pos N hp q)
  have S0 := Lib.hid (And.intro c0 c1)
  have H := Lib.hid h; have H1 := Lib.hid h1; have HA := Lib.hid ha; have HO := Lib.hid ho
  clear h h1 h2 ha ho c0 c1 q
  go_enter Try.func50, Try.ntmps50
  go_wp2_with fail
  go_region_held3 (fun w' => w'.cell? ⟨x, 0, none⟩ = some (.int .i64 pos) ∧ w'.cell? ⟨x, 1, none⟩ = some (.int .i64 N))
    (first | exact S0.out | exact S1.out | exact S2.out)
    (first
      | (go_at_call 92; ((with_reducible refine HCW.out.mono ?_); rintro _ w1 ⟨sl1, v1, rfl, g1, g2, g3, g4⟩; have G1 := Lib.hid g1; have G2 : Hid (Ev [f, b] sl w sl1 w1) := Lib.hid ((Ev.ofKeep (Keep.refl [] w).drew (by simp)).trans g2); have G3 := Lib.hid g3; have G4 : Hid (∀ g, v1.ownBlock = some g → w.heap.size ≤ g ∧ g < w1.heap.size ∧ g ∉ blk sl1) := Lib.hid g4; have HX := Lib.hid (G2.out.keep.to H1.out (by simp; exact ⟨HA.out.xf, HA.out.xb, HA.out.xl⟩)); have c12 := cell_of (i := 2) HX.out rfl; have z12 := free_of (i := 2) HX.out; have S1 : Hid (w1.cell? ⟨x, 0, none⟩ = some (.int .i64 pos) ∧ w1.cell? ⟨x, 1, none⟩ = some (.int .i64 N)) := Lib.hid ⟨cell_of HX.out rfl, cell_of HX.out rfl⟩; have S2 : Hid ((w1.setCell ⟨x, 2, none⟩ v1).cell? ⟨x, 0, none⟩ = some (.int .i64 pos) ∧ (w1.setCell ⟨x, 2, none⟩ v1).cell? ⟨x, 1, none⟩ = some (.int .i64 N)) := Lib.hid ⟨cell_of (block_set 2 v1 HX.out) rfl, cell_of (block_set 2 v1 HX.out) rfl⟩; clear g1 g2 g3 g4; obtain ⟨va, vn, vc, rfl⟩ : ∃ va vn vc, v1 = .slice va vn vc := (by rcases G3.out.2 with ⟨e, _⟩ | ⟨g, cap, cur, e, _⟩; exact ⟨_, _, _, e⟩; exact ⟨_, _, _, e⟩)))
      | (fail))
  all_goals
    go_wp2_with fail
    go_end0
    have n1 := G1.out.ne
    have hxl := lt_of_block H1.out
    have hfl := lt_of_block H.out.head
    have hml := lt_of_block H.out.mem.head
    have hbl := lt_of_block H.out.mem.body
    have hpf := put_f G1.out HX.out (apart_ev (sl := sl) ⟨HA.out.xf, HA.out.xm, HA.out.xb, HA.out.xl, by simp, by simp, by simp, by simp, by simp⟩ hxl G2.out G1.out) 2 (.slice va vn vc)
    have hk : Keep [x] w1 (w1.setCell ⟨x, 2, none⟩ (.slice va vn vc)) := (Keep.refl _ _).setCell (.inr (by simp)) _
    have hnew : ∀ g ∈ blk (.slice va vn vc), w.heap.size ≤ g ∧ g < w1.heap.size ∧ g ∉ blk sl1 := fun g hg => G4.out g (mem_blk.1 hg)
    refine ⟨rfl, sl1, blk (.slice va vn vc), hpf.1, ⟨_, hpf.2, own_kept G3.out hk (fun j hj hm => by have := hnew j hj; simp at hm; omega), rfl⟩, ⟨?_, fun g hg => ?_⟩, ⟨HA.out.xf, HA.out.xm, HA.out.xb, ?_, fun hm => by have := hnew x hm; omega, fun hm => by have := hnew f hm; omega, fun hm => by have := hnew m hm; omega, fun hm => by have := hnew b hm; omega, fun g hg => (hnew g hg).2.2⟩, fun g hg => by have := hnew g hg; have := hk.size; omega⟩
    · refine G2.out.keep.transS hk (fun y hy _ => by simp at hy ⊢; rcases hy with rfl | rfl | hy; exact .inr (.inl rfl); exact .inr (.inr (.inl rfl)); exact .inr (.inr (.inr (.inl hy)))) (fun y hy _ => by simp at hy ⊢; exact .inl hy)
    · rcases List.mem_append.1 hg with hg | hg
      · rw [mem_blk] at hg
        rcases G2.out.new with h3 | h3
        · rw [h3] at hg; exact .inl (List.mem_append.2 (.inl (mem_blk.2 hg)))
        · exact .inr (h3 g hg)
      · exact .inr (hnew g hg).1
    · intro hm
      rw [mem_blk] at hm
      rcases G2.out.new with h3 | h3
      · rw [h3] at hm; exact HA.out.xl (mem_blk.2 hm)
      · have := h3 x hm; omega
/-! ### Alone -/
theorem acts_runR {ρ α : Type} {K x : Nat} {ro : List Nat} (hK : ∀ (y z : Addr) (wx : World), (callFunc K #[.pointer (some y), .pointer (some z)]).run Try.prog wx = .ok (.enter K #[.pointer (some y), .pointer (some z)]) wx)
    {RR : ρ → List Nat → World → Prop} {P : ρ → Prog α} {U : ρ → α → ρ} (hB : BodyOKR K x ro RR (progB P U)) (hR : RStaysR x ro RR) (hP : ∀ r a, P (U r a) = P r) (hU : ∀ r a b, U (U r a) b = U r b)
    {w : World} {m b : Nat} {l : List Int} {r : ρ} (hm : MemRep 134 w m b l) (hr : RR r [] w) (hxm : x ≠ m) (hxb : x ≠ b) (hro : ∀ k ∈ ro, k < w.heap.size ∧ k ≠ b) (hxl : x < w.heap.size) (most : Int) (hmost : 1 ≤ most ∧ most ≤ 900000) (hc : (P r).cost l ≤ most.toNat) :
    Calls Try.prog 24 #[.pointer (some ⟨m, 0, none⟩), .func (.func K) #[.pointer (some ⟨x, 0, none⟩)] #[], .int .i64 most] w fun e w' =>
      ∃ o', e = .returned (.bool true) ∧ MemRep 134 w' m b ((P r).solo l).2 ∧ RR (U r ((P r).solo l).1) o' w' ∧ EvO [x, b] [] w o' w' ∧ x ∉ o' := by
  obtain ⟨g1, g2, g3, g4⟩ := run_solo P U hP hU r l most.toNat (by omega) hc
  refine (frame_runR hK hB hR hm (r := r) (o := []) hr hxm hxb (by simp) (by simp) (by simp) (by simp) (fun k hk => ⟨(hro k hk).1, (hro k hk).2, by simp⟩) hxl most (by omega) (fun n hn => ?_)).mono ?_
  · have := runP_log (progB_mu P U) (r, St.new l) n
    have e : (r, St.new l).2.log.length = 0 := rfl
    omega
  · rintro e w' ⟨o', he, h1, h2, h3, h4, h5, h6, h7⟩
    rw [g1] at he
    rw [g3] at h1
    rw [g2] at h2
    exact ⟨o', he, h1, h2, h3, h4⟩
end SeqL
end Go.Proofs.Ytkmamebaichboaa
