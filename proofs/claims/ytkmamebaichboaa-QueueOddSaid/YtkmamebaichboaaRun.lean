/- frame.Run over a body that is a method value: as many steps as are wanted. No conditions but those stated. -/
import Derived.Test.YtkmamebaichboaaFrame3
namespace Go.Proofs.Ytkmamebaichboaa
open Go.ChangeShapes Go.WideShapes Go.ChangeAt Go.RowKit
set_option linter.unusedVariables false
set_option linter.unusedSimpArgs false

/-- How the world may have turned: the blocks X, those that are owned; new blocks. -/
structure EvO (X : List Nat) (o : List Nat) (w : World) (o' : List Nat) (w' : World) : Prop where
  keep : Keep (X ++ o) w w'
  new : ∀ k ∈ o', k ∈ o ∨ w.heap.size ≤ k
theorem EvO.refl (X o : List Nat) (w : World) : EvO X o w o w := ⟨Keep.refl _ _, fun k hk => .inl hk⟩
theorem EvO.trans {X o o1 o2 : List Nat} {w w1 w2 : World} (h : EvO X o w o1 w1) (k : EvO X o1 w1 o2 w2) : EvO X o w o2 w2 := by
  refine ⟨h.keep.transS k.keep (fun x hx _ => hx) (fun x hx hlt => ?_), fun y hy => ?_⟩
  · simp only [List.mem_append] at hx ⊢
    rcases hx with hx | hx
    · exact .inl hx
    · rcases h.new x hx with e | e
      · exact .inr e
      · omega
  · rcases k.new y hy with e | e
    · exact h.new y e
    · exact .inr (Nat.le_trans h.keep.size e)
theorem EvO.mono {X Y o o' : List Nat} {w w' : World} (h : EvO X o w o' w') (hs : ∀ x ∈ X, x < w.heap.size → x ∈ Y) : EvO Y o w o' w' :=
  ⟨h.keep.mono (fun x hx hlt => by
    simp only [List.mem_append] at hx ⊢
    rcases hx with hx | hx
    · exact .inl (hs x hx hlt)
    · exact .inr hx), h.new⟩
theorem Ev.toO {X : List Nat} {sl sl' : Value} {w w' : World} (h : Ev X sl w sl' w') (o : List Nat) : EvO X (blk sl ++ o) w (blk sl' ++ o) w' := by
  refine ⟨h.keep.mono (fun x hx _ => ?_), fun k hk => ?_⟩
  · simp only [List.mem_append] at hx ⊢
    rcases hx with hx | hx
    · exact .inl hx
    · exact .inr (.inl hx)
  · simp only [List.mem_append] at hk ⊢
    rcases hk with hk | hk
    · rcases h.new with e | e
      · rw [mem_blk] at hk ⊢
        exact .inl (.inl (e ▸ hk))
      · exact .inr (e k (mem_blk.1 hk))
    · exact .inl (.inr hk)

/-- The receiver's block x and what it owns lie apart from the frame, the memory and the log. -/
structure Apart (x f m b : Nat) (sl : Value) (o : List Nat) : Prop where
  xf : x ≠ f
  xm : x ≠ m
  xb : x ≠ b
  xl : x ∉ blk sl
  xo : x ∉ o
  of : f ∉ o
  om : m ∉ o
  ob : b ∉ o
  ol : ∀ k ∈ o, k ∉ blk sl

theorem not_one {o : List Nat} {a : Nat} (h : a ∉ o) : ∀ j ∈ o, j ∉ [a] := fun j hj e => h (by simp at e; exact e ▸ hj)
section
variable {ρ : Type}
/-- What a body does, as a function of the receiver's data and the frame's state. -/
def BodyOK (K x : Nat) (RR : ρ → List Nat → World → Prop) (B : ρ → St → ρ × St) : Prop :=
  ∀ (f m b : Nat) (w : World) (sl : Value) (s : St) (r : ρ) (o : List Nat), FRep w f m b sl s → RR r o w → Apart x f m b sl o → (∀ k ∈ o, k < w.heap.size) →
    Calls Try.prog K #[.pointer (some ⟨x, 0, none⟩), .pointer (some ⟨f, 0, none⟩)] w fun e w1 => e = .returned (.tuple #[]) ∧ ∃ sl1 o1, FRep w1 f m b sl1 (B r s).2 ∧ RR (B r s).1 o1 w1 ∧
      EvO [x, f, b] (blk sl ++ o) w (blk sl1 ++ o1) w1 ∧ Apart x f m b sl1 o1 ∧ (∀ k ∈ o1, k < w1.heap.size)
/-- What the receiver's data say is not touched where neither its block nor what it owns is. -/
def RStays (x : Nat) (RR : ρ → List Nat → World → Prop) : Prop :=
  ∀ (r : ρ) (o : List Nat) (w w' : World) (S : List Nat), RR r o w → Keep S w w' → x ∉ S → (∀ k ∈ o, k ∉ S) → RR r o w'
def stepP (B : ρ → St → ρ × St) (now : Int) (q : ρ × St) : ρ × St := if q.2.over then q else ((B q.1 (q.2.start now)).1, (B q.1 (q.2.start now)).2.stop)
def runP (B : ρ → St → ρ × St) : Nat → ρ × St → ρ × St
  | 0, q => q
  | n + 1, q => stepP B n (runP B n q)
theorem stepP_over {B : ρ → St → ρ × St} {now : Int} {q : ρ × St} (h : q.2.over = true) : stepP B now q = q := by simp [stepP, h]
theorem stepP_go {B : ρ → St → ρ × St} {now : Int} {q : ρ × St} (h : q.2.over = false) : stepP B now q = ((B q.1 (q.2.start now)).1, (B q.1 (q.2.start now)).2.stop) := by simp [stepP, h]
theorem runP_over {B : ρ → St → ρ × St} {q : ρ × St} {n : Nat} (h : (runP B n q).2.over = true) (m : Nat) (hm : n ≤ m) : runP B m q = runP B n q := by
  induction m with
  | zero =>
    have e : n = 0 := by omega
    subst e
    rfl
  | succ m ih =>
    by_cases e : n = m + 1
    · subst e; rfl
    · have := ih (by omega)
      show stepP B m (runP B m q) = _
      rw [this]
      exact stepP_over h
/-- How long the log is, at most: one more than now, if an access may be done still. -/
def St.mu (s : St) : Nat := s.log.length + (if s.fresh then 1 else 0)
theorem runP_log {B : ρ → St → ρ × St} (hB : ∀ r s, (B r s).2.mu ≤ s.mu) (q : ρ × St) (n : Nat) : (runP B n q).2.log.length ≤ q.2.log.length + n := by
  induction n with
  | zero => exact Nat.le_refl _
  | succ n ih =>
    show (stepP B n (runP B n q)).2.log.length ≤ _
    unfold stepP
    split
    · omega
    · have h1 := hB (runP B n q).1 ((runP B n q).2.start n)
      have h2 : ((runP B n q).2.start n).mu = (runP B n q).2.log.length + 1 := by simp [St.mu, St.start]
      have h3 : (B (runP B n q).1 ((runP B n q).2.start n)).2.log.length ≤ (B (runP B n q).1 ((runP B n q).2.start n)).2.mu := by unfold St.mu; omega
      simp only [St.stop]
      omega

set_option maxRecDepth 100000 in
theorem frame_run {K x : Nat} (hK : ∀ (y z : Addr) (wx : World), (callFunc K #[.pointer (some y), .pointer (some z)]).run Try.prog wx = .ok (.enter K #[.pointer (some y), .pointer (some z)]) wx)
    {RR : ρ → List Nat → World → Prop} {B : ρ → St → ρ × St} (hB : BodyOK K x RR B) (hR : RStays x RR) {w : World} {m b : Nat} {l : List Int} (hm : MemRep 134 w m b l) {r : ρ} {o : List Nat} (hr : RR r o w)
    (hxm : x ≠ m) (hxb : x ≠ b) (hxo : x ∉ o) (hom : m ∉ o) (hob : b ∉ o) (hol : ∀ k ∈ o, k < w.heap.size) (hxl : x < w.heap.size) (most : Int) (hi : most ≤ 9223372036854775807)
    (hlog : ∀ n : Nat, (n : Int) ≤ most → (runP B n (r, St.new l)).2.log.length + 1 ≤ 1000000) :
    Calls Try.prog 24 #[.pointer (some ⟨m, 0, none⟩), .func (.func K) #[.pointer (some ⟨x, 0, none⟩)] #[], .int .i64 most] w fun e w' =>
      ∃ o', e = .returned (.bool (runP B most.toNat (r, St.new l)).2.over) ∧ MemRep 134 w' m b (runP B most.toNat (r, St.new l)).2.mem ∧ RR (runP B most.toNat (r, St.new l)).1 o' w' ∧ EvO [x, b] o w o' w' ∧
        x ∉ o' ∧ m ∉ o' ∧ b ∉ o' ∧ (∀ k ∈ o', k < w'.heap.size) := by
  have Hm := Lib.hid hm
  have HB := Lib.hid hB
  have HR := Lib.hid hR
  have Hr := Lib.hid hr
  have Hlog := Lib.hid hlog
  have Hxo := Lib.hid (And.intro hxo (And.intro hom (And.intro hob hol)))
  have hml := lt_of_block hm.head
  have hbl := lt_of_block hm.body
  have HK := Lib.hid hK
  clear hm hB hR hr hlog hxo hom hob hol hK
  have hq := eql_func_nil K x
  go_enter Try.func24, Try.ntmps24
  go_wp2_with fail
  refine (frame_new Hm.out).mono ?_
  rintro e w1 ⟨rfl, h1, k1, hs1⟩
  have Hq1 : Hid (∃ sl o', FRep w1 w.heap.size m b sl (runP B 0 (r, St.new l)).2 ∧ RR (runP B 0 (r, St.new l)).1 o' w1 ∧ EvO [x, w.heap.size, b] o w (blk sl ++ o') w1 ∧ Apart x w.heap.size m b sl o' ∧ (∀ k ∈ o', k < w1.heap.size)) := by
    refine Lib.hid ⟨_, o, h1, HR.out _ _ _ _ _ Hr.out k1 (by simp) (by simp), ⟨k1.mono (by simp), fun k hk => .inl (by simpa [blk, Value.ownBlock] using hk)⟩, ⟨by omega, hxm, hxb, by simp [blk, Value.ownBlock], Hxo.out.1, ?_, Hxo.out.2.1, Hxo.out.2.2.1, by simp [blk, Value.ownBlock]⟩, fun k hk => ?_⟩
    · intro hin; have := Hxo.out.2.2.2 _ hin; omega
    · have := Hxo.out.2.2.2 _ hk; omega
  clear h1 k1 hs1
  go_wp2_with fail
  have Hf : Hid (w.heap.size ≤ w.heap.size) := Lib.hid (Nat.le_refl _)
  generalize hfe : w.heap.size = f at Hq1 ⊢
  have Hf : Hid (w.heap.size ≤ f) := Lib.hid (by omega)
  have Hfe := Lib.hid hfe
  clear hfe
  have Stay := Lib.hid (show ∀ (n : Nat) , (runP B n (r, St.new l)).2.over = true → (n : Int) ≤ most → runP B most.toNat (r, St.new l) = runP B n (r, St.new l) from fun n h1 h2 => runP_over h1 _ (by omega))
  go_loopw [8] (fun i wr => ∃ k : Nat, i = .int .i64 k ∧ (k ≤ most.toNat) ∧ ∃ sl o', FRep wr f m b sl (runP B k (r, St.new l)).2 ∧ RR (runP B k (r, St.new l)).1 o' wr ∧ EvO [x, f, b] o w (blk sl ++ o') wr ∧ Apart x f m b sl o' ∧ (∀ j ∈ o', j < wr.heap.size))
    (fun i _ => most.toNat - (intOf i).toNat)
  case atStart => exact ⟨0, rfl, Nat.zero_le _, Hq1.out⟩
  case round =>
    obtain ⟨k, rfl, hk, sl, o', h1, h2, h3, h4, h5⟩ := hrel
    have H1 := Lib.hid h1
    have H2 := Lib.hid h2
    have H3 := Lib.hid h3
    have H4 := Lib.hid h4
    have H5 := Lib.hid h5
    clear h1 h2 h3 h4 h5 Hq1
    have fin : ∀ (q : ρ × St), runP B most.toNat (r, St.new l) = q → q = runP B k (r, St.new l) → ∃ o', Ending.returned (.bool (runP B k (r, St.new l)).2.over) = .returned (.bool q.2.over) ∧ MemRep 134 wr m b q.2.mem ∧ RR q.1 o' wr ∧ EvO [x, b] o w o' wr ∧ x ∉ o' ∧ m ∉ o' ∧ b ∉ o' ∧ (∀ k ∈ o', k < wr.heap.size) := by
      rintro q hq rfl
      refine ⟨o', rfl, H1.out.mem, H2.out, ⟨(H3.out.mono (Y := [x, b]) (fun y hy hlt => ?_)).keep, fun j hj => H3.out.new j (by simp [hj])⟩, H4.out.xo, H4.out.om, H4.out.ob, H5.out⟩
      simp only [List.mem_cons, List.not_mem_nil, or_false] at hy ⊢
      rcases hy with e | e | e
      · exact .inl e
      · have := Hf.out; omega
      · exact .inr e
    have Fin := Lib.hid fin
    clear fin
    by_cases hlt : (k : Int) < most
    · cases hov : (runP B k (r, St.new l)).2.over with
      | true =>
        have hst := Stay.out k hov (by omega)
        have Hov := Lib.hid hov
        have Hst := Lib.hid hst
        clear hov hst
        go_wp2_with (go_at_call 32; refine (frame_done H1.out).mono ?_; rintro e w' ⟨rfl, rfl⟩; rw [Hov.out])
        go_ret
        have := Fin.out _ rfl Hst.out
        rw [Hov.out] at this
        exact this
      | false =>
        have hlen := Hlog.out k (by omega)
        have hstep : runP B (k + 1) (r, St.new l) = _ := stepP_go (B := B) (now := (k : Int)) hov
        have Hov := Lib.hid hov
        have Hstep := Lib.hid hstep
        clear hov hstep
        go_wp2_with (go_at_call 32; refine (frame_done H1.out).mono ?_; rintro e w' ⟨rfl, rfl⟩; rw [Hov.out])
        have hb : ∀ w0, Keep [f] wr w0 → FRep w0 f m b sl ((runP B k (r, St.new l)).2.start k) → Calls Try.prog K #[.pointer (some ⟨x, 0, none⟩), .pointer (some ⟨f, 0, none⟩)] w0 fun e w1 => e = .returned (.tuple #[]) ∧ ∃ sl1 s1, FRep w1 f m b sl1 s1 ∧
            (s1 = (B (runP B k (r, St.new l)).1 ((runP B k (r, St.new l)).2.start k)).2 ∧ ∃ o1, RR (B (runP B k (r, St.new l)).1 ((runP B k (r, St.new l)).2.start k)).1 o1 w1 ∧ EvO [x, f, b] (blk sl ++ o') w0 (blk sl1 ++ o1) w1 ∧ Apart x f m b sl1 o1 ∧ (∀ j ∈ o1, j < w1.heap.size)) := by
          intro w0 k0 h0
          refine (HB.out f m b w0 sl _ _ o' h0 (HR.out _ _ _ _ _ H2.out k0 (by simpa using H4.out.xf) (not_one H4.out.of)) H4.out (fun j hj => k0.lt (H5.out j hj))).mono ?_
          rintro e w1 ⟨he, sl1, o1, g1, g2, g3, g4, g5⟩
          exact ⟨he, sl1, _, g1, rfl, o1, g2, g3, g4, g5⟩
        have Hb := Lib.hid hb
        clear hb
        refine (frame_step H1.out Hov.out hlen k K x HK.out Hb.out).mono ?_
        rintro e w2 ⟨w0, w1', sl1, s1, k0, ⟨rfl, o1, g2, g3, g4, g5⟩, rfl, g1, k2⟩
        have Hnew : Hid (∃ sl o', FRep w2 f m b sl (runP B (k + 1) (r, St.new l)).2 ∧ RR (runP B (k + 1) (r, St.new l)).1 o' w2 ∧ EvO [x, f, b] o w (blk sl ++ o') w2 ∧ Apart x f m b sl o' ∧ (∀ j ∈ o', j < w2.heap.size)) := by
          refine Lib.hid ⟨sl1, o1, ?_⟩
          rw [Hstep.out]
          refine ⟨g1, HR.out _ _ _ _ _ g2 k2 (by simpa using g4.xf) (not_one g4.of), ?_, g4, fun j hj => k2.lt (g5 j hj)⟩
          have a1 : EvO [x, f, b] (blk sl ++ o') wr (blk sl ++ o') w0 := ⟨k0.mono (by simp), fun j hj => .inl hj⟩
          have a2 : EvO [x, f, b] (blk sl1 ++ o1) w1' (blk sl1 ++ o1) w2 := ⟨k2.mono (by simp), fun j hj => .inl hj⟩
          exact ((H3.out.trans a1).trans g3).trans a2
        clear g1 g2 g3 g4 g5 k0 k2
        go_wp2_with fail
        go_roundw
        case rel => exact ⟨k + 1, by go_num, by omega, Hnew.out⟩
        case measure => simp [intOf]; omega
    · have hkm : runP B most.toNat (r, St.new l) = runP B k (r, St.new l) := by
        have : k = most.toNat := by omega
        rw [this]
      have Hkm := Lib.hid hkm
      clear hkm
      go_wp2_with (go_at_call 32; refine (frame_done H1.out).mono ?_; rintro e w' ⟨rfl, rfl⟩)
      go_ret
      exact Fin.out _ rfl Hkm.out
end
end Go.Proofs.Ytkmamebaichboaa
