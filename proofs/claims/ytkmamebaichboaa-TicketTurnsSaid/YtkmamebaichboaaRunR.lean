/- A frame's step and run over a body that also reads blocks which nobody writes. No conditions but those stated. -/
import Derived.Test.YtkmamebaichboaaStep
namespace Go.Proofs.Ytkmamebaichboaa
open Go.ChangeShapes Go.WideShapes Go.ChangeAt Go.RowKit
set_option linter.unusedVariables false
set_option linter.unusedSimpArgs false
/-- The blocks that are only read lie apart. -/
def RoOK (ro : List Nat) (w : World) (f b : Nat) (sl : Value) (o : List Nat) : Prop := ∀ k ∈ ro, k < w.heap.size ∧ k ≠ f ∧ k ≠ b ∧ k ∉ blk sl ∧ k ∉ o
theorem RoOK.step {ro X : List Nat} {w w' : World} {f b : Nat} {sl sl' : Value} {o o' : List Nat} (h : RoOK ro w f b sl o) (e : EvO X (blk sl ++ o) w (blk sl' ++ o') w') : RoOK ro w' f b sl' o' := by
  intro k hk
  obtain ⟨h1, h2, h3, h4, h5⟩ := h k hk
  refine ⟨e.keep.lt h1, h2, h3, fun hin => ?_, fun hin => ?_⟩
  · rcases e.new k (by simp [hin]) with g | g
    · simp only [List.mem_append] at g
      rcases g with g | g
      · exact h4 g
      · exact h5 g
    · omega
  · rcases e.new k (by simp [hin]) with g | g
    · simp only [List.mem_append] at g
      rcases g with g | g
      · exact h4 g
      · exact h5 g
    · omega
section
variable {ρ : Type}
def BodyOKR (K x : Nat) (ro : List Nat) (RR : ρ → List Nat → World → Prop) (B : ρ → St → ρ × St) : Prop :=
  ∀ (f m b : Nat) (w : World) (sl : Value) (s : St) (r : ρ) (o : List Nat), FRep w f m b sl s → RR r o w → Apart x f m b sl o → (∀ k ∈ o, k < w.heap.size) → RoOK ro w f b sl o →
    Calls Try.prog K #[.pointer (some ⟨x, 0, none⟩), .pointer (some ⟨f, 0, none⟩)] w fun e w1 => e = .returned (.tuple #[]) ∧ ∃ sl1 o1, FRep w1 f m b sl1 (B r s).2 ∧ RR (B r s).1 o1 w1 ∧
      EvO [x, f, b] (blk sl ++ o) w (blk sl1 ++ o1) w1 ∧ Apart x f m b sl1 o1 ∧ (∀ k ∈ o1, k < w1.heap.size)
def RStaysR (x : Nat) (ro : List Nat) (RR : ρ → List Nat → World → Prop) : Prop :=
  ∀ (r : ρ) (o : List Nat) (w w' : World) (S : List Nat), RR r o w → Keep S w w' → x ∉ S → (∀ k ∈ o, k ∉ S) → (∀ k ∈ ro, k ∉ S) → RR r o w'
theorem RoOK.one {ro : List Nat} {w : World} {f b : Nat} {sl : Value} {o : List Nat} (h : RoOK ro w f b sl o) : ∀ k ∈ ro, k ∉ [f] := fun k hk => by simpa using (h k hk).2.1
theorem frame_stepR {K x : Nat} {ro : List Nat} (hK : ∀ (y z : Addr) (wx : World), (callFunc K #[.pointer (some y), .pointer (some z)]).run Try.prog wx = .ok (.enter K #[.pointer (some y), .pointer (some z)]) wx)
    {RR : ρ → List Nat → World → Prop} {B : ρ → St → ρ × St} (hB : BodyOKR K x ro RR B) (hR : RStaysR x ro RR) {w : World} {f m b : Nat} {sl : Value} {s : St} {r : ρ} {o : List Nat} (h : FRep w f m b sl s) (hr : RR r o w) (ha : Apart x f m b sl o)
    (ho : ∀ k ∈ o, k < w.heap.size) (hro : RoOK ro w f b sl o) (hlen : s.log.length ≤ 900000) (now : Int) {r' : ρ} {s' : St} (hq : stepP B now (r, s) = (r', s')) :
    Calls Try.prog 29 #[.pointer (some ⟨f, 0, none⟩), .int .i64 now, .func (.func K) #[.pointer (some ⟨x, 0, none⟩)] #[]] w fun e w' =>
      e = .returned (.bool s'.over) ∧ ∃ sl' o', FRep w' f m b sl' s' ∧ RR r' o' w' ∧ EvO [x, f, b] (blk sl ++ o) w (blk sl' ++ o') w' ∧ Apart x f m b sl' o' ∧ (∀ k ∈ o', k < w'.heap.size) ∧ RoOK ro w' f b sl' o' := by
  cases hov : s.over with
  | true =>
    rw [stepP_over (B := B) (now := now) (q := (r, s)) hov] at hq
    obtain ⟨rfl, rfl⟩ := Prod.mk.inj hq
    refine (frame_step_over h hov now _).mono ?_
    rintro e w' ⟨rfl, rfl⟩
    exact ⟨by rw [hov], sl, o, h, hr, EvO.refl _ _ _, ha, ho, hro⟩
  | false =>
    rw [stepP_go (B := B) (now := now) (q := (r, s)) hov] at hq
    obtain ⟨rfl, rfl⟩ := Prod.mk.inj hq
    have hb : ∀ w0, Keep [f] w w0 → FRep w0 f m b sl (s.start now) → Calls Try.prog K #[.pointer (some ⟨x, 0, none⟩), .pointer (some ⟨f, 0, none⟩)] w0 fun e w1 => e = .returned (.tuple #[]) ∧ ∃ sl1 s1, FRep w1 f m b sl1 s1 ∧
        (s1 = (B r (s.start now)).2 ∧ ∃ o1, RR (B r (s.start now)).1 o1 w1 ∧ EvO [x, f, b] (blk sl ++ o) w0 (blk sl1 ++ o1) w1 ∧ Apart x f m b sl1 o1 ∧ (∀ j ∈ o1, j < w1.heap.size)) := by
      intro w0 k0 h0
      refine (hB f m b w0 sl _ _ o h0 (hR _ _ _ _ _ hr k0 (by simpa using ha.xf) (not_one ha.of) hro.one) ha (fun j hj => k0.lt (ho j hj)) (fun k hk => ⟨k0.lt (hro k hk).1, (hro k hk).2⟩)).mono ?_
      rintro e w1 ⟨he, sl1, o1, g1, g2, g3, g4, g5⟩
      exact ⟨he, sl1, _, g1, rfl, o1, g2, g3, g4, g5⟩
    refine (frame_step h hov (by omega) now K x hK hb).mono ?_
    rintro e w2 ⟨w0, w1, sl1, s1, k0, ⟨rfl, o1, g2, g3, g4, g5⟩, rfl, g1, k2⟩
    have a1 : EvO [x, f, b] (blk sl ++ o) w (blk sl ++ o) w0 := ⟨k0.mono (by simp), fun j hj => .inl hj⟩
    have a2 : EvO [x, f, b] (blk sl1 ++ o1) w1 (blk sl1 ++ o1) w2 := ⟨k2.mono (by simp), fun j hj => .inl hj⟩
    have a3 := (a1.trans g3).trans a2
    have hro' := hro.step a3
    exact ⟨rfl, sl1, o1, g1, hR _ _ _ _ _ g2 k2 (by simpa using g4.xf) (not_one g4.of) hro'.one, a3, g4, fun j hj => k2.lt (g5 j hj), hro'⟩
set_option maxRecDepth 100000 in
theorem frame_runR {K x : Nat} {ro : List Nat} (hK : ∀ (y z : Addr) (wx : World), (callFunc K #[.pointer (some y), .pointer (some z)]).run Try.prog wx = .ok (.enter K #[.pointer (some y), .pointer (some z)]) wx)
    {RR : ρ → List Nat → World → Prop} {B : ρ → St → ρ × St} (hB : BodyOKR K x ro RR B) (hR : RStaysR x ro RR) {w : World} {m b : Nat} {l : List Int} (hm : MemRep 134 w m b l) {r : ρ} {o : List Nat} (hr : RR r o w)
    (hxm : x ≠ m) (hxb : x ≠ b) (hxo : x ∉ o) (hom : m ∉ o) (hob : b ∉ o) (hol : ∀ k ∈ o, k < w.heap.size) (hro : ∀ k ∈ ro, k < w.heap.size ∧ k ≠ b ∧ k ∉ o) (hxl : x < w.heap.size) (most : Int) (hi : most ≤ 9223372036854775807)
    (hlog : ∀ n : Nat, (n : Int) ≤ most → (runP B n (r, St.new l)).2.log.length ≤ 900000) :
    Calls Try.prog 24 #[.pointer (some ⟨m, 0, none⟩), .func (.func K) #[.pointer (some ⟨x, 0, none⟩)] #[], .int .i64 most] w fun e w' =>
      ∃ o', e = .returned (.bool (runP B most.toNat (r, St.new l)).2.over) ∧ MemRep 134 w' m b (runP B most.toNat (r, St.new l)).2.mem ∧ RR (runP B most.toNat (r, St.new l)).1 o' w' ∧ EvO [x, b] o w o' w' ∧
        x ∉ o' ∧ m ∉ o' ∧ b ∉ o' ∧ (∀ k ∈ o', k < w'.heap.size) := by
  have hml := lt_of_block hm.head
  have hbl := lt_of_block hm.body
  have Hm := Lib.hid hm
  have HB := Lib.hid hB
  have HR := Lib.hid hR
  have Hr := Lib.hid hr
  have Hxo := Lib.hid (And.intro hxo (And.intro hom (And.intro hob hol)))
  have Hro := Lib.hid hro
  have HK := Lib.hid hK
  obtain ⟨Q, q0, qs, ql, qo⟩ : ∃ Q : Nat → ρ × St, Q 0 = (r, St.new l) ∧ (∀ k : Nat, stepP B k ((Q k).1, (Q k).2) = ((Q (k + 1)).1, (Q (k + 1)).2)) ∧ (∀ k : Nat, (k : Int) ≤ most → (Q k).2.log.length ≤ 900000) ∧
      (∀ k : Nat, Q k = runP B k (r, St.new l)) := ⟨fun k => runP B k (r, St.new l), rfl, fun k => rfl, hlog, fun k => rfl⟩
  rw [← qo most.toNat]
  have Hqo := Lib.hid (show ∀ (n : Nat), (Q n).2.over = true → (n : Int) ≤ most → Q most.toNat = Q n from fun n h1 h2 => by rw [qo, qo]; rw [qo] at h1; exact runP_over h1 _ (by omega))
  have Hq0 := Lib.hid q0; have Hqs := Lib.hid qs; have Hql := Lib.hid ql
  clear hm hB hR hr hlog hxo hom hob hol hK hro q0 qs ql qo
  have hq := eql_func_nil K x
  go_enter Try.func24, Try.ntmps24
  go_wp2_with fail
  refine (frame_new Hm.out).mono ?_
  rintro e w1 ⟨rfl, h1, k1, hs1⟩
  have Hq1 : Hid (∃ sl o', FRep w1 w.heap.size m b sl (Q 0).2 ∧ RR (Q 0).1 o' w1 ∧ EvO [x, w.heap.size, b] o w (blk sl ++ o') w1 ∧ Apart x w.heap.size m b sl o' ∧ (∀ k ∈ o', k < w1.heap.size) ∧ RoOK ro w1 w.heap.size b sl o') := by
    rw [Hq0.out]
    refine Lib.hid ⟨_, o, h1, HR.out _ _ _ _ _ Hr.out k1 (by simp) (by simp) (by simp), ⟨k1.mono (by simp), fun k hk => .inl (by simpa [blk, Value.ownBlock] using hk)⟩, ⟨by omega, hxm, hxb, by simp [blk, Value.ownBlock], Hxo.out.1, ?_, Hxo.out.2.1, Hxo.out.2.2.1, by simp [blk, Value.ownBlock]⟩, fun k hk => ?_, fun k hk => ?_⟩
    · intro hin; have := Hxo.out.2.2.2 _ hin; omega
    · have := Hxo.out.2.2.2 _ hk; omega
    · obtain ⟨z1, z2, z3⟩ := Hro.out k hk
      exact ⟨by omega, by omega, z2, by simp [blk, Value.ownBlock], z3⟩
  clear h1 k1 hs1
  go_wp2_with fail
  generalize hfe : w.heap.size = f at Hq1 ⊢
  have Hf : Hid (w.heap.size ≤ f) := Lib.hid (by omega)
  have Hfe := Lib.hid hfe
  clear hfe
  go_loopw [8] (fun i wr => ∃ k : Nat, i = .int .i64 k ∧ (k ≤ most.toNat) ∧ ∃ sl o', FRep wr f m b sl (Q k).2 ∧ RR (Q k).1 o' wr ∧ EvO [x, f, b] o w (blk sl ++ o') wr ∧ Apart x f m b sl o' ∧ (∀ j ∈ o', j < wr.heap.size) ∧ RoOK ro wr f b sl o')
    (fun i _ => most.toNat - (intOf i).toNat)
  case atStart => exact ⟨0, rfl, Nat.zero_le _, Hq1.out⟩
  case round =>
    obtain ⟨k, rfl, hk, sl, o', h1, h2, h3, h4, h5, h6⟩ := hrel
    have H1 := Lib.hid h1
    have H2 := Lib.hid h2
    have H3 := Lib.hid h3
    have H4 := Lib.hid h4
    have H5 := Lib.hid h5
    have H6 := Lib.hid h6
    clear h1 h2 h3 h4 h5 h6 Hq1
    have fin : ∀ (q : ρ × St), Q most.toNat = q → q = Q k → ∃ o', Ending.returned (.bool (Q k).2.over) = .returned (.bool q.2.over) ∧ MemRep 134 wr m b q.2.mem ∧ RR q.1 o' wr ∧ EvO [x, b] o w o' wr ∧ x ∉ o' ∧ m ∉ o' ∧ b ∉ o' ∧ (∀ k ∈ o', k < wr.heap.size) := by
      rintro q hq rfl
      refine ⟨o', rfl, H1.out.mem, H2.out, ⟨(H3.out.mono (Y := [x, b]) (fun y hy hlt => ?_)).keep, fun j hj => H3.out.new j (by simp [hj])⟩, H4.out.xo, H4.out.om, H4.out.ob, H5.out⟩
      simp only [List.mem_cons, List.not_mem_nil, or_false] at hy ⊢
      rcases hy with e | e | e
      · exact .inl e
      · have := Hf.out; omega
      · exact .inr e
    have Fin := Lib.hid fin
    clear fin
    by_cases hlt : (k : Int) < most
    · cases hov : (Q k).2.over with
      | true =>
        have hst := Hqo.out k hov (by omega)
        have Hov := Lib.hid hov
        have Hst := Lib.hid hst
        clear hov hst
        go_wp2_with (go_at_call 32; refine (frame_done H1.out).mono ?_; rintro e w' ⟨rfl, rfl⟩; rw [Hov.out])
        go_ret
        have := Fin.out _ rfl Hst.out
        rw [Hov.out] at this
        exact this
      | false =>
        have Hov := Lib.hid hov
        clear hov
        go_wp2_with (go_at_call 32; refine (frame_done H1.out).mono ?_; rintro e w' ⟨rfl, rfl⟩; rw [Hov.out])
        refine (frame_stepR HK.out HB.out HR.out H1.out H2.out H4.out H5.out H6.out (Hql.out k (by omega)) k (Hqs.out k)).mono ?_
        rintro e w2 ⟨rfl, sl1, o1, g1, g2, g3, g4, g5, g6⟩
        have Hnew : Hid (∃ sl o', FRep w2 f m b sl (Q (k + 1)).2 ∧ RR (Q (k + 1)).1 o' w2 ∧ EvO [x, f, b] o w (blk sl ++ o') w2 ∧ Apart x f m b sl o' ∧ (∀ j ∈ o', j < w2.heap.size) ∧ RoOK ro w2 f b sl o') :=
          Lib.hid ⟨sl1, o1, g1, g2, H3.out.trans g3, g4, g5, g6⟩
        clear g1 g2 g3 g4 g5 g6
        go_wp2_with fail
        go_roundw
        case rel => exact ⟨k + 1, by go_num, by omega, Hnew.out⟩
        case measure => simp [intOf]; omega
    · have hkm : Q most.toNat = Q k := by
        have : k = most.toNat := by omega
        rw [this]
      have Hkm := Lib.hid hkm
      clear hkm
      go_wp2_with (go_at_call 32; refine (frame_done H1.out).mono ?_; rintro e w' ⟨rfl, rfl⟩)
      go_ret
      exact Fin.out _ rfl Hkm.out
end
end Go.Proofs.Ytkmamebaichboaa
