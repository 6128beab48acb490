/- One step of a frame over a body that is a method value. No conditions but those stated. -/
import Derived.Test.YtkmamebaichboaaRun
namespace Go.Proofs.Ytkmamebaichboaa
open Go.ChangeShapes Go.WideShapes Go.ChangeAt Go.RowKit
set_option linter.unusedVariables false
set_option linter.unusedSimpArgs false
section
variable {ρ : Type}
theorem step_log (s : St) (h : s.log.length ≤ 900000) : s.log.length + 1 ≤ 1000000 := by omega
/-- A step: it does nothing more when over. -/
theorem frame_stepB {K x : Nat} (hK : ∀ (y z : Addr) (wx : World), (callFunc K #[.pointer (some y), .pointer (some z)]).run Try.prog wx = .ok (.enter K #[.pointer (some y), .pointer (some z)]) wx)
    {RR : ρ → List Nat → World → Prop} {B : ρ → St → ρ × St} (hB : BodyOK K x RR B) (hR : RStays x RR) {w : World} {f m b : Nat} {sl : Value} {s : St} {r : ρ} {o : List Nat} (h : FRep w f m b sl s) (hr : RR r o w) (ha : Apart x f m b sl o)
    (ho : ∀ k ∈ o, k < w.heap.size) (hlen : s.log.length ≤ 900000) (now : Int) {r' : ρ} {s' : St} (hq : stepP B now (r, s) = (r', s')) :
    Calls Try.prog 29 #[.pointer (some ⟨f, 0, none⟩), .int .i64 now, .func (.func K) #[.pointer (some ⟨x, 0, none⟩)] #[]] w fun e w' =>
      e = .returned (.bool s'.over) ∧ ∃ sl' o', FRep w' f m b sl' s' ∧ RR r' o' w' ∧ EvO [x, f, b] (blk sl ++ o) w (blk sl' ++ o') w' ∧ Apart x f m b sl' o' ∧ (∀ k ∈ o', k < w'.heap.size) := by
  cases hov : s.over with
  | true =>
    rw [stepP_over (B := B) (now := now) (q := (r, s)) hov] at hq
    obtain ⟨rfl, rfl⟩ := Prod.mk.inj hq
    refine (frame_step_over h hov now _).mono ?_
    rintro e w' ⟨rfl, rfl⟩
    exact ⟨by rw [hov], sl, o, h, hr, EvO.refl _ _ _, ha, ho⟩
  | false =>
    rw [stepP_go (B := B) (now := now) (q := (r, s)) hov] at hq
    obtain ⟨rfl, rfl⟩ := Prod.mk.inj hq
    have hb : ∀ w0, Keep [f] w w0 → FRep w0 f m b sl (s.start now) → Calls Try.prog K #[.pointer (some ⟨x, 0, none⟩), .pointer (some ⟨f, 0, none⟩)] w0 fun e w1 => e = .returned (.tuple #[]) ∧ ∃ sl1 s1, FRep w1 f m b sl1 s1 ∧
        (s1 = (B r (s.start now)).2 ∧ ∃ o1, RR (B r (s.start now)).1 o1 w1 ∧ EvO [x, f, b] (blk sl ++ o) w0 (blk sl1 ++ o1) w1 ∧ Apart x f m b sl1 o1 ∧ (∀ j ∈ o1, j < w1.heap.size)) := by
      intro w0 k0 h0
      refine (hB f m b w0 sl _ _ o h0 (hR _ _ _ _ _ hr k0 (by simpa using ha.xf) (not_one ha.of)) ha (fun j hj => k0.lt (ho j hj))).mono ?_
      rintro e w1 ⟨he, sl1, o1, g1, g2, g3, g4, g5⟩
      exact ⟨he, sl1, _, g1, rfl, o1, g2, g3, g4, g5⟩
    refine (frame_step h hov (by omega) now K x hK hb).mono ?_
    rintro e w2 ⟨w0, w1, sl1, s1, k0, ⟨rfl, o1, g2, g3, g4, g5⟩, rfl, g1, k2⟩
    refine ⟨rfl, sl1, o1, g1, hR _ _ _ _ _ g2 k2 (by simpa using g4.xf) (not_one g4.of), ?_, g4, fun j hj => k2.lt (g5 j hj)⟩
    have a1 : EvO [x, f, b] (blk sl ++ o) w (blk sl ++ o) w0 := ⟨k0.mono (by simp), fun j hj => .inl hj⟩
    have a2 : EvO [x, f, b] (blk sl1 ++ o1) w1 (blk sl1 ++ o1) w2 := ⟨k2.mono (by simp), fun j hj => .inl hj⟩
    exact (a1.trans g3).trans a2
/-- The frame stands, the words turned by another. -/
theorem FRep.withMem {S : List Nat} {w w' : World} {f m b : Nat} {sl : Value} {s : St} {l : List Int} (h : FRep w f m b sl s) (k : Keep S w w') (h1 : f ∉ S) (h4 : ∀ x, sl.ownBlock = some x → x ∉ S) (hm : MemRep 134 w' m b l) : FRep w' f m b sl { s with mem := l } := by
  refine ⟨hm, k.to h.head h1, ⟨h.own.1, ?_⟩, h.le, h.small⟩
  rcases h.own.2 with hn | ⟨g, cap, cur, rfl, hb, hg, rest⟩
  · exact .inl hn
  · exact .inr ⟨g, cap, cur, rfl, hb, k.to hg (h4 g rfl), rest⟩
end
end Go.Proofs.Ytkmamebaichboaa
