/- A run of a body that is known only at the states that the run comes to. No conditions but those stated. -/
import Derived.Test.YtkmamebaichboaaActs
namespace Go.Proofs.Ytkmamebaichboaa
open Go.ChangeShapes Go.WideShapes Go.ChangeAt Go.RowKit
set_option linter.unusedVariables false
set_option linter.unusedSimpArgs false
section
variable {ρ : Type}
/-- What a body does, at one state. -/
def BodyAt (K x : Nat) (RR : ρ → List Nat → World → Prop) (B : ρ → St → ρ × St) (r : ρ) (s : St) : Prop :=
  ∀ (f m b : Nat) (w : World) (sl : Value) (o : List Nat), FRep w f m b sl s → RR r o w → Apart x f m b sl o → (∀ k ∈ o, k < w.heap.size) →
    Calls Try.prog K #[.pointer (some ⟨x, 0, none⟩), .pointer (some ⟨f, 0, none⟩)] w fun e w1 => e = .returned (.tuple #[]) ∧ ∃ sl1 o1, FRep w1 f m b sl1 (B r s).2 ∧ RR (B r s).1 o1 w1 ∧
      EvO [x, f, b] (blk sl ++ o) w (blk sl1 ++ o1) w1 ∧ Apart x f m b sl1 o1 ∧ (∀ k ∈ o1, k < w1.heap.size)
set_option maxRecDepth 100000 in
theorem frame_runI {K x : Nat} (hK : ∀ (y z : Addr) (wx : World), (callFunc K #[.pointer (some y), .pointer (some z)]).run Try.prog wx = .ok (.enter K #[.pointer (some y), .pointer (some z)]) wx)
    {RR : ρ → List Nat → World → Prop} {B : ρ → St → ρ × St} (hR : RStays x RR) {w : World} {m b : Nat} {l : List Int} (hm : MemRep 134 w m b l) {r : ρ} {o : List Nat} (hr : RR r o w)
    (hxm : x ≠ m) (hxb : x ≠ b) (hxo : x ∉ o) (hom : m ∉ o) (hob : b ∉ o) (hol : ∀ k ∈ o, k < w.heap.size) (hxl : x < w.heap.size) (most : Int) (hi : most ≤ 9223372036854775807)
    (hB : ∀ k : Nat, (k : Int) < most → (runP B k (r, St.new l)).2.over = false → BodyAt K x RR B (runP B k (r, St.new l)).1 ((runP B k (r, St.new l)).2.start k)) (hlog : ∀ n : Nat, (n : Int) ≤ most → (runP B n (r, St.new l)).2.log.length + 1 ≤ 1000000) :
    Calls Try.prog 24 #[.pointer (some ⟨m, 0, none⟩), .func (.func K) #[.pointer (some ⟨x, 0, none⟩)] #[], .int .i64 most] w fun e w' =>
      ∃ o', e = .returned (.bool (runP B most.toNat (r, St.new l)).2.over) ∧ MemRep 134 w' m b (runP B most.toNat (r, St.new l)).2.mem ∧ RR (runP B most.toNat (r, St.new l)).1 o' w' ∧ EvO [x, b] o w o' w' ∧
        x ∉ o' ∧ m ∉ o' ∧ b ∉ o' ∧ (∀ k ∈ o', k < w'.heap.size) := by
  have Hm := Lib.hid hm
  have HB := Lib.hid hB
  have HR := Lib.hid hR
  have Hr := Lib.hid hr
  have Hlog := Lib.hid hlog
  have Hxo := Lib.hid (And.intro hxo (And.intro hom (And.intro hob hol)))
  have hml := lt_of_block hm.head
  have hbl := lt_of_block hm.body
  have HK := Lib.hid hK
  clear hm hB hR hr hlog hxo hom hob hol hK
  have hq := eql_func_nil K x
  go_enter Try.func24, Try.ntmps24
  go_wp2_with fail
  refine (frame_new Hm.out).mono ?_
  rintro e w1 ⟨rfl, h1, k1, hs1⟩
  have Hq1 : Hid (∃ sl o', FRep w1 w.heap.size m b sl (runP B 0 (r, St.new l)).2 ∧ RR (runP B 0 (r, St.new l)).1 o' w1 ∧ EvO [x, w.heap.size, b] o w (blk sl ++ o') w1 ∧ Apart x w.heap.size m b sl o' ∧ (∀ k ∈ o', k < w1.heap.size)) := by
    refine Lib.hid ⟨_, o, h1, HR.out _ _ _ _ _ Hr.out k1 (by simp) (by simp), ⟨k1.mono (by simp), fun k hk => .inl (by simpa [blk, Value.ownBlock] using hk)⟩, ⟨by omega, hxm, hxb, by simp [blk, Value.ownBlock], Hxo.out.1, ?_, Hxo.out.2.1, Hxo.out.2.2.1, by simp [blk, Value.ownBlock]⟩, fun k hk => ?_⟩
    · intro hin; have := Hxo.out.2.2.2 _ hin; omega
    · have := Hxo.out.2.2.2 _ hk; omega
  clear h1 k1 hs1
  go_wp2_with fail
  have Hf : Hid (w.heap.size ≤ w.heap.size) := Lib.hid (Nat.le_refl _)
  generalize hfe : w.heap.size = f at Hq1 ⊢
  have Hf : Hid (w.heap.size ≤ f) := Lib.hid (by omega)
  have Hfe := Lib.hid hfe
  clear hfe
  have Stay := Lib.hid (show ∀ (n : Nat) , (runP B n (r, St.new l)).2.over = true → (n : Int) ≤ most → runP B most.toNat (r, St.new l) = runP B n (r, St.new l) from fun n h1 h2 => runP_over h1 _ (by omega))
  go_loopw [8] (fun i wr => ∃ k : Nat, i = .int .i64 k ∧ (k ≤ most.toNat) ∧ ∃ sl o', FRep wr f m b sl (runP B k (r, St.new l)).2 ∧ RR (runP B k (r, St.new l)).1 o' wr ∧ EvO [x, f, b] o w (blk sl ++ o') wr ∧ Apart x f m b sl o' ∧ (∀ j ∈ o', j < wr.heap.size))
    (fun i _ => most.toNat - (intOf i).toNat)
  case atStart => exact ⟨0, rfl, Nat.zero_le _, Hq1.out⟩
  case round =>
    obtain ⟨k, rfl, hk, sl, o', h1, h2, h3, h4, h5⟩ := hrel
    have H1 := Lib.hid h1
    have H2 := Lib.hid h2
    have H3 := Lib.hid h3
    have H4 := Lib.hid h4
    have H5 := Lib.hid h5
    clear h1 h2 h3 h4 h5 Hq1
    have fin : ∀ (q : ρ × St), runP B most.toNat (r, St.new l) = q → q = runP B k (r, St.new l) → ∃ o', Ending.returned (.bool (runP B k (r, St.new l)).2.over) = .returned (.bool q.2.over) ∧ MemRep 134 wr m b q.2.mem ∧ RR q.1 o' wr ∧ EvO [x, b] o w o' wr ∧ x ∉ o' ∧ m ∉ o' ∧ b ∉ o' ∧ (∀ k ∈ o', k < wr.heap.size) := by
      rintro q hq rfl
      refine ⟨o', rfl, H1.out.mem, H2.out, ⟨(H3.out.mono (Y := [x, b]) (fun y hy hlt => ?_)).keep, fun j hj => H3.out.new j (by simp [hj])⟩, H4.out.xo, H4.out.om, H4.out.ob, H5.out⟩
      simp only [List.mem_cons, List.not_mem_nil, or_false] at hy ⊢
      rcases hy with e | e | e
      · exact .inl e
      · have := Hf.out; omega
      · exact .inr e
    have Fin := Lib.hid fin
    clear fin
    by_cases hlt : (k : Int) < most
    · cases hov : (runP B k (r, St.new l)).2.over with
      | true =>
        have hst := Stay.out k hov (by omega)
        have Hov := Lib.hid hov
        have Hst := Lib.hid hst
        clear hov hst
        go_wp2_with (go_at_call 32; refine (frame_done H1.out).mono ?_; rintro e w' ⟨rfl, rfl⟩; rw [Hov.out])
        go_ret
        have := Fin.out _ rfl Hst.out
        rw [Hov.out] at this
        exact this
      | false =>
        have hlen := Hlog.out k (by omega)
        have hstep : runP B (k + 1) (r, St.new l) = _ := stepP_go (B := B) (now := (k : Int)) hov
        have Hov := Lib.hid hov
        have Hstep := Lib.hid hstep
        clear hov hstep
        go_wp2_with (go_at_call 32; refine (frame_done H1.out).mono ?_; rintro e w' ⟨rfl, rfl⟩; rw [Hov.out])
        have hb : ∀ w0, Keep [f] wr w0 → FRep w0 f m b sl ((runP B k (r, St.new l)).2.start k) → Calls Try.prog K #[.pointer (some ⟨x, 0, none⟩), .pointer (some ⟨f, 0, none⟩)] w0 fun e w1 => e = .returned (.tuple #[]) ∧ ∃ sl1 s1, FRep w1 f m b sl1 s1 ∧
            (s1 = (B (runP B k (r, St.new l)).1 ((runP B k (r, St.new l)).2.start k)).2 ∧ ∃ o1, RR (B (runP B k (r, St.new l)).1 ((runP B k (r, St.new l)).2.start k)).1 o1 w1 ∧ EvO [x, f, b] (blk sl ++ o') w0 (blk sl1 ++ o1) w1 ∧ Apart x f m b sl1 o1 ∧ (∀ j ∈ o1, j < w1.heap.size)) := by
          intro w0 k0 h0
          refine (HB.out k hlt Hov.out f m b w0 sl o' h0 (HR.out _ _ _ _ _ H2.out k0 (by simpa using H4.out.xf) (not_one H4.out.of)) H4.out (fun j hj => k0.lt (H5.out j hj))).mono ?_
          rintro e w1 ⟨he, sl1, o1, g1, g2, g3, g4, g5⟩
          exact ⟨he, sl1, _, g1, rfl, o1, g2, g3, g4, g5⟩
        have Hb := Lib.hid hb
        clear hb
        refine (frame_step H1.out Hov.out hlen k K x HK.out Hb.out).mono ?_
        rintro e w2 ⟨w0, w1', sl1, s1, k0, ⟨rfl, o1, g2, g3, g4, g5⟩, rfl, g1, k2⟩
        have Hnew : Hid (∃ sl o', FRep w2 f m b sl (runP B (k + 1) (r, St.new l)).2 ∧ RR (runP B (k + 1) (r, St.new l)).1 o' w2 ∧ EvO [x, f, b] o w (blk sl ++ o') w2 ∧ Apart x f m b sl o' ∧ (∀ j ∈ o', j < w2.heap.size)) := by
          refine Lib.hid ⟨sl1, o1, ?_⟩
          rw [Hstep.out]
          refine ⟨g1, HR.out _ _ _ _ _ g2 k2 (by simpa using g4.xf) (not_one g4.of), ?_, g4, fun j hj => k2.lt (g5 j hj)⟩
          have a1 : EvO [x, f, b] (blk sl ++ o') wr (blk sl ++ o') w0 := ⟨k0.mono (by simp), fun j hj => .inl hj⟩
          have a2 : EvO [x, f, b] (blk sl1 ++ o1) w1' (blk sl1 ++ o1) w2 := ⟨k2.mono (by simp), fun j hj => .inl hj⟩
          exact ((H3.out.trans a1).trans g3).trans a2
        clear g1 g2 g3 g4 g5 k0 k2
        go_wp2_with fail
        go_roundw
        case rel => exact ⟨k + 1, by go_num, by omega, Hnew.out⟩
        case measure => simp [intOf]; omega
    · have hkm : runP B most.toNat (r, St.new l) = runP B k (r, St.new l) := by
        have : k = most.toNat := by omega
        rw [this]
      have Hkm := Lib.hid hkm
      clear hkm
      go_wp2_with (go_at_call 32; refine (frame_done H1.out).mono ?_; rintro e w' ⟨rfl, rfl⟩)
      go_ret
      exact Fin.out _ rfl Hkm.out
end
/-! ### A row of accesses -/
def effs : List AOp → List Int → List Int
  | [], m => []
  | o :: r, m => (o.eff m).1 :: effs r (o.eff m).2
def memAt : List AOp → List Int → Nat → List Int
  | _, m, 0 => m
  | [], m, _ + 1 => m
  | o :: r, m, c + 1 => memAt r (o.eff m).2 c
theorem effs_len : ∀ (A : List AOp) (m : List Int), (effs A m).length = A.length
  | [], m => rfl
  | o :: r, m => by simp [effs, effs_len r]
theorem effs_get : ∀ (A : List AOp) (m : List Int) (i : Nat) (o : AOp), A[i]? = some o → (effs A m)[i]? = some (o.eff (memAt A m i)).1 ∧ memAt A m (i + 1) = (o.eff (memAt A m i)).2
  | [], m, i, o, h => by simp at h
  | p :: r, m, 0, o, h => by
    simp at h
    subst h
    exact ⟨rfl, by simp [memAt]⟩
  | p :: r, m, i + 1, o, h => by
    have := effs_get r (p.eff m).2 i o (by simpa using h)
    exact ⟨this.1, this.2⟩
/-- A state on its way through the accesses A, behind i of them; c were done. -/
structure J (A : List AOp) (M : List Int) (i : Nat) (s : St) : Prop where
  off : s.off = false
  pos : s.pos = i
  c : i ≤ s.log.length ∧ s.log.length ≤ A.length
  ans : Prog.ans s = (effs A M).take s.log.length
  mem : s.mem = memAt A M s.log.length
theorem J.acc {A : List AOp} {M : List Int} {i : Nat} {s : St} {o : AOp} (h : J A M i s) (ho : A[i]? = some o) : (St.acc o s).2.off = true ∧ (St.acc o s).1 = 0 ∨ ((St.acc o s).1 = (effs A M)[i]?.getD 0 ∧ J A M (i + 1) (St.acc o s).2) := by
  obtain ⟨h1, h2, h3, h4, h5⟩ := h
  obtain ⟨e1, e2⟩ := effs_get A M i o ho
  have hil := (List.getElem?_eq_some_iff.1 ho).1
  unfold St.acc St.again
  rw [if_neg (by rw [h1]; simp)]
  by_cases hp : s.pos < s.log.length
  · rw [if_pos hp]
    refine .inr ⟨?_, ⟨h1, by show s.pos + 1 = _; omega, by show i + 1 ≤ s.log.length ∧ s.log.length ≤ A.length; omega, h4, h5⟩⟩
    have := congrArg (fun l => l[s.pos]?) h4
    simp only [Prog.ans, List.getElem?_map, List.getElem?_take] at this
    rw [if_pos hp, h2] at this
    rw [h2] at hp ⊢
    show (s.log.getD i (0, 0)).1 = _
    rw [← this]
    simp [List.getD, hp]
  · rw [if_neg hp]
    by_cases hf : s.fresh = true
    · rw [if_pos hf]
      have hc : s.log.length = i := by omega
      rw [hc] at h4 h5
      refine .inr ⟨?_, ⟨h1, ?_, ?_, ?_, ?_⟩⟩
      · show (o.eff s.mem).1 = _
        rw [e1, h5]; rfl
      · show s.pos + 1 = _; omega
      · show i + 1 ≤ (s.log ++ [((o.eff s.mem).1, s.now)]).length ∧ (s.log ++ [((o.eff s.mem).1, s.now)]).length ≤ A.length
        simp; omega
      · show List.map _ (s.log ++ [((o.eff s.mem).1, s.now)]) = (effs A M).take (s.log ++ [((o.eff s.mem).1, s.now)]).length
        have h4' : List.map (fun x => x.1) s.log = (effs A M).take i := h4
        rw [List.map_append, List.length_append, List.length_singleton, hc, List.take_add_one, e1, h4', h5]
        rfl
      · show (o.eff s.mem).2 = memAt A M (s.log ++ [((o.eff s.mem).1, s.now)]).length
        rw [List.length_append, List.length_singleton, hc, e2, h5]
    · rw [if_neg hf]
      exact .inl ⟨rfl, rfl⟩
/-- The states of a run alone of a program that goes through A. -/
theorem run_J {ρ α : Type} (P : ρ → Prog α) (U : ρ → α → ρ) (hP : ∀ r a, P (U r a) = P r) (hU : ∀ r a b, U (U r a) b = U r b) (r : ρ) (M : List Int) (A : List AOp)
    (hA : ∀ i, i < A.length → ∃ o k, (P r).feed ((effs A M).take i) = .acc o k ∧ A[i]? = some o) (hE : ∃ a, (P r).feed (effs A M) = .ret a) (n : Nat) (hov : (runP (progB P U) n (r, St.new M)).2.over = false) :
    n ≤ A.length ∧ (runP (progB P U) n (r, St.new M)).2.log.length = n ∧ Prog.ans (runP (progB P U) n (r, St.new M)).2 = (effs A M).take n ∧ (runP (progB P U) n (r, St.new M)).2.mem = memAt A M n ∧ P (runP (progB P U) n (r, St.new M)).1 = P r := by
  induction n with
  | zero => exact ⟨Nat.zero_le _, rfl, rfl, by cases A <;> rfl, rfl⟩
  | succ n ih =>
    have hq : runP (progB P U) (n + 1) (r, St.new M) = stepP (progB P U) n (runP (progB P U) n (r, St.new M)) := rfl
    rw [hq] at hov ⊢
    generalize runP (progB P U) n (r, St.new M) = q0 at ih hov
    cases h0 : q0.2.over with
    | true => rw [stepP_over h0, h0] at hov; cases hov
    | false =>
      obtain ⟨i1, i2, i3, i4, i5⟩ := ih h0
      rw [stepP_go h0] at hov ⊢
      simp only [progB, i5] at hov ⊢
      by_cases hn : n < A.length
      · obtain ⟨o, k, hf, ho⟩ := hA n hn
        rw [← i3] at hf
        obtain ⟨g1, g2, g3⟩ := Prog.step_acc (P r) q0.2 n hf
        obtain ⟨e1, e2⟩ := effs_get A M n o ho
        refine ⟨hn, by rw [g1]; simp [i2], ?_, by rw [g2, e2, i4], by rw [hP, i5]⟩
        rw [show Prog.ans ((P r).run (q0.2.start n)).2.stop = Prog.ans q0.2 ++ [(o.eff q0.2.mem).1] from by simp [Prog.ans, g1], i3, List.take_add_one, e1, i4]
        rfl
      · have hnA : n = A.length := by omega
        obtain ⟨a, ha⟩ := hE
        rw [List.take_of_length_le (by rw [effs_len]; omega)] at i3
        rw [← i3] at ha
        obtain ⟨g1, g2, g3, g4⟩ := Prog.step_ret (P r) q0.2 n ha
        rw [g2] at hov
        cases hov
theorem start_J {A : List AOp} {M : List Int} {s : St} {n : Nat} (now : Int) (hn : n ≤ A.length) (h1 : s.log.length = n) (h2 : Prog.ans s = (effs A M).take n) (h3 : s.mem = memAt A M n) : J A M 0 (s.start now) :=
  ⟨rfl, rfl, ⟨Nat.zero_le _, by show s.log.length ≤ _; omega⟩, by show Prog.ans s = _; rw [h2]; show _ = (effs A M).take s.log.length; rw [h1], by show s.mem = memAt A M s.log.length; rw [h1, h3]⟩
/-- One act run alone, its body known at the states of that run. -/
theorem acts_runI {ρ α : Type} {K x : Nat} (hK : ∀ (y z : Addr) (wx : World), (callFunc K #[.pointer (some y), .pointer (some z)]).run Try.prog wx = .ok (.enter K #[.pointer (some y), .pointer (some z)]) wx)
    {RR : ρ → List Nat → World → Prop} {P : ρ → Prog α} {U : ρ → α → ρ} (hR : RStays x RR) (hP : ∀ r a, P (U r a) = P r) (hU : ∀ r a b, U (U r a) b = U r b)
    {w : World} {m b : Nat} {l : List Int} {r : ρ} {A : List AOp} (hA : ∀ i, i < A.length → ∃ o k, (P r).feed ((effs A l).take i) = .acc o k ∧ A[i]? = some o) (hE : ∃ a, (P r).feed (effs A l) = .ret a) (hB : ∀ r' s, P r' = P r → J A l 0 s → BodyAt K x RR (progB P U) r' s)
    (hm : MemRep 134 w m b l) (hr : RR r [] w) (hxm : x ≠ m) (hxb : x ≠ b) (hxl : x < w.heap.size) (most : Int) (hmost : 1 ≤ most ∧ most ≤ 900000) (hc : (P r).cost l ≤ most.toNat) :
    Calls Try.prog 24 #[.pointer (some ⟨m, 0, none⟩), .func (.func K) #[.pointer (some ⟨x, 0, none⟩)] #[], .int .i64 most] w fun e w' =>
      ∃ o', e = .returned (.bool true) ∧ MemRep 134 w' m b ((P r).solo l).2 ∧ RR (U r ((P r).solo l).1) o' w' ∧ EvO [x, b] [] w o' w' ∧ x ∉ o' := by
  obtain ⟨g1, g2, g3, g4⟩ := run_solo P U hP hU r l most.toNat (by omega) hc
  refine (frame_runI (B := progB P U) hK hR hm (r := r) (o := []) hr hxm hxb (by simp) (by simp) (by simp) (by simp) hxl most (by omega) (fun k hk hov => ?_) (fun n hn => ?_)).mono ?_
  · obtain ⟨j1, j2, j3, j4, j5⟩ := run_J P U hP hU r l A hA hE k hov
    exact hB _ _ j5 (start_J _ j1 j2 j3 j4)
  · have := runP_log (progB_mu P U) (r, St.new l) n
    have e : (r, St.new l).2.log.length = 0 := rfl
    omega
  · rintro e w' ⟨o', he, h1, h2, h3, h4, h5, h6, h7⟩
    rw [g1] at he
    rw [g3] at h1
    rw [g2] at h2
    exact ⟨o', he, h1, h2, h3, h4⟩
end Go.Proofs.Ytkmamebaichboaa
