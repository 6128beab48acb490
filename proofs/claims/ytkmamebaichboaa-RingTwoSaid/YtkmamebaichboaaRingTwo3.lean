/- Law 8: RingTwo: two frames over one memory, whose blocks are made anew when a call is done. No conditions but those stated. -/
import Derived.Test.YtkmamebaichboaaRingTwo2
namespace Go.Proofs.Ytkmamebaichboaa
open Go.ChangeShapes Go.WideShapes Go.ChangeAt Go.RowKit
set_option linter.unusedVariables false
set_option linter.unusedSimpArgs false
namespace Law08
open Prog
/-- A frame f, and the record x of its body. -/
structure Thr (w : World) (m b f x : Nat) (a : Act) (s : St) (sl : Value) : Prop where
  fr : FRep w f m b sl s
  ac : w.heap[x]? = some (.cells a.cells 65 (0, 0))
  ap : Apart x f m b sl []
def own (f x : Nat) (sl : Value) : List Nat := f :: x :: blk sl
theorem Thr.step {w : World} {m b f x : Nat} {a a' : Act} {s s' : St} {sl : Value} (h : Thr w m b f x a s sl) (hlen : s.log.length ≤ 900000) (now : Int) (hq : stepP (progB actP actU) now (a, s) = (a', s')) :
    Calls Try.prog 29 #[.pointer (some ⟨f, 0, none⟩), .int .i64 now, .func (.func 39) #[.pointer (some ⟨x, 0, none⟩)] #[]] w fun e w' =>
      e = .returned (.bool s'.over) ∧ ∃ sl', Thr w' m b f x a' s' sl' ∧ Keep (b :: own f x sl) w w' ∧ ∀ j ∈ blk sl', j ∈ blk sl ∨ w.heap.size ≤ j := by
  have hB := bodyOK x
  rw [actB_eq] at hB
  refine (frame_stepB bodyK hB (actStays x) h.fr ⟨rfl, h.ac⟩ h.ap (by simp) hlen now hq).mono ?_
  rintro e w' ⟨he, sl', o', g1, ⟨rfl, g2⟩, g3, g4, g5⟩
  refine ⟨he, sl', ⟨g1, g2, g4⟩, g3.keep.mono (fun y hy _ => ?_), fun j hj => ?_⟩
  · simp [own] at hy ⊢
    rcases hy with rfl | rfl | rfl | hy
    · exact .inr (.inr (.inl rfl))
    · exact .inr (.inl rfl)
    · exact .inl rfl
    · exact .inr (.inr (.inr hy))
  · have := g3.new j (by simp [hj])
    simpa using this
theorem Thr.other {w w' : World} {m b f x : Nat} {a : Act} {s : St} {sl : Value} {S : List Nat} {lm : List Int} (h : Thr w m b f x a s sl) (k : Keep S w w') (hS : ∀ z ∈ own f x sl, z ∉ S) (hm : MemRep 134 w' m b lm) : Thr w' m b f x a { s with mem := lm } sl :=
  ⟨h.fr.withMem k (hS f (by simp [own])) (fun y hy => hS y (by simp [own, mem_blk, hy])) hm, k.to h.ac (hS x (by simp [own])), h.ap⟩
structure Duo (w0 w : World) (m b fP xP fG xG : Nat) (aP aG : Act) (sP sG : St) (slP slG : Value) (lm : List Int) : Prop where
  p : Thr w m b fP xP aP sP slP
  g : Thr w m b fG xG aG sG slG
  mp : sP.mem = lm
  mg : sG.mem = lm
  dis : ∀ z ∈ own fP xP slP, z ∉ own fG xG slG
  low : ∀ z, z ∈ own fP xP slP ∨ z ∈ own fG xG slG → w0.heap.size ≤ z
  lb : w0.heap.size ≤ b
  keep : Keep [] w0 w
section
variable {w0 w w' : World} {m b fP xP fG xG : Nat} {aP aG a' : Act} {sP sG s' : St} {slP slG : Value} {lm : List Int}
theorem Duo.swap (h : Duo w0 w m b fP xP fG xG aP aG sP sG slP slG lm) : Duo w0 w m b fG xG fP xP aG aP sG sP slG slP lm :=
  ⟨h.g, h.p, h.mg, h.mp, fun z hz hm => h.dis z hm hz, fun z hz => h.low z hz.symm, h.lb, h.keep⟩
theorem Duo.kept (h : Duo w0 w m b fP xP fG xG aP aG sP sG slP slG lm) (k : Keep [] w w') : Duo w0 w' m b fP xP fG xG aP aG sP sG slP slG lm :=
  ⟨⟨h.p.fr.keep k (by simp) (by simp) (by simp) (by simp), k.to h.p.ac (by simp), h.p.ap⟩, ⟨h.g.fr.keep k (by simp) (by simp) (by simp) (by simp), k.to h.g.ac (by simp), h.g.ap⟩, h.mp, h.mg, h.dis, h.low, h.lb, h.keep.trans k⟩
theorem Duo.lt (h : Duo w0 w m b fP xP fG xG aP aG sP sG slP slG lm) : ∀ z, z ∈ own fP xP slP ∨ z ∈ own fG xG slG → z < w.heap.size := by
  intro z hz
  rcases hz with hz | hz
  · simp [own] at hz
    rcases hz with rfl | rfl | hz
    · exact lt_of_block h.p.fr.head
    · exact lt_of_block h.p.ac
    · exact (h.p.fr.ne.2.2.2 z (mem_blk.1 hz)).2.2.2
  · simp [own] at hz
    rcases hz with rfl | rfl | hz
    · exact lt_of_block h.g.fr.head
    · exact lt_of_block h.g.ac
    · exact (h.g.fr.ne.2.2.2 z (mem_blk.1 hz)).2.2.2
/-- A step of the first one. -/
theorem Duo.step (h : Duo w0 w m b fP xP fG xG aP aG sP sG slP slG lm) (hlen : sP.log.length ≤ 900000) (now : Int) (hq : stepP (progB actP actU) now (aP, sP) = (a', s')) :
    Calls Try.prog 29 #[.pointer (some ⟨fP, 0, none⟩), .int .i64 now, .func (.func 39) #[.pointer (some ⟨xP, 0, none⟩)] #[]] w fun e w' =>
      e = .returned (.bool s'.over) ∧ ∃ sl', Duo w0 w' m b fP xP fG xG a' aG s' { sG with mem := s'.mem } sl' slG s'.mem ∧ Keep (b :: own fP xP slP) w w' ∧ ∀ j ∈ blk sl', j ∈ blk slP ∨ w.heap.size ≤ j := by
  refine (h.p.step hlen now hq).mono ?_
  rintro e w' ⟨he, sl', g1, g2, g3⟩
  have hgb := h.g.fr.ne
  refine ⟨he, sl', ⟨g1, h.g.other g2 (fun z hz hm => ?_) g1.fr.mem, rfl, rfl, fun z hz hm => ?_, fun z hz => ?_, h.lb, h.keep.transS g2 (T := []) (by simp) (fun y hy hlt => ?_)⟩, g2, g3⟩
  · rcases List.mem_cons.1 hm with rfl | hm
    · simp [own] at hz
      rcases hz with hz | hz | hz
      · exact hgb.2.1 hz.symm
      · exact h.g.ap.xb hz.symm
      · exact (hgb.2.2.2 z (mem_blk.1 hz)).2.2.1 rfl
    · exact h.dis z hm hz
  · simp [own] at hz
    rcases hz with rfl | rfl | hz
    · exact h.dis z (by simp [own]) hm
    · exact h.dis z (by simp [own]) hm
    · rcases g3 z hz with h1 | h1
      · exact h.dis z (by simp [own, h1]) hm
      · have := h.lt z (.inr hm); omega
  · have hs := h.keep.size
    rcases hz with hz | hz
    · simp [own] at hz
      rcases hz with rfl | rfl | hz
      · exact h.low z (.inl (by simp [own]))
      · exact h.low z (.inl (by simp [own]))
      · rcases g3 z hz with h1 | h1
        · exact h.low z (.inl (by simp [own, h1]))
        · omega
    · exact h.low z (.inr hz)
  · rcases List.mem_cons.1 hy with rfl | hy
    · have := h.lb; omega
    · have := h.low y (.inl hy); omega
/-- The word that is to be put is stored into the record. -/
theorem Duo.setV (h : Duo w0 w m b fP xP fG xG aP aG sP sG slP slG lm) (v : Int) : Duo w0 (w.setCell ⟨xP, 2, none⟩ (.int .i64 v)) m b fP xP fG xG { aP with v := v } aG sP sG slP slG lm := by
  have hk : Keep [xP] w (w.setCell ⟨xP, 2, none⟩ (.int .i64 v)) := (Keep.refl _ _).setCell (.inr (by simp)) _
  have hx : ∀ z ∈ own fG xG slG, z ≠ xP := fun z hz e => h.dis xP (by simp [own]) (e ▸ hz)
  have hap := h.p.ap
  refine ⟨⟨h.p.fr.keep hk (by simpa using hap.xf.symm) (by simpa using hap.xm.symm) (by simpa using hap.xb.symm) (own_ne hap.xl), by simpa [Act.cells] using block_set 2 (.int .i64 v) h.p.ac, hap⟩,
    ⟨h.g.fr.keep hk (by simpa using hx fG (by simp [own])) (by simpa using hap.xm.symm) (by simpa using hap.xb.symm) (fun y hy => by simpa using hx y (by simp [own, mem_blk, hy])), hk.to h.g.ac (by simpa using hx xG (by simp [own])), h.g.ap⟩, h.mp, h.mg, h.dis, h.low, h.lb, h.keep.transS hk (T := []) (by simp) (fun y hy hlt => ?_)⟩
  simp at hy
  have := h.low xP (.inl (by simp [own]))
  omega
/-- A new frame and a new record in the place of the first one's. -/
theorem Duo.renew {f' : Nat} {a' : Act} (h : Duo w0 w m b fP xP fG xG aP aG sP sG slP slG lm) (k : Keep [] w w') (hf : FRep w' f' m b (.slice none 0 0) (St.new lm)) (hfn : w.heap.size ≤ f') :
    Duo w0 (w'.alloc (.cells a'.cells 65)) m b f' w'.heap.size fG xG a' aG (St.new lm) sG (.slice none 0 0) slG lm := by
  have ka := (Keep.refl [] w').alloc (.cells a'.cells 65)
  have kk := k.trans ka
  have hk := h.kept kk
  have hfl := lt_of_block hf.head
  have hml := lt_of_block hf.mem.head
  have hbl := lt_of_block hf.mem.body
  have hws := k.size
  have h0 := h.keep.size
  refine ⟨⟨hf.keep ka (by simp) (by simp) (by simp) (by simp), heap_alloc_new w' _, ⟨by omega, by omega, by omega, by simp [blk, Value.ownBlock], by simp, by simp, by simp, by simp, by simp⟩⟩, hk.g, rfl, h.mg, fun z hz hm => ?_, fun z hz => ?_, h.lb, hk.keep⟩
  · have := h.lt z (.inr hm)
    simp [own, blk, Value.ownBlock] at hz
    omega
  · rcases hz with hz | hz
    · simp [own, blk, Value.ownBlock] at hz
      omega
    · exact h.low z (.inr hz)
end
end Law08
end Go.Proofs.Ytkmamebaichboaa
