/- Frames over one memory, as many as may be, each with a record of its body. No conditions but those stated. -/
import Derived.Test.YtkmamebaichboaaRunR
namespace Go.Proofs.Ytkmamebaichboaa
open Go.ChangeShapes Go.WideShapes Go.ChangeAt Go.RowKit
set_option linter.unusedVariables false
set_option linter.unusedSimpArgs false
/-- A frame, its body's record, what these own, and what they only read. -/
structure One where
  f : Nat
  x : Nat
  s : St
  sl : Value
  o : List Nat
  ro : List Nat
  R : World → Prop
def One.own (d : One) : List Nat := d.f :: d.x :: (blk d.sl ++ d.o)
structure OneOK (w : World) (m b : Nat) (d : One) : Prop where
  fr : FRep w d.f m b d.sl d.s
  rr : d.R w
  st : ∀ (w1 w2 : World) (S : List Nat), d.R w1 → Keep S w1 w2 → d.x ∉ S → (∀ k ∈ d.o, k ∉ S) → (∀ k ∈ d.ro, k ∉ S) → d.R w2
  ap : Apart d.x d.f m b d.sl d.o
  lt : ∀ k ∈ d.o, k < w.heap.size
  xl : d.x < w.heap.size
  ok : RoOK d.ro w d.f b d.sl d.o
structure Many (n : Nat) (w0 w : World) (m b : Nat) (D : Nat → One) (lm : List Int) : Prop where
  one : ∀ i, i < n → OneOK w m b (D i)
  mem : ∀ i, i < n → (D i).s.mem = lm
  dis : ∀ i j, i < n → j < n → i ≠ j → ∀ z ∈ (D i).own, z ∉ (D j).own ∧ z ∉ (D j).ro
  low : ∀ i, i < n → ∀ z ∈ (D i).own, w0.heap.size ≤ z
  lb : w0.heap.size ≤ b
  keep : Keep [] w0 w
def One.turn (d : One) (lm : List Int) : One := { d with s := { d.s with mem := lm } }
def setM (D : Nat → One) (k : Nat) (d : One) : Nat → One := fun i => if i = k then d else (D i).turn d.s.mem
theorem setM_same (D : Nat → One) (k : Nat) (d : One) : setM D k d k = d := if_pos rfl
theorem setM_ne {D : Nat → One} {k i : Nat} {d : One} (h : i ≠ k) : setM D k d i = (D i).turn d.s.mem := if_neg h
section
variable {n : Nat} {w0 w w' : World} {m b : Nat} {D : Nat → One} {lm : List Int}
theorem OneOK.own_lt {d : One} (h : OneOK w m b d) : ∀ z ∈ d.own, z < w.heap.size ∧ z ≠ b := by
  intro z hz
  have hne := h.fr.ne
  simp [One.own] at hz
  rcases hz with rfl | rfl | hz | hz
  · exact ⟨lt_of_block h.fr.head, hne.2.1⟩
  · exact ⟨h.xl, h.ap.xb⟩
  · have := hne.2.2.2 z (mem_blk.1 hz)
    exact ⟨this.2.2.2, this.2.2.1⟩
  · exact ⟨h.lt z hz, fun e => h.ap.ob (e ▸ hz)⟩
/-- Another one's turn: the words may be turned, the rest stays. -/
theorem OneOK.other {d : One} {S : List Nat} {l : List Int} (h : OneOK w m b d) (k : Keep S w w') (hS : ∀ z ∈ d.own, z ∉ S) (hro : ∀ z ∈ d.ro, z ∉ S) (hm : MemRep 134 w' m b l) : OneOK w' m b (d.turn l) :=
  ⟨h.fr.withMem k (hS _ (by simp [One.own])) (fun y hy => hS y (by simp [One.own, mem_blk, hy])) hm, h.st _ _ S h.rr k (hS _ (by simp [One.own])) (fun z hz => hS z (by simp [One.own, hz])) hro, h.st, h.ap, fun z hz => k.lt (h.lt z hz), k.lt h.xl, fun z hz => ⟨k.lt (h.ok z hz).1, (h.ok z hz).2⟩⟩
theorem Many.turn (h : Many n w0 w m b D lm) {k : Nat} (hk : k < n) {d : One} (ok : OneOK w' m b d) (kk : Keep (b :: (D k).own) w w') (new : ∀ z ∈ d.own, z ∈ (D k).own ∨ w.heap.size ≤ z) (hro : ∀ z ∈ d.ro, z ∈ (D k).ro ∨ ∀ j, j < n → j ≠ k → z ∉ (D j).own) :
    Many n w0 w' m b (setM D k d) d.s.mem := by
  have hsz := h.keep.size
  refine ⟨fun i hi => ?_, fun i hi => ?_, fun i j hi hj hij z hz => ?_, fun i hi z hz => ?_, h.lb, h.keep.transS kk (T := []) (by simp) (fun y hy hlt => ?_)⟩
  · by_cases hik : i = k
    · subst hik; rw [setM_same]; exact ok
    · rw [setM_ne hik]
      refine (h.one i hi).other kk (fun z hz hm => ?_) (fun z hz hm => ?_) ok.fr.mem
      · rcases List.mem_cons.1 hm with e | hm
        · exact ((h.one i hi).own_lt z hz).2 e
        · exact (h.dis i k hi hk hik z hz).1 hm
      · rcases List.mem_cons.1 hm with e | hm
        · exact ((h.one i hi).ok z hz).2.2.1 e
        · exact (h.dis k i hk hi (Ne.symm hik) z hm).2 hz
  · by_cases hik : i = k
    · subst hik; rw [setM_same]
    · rw [setM_ne hik]; rfl
  · by_cases hik : i = k
    · subst hik
      rw [setM_same] at hz
      rw [setM_ne (Ne.symm hij)]
      show z ∉ (D j).own ∧ z ∉ (D j).ro
      rcases new z hz with h1 | h1
      · exact h.dis i j hi hj hij z h1
      · refine ⟨fun hm => ?_, fun hm => ?_⟩
        · have := ((h.one j hj).own_lt z hm).1; omega
        · have := ((h.one j hj).ok z hm).1; omega
    · rw [setM_ne hik] at hz
      have hz' : z ∈ (D i).own := hz
      by_cases hjk : j = k
      · subst hjk
        rw [setM_same]
        refine ⟨fun hm => ?_, fun hm => ?_⟩
        · rcases new z hm with h1 | h1
          · exact (h.dis i j hi hj hij z hz').1 h1
          · have := ((h.one i hi).own_lt z hz').1; omega
        · rcases hro z hm with h1 | h1
          · exact (h.dis i j hi hj hij z hz').2 h1
          · exact h1 i hi hij hz'
      · rw [setM_ne hjk]
        exact h.dis i j hi hj hij z hz'
  · by_cases hik : i = k
    · subst hik
      rw [setM_same] at hz
      rcases new z hz with h1 | h1
      · exact h.low i hi z h1
      · omega
    · rw [setM_ne hik] at hz
      exact h.low i hi z hz
  · rcases List.mem_cons.1 hy with rfl | hy
    · have := h.lb; omega
    · have := h.low k hk y hy; omega
/-- A step of one of them. -/
theorem Many.step {ρ : Type} (h : Many n w0 w m b D lm) {k : Nat} (hk : k < n) {K f x : Nat} {ro o : List Nat} {sl : Value} {s : St} {RR : ρ → List Nat → World → Prop} {r : ρ} (hD : D k = ⟨f, x, s, sl, o, ro, RR r o⟩)
    (hK : ∀ (y z : Addr) (wx : World), (callFunc K #[.pointer (some y), .pointer (some z)]).run Try.prog wx = .ok (.enter K #[.pointer (some y), .pointer (some z)]) wx)
    {B : ρ → St → ρ × St} (hB : BodyOKR K x ro RR B) (hR : RStaysR x ro RR) (hlen : s.log.length ≤ 900000) (now : Int) {r' : ρ} {s' : St} (hq : stepP B now (r, s) = (r', s')) :
    Calls Try.prog 29 #[.pointer (some ⟨f, 0, none⟩), .int .i64 now, .func (.func K) #[.pointer (some ⟨x, 0, none⟩)] #[]] w fun e w' =>
      e = .returned (.bool s'.over) ∧ ∃ sl' o', Many n w0 w' m b (setM D k ⟨f, x, s', sl', o', ro, RR r' o'⟩) s'.mem ∧ Keep (b :: (D k).own) w w' ∧ ∀ z ∈ One.own ⟨f, x, s', sl', o', ro, RR r' o'⟩, z ∈ (D k).own ∨ w.heap.size ≤ z := by
  have ok := h.one k hk
  rw [hD] at ok
  refine (frame_stepR hK hB hR ok.fr ok.rr ok.ap ok.lt ok.ok hlen now hq).mono ?_
  rintro e w' ⟨he, sl', o', g1, g2, g3, g4, g5, g6⟩
  have kk : Keep (b :: (D k).own) w w' := g3.keep.mono (fun y hy _ => by
    rw [hD]
    simp [One.own] at hy ⊢
    rcases hy with hy | hy | hy | hy | hy
    · exact .inr (.inr (.inl hy))
    · exact .inr (.inl hy)
    · exact .inl hy
    · exact .inr (.inr (.inr (.inl hy)))
    · exact .inr (.inr (.inr (.inr hy))))
  have new : ∀ z ∈ One.own ⟨f, x, s', sl', o', ro, RR r' o'⟩, z ∈ (D k).own ∨ w.heap.size ≤ z := by
    intro z hz
    rw [hD]
    simp [One.own] at hz ⊢
    rcases hz with hz | hz | hz
    · exact .inl (.inl hz)
    · exact .inl (.inr (.inl hz))
    · rcases g3.new z (by simp [hz]) with h1 | h1
      · simp at h1; exact .inl (.inr (.inr h1))
      · exact .inr h1
  refine ⟨he, sl', o', h.turn hk (d := ⟨f, x, s', sl', o', ro, RR r' o'⟩) ⟨g1, g2, ?_, g4, g5, kk.lt ok.xl, g6⟩ kk new (fun z hz => .inl (by rw [hD]; exact hz)), kk, new⟩
  intro w1 w2 S h1 h2 h3 h4 h5
  exact hR _ _ _ _ _ h1 h2 h3 h4 h5
/-- A new frame and a new record in the place of one. -/
theorem Many.renew (h : Many n w0 w m b D lm) {k : Nat} (hk : k < n) (kk : Keep [] w w') {d : One} (ok : OneOK w' m b d) (new : ∀ z ∈ d.own, w.heap.size ≤ z) (hro : ∀ z ∈ d.ro, ∀ j, j < n → j ≠ k → z ∉ (D j).own) : Many n w0 w' m b (setM D k d) d.s.mem :=
  h.turn hk ok (kk.mono (by simp)) (fun z hz => .inr (new z hz)) (fun z hz => .inr (hro z hz))
theorem OneOK.keptS {S : List Nat} {d : One} (ok : OneOK w m b d) (k : Keep S w w') (hm : m ∉ S) (hb : b ∉ S) (ho : ∀ z ∈ d.own, z ∉ S) (hr : ∀ z ∈ d.ro, z ∉ S) : OneOK w' m b d :=
  ⟨ok.fr.keep k (ho _ (by simp [One.own])) hm hb (fun y hy => ho y (by simp [One.own, mem_blk, hy])), ok.st _ _ S ok.rr k (ho _ (by simp [One.own])) (fun z hz => ho z (by simp [One.own, hz])) hr, ok.st, ok.ap, fun z hz => k.lt (ok.lt z hz), k.lt ok.xl, fun z hz => ⟨k.lt (ok.ok z hz).1, (ok.ok z hz).2⟩⟩
theorem Many.keptS {S : List Nat} (h : Many n w0 w m b D lm) (k : Keep S w w') (hS : ∀ z ∈ S, w0.heap.size ≤ z ∧ z ≠ m ∧ z ≠ b ∧ ∀ i, i < n → z ∉ (D i).own ∧ z ∉ (D i).ro) : Many n w0 w' m b D lm := by
  have hm : m ∉ S := fun hz => (hS m hz).2.1 rfl
  have hb : b ∉ S := fun hz => (hS b hz).2.2.1 rfl
  refine ⟨fun i hi => ?_, h.mem, h.dis, h.low, h.lb, h.keep.transS k (T := []) (by simp) (fun y hy hlt => by have := (hS y hy).1; omega)⟩
  have ok := h.one i hi
  have ho : ∀ z ∈ (D i).own, z ∉ S := fun z hz hs => ((hS z hs).2.2.2 i hi).1 hz
  exact ⟨ok.fr.keep k (ho _ (by simp [One.own])) hm hb (fun y hy => ho y (by simp [One.own, mem_blk, hy])), ok.st _ _ S ok.rr k (ho _ (by simp [One.own])) (fun z hz => ho z (by simp [One.own, hz])) (fun z hz hs => ((hS z hs).2.2.2 i hi).2 hz), ok.st, ok.ap, fun z hz => k.lt (ok.lt z hz), k.lt ok.xl, fun z hz => ⟨k.lt (ok.ok z hz).1, (ok.ok z hz).2⟩⟩
theorem Many.none (k : Keep [] w0 w) (hb : w0.heap.size ≤ b) : Many 0 w0 w m b D lm := ⟨fun i hi => absurd hi (by omega), fun i hi => absurd hi (by omega), fun i j hi => absurd hi (by omega), fun i hi => absurd hi (by omega), hb, k⟩
def addM (D : Nat → One) (k : Nat) (d : One) : Nat → One := fun i => if i = k then d else D i
theorem addM_same (D : Nat → One) (k : Nat) (d : One) : addM D k d k = d := if_pos rfl
theorem addM_ne {D : Nat → One} {k i : Nat} {d : One} (h : i ≠ k) : addM D k d i = D i := if_neg h
/-- One more of them. -/
theorem Many.push (h : Many n w0 w m b D lm) {d : One} (ok : OneOK w m b d) (hm : d.s.mem = lm) (low : ∀ z ∈ d.own, w0.heap.size ≤ z) (hd : ∀ z ∈ d.own, ∀ i, i < n → z ∉ (D i).own ∧ z ∉ (D i).ro) (hro : ∀ z ∈ d.ro, ∀ i, i < n → z ∉ (D i).own) : Many (n + 1) w0 w m b (addM D n d) lm := by
  refine ⟨fun i hi => ?_, fun i hi => ?_, fun i j hi hj hij z hz => ?_, fun i hi z hz => ?_, h.lb, h.keep⟩
  · by_cases e : i = n
    · subst e; rw [addM_same]; exact ok
    · rw [addM_ne e]; exact h.one i (by omega)
  · by_cases e : i = n
    · subst e; rw [addM_same]; exact hm
    · rw [addM_ne e]; exact h.mem i (by omega)
  · by_cases e : i = n
    · subst e
      rw [addM_same] at hz
      rw [addM_ne (Ne.symm hij)]
      exact hd z hz j (by omega)
    · rw [addM_ne e] at hz
      by_cases e2 : j = n
      · subst e2
        rw [addM_same]
        exact ⟨fun hm => (hd z hm i (by omega)).1 hz, fun hm => hro z hm i (by omega) hz⟩
      · rw [addM_ne e2]
        exact h.dis i j (by omega) (by omega) hij z hz
  · by_cases e : i = n
    · subst e; rw [addM_same] at hz; exact low z hz
    · rw [addM_ne e] at hz; exact h.low i (by omega) z hz
theorem Many.kept (h : Many n w0 w m b D lm) (k : Keep [] w w') : Many n w0 w' m b D lm := h.keptS k (by simp)
theorem Many.memRep (h : Many n w0 w m b D lm) (hn : 0 < n) : MemRep 134 w m b lm := h.mem 0 hn ▸ (h.one 0 hn).fr.mem
end
theorem BodyOK.toR {ρ : Type} {K x : Nat} {RR : ρ → List Nat → World → Prop} {B : ρ → St → ρ × St} (h : BodyOK K x RR B) : BodyOKR K x [] RR B := fun f m b w sl s r o h1 h2 h3 h4 _ => h f m b w sl s r o h1 h2 h3 h4
theorem RStays.toR {ρ : Type} {x : Nat} {RR : ρ → List Nat → World → Prop} (h : RStays x RR) : RStaysR x [] RR := fun r o w w' S h1 h2 h3 h4 _ => h r o w w' S h1 h2 h3 h4
end Go.Proofs.Ytkmamebaichboaa
