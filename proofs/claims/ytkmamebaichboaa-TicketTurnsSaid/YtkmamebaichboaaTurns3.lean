/- Law 3: TicketTurns: rows of pointers; what is so at the loops' heads. No conditions but those stated. -/
import Derived.Test.YtkmamebaichboaaTurns2
import Derived.Test.YtkmamebaichboaaMany
import Derived.Test.YtkmamebaichboaaQu
namespace Go.Proofs.Ytkmamebaichboaa
open Go.ChangeShapes Go.WideShapes Go.ChangeAt Go.RowKit
set_option linter.unusedVariables false
set_option linter.unusedSimpArgs false
namespace Law03
namespace User
open Prog
def ptr (x : Nat) : Value := .pointer (some ⟨x, 0, none⟩)
/-- A row of the call's own, or nil. -/
def QP (w : World) (base : Nat) (e : TypeId) (v : Value) (xs : List Value) : Prop := (v = .slice none 0 0 ∧ xs = []) ∨ Qu w base e 1 v xs.length xs
theorem QP.nil {w : World} {base : Nat} {e : TypeId} : QP w base e (.slice none 0 0) [] := .inl ⟨rfl, rfl⟩
theorem QP.keep {w w' : World} {base : Nat} {e : TypeId} {v : Value} {xs : List Value} (h : QP w base e v xs) {S : List Nat} (k : Keep S w w') (hn : ∀ g, v.ownBlock = some g → g ∉ S) : QP w' base e v xs := by
  rcases h with h | h
  · exact .inl h
  · exact .inr (h.keep k hn)
theorem QP.low {w : World} {base : Nat} {e : TypeId} {v : Value} {xs : List Value} (h : QP w base e v xs) : ∀ g, v.ownBlock = some g → base ≤ g ∧ g < w.heap.size := by
  intro g hg
  rcases h with ⟨rfl, _⟩ | ⟨g', o, cap, rfl, hb, ⟨cur, hh, _⟩, _⟩
  · simp [Value.ownBlock] at hg
  · simp [Value.ownBlock] at hg
    subst hg
    exact ⟨hb, lt_of_block hh⟩
theorem QP.form {w : World} {base : Nat} {e : TypeId} {v : Value} {xs : List Value} (h : QP w base e v xs) : ∃ ao cap, v = .slice ao xs.length cap ∧ xs.length ≤ cap := by
  rcases h with ⟨rfl, rfl⟩ | ⟨g', o, cap, rfl, hb, _, hn, _⟩
  · exact ⟨none, 0, rfl, Nat.le_refl _⟩
  · exact ⟨_, cap, rfl, hn⟩
/-- The row of the pointers p 0, p 1 .. -/
def row (k : Nat) (p : Nat → Nat) : List Value := (List.range k).map fun i => ptr (p i)
theorem row_len (k : Nat) (p : Nat → Nat) : (row k p).length = k := by simp [row]
theorem row_succ (k : Nat) (p : Nat → Nat) : row (k + 1) p = row k p ++ [ptr (p k)] := by simp [row, List.range_succ]
theorem row_congr {k : Nat} {p q : Nat → Nat} (h : ∀ i, i < k → p i = q i) : row k p = row k q := by
  unfold row
  refine List.map_congr_left fun i hi => ?_
  rw [h i (List.mem_range.1 hi)]
theorem row_get {k i : Nat} (p : Nat → Nat) (hi : i < k) : (row k p)[i]? = some (ptr (p i)) := by simp [row, hi]
theorem QP.open {w : World} {base k : Nat} {e : TypeId} {v : Value} {p : Nat → Nat} (h : QP w base e v (row k p)) (hk : 1 ≤ k) : ∃ g o cap, v = .slice (some ⟨g, o, none⟩) k cap ∧ k ≤ cap := by
  rcases h with ⟨_, h0⟩ | ⟨g, o, cap, e1, _, _, hn, _, _, hx⟩
  · have := row_len k p
    rw [h0] at this
    simp at this
    omega
  · rw [row_len] at e1 hn
    exact ⟨g, o, cap, e1, hn⟩
theorem QP.cell {w : World} {base k g o n cap : Nat} {e : TypeId} {p : Nat → Nat} (h : QP w base e (.slice (some ⟨g, o, none⟩) n cap) (row k p)) {i : Nat} (hi : i < k) : w.cell? ⟨g, o + i, none⟩ = some (.pointer (some ⟨p i, 0, none⟩)) := by
  rcases h with ⟨h0, _⟩ | ⟨g', o', cap', e1, _, _, _, _, _, hx⟩
  · cases h0
  · cases e1
    exact hx i _ (row_get p hi)
theorem wpList_append_qp {w : World} {ops : Array Oper} {rest : List Oper} {o : Oper} {a : Go.Act} {Q : Exit → Go.Act → World → Prop} (hgd : o.guard = none) (s x : Operand) (t : TypeId)
    (ho : o.op = .call { callee := .builtin .append, args := #[s, x], argTypes := #[t, t] }) (e : TypeId) (i : TypeInfo) (ht : Try.prog.underlying t = some (.slice e)) (hi : Try.prog.info? e = some i) (hz : i.zero = some (.pointer none)) (hsize : i.size = 1) (hby : i.bytes = 8)
    {base : Nat} {v : Value} {xs : List Value} (hs : a.eval s = v) (hw : QP w base e v xs) (ad : Addr) (c : Nat) (z : Value) (h1 : z.oneCell' = true) (hx : a.eval x = .slice (some ad) 1 c) (hnews : ∀ (j : Nat) (u : Value), [z][j]? = some u → w.cell? (ad.add j) = some u) (n : Nat) (hxl : xs.length = n) (hn : n ≤ 1000) (hbase : base ≤ w.heap.size)
    (h : ∀ ao cap w' S, QP w' base e (.slice ao (n + 1) cap) (xs ++ [z]) → Keep S w w' → (∀ g, g ∈ S → v.ownBlock = some g) → (∀ g, (Value.slice ao (n + 1) cap).ownBlock = some g → v.ownBlock = some g ∨ w.heap.size ≤ g) → wpList Try.prog ops Q rest (a.put o.dst (.slice ao (n + 1) cap)) w') : wpList Try.prog ops Q (o :: rest) a w := by
  subst hxl
  rcases hw with ⟨rfl, rfl⟩ | hq
  · refine wpList_append_lies _ hgd s x _ ho base e i _ 1 8 ht hi hz hsize hby rfl (by omega) (.slice none 0 0) 0 [] hs ⟨rfl, .inl ⟨rfl, rfl⟩⟩ ad 1 c [z] hx rfl hnews (by simpa using h1) (by omega) (by unfold maxLen; omega) (by omega) hbase _ rfl ?_
    intro g cap w' hown hgr hat hlt
    refine h _ cap w' [] (.inr ?_) ((Keep.refl [] w).of_grown hgr (fun k hk => by simp [Value.ownBlock] at hk)) (by simp) (fun y hy => ?_)
    · exact Qu.of_owns (g := g) (cap := cap) hown rfl
    · simp [Value.ownBlock] at hy
      subst hy
      rcases hat with h1 | h1
      · exact .inl h1
      · exact .inr (by omega)
  · refine wpList_append_qu hgd s x _ ho e i _ 1 8 ht hi hz hsize hby rfl (by omega) hs hq ad c [z] hx rfl hnews (by simpa using h1) (by unfold maxLen; omega) (by omega) hbase ?_
    intro v' w' S h1 h2 h3 h4
    have h5 := h1
    obtain ⟨g, o', cap, rfl, _⟩ := h1
    refine h _ cap w' S (.inr ?_) h2 h3 h4
    rw [List.length_append]
    exact h5
def OffT (v : Value) (l : List Nat) : Prop := ∀ g, v.ownBlock = some g → g ∉ l
/-- The two rows of pointers. -/
structure Rw (w : World) (base k : Nat) (vF vU : Value) (f0 x0 : Nat → Nat) (D : Nat → One) : Prop where
  qf : QP w base 40 vF (row k f0)
  qu : QP w base 50 vU (row k x0)
  of : ∀ i, i < k → (D i).f = f0 i ∧ (D i).x = x0 i
  off : ∀ i, i < k → OffT vF (D i).own ∧ OffT vU (D i).own
  apart : ∀ g, vF.ownBlock = some g → vU.ownBlock ≠ some g
section
variable {w0 w w' : World} {m b k N base S T : Nat} {F : Int} {ph tk f0 x0 : Nat → Nat} {U : Nat → Usr} {D D' : Nat → One} {lm : List Int} {vF vU : Value}
theorem Rw.step (h : Rw w base k vF vU f0 x0 D) {i : Nat} (hi : i < k) (hb : b < base) (kk : Keep (b :: (D i).own) w w') (h1 : ∀ j, (D' j).f = (D j).f ∧ (D' j).x = (D j).x) (h2 : ∀ j, j < k → ∀ z ∈ (D' j).own, z ∈ (D j).own ∨ w.heap.size ≤ z) : Rw w' base k vF vU f0 x0 D' := by
  refine ⟨h.qf.keep kk (fun g hg hm => ?_), h.qu.keep kk (fun g hg hm => ?_), fun j hj => ⟨(h1 j).1.trans (h.of j hj).1, (h1 j).2.trans (h.of j hj).2⟩, fun j hj => ⟨fun g hg hm => ?_, fun g hg hm => ?_⟩, h.apart⟩
  · rcases List.mem_cons.1 hm with rfl | hm
    · have := (h.qf.low g hg).1; omega
    · exact (h.off i hi).1 g hg hm
  · rcases List.mem_cons.1 hm with rfl | hm
    · have := (h.qu.low g hg).1; omega
    · exact (h.off i hi).2 g hg hm
  · rcases h2 j hj g hm with h3 | h3
    · exact (h.off j hj).1 g hg h3
    · have := (h.qf.low g hg).2; omega
  · rcases h2 j hj g hm with h3 | h3
    · exact (h.off j hj).2 g hg h3
    · have := (h.qu.low g hg).2; omega
theorem Rw.kept (h : Rw w base k vF vU f0 x0 D) (kk : Keep [] w w') : Rw w' base k vF vU f0 x0 D := ⟨h.qf.keep kk (by simp), h.qu.keep kk (by simp), h.of, h.off, h.apart⟩
/-- What is so at the loop's head. -/
structure AtT (w0 w : World) (m b k N : Nat) (F : Int) (S T : Nat) (ph tk : Nat → Nat) (U : Nat → Usr) (D : Nat → One) (lm : List Int) : Prop where
  many : Many k w0 w m b D lm
  lock : Lock k F S T ph tk lm
  us : ∀ i, i < k → ∃ f x s sl, D i = ⟨f, x, s, sl, [], [], URep x (U i) []⟩ ∧ (U i).pos = 0 ∧ s.log.length ≤ N ∧ At (wrap64 (F + (tk i : Int))) (tk i) (U i) s (ph i)
theorem AtT.kept (h : AtT w0 w m b k N F S T ph tk U D lm) (kk : Keep [] w w') : AtT w0 w' m b k N F S T ph tk U D lm := ⟨h.many.kept kk, h.lock, h.us⟩
/-- The record of a user. -/
theorem AtT.rcd (h : AtT w0 w m b k N F S T ph tk U D lm) {i : Nat} (hi : i < k) : w.heap[(D i).x]? = some (.cells (U i).cells 52 (0, 0)) := by
  obtain ⟨f, x, s, sl, e, _⟩ := h.us i hi
  have := (h.many.one i hi).rr
  rw [e] at this ⊢
  exact this.2.2
theorem AtT.in1 (h : AtT w0 w m b k N F S T ph tk U D lm) : ∃ p, ∀ j, j < k → (U j).inside = true → j = p := by
  have hb : ∀ j, j < k → (U j).inside = true → 2 ≤ ph j ∧ ph j ≤ 4 := by
    intro j hj hin
    obtain ⟨f, x, s, sl, _, _, _, ha⟩ := h.us j hj
    have h5 := h.lock.p5 j hj
    generalize ph j = q at ha h5
    have hc : q = 0 ∨ q = 1 ∨ q = 5 ∨ (2 ≤ q ∧ q ≤ 4) := by omega
    rcases hc with rfl | rfl | rfl | hc
    · have := ha.2.1; rw [this] at hin; cases hin
    · have := ha.1; rw [this] at hin; cases hin
    · have := ha.2.1; rw [this] at hin; cases hin
    · exact hc
  by_cases hz : ∃ p, p < k ∧ (U p).inside = true
  · obtain ⟨p, hp, hin⟩ := hz
    refine ⟨p, fun j hj hj2 => ?_⟩
    have h1 := hb p hp hin
    have h2 := hb j hj hj2
    exact h.lock.only hp hj (by omega) (h.lock.busy p hp h1.1 h1.2) (by omega) (h.lock.busy j hj h2.1 h2.2)
  · exact ⟨0, fun j hj hj2 => absurd ⟨j, hj, hj2⟩ hz⟩
/-- One step. -/
theorem AtT.step (h : AtT w0 w m b k N F S T ph tk U D lm) (hk : k ≤ 5) (hN : N ≤ 1000) {i : Nat} (hi : i < k) (now : Int) :
    Calls Try.prog 29 #[.pointer (some ⟨(D i).f, 0, none⟩), .int .i64 now, .func (.func 35) #[.pointer (some ⟨(D i).x, 0, none⟩)] #[]] w fun e w' =>
      ∃ d S' T' ph' tk' U' D' lm', e = .returned (.bool d) ∧ AtT w0 w' m b k (N + 1) F S' T' ph' tk' U' D' lm' ∧ (∀ j, (D' j).f = (D j).f ∧ (D' j).x = (D j).x) ∧ Keep (b :: (D i).own) w w' ∧ (∀ j, j < k → ∀ z ∈ (D' j).own, z ∈ (D j).own ∨ w.heap.size ≤ z) ∧
        (∀ j, j ≠ i → ph' j = ph j ∧ tk' j = tk j) ∧ ph i ≤ ph' i ∧ (Can S ph tk i → ph i < ph' i) ∧ (∀ q, q < k → q ≠ i → Can S ph tk q → Can S' ph' tk' q) := by
  obtain ⟨f, x, s, sl, e0, hu, hl, ha⟩ := h.us i hi
  have hmem := h.many.mem i hi
  rw [e0] at hmem ⊢
  dsimp only at hmem ⊢
  subst hmem
  obtain ⟨S', T', ph', tk', lm', g1, g2, g3, g4, g5, g6⟩ := h.lock.step hk hi hu (by omega) ha now
  obtain ⟨a1, a2, a3, a4⟩ := g2
  generalize hq : stepP (progB usP usU) now (U i, s) = R at a1 a2 a3 a4
  obtain ⟨u', s'⟩ := R
  dsimp only at a1 a2 a3 a4
  refine (h.many.step hi e0 userK (userOK x).toR (uStays x).toR (by omega) now hq).mono ?_
  rintro e w1 ⟨he, sl', o', k1, k2, k3⟩
  have ho' : o' = [] := by
    have ok := k1.one i hi
    rw [setM_same] at ok
    exact ok.rr.2.1
  subst ho'
  refine ⟨_, S', T', ph', tk', set1 U i u', setM D i ⟨f, x, s', sl', [], [], URep x u' []⟩, lm', he, ⟨a3 ▸ k1, g1, fun j hj => ?_⟩, fun j => ?_, e0 ▸ k2, fun j hj z hz => ?_, g3, g4, g5, g6⟩
  · by_cases e1 : j = i
    · subst e1
      rw [setM_same, set1_same]
      exact ⟨f, x, s', sl', rfl, a1, by omega, a4⟩
    · rw [setM_ne e1, set1_ne e1, (g3 j e1).1, (g3 j e1).2]
      obtain ⟨f2, x2, s2, sl2, c1, c2, c3, c4⟩ := h.us j hj
      exact ⟨f2, x2, { s2 with mem := s'.mem }, sl2, by rw [c1]; rfl, c2, by show s2.log.length ≤ _; omega, c4.turn _⟩
  · by_cases e1 : j = i
    · subst e1; rw [setM_same, e0]; exact ⟨rfl, rfl⟩
    · rw [setM_ne e1]; exact ⟨rfl, rfl⟩
  · by_cases e1 : j = i
    · subst e1
      rw [setM_same] at hz
      exact k3 z hz
    · rw [setM_ne e1] at hz
      exact .inl hz
/-- k of them are made. -/
structure PreT (w0 w : World) (m b base k : Nat) (vF vU : Value) (D : Nat → One) (lm : List Int) : Prop where
  many : Many k w0 w m b D lm
  new : ∀ i, i < k → D i = ⟨(D i).f, (D i).x, St.new lm, .slice none 0 0, [], [], URep (D i).x u0 []⟩
  rw : Rw w base k vF vU (fun i => (D i).f) (fun i => (D i).x) D
  lo : m < base ∧ b < base ∧ base ≤ w.heap.size ∧ w0.heap.size ≤ base
theorem PreT.push {Sx : List Nat} {f x : Nat} {vF' vU' : Value} (h : PreT w0 w m b base k vF vU D lm) (kS : Keep Sx w w') (hS : ∀ z ∈ Sx, vF.ownBlock = some z ∨ vU.ownBlock = some z) (hf : FRep w' f m b (.slice none 0 0) (St.new lm)) (hx : w'.heap[x]? = some (.cells u0.cells 52 (0, 0)))
    (hfx : w.heap.size ≤ f ∧ w.heap.size ≤ x ∧ x ≠ f) (qf : QP w' base 40 vF' (row k (fun i => (D i).f) ++ [ptr f])) (qu : QP w' base 50 vU' (row k (fun i => (D i).x) ++ [ptr x]))
    (bF : ∀ g, vF'.ownBlock = some g → vF.ownBlock = some g ∨ (w.heap.size ≤ g ∧ g ≠ f ∧ g ≠ x)) (bU : ∀ g, vU'.ownBlock = some g → vU.ownBlock = some g ∨ (w.heap.size ≤ g ∧ g ≠ f ∧ g ≠ x)) (hap : ∀ g, vF'.ownBlock = some g → vU'.ownBlock ≠ some g) :
    ∃ D', PreT w0 w' m b base (k + 1) vF' vU' D' lm := by
  obtain ⟨l1, l2, l3, l4⟩ := h.lo
  have hsz := kS.size
  have hlow : ∀ z ∈ Sx, base ≤ z ∧ z < w.heap.size := fun z hz => by
    rcases hS z hz with h1 | h1
    · exact h.rw.qf.low z h1
    · exact h.rw.qu.low z h1
  have hro : ∀ i, i < k → (D i).ro = [] := fun i hi => by rw [h.new i hi]
  have M := h.many.keptS kS (fun z hz => by
    have := hlow z hz
    refine ⟨by omega, by omega, by omega, fun i hi => ⟨fun hm => ?_, by rw [hro i hi]; simp⟩⟩
    rcases hS z hz with h1 | h1
    · exact (h.rw.off i hi).1 z h1 hm
    · exact (h.rw.off i hi).2 z h1 hm)
  have ok : OneOK w' m b ⟨f, x, St.new lm, .slice none 0 0, [], [], URep x u0 []⟩ := by
    refine ⟨hf, ⟨by simp [u0], rfl, hx⟩, ?_, ⟨?_, ?_, ?_, by simp [blk, Value.ownBlock], by simp, by simp, by simp, by simp, by simp⟩, by simp, lt_of_block hx, fun z hz => absurd hz (by simp)⟩
    · intro w1 w2 S h1 h2 h3 h4 h5
      exact uStays x u0 [] w1 w2 S h1 h2 h3 h4
    · exact hfx.2.2
    · show x ≠ m; omega
    · show x ≠ b; omega
  have hlt : ∀ i, i < k → ∀ z ∈ (D i).own, z < w.heap.size := fun i hi z hz => ((h.many.one i hi).own_lt z hz).1
  have P := M.push ok rfl (fun z hz => by simp [One.own, blk, Value.ownBlock] at hz; omega) (fun z hz i hi => ⟨fun hm => by have := hlt i hi z hm; simp [One.own, blk, Value.ownBlock] at hz; omega, by rw [hro i hi]; simp⟩) (fun z hz => absurd hz (by simp))
  have hD : ∀ i, i < k → addM D k ⟨f, x, St.new lm, .slice none 0 0, [], [], URep x u0 []⟩ i = D i := fun i hi => addM_ne (by omega)
  have hDk : addM D k ⟨f, x, St.new lm, .slice none 0 0, [], [], URep x u0 []⟩ k = ⟨f, x, St.new lm, .slice none 0 0, [], [], URep x u0 []⟩ := addM_same _ _ _
  generalize addM D k ⟨f, x, St.new lm, .slice none 0 0, [], [], URep x u0 []⟩ = D' at P hD hDk
  refine ⟨D', P, fun i hi => ?_, ⟨?_, ?_, fun i hi => ⟨rfl, rfl⟩, fun i hi => ?_, hap⟩, by omega⟩
  · by_cases e : i = k
    · subst e; rw [hDk]
    · rw [hD i (by omega)]; exact h.new i (by omega)
  · rw [row_succ, row_congr (q := fun i => (D i).f) (fun i hi => by rw [hD i hi]), hDk]
    exact qf
  · rw [row_succ, row_congr (q := fun i => (D i).x) (fun i hi => by rw [hD i hi]), hDk]
    exact qu
  · by_cases e : i = k
    · subst e
      rw [hDk]
      refine ⟨fun g hg hm => ?_, fun g hg hm => ?_⟩
      · simp [One.own, blk, Value.ownBlock] at hm
        rcases bF g hg with h1 | h1
        · have := (h.rw.qf.low g h1).2; omega
        · omega
      · simp [One.own, blk, Value.ownBlock] at hm
        rcases bU g hg with h1 | h1
        · have := (h.rw.qu.low g h1).2; omega
        · omega
    · rw [hD i (by omega)]
      refine ⟨fun g hg hm => ?_, fun g hg hm => ?_⟩
      · rcases bF g hg with h1 | h1
        · exact (h.rw.off i (by omega)).1 g h1 hm
        · have := hlt i (by omega) g hm; omega
      · rcases bU g hg with h1 | h1
        · exact (h.rw.off i (by omega)).2 g h1 hm
        · have := hlt i (by omega) g hm; omega
theorem PreT.start {F : Int} (h : PreT w0 w m b base k vF vU D [F, F, 0, 0, 0, 0]) (hk : 1 ≤ k) (hF : -9223372036854775808 ≤ F ∧ F ≤ 9223372036854775807) : AtT w0 w m b k 0 F 0 0 (fun _ => 0) (fun _ => 0) (fun _ => u0) D [F, F, 0, 0, 0, 0] :=
  ⟨h.many, Lock.start hk hF, fun i hi => ⟨_, _, _, _, h.new i hi, rfl, Nat.le_refl _, rfl, rfl, rfl⟩⟩
end
end User
end Law03
end Go.Proofs.Ytkmamebaichboaa
