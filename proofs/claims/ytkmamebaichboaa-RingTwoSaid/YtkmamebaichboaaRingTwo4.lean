/- Law 8: RingTwo: the state at its loop's head, and its two steps. No conditions but those stated. -/
import Derived.Test.YtkmamebaichboaaRingTwo3
import Derived.Test.YtkmamebaichboaaRingPlays2
namespace Go.Proofs.Ytkmamebaichboaa
open Go.ChangeShapes Go.WideShapes Go.ChangeAt Go.RowKit
set_option linter.unusedVariables false
set_option linter.unusedSimpArgs false
namespace Law08
open Prog
def Off (v : Value) (l : List Nat) : Prop := ∀ g, v.ownBlock = some g → g ∉ l
/-- What is so at the loop's head. -/
structure At8 (w0 w : World) (b : Nat) (c : Int) (ws : List Int) (T G : Nat) (fP xP fG xG : Nat) (aP aG : Act) (sP sG : St) (slP slG : Value) (lm : List Int) (vg : Value) : Prop where
  duo : Duo w0 w (b + 1) b fP xP fG xG aP aG sP sG slP slG lm
  two : Two c ws T G lm (ans sP) (ans sG)
  ovP : sP.over = false
  ovG : sG.over = false
  kP : aP.kind = 0 ∧ aP.c = c
  kG : aG.kind = 1 ∧ aG.c = c
  wq : WQ w (b + 2) vg (ws.take G)
  offP : Off vg (own fP xP slP)
  offG : Off vg (own fG xG slG)
theorem ans_len {s : St} : (ans s).length = s.log.length := by simp [ans]
theorem Two.short {c : Int} {ws : List Int} {T G : Nat} {lm lp lg : List Int} (h : Two c ws T G lm lp lg) : lp.length ≤ 3 ∧ lg.length ≤ 3 := by
  constructor
  · rcases h.pp with rfl | ⟨t0, _, rfl | ⟨_, rfl | ⟨rfl, _⟩⟩⟩ <;> simp
  · rcases h.gp with rfl | rfl | ⟨p0, _, _, rfl | ⟨v, _, rfl⟩⟩ <;> simp
theorem Off.step {w : World} {base f x : Nat} {vg sl sl' : Value} {l : List Int} (h : Off vg (own f x sl)) (hw : WQ w base vg l) (hn : ∀ j ∈ blk sl', j ∈ blk sl ∨ w.heap.size ≤ j) : Off vg (own f x sl') := by
  intro g hg hm
  have h1 := h g hg
  have h2 := hw.low g hg
  simp [own] at h1 hm
  rcases hm with hm | hm | hm
  · exact h1.1 hm
  · exact h1.2.1 hm
  · rcases hn g hm with h3 | h3
    · exact h1.2.2 h3
    · omega
section
variable {w0 w : World} {b : Nat} {c : Int} {ws : List Int} {T G : Nat} {fP xP fG xG : Nat} {aP aG : Act} {sP sG : St} {slP slG : Value} {lm : List Int} {vg : Value}
theorem At8.put (h : At8 w0 w b c ws T G fP xP fG xG aP aG sP sG slP slG lm vg) (hc : 1 ≤ c ∧ c ≤ 16) (hw : ws.length ≤ 40) {v : Int} (hv : ws[T]? = some v) (now : Int) :
    Calls Try.prog 29 #[.pointer (some ⟨fP, 0, none⟩), .int .i64 now, .func (.func 39) #[.pointer (some ⟨xP, 0, none⟩)] #[]] (w.setCell ⟨xP, 2, none⟩ (.int .i64 v)) fun e w' =>
      ∃ a' s' sl' lm', Duo w0 w' (b + 1) b fP xP fG xG a' aG s' { sG with mem := lm' } sl' slG lm' ∧ WQ w' (b + 2) vg (ws.take G) ∧ Off vg (own fP xP sl') ∧ a'.kind = 0 ∧ a'.c = c ∧
        ((e = .returned (.bool false) ∧ s'.over = false ∧ Two c ws T G lm' (ans s') (ans sG)) ∨ (e = .returned (.bool true) ∧ a'.ok = false ∧ Two c ws T G lm' [] (ans sG)) ∨ (e = .returned (.bool true) ∧ a'.ok = true ∧ Two c ws (T + 1) G lm' [] (ans sG))) := by
  have d1 := h.duo.setV v
  have hlen : sP.log.length ≤ 900000 := by have := h.two.short.1; rw [ans_len] at this; omega
  have hq : stepP (progB actP actU) now ({ aP with v := v }, sP) = (actU { aP with v := v } ((actP { aP with v := v }).run (sP.start now)).1, ((actP { aP with v := v }).run (sP.start now)).2.stop) := stepP_go h.ovP
  have ps := h.two.putStep hc hw (a := { aP with v := v }) h.kP.1 h.kP.2 hv rfl h.duo.mp now
  obtain ⟨u1, u2, u3⟩ := actU_keeps { aP with v := v } ((actP { aP with v := v }).run (sP.start now)).1
  have hok : (actU { aP with v := v } ((actP { aP with v := v }).run (sP.start now)).1).ok = ((actP { aP with v := v }).run (sP.start now)).1.2 := by
    have : ({ aP with v := v } : Act).kind = 0 := h.kP.1
    unfold actU
    rw [if_pos this]
  generalize (actP { aP with v := v }).run (sP.start now) = R at hq ps u1 u2 hok
  refine (d1.step hlen now hq).mono ?_
  rintro e w' ⟨he, sl', d2, k2, hn⟩
  have k1 : Keep [xP] w (w.setCell ⟨xP, 2, none⟩ (.int .i64 v)) := (Keep.refl _ _).setCell (.inr (by simp)) _
  have w1 : WQ (w.setCell ⟨xP, 2, none⟩ (.int .i64 v)) (b + 2) vg (ws.take G) := h.wq.keep k1 (fun g hg hm => h.offP g hg (by simp at hm; simp [own, hm]))
  refine ⟨_, _, sl', _, d2, w1.keep k2 (fun g hg hm => ?_), h.offP.step w1 hn, u1.trans h.kP.1, u2.trans h.kP.2, ?_⟩
  · rcases List.mem_cons.1 hm with rfl | hm
    · have := (h.wq.low g hg).1; omega
    · exact h.offP g hg hm
  · rcases ps with ⟨h1, h2⟩ | ⟨h1, h2, h3⟩ | ⟨h1, h2, h3⟩
    · exact .inl ⟨by rw [he, h1], h1, h2⟩
    · exact .inr (.inl ⟨by rw [he, h1], by rw [hok, h2], h3⟩)
    · exact .inr (.inr ⟨by rw [he, h1], by rw [hok, h2], h3⟩)
theorem At8.get (h : At8 w0 w b c ws T G fP xP fG xG aP aG sP sG slP slG lm vg) (hc : 1 ≤ c ∧ c ≤ 16) (hw : ws.length ≤ 40) (now : Int) :
    Calls Try.prog 29 #[.pointer (some ⟨fG, 0, none⟩), .int .i64 now, .func (.func 39) #[.pointer (some ⟨xG, 0, none⟩)] #[]] w fun e w' =>
      ∃ a' s' sl' lm', Duo w0 w' (b + 1) b fP xP fG xG aP a' { sP with mem := lm' } s' slP sl' lm' ∧ WQ w' (b + 2) vg (ws.take G) ∧ Off vg (own fG xG sl') ∧ a'.kind = 1 ∧ a'.c = c ∧
        ((e = .returned (.bool false) ∧ s'.over = false ∧ Two c ws T G lm' (ans sP) (ans s')) ∨ (e = .returned (.bool true) ∧ a'.ok = false ∧ Two c ws T G lm' (ans sP) []) ∨ (e = .returned (.bool true) ∧ a'.ok = true ∧ ws[G]? = some a'.got ∧ Two c ws T (G + 1) lm' (ans sP) [])) := by
  have hlen : sG.log.length ≤ 900000 := by have := h.two.short.2; rw [ans_len] at this; omega
  have hq : stepP (progB actP actU) now (aG, sG) = (actU aG ((actP aG).run (sG.start now)).1, ((actP aG).run (sG.start now)).2.stop) := stepP_go h.ovG
  have ps := h.two.getStep hc hw (a := aG) h.kG.1 h.kG.2 rfl h.duo.mg now
  obtain ⟨u1, u2, u3⟩ := actU_keeps aG ((actP aG).run (sG.start now)).1
  have hok : (actU aG ((actP aG).run (sG.start now)).1).ok = ((actP aG).run (sG.start now)).1.2 ∧ (actU aG ((actP aG).run (sG.start now)).1).got = ((actP aG).run (sG.start now)).1.1 := by
    unfold actU
    rw [if_neg (by rw [h.kG.1]; decide), if_pos h.kG.1]
    exact ⟨rfl, rfl⟩
  generalize (actP aG).run (sG.start now) = R at hq ps u1 u2 hok
  refine (h.duo.swap.step hlen now hq).mono ?_
  rintro e w' ⟨he, sl', d2, k2, hn⟩
  refine ⟨_, _, sl', _, d2.swap, h.wq.keep k2 (fun g hg hm => ?_), h.offG.step h.wq hn, u1.trans h.kG.1, u2.trans h.kG.2, ?_⟩
  · rcases List.mem_cons.1 hm with rfl | hm
    · have := (h.wq.low g hg).1; omega
    · exact h.offG g hg hm
  · rcases ps with ⟨h1, h2⟩ | ⟨h1, h2, h3⟩ | ⟨h1, h2, h3, _, h4⟩
    · exact .inl ⟨by rw [he, h1], h1, h2⟩
    · exact .inr (.inl ⟨by rw [he, h1], by rw [hok.1, h2], h3⟩)
    · exact .inr (.inr ⟨by rw [he, h1], by rw [hok.1, h2], by rw [hok.2]; exact h3, h4⟩)
end
/-- What is said of a value and a new frame's blocks. -/
theorem Off.new {w : World} {base f x : Nat} {vg : Value} {l : List Int} (hw : WQ w base vg l) (h1 : w.heap.size ≤ f) (h2 : w.heap.size ≤ x) : Off vg (own f x (.slice none 0 0)) := by
  intro g hg hm
  have := hw.low g hg
  simp [own, blk, Value.ownBlock] at hm
  omega
/-- One word more, and where the row then lies. -/
theorem wpList_append_wq2 {w : World} {ops : Array Oper} {rest : List Oper} {o : Oper} {a : Go.Act} {Q : Exit → Go.Act → World → Prop} (hgd : o.guard = none) (s x : Operand)
    (ho : o.op = .call { callee := .builtin .append, args := #[s, x], argTypes := #[37, 37] }) (i : TypeInfo) (hi : Try.prog.info? 2 = some i) (hz : i.zero = some (.int .i64 0)) (hsize : i.size = 1) (hby : i.bytes = 8)
    {base : Nat} {v : Value} {ws : List Int} (hs : a.eval s = v) (hw : WQ w base v ws) (ad : Addr) (c : Nat) (z : Int) (hx : a.eval x = .slice (some ad) 1 c) (hnews : ∀ (j : Nat) (u : Value), [Value.int .i64 z][j]? = some u → w.cell? (ad.add j) = some u) (hn : ws.length ≤ 1000) (hbase : base ≤ w.heap.size)
    (h : ∀ ao cap w' S, WQ w' base (.slice ao (ws.length + 1) cap) (ws ++ [z]) → Keep S w w' → (∀ g, g ∈ S → v.ownBlock = some g) → (∀ g, (Value.slice ao (ws.length + 1) cap).ownBlock = some g → v.ownBlock = some g ∨ w.heap.size ≤ g) → wpList Try.prog ops Q rest (a.put o.dst (.slice ao (ws.length + 1) cap)) w') : wpList Try.prog ops Q (o :: rest) a w := by
  rcases hw with ⟨rfl, rfl⟩ | hq
  · refine wpList_append_lies _ hgd s x _ ho base 2 i _ 1 8 Try.underlying37 hi hz hsize hby rfl (by omega) (.slice none 0 0) 0 [] hs ⟨rfl, .inl ⟨rfl, rfl⟩⟩ ad 1 c [.int .i64 z] hx rfl hnews (by simp [Value.oneCell']) (by omega) (by unfold maxLen; omega) (by omega) hbase _ rfl ?_
    intro g cap w' hown hgr hat hlt
    refine h _ cap w' [] (.inr ?_) ((Keep.refl [] w).of_grown hgr (fun k hk => by simp [Value.ownBlock] at hk)) (by simp) (fun y hy => ?_)
    · exact Qu.of_owns (g := g) (cap := cap) hown rfl
    · simp [Value.ownBlock] at hy
      subst hy
      rcases hat with h1 | h1
      · exact .inl h1
      · exact .inr (by omega)
  · refine wpList_append_qu hgd s x _ ho 2 i _ 1 8 Try.underlying37 hi hz hsize hby rfl (by omega) hs hq ad c [.int .i64 z] hx rfl hnews (by simp [Value.oneCell']) (by unfold maxLen; omega) (by omega) hbase ?_
    intro v' w' S h1 h2 h3 h4
    have h5 := h1
    obtain ⟨g, o', cap, rfl, _⟩ := h1
    refine h _ cap w' S (.inr ?_) h2 h3 h4
    rw [List.length_append, List.map_append]
    exact h5
/-- Blocks that are none of theirs may change. -/
theorem Duo.keptS {w0 w w' : World} {m b fP xP fG xG : Nat} {aP aG : Act} {sP sG : St} {slP slG : Value} {lm : List Int} {S : List Nat} (h : Duo w0 w m b fP xP fG xG aP aG sP sG slP slG lm) (k : Keep S w w') (hS : ∀ z ∈ S, z ∉ own fP xP slP ∧ z ∉ own fG xG slG ∧ z ≠ m ∧ z ≠ b ∧ w0.heap.size ≤ z) : Duo w0 w' m b fP xP fG xG aP aG sP sG slP slG lm := by
  have hm : m ∉ S := fun hz => (hS m hz).2.2.1 rfl
  have hb : b ∉ S := fun hz => (hS b hz).2.2.2.1 rfl
  have hp : ∀ z ∈ own fP xP slP, z ∉ S := fun z hz hs => (hS z hs).1 hz
  have hg : ∀ z ∈ own fG xG slG, z ∉ S := fun z hz hs => (hS z hs).2.1 hz
  exact ⟨⟨h.p.fr.keep k (hp fP (by simp [own])) hm hb (fun y hy => hp y (by simp [own, mem_blk, hy])), k.to h.p.ac (hp xP (by simp [own])), h.p.ap⟩,
    ⟨h.g.fr.keep k (hg fG (by simp [own])) hm hb (fun y hy => hg y (by simp [own, mem_blk, hy])), k.to h.g.ac (hg xG (by simp [own])), h.g.ap⟩, h.mp, h.mg, h.dis, h.low, h.lb, h.keep.transS k (T := []) (by simp) (fun y hy hlt => by have := (hS y hy).2.2.2.2; omega)⟩
end Law08
end Go.Proofs.Ytkmamebaichboaa
