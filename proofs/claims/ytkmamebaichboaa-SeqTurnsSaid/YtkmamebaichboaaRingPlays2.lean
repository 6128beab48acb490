/- Law 8: RingPlays: a list of calls as an argument; a row of words that is cut at its front and appended to. No conditions but those stated. -/
import Derived.Test.YtkmamebaichboaaRingPlays1
import Derived.Test.YtkmamebaichboaaArgs
import Derived.Test.YtkmamebaichboaaQu
namespace Go.Proofs.Ytkmamebaichboaa
open Go.ChangeShapes Go.WideShapes Go.ChangeAt Go.RowKit
set_option linter.unusedVariables false
set_option linter.unusedSimpArgs false
namespace Law08
theorem cell_kept {S : List Nat} {w w' : World} (k : Keep S w w') {g i : Nat} {v : Value} (h : w.cell? ⟨g, i, none⟩ = some v) (hg : g ∉ S) : w'.cell? ⟨g, i, none⟩ = some v := by
  rw [World.cell?_of_block (w := w) (k.block g (World.block_lt_of_cell? w _ h) hg)]
  exact h
structure ROp where
  kind : Int
  v : Int
def OpArg (w : World) (v : Value) (l : List ROp) : Prop := ∃ ao cap, v = .slice ao l.length cap ∧ l.length ≤ maxLen ∧ ∀ i x, l[i]? = some x → ∃ b o, ao = some ⟨b, o, none⟩ ∧ w.cell? ⟨b, o + i * 2, none⟩ = some (.int .u8 x.kind) ∧ w.cell? ⟨b, o + i * 2 + 1, none⟩ = some (.int .i64 x.v)
section
variable {H : Type} {enc : TypeId × Value → H} {w : World} {base b0 : Nat} {spare : Nat → Bool} {held : Bool}
set_option maxRecDepth 100000 in
theorem rop_arg {v : Value} {d : DataW H} {q : List MemPlace} (hv : Value.okWide Try.prog w .any b0 60 v) (h : DataW.Trod enc Try.prog w base spare held 60 v d q) : ∃ l, OpArg w v l := by
  obtain ⟨ao, len, cap, V, rfl, hs⟩ := open_sl_struct [.int .u8, .int .i64] Try.underlying60 Try.underlying62 (by kernel_rfl) (by decide) (by kernel_rfl) hv h
  have hlen : ((List.range len).map (fun i => (⟨vInt (V i 0), vInt (V i 1)⟩ : ROp))).length = len := by simp
  refine ⟨(List.range len).map (fun i => ⟨vInt (V i 0), vInt (V i 1)⟩), ao, cap, by rw [hlen], by rw [hlen]; exact Nat.le_trans hs.le hs.most, fun i x hx => ?_⟩
  have hi : i < len := by have := (List.getElem?_eq_some_iff.1 hx).1; omega
  rw [List.getElem?_map, List.getElem?_range hi] at hx
  simp only [Option.map_some, Option.some.injEq] at hx
  subst hx
  obtain ⟨b, o, e, hc⟩ := hs.cell i hi
  obtain ⟨c0, h0⟩ := hc 0 _ rfl
  obtain ⟨c1, h1⟩ := hc 1 _ rfl
  simp only [List.length_cons, List.length_nil, Nat.zero_add, Nat.reduceAdd] at c0 c1
  rw [h0.1] at c0
  rw [h1.1] at c1
  exact ⟨b, o, e, c0, by simpa [Nat.add_assoc] using c1⟩
end
/-- A row of words of the call's own, nil or in a block from base on. -/
def WQ (w : World) (base : Nat) (v : Value) (ws : List Int) : Prop := (v = .slice none 0 0 ∧ ws = []) ∨ Qu w base 2 1 v ws.length (ws.map (Value.int .i64))
theorem WQ.nil {w : World} {base : Nat} : WQ w base (.slice none 0 0) [] := .inl ⟨rfl, rfl⟩
theorem WQ.keep {w w' : World} {base : Nat} {v : Value} {ws : List Int} (h : WQ w base v ws) {S : List Nat} (k : Keep S w w') (hn : ∀ g, v.ownBlock = some g → g ∉ S) : WQ w' base v ws := by
  rcases h with h | h
  · exact .inl h
  · exact .inr (h.keep k hn)
theorem WQ.low {w : World} {base : Nat} {v : Value} {ws : List Int} (h : WQ w base v ws) : ∀ g, v.ownBlock = some g → base ≤ g ∧ g < w.heap.size := by
  intro g hg
  rcases h with ⟨rfl, _⟩ | ⟨g', o, cap, rfl, hb, ⟨cur, hh, _⟩, _⟩
  · simp [Value.ownBlock] at hg
  · simp [Value.ownBlock] at hg
    subst hg
    exact ⟨hb, lt_of_block hh⟩
theorem WQ.form {w : World} {base : Nat} {v : Value} {ws : List Int} (h : WQ w base v ws) : ∃ ao cap, v = .slice ao ws.length cap ∧ ws.length ≤ cap := by
  rcases h with ⟨rfl, rfl⟩ | ⟨g', o, cap, rfl, hb, _, hn, _⟩
  · exact ⟨none, 0, rfl, Nat.le_refl _⟩
  · exact ⟨_, cap, rfl, hn⟩
theorem WQ.head {w : World} {base cap n : Nat} {ao : Option Addr} {x : Int} {ws : List Int} (h : WQ w base (.slice ao n cap) (x :: ws)) : ∃ g o, ao = some ⟨g, o, none⟩ ∧ w.cell? ⟨g, o, none⟩ = some (.int .i64 x) := by
  rcases h with ⟨_, h⟩ | ⟨g', o, cap', e, hb, _, hn, _, _, hx⟩
  · cases h
  · cases e
    exact ⟨g', o, rfl, hx 0 _ rfl⟩
/-- Without its first word. -/
theorem WQ.cut {w : World} {base cap n : Nat} {ao : Option Addr} {x : Int} {ws : List Int} (h : WQ w base (.slice ao n cap) (x :: ws)) : WQ w base (.slice (if cap = 1 then ao else ao.map (·.add 1)) ws.length (cap - 1)) ws := by
  rcases h with ⟨_, h⟩ | ⟨g', o, cap', e, hb, ⟨cur, hh, hsz⟩, hn, hm, hl, hx⟩
  · cases h
  · cases e
    simp only [List.length_cons] at hn
    by_cases hc : cap = 1
    · subst hc
      have : ws = [] := List.eq_nil_of_length_eq_zero (by omega)
      subst this
      exact .inr ⟨g', o, 0, rfl, hb, ⟨cur, hh, by omega⟩, Nat.le_refl _, Nat.zero_le _, rfl, fun j u hu => by simp at hu⟩
    · refine .inr ⟨g', o + 1, cap - 1, ?_, hb, ⟨cur, hh, by omega⟩, by omega, by omega, by simp, fun j u hu => ?_⟩
      · rw [if_neg hc]
        simp [addr_add]
      · have := hx (j + 1) u (by simpa using hu)
        rw [show o + 1 + j = o + (j + 1) by omega]
        exact this
/-- One word more. -/
theorem wpList_append_wq {w : World} {ops : Array Oper} {rest : List Oper} {o : Oper} {a : Go.Act} {Q : Exit → Go.Act → World → Prop} (hgd : o.guard = none) (s x : Operand)
    (ho : o.op = .call { callee := .builtin .append, args := #[s, x], argTypes := #[37, 37] }) (i : TypeInfo) (hi : Try.prog.info? 2 = some i) (hz : i.zero = some (.int .i64 0)) (hsize : i.size = 1) (hby : i.bytes = 8)
    {base : Nat} {v : Value} {ws : List Int} (hs : a.eval s = v) (hw : WQ w base v ws) (ad : Addr) (c : Nat) (z : Int) (hx : a.eval x = .slice (some ad) 1 c) (hnews : ∀ (j : Nat) (u : Value), [Value.int .i64 z][j]? = some u → w.cell? (ad.add j) = some u) (hn : ws.length ≤ 1000) (hbase : base ≤ w.heap.size)
    (h : ∀ ao cap w' S, WQ w' base (.slice ao (ws.length + 1) cap) (ws ++ [z]) → Keep S w w' → (∀ g, g ∈ S → v.ownBlock = some g) → wpList Try.prog ops Q rest (a.put o.dst (.slice ao (ws.length + 1) cap)) w') : wpList Try.prog ops Q (o :: rest) a w := by
  rcases hw with ⟨rfl, rfl⟩ | hq
  · refine wpList_append_lies _ hgd s x _ ho base 2 i _ 1 8 Try.underlying37 hi hz hsize hby rfl (by omega) (.slice none 0 0) 0 [] hs ⟨rfl, .inl ⟨rfl, rfl⟩⟩ ad 1 c [.int .i64 z] hx rfl hnews (by simp [Value.oneCell']) (by omega) (by unfold maxLen; omega) (by omega) hbase _ rfl ?_
    intro g cap w' hown hgr hat hlt
    refine h _ cap w' [] (.inr ?_) ((Keep.refl [] w).of_grown hgr (fun k hk => by simp [Value.ownBlock] at hk)) (by simp)
    exact Qu.of_owns (g := g) (cap := cap) hown rfl
  · refine wpList_append_qu hgd s x _ ho 2 i _ 1 8 Try.underlying37 hi hz hsize hby rfl (by omega) hs hq ad c [.int .i64 z] hx rfl hnews (by simp [Value.oneCell']) (by unfold maxLen; omega) (by omega) hbase ?_
    intro v' w' S h1 h2 h3 h4
    have h5 := h1
    obtain ⟨g, o', cap, rfl, _⟩ := h1
    refine h _ cap w' S (.inr ?_) h2 h3
    rw [List.length_append, List.map_append]
    exact h5
end Law08
end Go.Proofs.Ytkmamebaichboaa
