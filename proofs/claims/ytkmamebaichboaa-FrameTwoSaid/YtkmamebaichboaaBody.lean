/- Law 2's bodies: what stands in the world while one runs. No conditions but those stated. -/
import Derived.Test.YtkmamebaichboaaMark
import Derived.Test.YtkmamebaichboaaArgs
import Derived.Test.YtkmamebaichboaaAcc
import Derived.Test.YtkmamebaichboaaTicketUser
namespace Go.Proofs.Ytkmamebaichboaa
open Go.ChangeShapes Go.WideShapes Go.ChangeAt Go.RowKit
set_option linter.unusedVariables false
set_option linter.unusedSimpArgs false
namespace Law02
/-- An access of a body. -/
structure Ins where
  kind : Int
  a : Int
  v : Int
  w : Int
  dep : Bool
  skip : Bool
  mark : Bool
def Ins.cells (x : Ins) : Array Value := #[.int .u8 x.kind, .int .i64 x.a, .int .i64 x.v, .int .i64 x.w, .bool x.dep, .bool x.skip, .bool x.mark]
def roOf (ao : Option Addr) : List Nat := match ao with | some a => [a.block] | none => []
/-- Where the accesses lie. -/
structure LAt (w : World) (ao : Option Addr) (cap : Nat) (l : List Ins) : Prop where
  le : l.length ≤ cap
  most : cap ≤ maxLen
  nil : ao = none → l = [] ∧ cap = 0
  cell : ∀ i x, l[i]? = some x → ∃ g o, ao = some ⟨g, o, none⟩ ∧ w.cell? ⟨g, o + i * 7, none⟩ = some (.int .u8 x.kind) ∧ w.cell? ⟨g, o + i * 7 + 1, none⟩ = some (.int .i64 x.a) ∧ w.cell? ⟨g, o + i * 7 + 2, none⟩ = some (.int .i64 x.v) ∧
    w.cell? ⟨g, o + i * 7 + 3, none⟩ = some (.int .i64 x.w) ∧ w.cell? ⟨g, o + i * 7 + 4, none⟩ = some (.bool x.dep) ∧ w.cell? ⟨g, o + i * 7 + 5, none⟩ = some (.bool x.skip) ∧ w.cell? ⟨g, o + i * 7 + 6, none⟩ = some (.bool x.mark)
theorem cell_keep {S : List Nat} {w w' : World} (k : Keep S w w') {g i : Nat} {v : Value} (h : w.cell? ⟨g, i, none⟩ = some v) (hg : g ∉ S) : w'.cell? ⟨g, i, none⟩ = some v := by
  rw [World.cell?_of_block (w := w) (k.block g (World.block_lt_of_cell? w _ h) hg)]
  exact h
theorem LAt.keep {S : List Nat} {w w' : World} {ao : Option Addr} {cap : Nat} {l : List Ins} (h : LAt w ao cap l) (k : Keep S w w') (hs : ∀ b ∈ roOf ao, b ∉ S) : LAt w' ao cap l := by
  refine ⟨h.le, h.most, h.nil, fun i x hx => ?_⟩
  obtain ⟨g, o, e, c0, c1, c2, c3, c4, c5, c6⟩ := h.cell i x hx
  have hg : g ∉ S := hs g (by simp [roOf, e])
  exact ⟨g, o, e, cell_keep k c0 hg, cell_keep k c1 hg, cell_keep k c2 hg, cell_keep k c3 hg, cell_keep k c4 hg, cell_keep k c5 hg, cell_keep k c6 hg⟩
/-- In the midst of a body's run. -/
structure Mid (w0 : World) (o0 : List Nat) (x f m b : Nat) (ao : Option Addr) (cap : Nat) (l : List Ins) (w : World) (sl slG : Value) (s : St) (got : List Int) (last : Int) : Prop where
  frame : FRep w f m b sl s
  head : w.heap[x]? = some (.cells #[.slice ao l.length cap, slG, .int .i64 last] 39 (0, 0))
  own : w.ownsRow 0 2 1 slG got.length (got.map (Value.int .i64))
  ap : Apart x f m b sl (blk slG)
  lt : ∀ k ∈ blk slG, k < w.heap.size
  ro : RoOK (roOf ao) w f b sl (blk slG)
  rx : x ∉ roOf ao
  laid : LAt w ao cap l
  ev : EvO [x, f, b] o0 w0 (blk sl ++ blk slG) w
section
variable {w0 w w' : World} {o0 : List Nat} {x f m b : Nat} {ao : Option Addr} {cap : Nat} {l : List Ins} {sl slG : Value} {s : St} {got : List Int} {last : Int}
theorem own_keep {S : List Nat} {e : TypeId} {c n : Nat} {v : Value} {xs : List Value} (h : w.ownsRow 0 e c v n xs) (k : Keep S w w') (hs : ∀ j ∈ blk v, j ∉ S) : w'.ownsRow 0 e c v n xs := by
  refine ⟨h.1, ?_⟩
  rcases h.2 with hn | ⟨g, cap, cur, rfl, hb, hg, rest⟩
  · exact .inl hn
  · exact .inr ⟨g, cap, cur, rfl, hb, k.to hg (hs g (mem_blk.2 rfl)), rest⟩
theorem RoOK.mono {ro : List Nat} {o : List Nat} (h : RoOK ro w f b sl o) (hw : w.heap.size ≤ w'.heap.size) : RoOK ro w' f b sl o := fun k hk => ⟨by have := (h k hk).1; omega, (h k hk).2⟩
/-- The world is only made larger. -/
theorem Mid.more (h : Mid w0 o0 x f m b ao cap l w sl slG s got last) (k : Keep [] w w') : Mid w0 o0 x f m b ao cap l w' sl slG s got last :=
  ⟨h.frame.keep k (by simp) (by simp) (by simp) (by simp), k.to h.head (by simp), own_keep h.own k (by simp), h.ap, fun j hj => k.lt (h.lt j hj), RoOK.mono h.ro k.size, h.rx, h.laid.keep k (by simp),
    h.ev.trans ⟨k.mono (by simp), fun j hj => .inl hj⟩⟩
/-- A field of the receiver is stored. -/
theorem Mid.setLast (h : Mid w0 o0 x f m b ao cap l w sl slG s got last) (v : Int) : Mid w0 o0 x f m b ao cap l (w.setCell ⟨x, 2, none⟩ (.int .i64 v)) sl slG s got v := by
  have k : Keep [x] w (w.setCell ⟨x, 2, none⟩ (.int .i64 v)) := (Keep.refl _ _).setCell (.inr (by simp)) _
  refine ⟨h.frame.keep k (by simpa using h.ap.xf.symm) (by simpa using h.ap.xm.symm) (by simpa using h.ap.xb.symm) (own_ne h.ap.xl), ?_, own_keep h.own k (fun j hj e => h.ap.xo (by simp at e; exact e ▸ hj)), h.ap, fun j hj => k.lt (h.lt j hj), RoOK.mono h.ro k.size, h.rx,
    h.laid.keep k (fun j hj e => h.rx (by simp at e; exact e ▸ hj)), h.ev.trans ⟨k.mono (by simp), fun j hj => .inl hj⟩⟩
  have := block_set 2 (.int .i64 v) h.head
  exact this
/-- A call that works on the frame. -/
theorem Mid.call {sl' : Value} {s' : St} (h : Mid w0 o0 x f m b ao cap l w sl slG s got last) (h' : FRep w' f m b sl' s') (e : Ev [f, b] sl w sl' w') : Mid w0 o0 x f m b ao cap l w' sl' slG s' got last := by
  have ev : EvO [x, f, b] (blk sl ++ blk slG) w (blk sl' ++ blk slG) w' := (e.toO (blk slG)).mono (by simp)
  have hnew : ∀ j, j ∈ blk sl' → j ∈ blk sl ∨ w.heap.size ≤ j := fun j hj => by
    rcases e.new with q | q
    · rw [mem_blk] at hj ⊢; exact .inl (q ▸ hj)
    · exact .inr (q j (mem_blk.1 hj))
  have hxl := lt_of_block h.head
  refine ⟨h', e.keep.to h.head ?_, own_keep h.own e.keep ?_, ⟨h.ap.xf, h.ap.xm, h.ap.xb, fun hin => ?_, h.ap.xo, h.ap.of, h.ap.om, h.ap.ob, fun j hj hin => ?_⟩, fun j hj => e.keep.lt (h.lt j hj), h.ro.step ev, h.rx, h.laid.keep e.keep ?_, h.ev.trans ev⟩
  · simp; exact ⟨h.ap.xf, h.ap.xb, h.ap.xl⟩
  · intro j hj
    simp
    exact ⟨fun q => h.ap.of (q ▸ hj), fun q => h.ap.ob (q ▸ hj), h.ap.ol j hj⟩
  · rcases hnew x hin with q | q
    · exact h.ap.xl q
    · omega
  · rcases hnew j hin with q | q
    · exact h.ap.ol j hj q
    · have := h.lt j hj; omega
  · intro j hj
    obtain ⟨h1, h2, h3, h4, h5⟩ := h.ro j hj
    simp
    exact ⟨h2, h3, h4⟩
/-- A word is appended, and the slice stored. -/
theorem Mid.app {v : Int} {w1 w2 : World} {g gcap : Nat} (h : Mid w0 o0 x f m b ao cap l w sl slG s got last) (k1 : Keep [] w w1) (hg : w1.grownBy w2 slG.ownBlock)
    (ho : w2.ownsRow 0 2 1 (.slice (some ⟨g, 0, none⟩) (got.length + 1) gcap) (got.length + 1) (got.map (Value.int .i64) ++ [.int .i64 v])) (hat : slG.ownBlock = some g ∨ w.heap.size ≤ g) (hlt : g < w2.heap.size) :
    Mid w0 o0 x f m b ao cap l (w2.setCell ⟨x, 1, none⟩ (.slice (some ⟨g, 0, none⟩) (got.length + 1) gcap)) sl (.slice (some ⟨g, 0, none⟩) (got.length + 1) gcap) s (got ++ [v]) last := by
  have kk : Keep (blk slG) w w2 := (k1.mono (by simp)).of_grown hg (fun k hk => .inr (mem_blk.2 hk))
  have ks : Keep [x] w2 (w2.setCell ⟨x, 1, none⟩ (.slice (some ⟨g, 0, none⟩) (got.length + 1) gcap)) := (Keep.refl _ _).setCell (.inr (by simp)) _
  have k3 : Keep (x :: blk slG) w (w2.setCell ⟨x, 1, none⟩ (.slice (some ⟨g, 0, none⟩) (got.length + 1) gcap)) := kk.transS ks (fun y hy _ => by simp [hy]) (by simp)
  have hxl := lt_of_block h.head
  have hfl := lt_of_block h.frame.head
  have hml := lt_of_block h.frame.mem.head
  have hbl := lt_of_block h.frame.mem.body
  have hb : blk (.slice (some ⟨g, 0, none⟩) (got.length + 1) gcap) = [g] := rfl
  have hgo : g ∈ blk slG ∨ w.heap.size ≤ g := by
    rcases hat with e | e
    · exact .inl (mem_blk.2 e)
    · exact .inr e
  have ne : ∀ y, y < w.heap.size → y ∉ blk slG → y ≠ g := fun y hy hn e => by
    rcases hgo with q | q
    · exact hn (e ▸ q)
    · omega
  have hgx := ne x hxl h.ap.xo
  have ev : EvO [x, f, b] (blk sl ++ blk slG) w (blk sl ++ [g]) (w2.setCell ⟨x, 1, none⟩ (.slice (some ⟨g, 0, none⟩) (got.length + 1) gcap)) := by
    refine ⟨k3.mono (fun y hy _ => ?_), fun y hy => ?_⟩
    · simp only [List.mem_cons] at hy
      rcases hy with q | q
      · simp [q]
      · simp [q]
    · simp only [List.mem_append, List.mem_cons, List.not_mem_nil, or_false] at hy ⊢
      rcases hy with q | q
      · exact .inl (.inl q)
      · subst q
        rcases hgo with q | q
        · exact .inl (.inr q)
        · exact .inr q
  have hown : w2.ownsRow 0 2 1 (.slice (some ⟨g, 0, none⟩) (got.length + 1) gcap) (got ++ [v]).length ((got ++ [v]).map (Value.int .i64)) := by simpa using ho
  refine ⟨h.frame.keep k3 ?_ ?_ ?_ ?_, ?_, own_keep hown ks ?_, ?_, ?_, ?_, h.rx, h.laid.keep k3 ?_, h.ev.trans ?_⟩
  · simp; exact ⟨h.ap.xf.symm, h.ap.of⟩
  · simp; exact ⟨h.ap.xm.symm, h.ap.om⟩
  · simp; exact ⟨h.ap.xb.symm, h.ap.ob⟩
  · intro j hj
    simp
    exact ⟨fun q => h.ap.xl (q ▸ mem_blk.2 hj), fun q => h.ap.ol j q (mem_blk.2 hj)⟩
  · have h2 := kk.to h.head h.ap.xo
    have := block_set 1 (.slice (some ⟨g, 0, none⟩) (got.length + 1) gcap) h2
    exact this
  · rw [hb]; simpa using hgx.symm
  · rw [hb]
    refine ⟨h.ap.xf, h.ap.xm, h.ap.xb, h.ap.xl, by simpa using hgx, by simpa using ne f hfl h.ap.of, by simpa using ne m hml h.ap.om, by simpa using ne b hbl h.ap.ob, fun j hj hin => ?_⟩
    simp at hj
    subst hj
    rcases hgo with q | q
    · exact h.ap.ol _ q hin
    · have := (h.frame.ne.2.2.2 _ (mem_blk.1 hin)).2.2.2; omega
  · rw [hb]; intro j hj; simp at hj; subst hj; exact ks.lt hlt
  · rw [hb]; exact h.ro.step ev
  · intro j hj
    obtain ⟨h1, h2, h3, h4, h5⟩ := h.ro j hj
    simp
    exact ⟨fun q => h.rx (q ▸ hj), h5⟩
  · rw [hb]; exact ev
end
end Law02
end Go.Proofs.Ytkmamebaichboaa
