/- A slice of the call's own that is cut at its front and appended to. No conditions. -/
import Derived.Test.YtkmamebaichboaaFlat
import Derived.ArgAppend
namespace Go.Proofs.Ytkmamebaichboaa
open Go.ChangeShapes Go.WideShapes Go.ChangeAt Go.RowKit
set_option linter.unusedVariables false
/-- The value has n elements, whose cells are xs, in a block of the call's own, with its spare. -/
def Qu (w : World) (base : Nat) (e : TypeId) (size : Nat) (v : Value) (n : Nat) (xs : List Value) : Prop :=
  ∃ g o cap, v = .slice (some ⟨g, o, none⟩) n cap ∧ base ≤ g ∧ (∃ cur, w.heap[g]? = some (.cells cur e (0, 0)) ∧ o + cap * size ≤ cur.size) ∧ n ≤ cap ∧ cap ≤ maxLen ∧ xs.length = n * size ∧
    ∀ (j : Nat) (u : Value), xs[j]? = some u → w.cell? ⟨g, o + j, none⟩ = some u
theorem Qu.keep {w w' : World} {base e size n : Nat} {v : Value} {xs : List Value} (h : Qu w base e size v n xs) {S : List Nat} (k : Keep S w w') (hn : ∀ g, v.ownBlock = some g → g ∉ S) : Qu w' base e size v n xs := by
  obtain ⟨g, o, cap, rfl, hb, ⟨cur, h1, h2⟩, hn1, hc, hl, hx⟩ := h
  have hg : g ∉ S := hn g rfl
  exact ⟨g, o, cap, rfl, hb, ⟨cur, k.to h1 hg, h2⟩, hn1, hc, hl, fun j u hu => by
    rw [World.cell?_of_block (w := w) (k.block g (lt_of_block h1) hg)]; exact hx j u hu⟩
theorem Qu.keep0 {w w' : World} {base e size n : Nat} {v : Value} {xs : List Value} (h : Qu w base e size v n xs) (k : Keep [] w w') : Qu w' base e size v n xs := h.keep k (by simp)
theorem Qu.of_owns {w : World} {base e size n g cap : Nat} {v : Value} {xs : List Value} (h : w.ownsRow base e size v n xs) (hv : v = .slice (some ⟨g, 0, none⟩) n cap) : Qu w base e size v n xs := by
  obtain ⟨hl, h | ⟨g', cap', cur, e', hb, hh, hn, hc, hz, ht⟩⟩ := h
  · rw [hv] at h; cases h.1
  · refine ⟨g', 0, cap', e', hb, ⟨cur, hh, by omega⟩, hn, hc, hl, fun j u hu => ?_⟩
    rw [Nat.zero_add]
    refine cell_of hh ?_
    rw [← ht, List.getElem?_take] at hu
    split at hu
    · simpa using hu
    · cases hu
theorem block_setCells {e : TypeId} (g : Nat) : ∀ (vs : List Value) (o : Nat) (w : World) (cur : Array Value), w.heap[g]? = some (.cells cur e (0, 0)) → ∃ cur', (w.setCells g o vs).heap[g]? = some (.cells cur' e (0, 0)) ∧ cur'.size = cur.size
  | [], o, w, cur, h => ⟨cur, h, rfl⟩
  | v :: r, o, w, cur, h => by
    obtain ⟨cur', h1, h2⟩ := block_setCells g r (o + 1) (w.setCell ⟨g, o, none⟩ v) _ (block_set o v h)
    exact ⟨cur', h1, by rw [h2]; simp⟩
theorem keep_setCells {S : List Nat} {g : Nat} (hg : g ∈ S) : ∀ (vs : List Value) (o : Nat) (w : World), Keep S w (w.setCells g o vs)
  | [], o, w => Keep.refl _ _
  | v :: r, o, w => ((Keep.refl S w).setCell (.inr hg) v).trans (keep_setCells hg r (o + 1) _)
/-- One element more. -/
theorem run_append_qu {P : Program} {w : World} {base : Nat} (t ty e : TypeId) (i : TypeInfo) (z : Value) (size bytes : Nat) (ht : P.underlying t = some (.slice e)) (hi : P.info? e = some i) (hz : i.zero = some z)
    (hsize : i.size = size) (hby : i.bytes = bytes) (hzs : z.cells.size = size) (hsz : 0 < size)
    {v : Value} {n : Nat} {xs : List Value} (h : Qu w base e size v n xs) (ad : Addr) (c : Nat) (news : List Value) (hl : news.length = 1 * size) (hnews : ∀ (j : Nat) (u : Value), news[j]? = some u → w.cell? (ad.add j) = some u) (h1 : ∀ u ∈ news, u.oneCell' = true)
    (h63 : n + 1 ≤ maxLen) (hbytes : (n + 1) * bytes ≤ 140737488355328) (hbase : base ≤ w.heap.size) :
    ∃ v' w', (Builtin.append_ #[t, t] ty #[v, .slice (some ad) 1 c]).run P w = .ok v' w' ∧ Qu w' base e size v' (n + 1) (xs ++ news) ∧ ∃ S, Keep S w w' ∧ (∀ g, g ∈ S → v.ownBlock = some g) ∧ (∀ g, v'.ownBlock = some g → v.ownBlock = some g ∨ w.heap.size ≤ g) := by
  obtain ⟨g, o, cap, rfl, hb, ⟨cur, hc1, hc2⟩, hn, hc, hx, hcell⟩ := h
  by_cases hr : n + 1 ≤ cap
  · have hmul : (n + 1) * size ≤ cap * size := Nat.mul_le_mul_right _ hr
    rw [Nat.succ_mul] at hmul
    have hsome : ∀ j, j < news.length → (w.cell? ⟨g, o + n * size + j, none⟩).isSome = true := by
      intro j hj
      have hj2 : o + n * size + j < cur.size := by omega
      rw [cell_of hc1 (Array.getElem?_eq_getElem hj2)]; rfl
    have hrun := run_append_room_cells (P := P) w t ty e i ht hi g o n cap ad 1 c news (by rw [hl, hsize]) hnews h1 hr (by rw [hsize]; exact hsome) (fun j _ => free_of hc1)
    rw [hsize] at hrun
    obtain ⟨cur', b1, b2⟩ := block_setCells g news (o + n * size) w cur hc1
    refine ⟨_, _, hrun, ⟨g, o, cap, rfl, hb, ⟨cur', b1, by omega⟩, hr, hc, by rw [List.length_append, hx, hl, Nat.add_mul], fun j u hu => ?_⟩, [g], keep_setCells (by simp) _ _ _, ?_, ?_⟩
    · by_cases hj : j < xs.length
      · rw [List.getElem?_append_left hj] at hu
        rw [World.cell?_setCells_out g news (o + n * size) w ⟨g, o + j, none⟩ (fun _ _ => .inl (by show o + j < o + n * size; omega))]
        exact hcell j u hu
      · rw [List.getElem?_append_right (by omega)] at hu
        have hjl : j - xs.length < news.length := (List.getElem?_eq_some_iff.1 hu).1
        have := World.cell?_setCells_in g news (o + n * size) w hsome (j - xs.length) hjl
        rw [show o + j = o + n * size + (j - xs.length) by omega, this]
        exact (List.getElem?_eq_getElem hjl).symm.trans hu
    · intro x hx; simp at hx; subst hx; rfl
    · intro x hx; exact .inl hx
  · obtain ⟨v', w', hrun, ho, hg⟩ := run_append_arg_grows (P := P) w t ty e i z size bytes ht hi hz hsize hby hzs hsz ⟨g, o, none⟩ n cap xs hx (fun j u hu => by rw [addr_add]; exact hcell j u hu) ad 1 c news hl hnews (by omega) h63 hbytes
    have ho2 := ho
    obtain ⟨_, h2 | ⟨g', cap', cur', e', hb', hh', _⟩⟩ := ho
    · exact absurd h2.2 (by omega)
    · refine ⟨v', w', hrun, ?_, [], ⟨hg.os, hg.tape, hg.output, hg.size, fun b hb _ => hg.block b hb (by simp)⟩, by simp, ?_⟩
      · obtain ⟨a1, a2, a3, q1, q2, q3⟩ := Qu.of_owns ho2 e'
        exact ⟨a1, a2, a3, q1, by omega, q3⟩
      · intro x hx
        rw [e'] at hx
        simp only [Value.ownBlock, Option.some.injEq] at hx
        exact .inr (by omega)
theorem wpList_append_qu {P : Program} {w : World} {ops : Array Oper} {rest : List Oper} {o : Oper} {a : Act} {Q : Exit → Act → World → Prop} (hgd : o.guard = none) (s x : Operand) (t : TypeId)
    (ho : o.op = .call { callee := .builtin .append, args := #[s, x], argTypes := #[t, t] })
    {base : Nat} (e : TypeId) (i : TypeInfo) (z : Value) (size bytes : Nat) (ht : P.underlying t = some (.slice e)) (hi : P.info? e = some i) (hz : i.zero = some z)
    (hsize : i.size = size) (hby : i.bytes = bytes) (hzs : z.cells.size = size) (hsz : 0 < size)
    {v : Value} {n : Nat} {xs : List Value} (hs : a.eval s = v) (hown : Qu w base e size v n xs)
    (ad : Addr) (c : Nat) (news : List Value) (hx : a.eval x = .slice (some ad) 1 c) (hl : news.length = 1 * size) (hnews : ∀ (j : Nat) (u : Value), news[j]? = some u → w.cell? (ad.add j) = some u) (h1 : ∀ u ∈ news, u.oneCell' = true)
    (h63 : n + 1 ≤ maxLen) (hbytes : (n + 1) * bytes ≤ 140737488355328) (hbase : base ≤ w.heap.size)
    (h : ∀ v' w' S, Qu w' base e size v' (n + 1) (xs ++ news) → Keep S w w' → (∀ g, g ∈ S → v.ownBlock = some g) → (∀ g, v'.ownBlock = some g → v.ownBlock = some g ∨ w.heap.size ≤ g) → wpList P ops Q rest (a.put o.dst v') w') : wpList P ops Q (o :: rest) a w := by
  refine wpList_plain hgd fun K hK => ?_
  obtain ⟨v', w', hrun, h2, S, h3, h4, h5⟩ := run_append_qu (P := P) t o.type e i z size bytes ht hi hz hsize hby hzs hsz hown ad c news hl hnews h1 h63 hbytes hbase
  unfold Oper.wp execOp
  simp only [ho, resolve, invoke, builtin, Sem.run_bind, Sem.run_pure, Result.andThen_ok, List.map_toArray, List.map_cons, List.map_nil, hs, hx, hrun]
  exact hK _ _ (h v' w' S h2 h3 h4 h5)
end Go.Proofs.Ytkmamebaichboaa
