/- A configuration in new memory, by append. No conditions but those stated. -/
import Derived.Test.YtkmpajdiedpfhaaClone7
import Derived.Deep.CutRange
import Derived.BigRegion
import Derived.Deep.RegionHeld3
namespace Go.Proofs.Ytkmpajdiedpfhaa
open Go.ChangeShapes Go.WideShapes Go.ChangeAt Go.RowKit
set_option linter.unusedVariables false
set_option linter.unusedSimpArgs false
namespace Clone
open Same
def TRepF (w0 : World) (lo : Nat) (w : World) (x : ThreadD) (cs : List Value) : Prop :=
  ∃ v, cs = [.int .i64 x.prio, .int .u32 x.caps, .bool x.ctl, v] ∧ 0 ≤ x.caps ∧ x.caps ≤ 4294967295 ∧ FreshSl lo w 42 6 (CallRep (Old w0) w) v x.prog ∧ inI64 x.prio
def PRepF (w0 : World) (lo : Nat) (w : World) (x : PartD) (cs : List Value) : Prop :=
  ∃ v1 v2, cs = [v1, v2] ∧ FreshSl lo w 58 4 (TRepF w0 lo w) v1 x.threads ∧ FreshSl lo w 99 3 ObjRep v2 x.objs
def CRepF (w0 : World) (lo : Nat) (w : World) (x : ConfD) (v : Value) : Prop :=
  ∃ v1 v2 v3, v = .agg #[v1, v2, v3] ∧ FreshSl lo w 54 2 (PRepF w0 lo w) v1 x.parts ∧ FreshSl lo w 60 2 WinRep v2 x.wins ∧ FreshSl lo w 66 4 ChanRep v3 x.chans
section
variable {w0 w w' : World} {lo : Nat} {S : List Nat}
theorem _root_.Go.Proofs.Ytkmpajdiedpfhaa.CallRep.keepO (kk : Keep S w w') (hs : ∀ g, g ∈ S → w0.heap.size ≤ g) {x : CallD} {cs : List Value} (h : CallRep (Old w0) w x cs) : CallRep (Old w0) w' x cs :=
  call_move kk.size (fun b hb hl => kk.block b hl (fun hm => by have := hs b hm; unfold Old at hb; omega)) (fun _ h _ => h) h
theorem TRepF.keepT (kk : Keep S w w') (hs : ∀ g, g ∈ S → w0.heap.size ≤ g) (h1 : NoRow w S 42) {x : ThreadD} {cs : List Value} (h : TRepF w0 lo w x cs) : TRepF w0 lo w' x cs :=
  let ⟨v, e, a, b, c, d⟩ := h
  ⟨v, e, a, b, c.keepT kk h1 (fun _ _ _ hx => CallRep.keepO kk hs hx), d⟩
theorem PRepF.keepT (kk : Keep S w w') (hs : ∀ g, g ∈ S → w0.heap.size ≤ g) (h1 : NoRow w S 42) (h2 : NoRow w S 58) (h3 : NoRow w S 99) {x : PartD} {cs : List Value} (h : PRepF w0 lo w x cs) : PRepF w0 lo w' x cs :=
  let ⟨v1, v2, e, a, b⟩ := h
  ⟨v1, v2, e, a.keepT kk h2 (fun _ _ _ hx => hx.keepT kk hs h1), b.keepT kk h3 (fun _ _ _ h => h)⟩
theorem _root_.Go.Proofs.Ytkmpajdiedpfhaa.FreshSl.put3 {α : Type} {e size x T : Nat} {Rep : α → List Value → Prop} {v a b c : Value} {l : List α} {cs : Array Value} {fz : Nat × Nat} (h : FreshSl lo w e size Rep v l) (hb : w.heap[x]? = some (.cells cs T fz)) (hT : T ≠ e) :
    FreshSl lo (((w.setCell ⟨x, 0, none⟩ a).setCell ⟨x, 1, none⟩ b).setCell ⟨x, 2, none⟩ c) e size Rep v l :=
  h.keepT ((((Keep.refl [x] w).setCell (.inr (by simp)) _).setCell (.inr (by simp)) _).setCell (.inr (by simp)) _) (NoRow.one hb hT) (fun _ _ _ h => h)
theorem _root_.Go.Proofs.Ytkmpajdiedpfhaa.FreshSl.kept0 {α : Type} {e size : Nat} {Rep : α → List Value → Prop} {v : Value} {l : List α} (h : FreshSl lo w e size Rep v l) (k : Keep [] w w') : FreshSl lo w' e size Rep v l := h.keep0 k (fun _ _ _ h => h)
theorem _root_.Go.Proofs.Ytkmpajdiedpfhaa.FreshSl.alloc {α : Type} {e size : Nat} {Rep : α → List Value → Prop} {v : Value} {l : List α} (h : FreshSl lo w e size Rep v l) (o : Obj) : FreshSl lo (w.alloc o) e size Rep v l := h.kept0 ((Keep.refl [] w).alloc o)
theorem _root_.Go.Proofs.Ytkmpajdiedpfhaa.FreshSl.drew {α : Type} {e size : Nat} {Rep : α → List Value → Prop} {v : Value} {l : List α} (h : FreshSl lo w e size Rep v l) : FreshSl lo w.drew e size Rep v l := h
theorem grown_keep {row : Option Nat} (h : w.grownBy w' row) : Keep row.toList w w' := ⟨h.os, h.tape, h.output, h.size, fun b hb hn => h.block b hb (fun e => hn (by rw [← e]; simp))⟩
theorem owns_norow {e e' size n : Nat} {v : Value} {xs : List Value} (h : w.ownsRow lo e size v n xs) (he : e ≠ e') : NoRow w v.ownBlock.toList e' := by
  rcases h.2 with ⟨rfl, _⟩ | ⟨g, cap, cur, rfl, _, hh, _⟩
  · exact NoRow.nil _ _
  · exact NoRow.one hh he
theorem owns_lo {e size n : Nat} {v : Value} {xs : List Value} (h : w.ownsRow lo e size v n xs) : ∀ g, g ∈ v.ownBlock.toList → lo ≤ g := by
  intro g hg
  rcases h.2 with ⟨rfl, _⟩ | ⟨g', cap, cur, rfl, hb, _⟩
  · simp [Value.ownBlock] at hg
  · simp [Value.ownBlock] at hg
    omega
theorem owns_move {e size n : Nat} {v : Value} {xs : List Value} (h : w.ownsRow lo e size v n xs) (kk : Keep S w w') (hS : NoRow w S e) : w'.ownsRow lo e size v n xs := by
  refine ⟨h.1, ?_⟩
  rcases h.2 with h2 | ⟨g, cap, cur, e1, hb, hh, h3⟩
  · exact .inl h2
  · exact .inr ⟨g, cap, cur, e1, hb, kk.to hh (fun hm => hS g hm _ _ hh), h3⟩
theorem GrowSl.keepT {α : Type} {e size : Nat} {Rep Rep' : α → List Value → Prop} {v : Value} {l : List α} (h : GrowSl lo w e size Rep v l) (kk : Keep S w w') (hS : NoRow w S e) (hR : ∀ x cs, x ∈ l → Rep x cs → Rep' x cs) : GrowSl lo w' e size Rep' v l := by
  obtain ⟨f, ho, hf⟩ := h
  exact ⟨f, owns_move ho kk hS, fun i x hi => ⟨(hf i x hi).1, hR x _ (List.mem_of_getElem? hi) (hf i x hi).2⟩⟩
theorem GrowSl.form {α : Type} {e size : Nat} {Rep : α → List Value → Prop} {v : Value} {l : List α} (h : GrowSl lo w e size Rep v l) : ∃ ao cap, v = .slice ao l.length cap := by
  obtain ⟨ao, cap, e, _⟩ := h.fresh.form
  exact ⟨ao, cap, e⟩
theorem NoRow.shift {e : Nat} {T : List Nat} (h : NoRow w' T e) (hs : ∀ g, g ∈ T → ∃ cs e' fz, w'.heap[g]? = some (.cells cs e' fz) ∧ e' ≠ e) : NoRow w' T e := h
/-- One thread more. -/
theorem push_thread {lo2 n : Nat} {wo wr w1 w3 : World} {xp : Nat} {vT vO v' pv : Value} {l : List ThreadD} {t : ThreadD} {os : List ObjD} {f : Nat → List Value} {lit : Obj} (hn : l.length = n) (hlo : lo = w0.heap.size) (hw : w0.heap.size ≤ wo.heap.size) (hxp : wo.heap.size ≤ xp) (kr : Keep [] wo wr) (k1 : Keep [] wr w1)
    (hb : wr.heap[xp]? = some (.cells #[vT, vO] 54 (0, 0))) (hO : FreshSl lo2 wr 99 3 ObjRep vO os) (ho : wr.ownsRow wo.heap.size 58 4 vT n (flatR f n))
    (hf : ∀ (i : Nat) (x : ThreadD), l[i]? = some x → (f i).length = 4 ∧ TRepF w0 lo wr x (f i)) (hp : FreshSl lo w1 42 6 (CallRep (Old w0) w1) pv t.prog) (hc1 : 0 ≤ t.caps) (hc2 : t.caps ≤ 4294967295) (hpr : inI64 t.prio)
    (ho3 : w3.ownsRow wo.heap.size 58 4 v' (n + 1) (flatR f n ++ [.int .i64 t.prio, .int .u32 t.caps, .bool t.ctl, pv])) (hg : (w1.alloc lit).grownBy w3 vT.ownBlock) :
    (w3.setCell ⟨xp, 0, none⟩ v').heap[xp]? = some (.cells #[v', vO] 54 (0, 0)) ∧ GrowSl wo.heap.size (w3.setCell ⟨xp, 0, none⟩ v') 58 4 (TRepF w0 lo (w3.setCell ⟨xp, 0, none⟩ v')) v' (l ++ [t]) ∧ FreshSl lo2 (w3.setCell ⟨xp, 0, none⟩ v') 99 3 ObjRep vO os ∧ Keep [] wo (w3.setCell ⟨xp, 0, none⟩ v') := by
  subst hlo
  subst hn
  have k2 : Keep [] wr (w1.alloc lit) := k1.alloc lit
  have oA := owns_move ho k2 (NoRow.nil _ _)
  have kg := grown_keep hg
  have lg := owns_lo oA
  have hxg : ∀ T : Nat, T ≠ 54 → T = 58 → xp ∉ vT.ownBlock.toList := by
    intro T _ _ hm
    rcases oA.2 with ⟨rfl, _⟩ | ⟨g, cap, cur, rfl, _, hh, _⟩
    · simp [Value.ownBlock] at hm
    · simp [Value.ownBlock] at hm
      subst hm
      rw [k2.to hb (by simp)] at hh
      cases hh
  have b3 : w3.heap[xp]? = some (.cells #[vT, vO] 54 (0, 0)) := kg.to (k2.to hb (by simp)) (hxg 58 (by decide) rfl)
  have kx := keep_put1 w3 xp 0 v'
  have O3 := ((hO.keepT k2 (NoRow.nil _ _) (fun _ _ _ h => h)).keepT kg (owns_norow oA (by decide)) (fun _ _ _ h => h)).keepT kx (NoRow.one b3 (by decide)) (fun _ _ _ h => h)
  have lx : ∀ g, g ∈ [xp] → w0.heap.size ≤ g := by intro g hg; simp at hg; omega
  have lk : ∀ g, g ∈ vT.ownBlock.toList → w0.heap.size ≤ g := fun g hg => by have := lg g hg; omega
  refine ⟨block_set 0 v' b3, ?_, O3, ((kr.trans k2).transS kg (T := []) (by simp) (fun g hg => by have := lg g hg; simp; omega)).transS kx (T := []) (by simp) (by simp; omega)⟩
  · refine (GrowSl.push (Rep' := TRepF w0 w0.heap.size w3) (fun i x hi => ⟨(hf i x hi).1, ?_⟩) ho3 rfl ⟨pv, rfl, hc1, hc2, ?_, hpr⟩).keepT kx (NoRow.one b3 (by decide)) (fun _ _ _ hx => hx.keepT kx lx (NoRow.one b3 (by decide)))
    · exact ((hf i x hi).2.keepT k2 (by simp) (NoRow.nil _ _)).keepT kg lk (owns_norow oA (by decide))
    · exact (hp.keepT ((Keep.refl [] w1).alloc lit) (NoRow.nil _ _) (fun _ _ _ hx => CallRep.keepO ((Keep.refl [] w1).alloc lit) (by simp) hx)).keepT kg (owns_norow oA (by decide)) (fun _ _ _ hx => CallRep.keepO kg lk hx)
/-- One partition more. -/
theorem push_part {n : Nat} {w2 wr w3 : World} {xo : Nat} {vP vT vO aW aC v' : Value} {l : List PartD} {p : PartD} {ws : List WinD} {cs : List ChanD} {f : Nat → List Value} {lit : Obj} (hn : l.length = n) (hlo : lo = w0.heap.size) (hw : w0.heap.size ≤ w2.heap.size) (hxo : w2.heap.size ≤ xo) (kr : Keep [] w2 wr)
    (hb : wr.heap[xo]? = some (.cells #[vP, aW, aC] 26 (0, 0))) (hW : FreshSl w2.heap.size wr 60 2 WinRep aW ws) (hC : FreshSl w2.heap.size wr 66 4 ChanRep aC cs) (ho : wr.ownsRow w2.heap.size 54 2 vP n (flatR f n))
    (hf : ∀ (i : Nat) (x : PartD), l[i]? = some x → (f i).length = 2 ∧ PRepF w0 lo wr x (f i)) (hT : FreshSl lo wr 58 4 (TRepF w0 lo wr) vT p.threads) (hO : FreshSl lo wr 99 3 ObjRep vO p.objs)
    (ho3 : w3.ownsRow w2.heap.size 54 2 v' (n + 1) (flatR f n ++ [vT, vO])) (hg : (wr.alloc lit).grownBy w3 vP.ownBlock) :
    (w3.setCell ⟨xo, 0, none⟩ v').heap[xo]? = some (.cells #[v', aW, aC] 26 (0, 0)) ∧ GrowSl w2.heap.size (w3.setCell ⟨xo, 0, none⟩ v') 54 2 (PRepF w0 lo (w3.setCell ⟨xo, 0, none⟩ v')) v' (l ++ [p]) ∧
      FreshSl w2.heap.size (w3.setCell ⟨xo, 0, none⟩ v') 60 2 WinRep aW ws ∧ FreshSl w2.heap.size (w3.setCell ⟨xo, 0, none⟩ v') 66 4 ChanRep aC cs ∧ Keep [] w2 (w3.setCell ⟨xo, 0, none⟩ v') := by
  subst hlo
  subst hn
  have k2 : Keep [] wr (wr.alloc lit) := (Keep.refl [] wr).alloc lit
  have oA := owns_move ho k2 (NoRow.nil _ _)
  have kg := grown_keep hg
  have lg := owns_lo oA
  have hxg : xo ∉ vP.ownBlock.toList := by
    intro hm
    rcases oA.2 with ⟨rfl, _⟩ | ⟨g, cap, cur, rfl, _, hh, _⟩
    · simp [Value.ownBlock] at hm
    · simp [Value.ownBlock] at hm
      subst hm
      rw [k2.to hb (by simp)] at hh
      cases hh
  have b3 : w3.heap[xo]? = some (.cells #[vP, aW, aC] 26 (0, 0)) := kg.to (k2.to hb (by simp)) hxg
  have kx := keep_put1 w3 xo 0 v'
  have W3 := ((hW.keepT k2 (NoRow.nil _ _) (fun _ _ _ h => h)).keepT kg (owns_norow oA (by decide)) (fun _ _ _ h => h)).keepT kx (NoRow.one b3 (by decide)) (fun _ _ _ h => h)
  have C3 := ((hC.keepT k2 (NoRow.nil _ _) (fun _ _ _ h => h)).keepT kg (owns_norow oA (by decide)) (fun _ _ _ h => h)).keepT kx (NoRow.one b3 (by decide)) (fun _ _ _ h => h)
  have lx : ∀ g, g ∈ [xo] → w0.heap.size ≤ g := by intro g hg; simp at hg; omega
  have lk : ∀ g, g ∈ vP.ownBlock.toList → w0.heap.size ≤ g := fun g hg => by have := lg g hg; omega
  refine ⟨block_set 0 v' b3, ?_, W3, C3, ((kr.trans k2).transS kg (T := []) (by simp) (fun g hg => by have := lg g hg; simp; omega)).transS kx (T := []) (by simp) (by simp; omega)⟩
  refine (GrowSl.push (Rep' := PRepF w0 w0.heap.size w3) (fun i x hi => ⟨(hf i x hi).1, ?_⟩) ho3 rfl ⟨vT, vO, rfl, ?_, ?_⟩).keepT kx (NoRow.one b3 (by decide)) (fun _ _ _ hx => hx.keepT kx lx (NoRow.one b3 (by decide)) (NoRow.one b3 (by decide)) (NoRow.one b3 (by decide)))
  · exact ((hf i x hi).2.keepT k2 (by simp) (NoRow.nil _ _) (NoRow.nil _ _) (NoRow.nil _ _)).keepT kg lk (owns_norow oA (by decide)) (owns_norow oA (by decide)) (owns_norow oA (by decide))
  · exact (hT.keepT k2 (NoRow.nil _ _) (fun _ _ _ hx => hx.keepT k2 (by simp) (NoRow.nil _ _))).keepT kg (owns_norow oA (by decide)) (fun _ _ _ hx => hx.keepT kg lk (owns_norow oA (by decide)))
  · exact (hO.keepT k2 (NoRow.nil _ _) (fun _ _ _ h => h)).keepT kg (owns_norow oA (by decide)) (fun _ _ _ h => h)
theorem box_grown {e T size n x : Nat} {v : Value} {xs : List Value} {cs : Array Value} {fz : Nat × Nat} (hb : w.heap[x]? = some (.cells cs T fz)) (ho : w.ownsRow lo e size v n xs) (hT : T ≠ e) (hg : w.grownBy w' v.ownBlock) : w'.heap[x]? = some (.cells cs T fz) := by
  refine (grown_keep hg).to hb (fun hm => ?_)
  rcases ho.2 with ⟨rfl, _⟩ | ⟨g, cap, cur, rfl, _, hh, _⟩
  · simp [Value.ownBlock] at hm
  · simp [Value.ownBlock] at hm
    subst hm
    rw [hb] at hh
    cases hh
    exact hT rfl
theorem owns_form {e size n : Nat} {v : Value} {xs : List Value} (h : w.ownsRow lo e size v n xs) : ∃ ao cap, v = .slice ao n cap := by
  rcases h.2 with ⟨rfl, rfl⟩ | ⟨g, cap, cur, rfl, _⟩
  · exact ⟨_, _, rfl⟩
  · exact ⟨_, _, rfl⟩
theorem take_more {α : Type} {l : List α} {k : Nat} {x : α} (h : l[k]? = some x) : l.take k ++ [x] = l.take (k + 1) := by rw [List.take_add_one, h]; rfl
theorem heap_old {w : World} {o : Obj} {b : Nat} {x : Obj} (h : w.heap[b]? = some x) : (w.alloc o).heap[b]? = some x := Keep.to ((Keep.refl [] w).alloc o) h (by simp)
theorem al1 (w : World) (a : Obj) : (w.alloc a).heap[w.heap.size]? = some a := heap_alloc_new w a
theorem al21 (w : World) (a b : Obj) : ((w.alloc a).alloc b).heap[w.heap.size]? = some a := heap_old (al1 w a)
theorem al22 (w : World) (a b : Obj) : ((w.alloc a).alloc b).heap[w.heap.size + 1]? = some b := by simpa using al1 (w.alloc a) b
theorem al31 (w : World) (a b c : Obj) : (((w.alloc a).alloc b).alloc c).heap[w.heap.size]? = some a := heap_old (al21 w a b)
theorem al32 (w : World) (a b c : Obj) : (((w.alloc a).alloc b).alloc c).heap[w.heap.size + 1]? = some b := heap_old (al22 w a b)
theorem al33 (w : World) (a b c : Obj) : (((w.alloc a).alloc b).alloc c).heap[w.heap.size + 2]? = some c := by simpa using al22 (w.alloc a) b c
end
set_option maxHeartbeats 16000000 in
set_option maxRecDepth 100000 in
theorem copied_c {B : Nat → Prop} {w : World} {x : ConfD} {v : Value} (h : ConfRep B w x v) (hx : smallF x) :
    Calls Try.prog 25 #[v] w fun e w' => ∃ v', e = .returned v' ∧ CRepF w w.heap.size w' x v' ∧ Keep [] w w' := by
  obtain ⟨ps, ws, cs⟩ := x
  obtain ⟨v1, v2, v3, rfl, h1, h2, h3⟩ := h
  obtain ⟨hb1, hb2, hb3, hb4⟩ := hx
  simp only at h1 h2 h3 hb1 hb2 hb3 hb4 ⊢
  have HB4 := Lib.hid hb4
  have KK : Hid (Keep [] w ((w.alloc (.cells #[v1, v2, v3] 26)).alloc (.cells #[.slice none 0 0, .slice none 0 0, .slice none 0 0] 26))) := Lib.hid (((Keep.refl _ _).alloc _).alloc _)
  have BX := Lib.hid (two_fst w (.cells #[v1, v2, v3] 26) (.cells #[.slice none 0 0, .slice none 0 0, .slice none 0 0] 26))
  have BY := Lib.hid (two_snd w (.cells #[v1, v2, v3] 26) (.cells #[.slice none 0 0, .slice none 0 0, .slice none 0 0] 26))
  have H1 := Lib.hid (sld_move (B' := Old w) (Rep' := PartRep (Old w) w) h1 (Nat.le_refl _) (fun b _ hl => rfl) (fun b _ hl => hl) (fun x cs _ hx => part_move (Nat.le_refl _) (fun b _ hl => rfl) (fun b _ hl => hl) hx))
  have HW := Lib.hid (sld_move (B' := Old w) (Rep' := WinRep) (w' := ((w.alloc (.cells #[v1, v2, v3] 26)).alloc (.cells #[.slice none 0 0, .slice none 0 0, .slice none 0 0] 26))) h2 KK.out.size (fun b _ hl => KK.out.block b hl (by simp)) (fun b _ hl => hl) (fun _ _ _ h => h))
  have HC := Lib.hid (sld_move (B' := Old w) (Rep' := ChanRep) (w' := ((w.alloc (.cells #[v1, v2, v3] 26)).alloc (.cells #[.slice none 0 0, .slice none 0 0, .slice none 0 0] 26))) h3 KK.out.size (fun b _ hl => KK.out.block b hl (by simp)) (fun b _ hl => hl) (fun _ _ _ h => h))
  obtain ⟨wo, wc0, rfl⟩ := HW.out.form
  obtain ⟨co, cc0, rfl⟩ := HC.out.form
  obtain ⟨po, pc0, rfl⟩ := H1.out.form
  clear h1 h2 h3 hb4
  go_enter Try.func25, Try.ntmps25
  go_wp2_with fail
  generalize (w.alloc (.cells #[.slice po ps.length pc0, .slice wo ws.length wc0, .slice co cs.length cc0] 26)).alloc (.cells #[.slice none 0 0, .slice none 0 0, .slice none 0 0] 26) = w2 at *
  obtain ⟨e0, e1, e2⟩ := cells3 BX.out
  obtain ⟨i1, hi1, hz10, hz11, hz12⟩ := info_parts cloneW_info
  obtain ⟨i2, hi2, hz20, hz21, hz22⟩ := info_parts cloneC_info
  have hne0 : w.heap.size ≠ w2.heap.size := fun e => by have := lt_of_block BX.out; omega
  go_upto_region 1 with fail
  go_cut [3] (fun s3 wx => ∃ xo a1 c1 a2 c2, s3 = .pointer (some ⟨xo, 0, none⟩) ∧ wx.heap[xo]? = some (.cells #[.slice none 0 0, .slice a1 ws.length c1, .slice a2 cs.length c2] 26 (0, 0)) ∧ w2.heap.size ≤ xo ∧ Keep [] w2 wx ∧ FreshSl w2.heap.size wx 60 2 WinRep (.slice a1 ws.length c1) ws ∧ FreshSl w2.heap.size wx 66 4 ChanRep (.slice a2 cs.length c2) cs)
  case first =>
    go_region_held3 (fun w' => w'.cell? ⟨w.heap.size, 1, none⟩ = some (.slice wo ws.length wc0) ∧ w'.cell? ⟨w.heap.size, 2, none⟩ = some (.slice co cs.length cc0))
      (first | exact ⟨cell_keep (S := []) (w := w2) (by repeat' (first | with_reducible exact Keep.refl _ _ | with_reducible exact KC.out | with_reducible exact KW.out | with_reducible apply Keep.drew | with_reducible apply Keep.alloc | (with_reducible refine Keep.setCell ?_ (Or.inl ?_) _) | omega | exact Nat.le_refl _ | exact Nat.le_add_right _ _ | (dsimp only; omega))) e1 (by simp), cell_keep (S := []) (w := w2) (by repeat' (first | with_reducible exact Keep.refl _ _ | with_reducible exact KC.out | with_reducible exact KW.out | with_reducible apply Keep.drew | with_reducible apply Keep.alloc | (with_reducible refine Keep.setCell ?_ (Or.inl ?_) _) | omega | exact Nat.le_refl _ | exact Nat.le_add_right _ _ | (dsimp only; omega))) e2 (by simp)⟩ | go_keep)
      (first
        | (refine step_append_sl (by rfl) _ _ _ (by rfl) 60 i1 _ 2 16 Try.underlying23 hi1 hz10 hz11 hz12 rfl (by omega) (by omega) _ (by rfl) (by rfl) HW.out (by repeat' (first | with_reducible exact Keep.refl _ _ | with_reducible exact KC.out | with_reducible exact KW.out | with_reducible apply Keep.drew | with_reducible apply Keep.alloc | (with_reducible refine Keep.setCell ?_ (Or.inl ?_) _) | omega | exact Nat.le_refl _ | exact Nat.le_add_right _ _ | (dsimp only; omega))) WinRep.one hb2 ?_; intro aw cw w3 hf1 hk1; have HF1 := Lib.hid hf1; have HK1 := Lib.hid hk1; (first | (have BO : Hid (w3.heap[w2.heap.size]? = some (Obj.cells #[.slice none 0 0, .slice none 0 0, .slice none 0 0] 26 (0, 0))) := Lib.hid (hk1.to (b := w2.heap.size) (by first | exact al1 _ _ | exact al21 _ _ _ | exact al22 _ _ _ | exact al31 _ _ _ _ | exact al32 _ _ _ _ | exact al33 _ _ _ _) (by simp)); have o0 := (cells3 BO.out).1; have o1 := (cells3 BO.out).2.1; have o2 := (cells3 BO.out).2.2; have p0 := free_of (i := 0) BO.out; have p1 := free_of (i := 1) BO.out; have p2 := free_of (i := 2) BO.out) | (have BO : Hid (w3.heap[w2.heap.size + 1]? = some (Obj.cells #[.slice none 0 0, .slice none 0 0, .slice none 0 0] 26 (0, 0))) := Lib.hid (hk1.to (b := w2.heap.size + 1) (by first | exact al1 _ _ | exact al21 _ _ _ | exact al22 _ _ _ | exact al31 _ _ _ _ | exact al32 _ _ _ _ | exact al33 _ _ _ _) (by simp)); have o0 := (cells3 BO.out).1; have o1 := (cells3 BO.out).2.1; have o2 := (cells3 BO.out).2.2; have p0 := free_of (i := 0) BO.out; have p1 := free_of (i := 1) BO.out; have p2 := free_of (i := 2) BO.out) | (have BO : Hid (w3.heap[w2.heap.size + 2]? = some (Obj.cells #[.slice none 0 0, .slice none 0 0, .slice none 0 0] 26 (0, 0))) := Lib.hid (hk1.to (b := w2.heap.size + 2) (by first | exact al1 _ _ | exact al21 _ _ _ | exact al22 _ _ _ | exact al31 _ _ _ _ | exact al32 _ _ _ _ | exact al33 _ _ _ _) (by simp)); have o0 := (cells3 BO.out).1; have o1 := (cells3 BO.out).2.1; have o2 := (cells3 BO.out).2.2; have p0 := free_of (i := 0) BO.out; have p1 := free_of (i := 1) BO.out; have p2 := free_of (i := 2) BO.out) | (have BO : Hid (w3.heap[w5.heap.size]? = some (Obj.cells #[.slice none 0 0, .slice none 0 0, .slice none 0 0] 26 (0, 0))) := Lib.hid (hk1.to (b := w5.heap.size) (by first | exact al1 _ _ | exact al21 _ _ _ | exact al22 _ _ _ | exact al31 _ _ _ _ | exact al32 _ _ _ _ | exact al33 _ _ _ _) (by simp)); have o0 := (cells3 BO.out).1; have o1 := (cells3 BO.out).2.1; have o2 := (cells3 BO.out).2.2; have p0 := free_of (i := 0) BO.out; have p1 := free_of (i := 1) BO.out; have p2 := free_of (i := 2) BO.out) | (have BO : Hid (w3.heap[w5.heap.size + 1]? = some (Obj.cells #[.slice none 0 0, .slice none 0 0, .slice none 0 0] 26 (0, 0))) := Lib.hid (hk1.to (b := w5.heap.size + 1) (by first | exact al1 _ _ | exact al21 _ _ _ | exact al22 _ _ _ | exact al31 _ _ _ _ | exact al32 _ _ _ _ | exact al33 _ _ _ _) (by simp)); have o0 := (cells3 BO.out).1; have o1 := (cells3 BO.out).2.1; have o2 := (cells3 BO.out).2.2; have p0 := free_of (i := 0) BO.out; have p1 := free_of (i := 1) BO.out; have p2 := free_of (i := 2) BO.out) | (have BO : Hid (w3.heap[w5.heap.size + 2]? = some (Obj.cells #[.slice none 0 0, .slice none 0 0, .slice none 0 0] 26 (0, 0))) := Lib.hid (hk1.to (b := w5.heap.size + 2) (by first | exact al1 _ _ | exact al21 _ _ _ | exact al22 _ _ _ | exact al31 _ _ _ _ | exact al32 _ _ _ _ | exact al33 _ _ _ _) (by simp)); have o0 := (cells3 BO.out).1; have o1 := (cells3 BO.out).2.1; have o2 := (cells3 BO.out).2.2; have p0 := free_of (i := 0) BO.out; have p1 := free_of (i := 1) BO.out; have p2 := free_of (i := 2) BO.out) | (have BO : Hid (w3.heap[_]? = some (Obj.cells #[.slice none 0 0, .slice none 0 0, .slice none 0 0] 26 (0, 0))) := Lib.hid (hk1.to (by repeat' (first | exact BO.out | apply heap_old)) (by simp)); have o0 := (cells3 BO.out).1; have o1 := (cells3 BO.out).2.1; have o2 := (cells3 BO.out).2.2; have p0 := free_of (i := 0) BO.out; have p1 := free_of (i := 1) BO.out; have p2 := free_of (i := 2) BO.out) | skip); have KW : Hid (Keep [] w2 w3) := Lib.hid (Keep.trans (by repeat' (first | with_reducible exact Keep.refl _ _ | with_reducible exact KC.out | with_reducible exact KW.out | with_reducible apply Keep.drew | with_reducible apply Keep.alloc | (with_reducible refine Keep.setCell ?_ (Or.inl ?_) _) | omega | exact Nat.le_refl _ | exact Nat.le_add_right _ _ | (dsimp only; omega))) hk1); have hz3 := KW.out.size; clear hf1 hk1)
        | (refine step_append_sl (by rfl) _ _ _ (by rfl) 66 i2 _ 4 32 Try.underlying24 hi2 hz20 hz21 hz22 rfl (by omega) (by omega) _ (by rfl) (by rfl) HC.out (by repeat' (first | with_reducible exact Keep.refl _ _ | with_reducible exact KC.out | with_reducible exact KW.out | with_reducible apply Keep.drew | with_reducible apply Keep.alloc | (with_reducible refine Keep.setCell ?_ (Or.inl ?_) _) | omega | exact Nat.le_refl _ | exact Nat.le_add_right _ _ | (dsimp only; omega))) ChanRep.one hb3 ?_; intro ac cc w5 hf2 hk2; have HF2 := Lib.hid hf2; have HK2 := Lib.hid hk2; (first | (have BO : Hid (w5.heap[w2.heap.size]? = some (Obj.cells #[.slice none 0 0, .slice none 0 0, .slice none 0 0] 26 (0, 0))) := Lib.hid (hk2.to (b := w2.heap.size) (by first | exact al1 _ _ | exact al21 _ _ _ | exact al22 _ _ _ | exact al31 _ _ _ _ | exact al32 _ _ _ _ | exact al33 _ _ _ _) (by simp)); have o0 := (cells3 BO.out).1; have o1 := (cells3 BO.out).2.1; have o2 := (cells3 BO.out).2.2; have p0 := free_of (i := 0) BO.out; have p1 := free_of (i := 1) BO.out; have p2 := free_of (i := 2) BO.out) | (have BO : Hid (w5.heap[w2.heap.size + 1]? = some (Obj.cells #[.slice none 0 0, .slice none 0 0, .slice none 0 0] 26 (0, 0))) := Lib.hid (hk2.to (b := w2.heap.size + 1) (by first | exact al1 _ _ | exact al21 _ _ _ | exact al22 _ _ _ | exact al31 _ _ _ _ | exact al32 _ _ _ _ | exact al33 _ _ _ _) (by simp)); have o0 := (cells3 BO.out).1; have o1 := (cells3 BO.out).2.1; have o2 := (cells3 BO.out).2.2; have p0 := free_of (i := 0) BO.out; have p1 := free_of (i := 1) BO.out; have p2 := free_of (i := 2) BO.out) | (have BO : Hid (w5.heap[w2.heap.size + 2]? = some (Obj.cells #[.slice none 0 0, .slice none 0 0, .slice none 0 0] 26 (0, 0))) := Lib.hid (hk2.to (b := w2.heap.size + 2) (by first | exact al1 _ _ | exact al21 _ _ _ | exact al22 _ _ _ | exact al31 _ _ _ _ | exact al32 _ _ _ _ | exact al33 _ _ _ _) (by simp)); have o0 := (cells3 BO.out).1; have o1 := (cells3 BO.out).2.1; have o2 := (cells3 BO.out).2.2; have p0 := free_of (i := 0) BO.out; have p1 := free_of (i := 1) BO.out; have p2 := free_of (i := 2) BO.out) | (have BO : Hid (w5.heap[w3.heap.size]? = some (Obj.cells #[.slice none 0 0, .slice none 0 0, .slice none 0 0] 26 (0, 0))) := Lib.hid (hk2.to (b := w3.heap.size) (by first | exact al1 _ _ | exact al21 _ _ _ | exact al22 _ _ _ | exact al31 _ _ _ _ | exact al32 _ _ _ _ | exact al33 _ _ _ _) (by simp)); have o0 := (cells3 BO.out).1; have o1 := (cells3 BO.out).2.1; have o2 := (cells3 BO.out).2.2; have p0 := free_of (i := 0) BO.out; have p1 := free_of (i := 1) BO.out; have p2 := free_of (i := 2) BO.out) | (have BO : Hid (w5.heap[w3.heap.size + 1]? = some (Obj.cells #[.slice none 0 0, .slice none 0 0, .slice none 0 0] 26 (0, 0))) := Lib.hid (hk2.to (b := w3.heap.size + 1) (by first | exact al1 _ _ | exact al21 _ _ _ | exact al22 _ _ _ | exact al31 _ _ _ _ | exact al32 _ _ _ _ | exact al33 _ _ _ _) (by simp)); have o0 := (cells3 BO.out).1; have o1 := (cells3 BO.out).2.1; have o2 := (cells3 BO.out).2.2; have p0 := free_of (i := 0) BO.out; have p1 := free_of (i := 1) BO.out; have p2 := free_of (i := 2) BO.out) | (have BO : Hid (w5.heap[w3.heap.size + 2]? = some (Obj.cells #[.slice none 0 0, .slice none 0 0, .slice none 0 0] 26 (0, 0))) := Lib.hid (hk2.to (b := w3.heap.size + 2) (by first | exact al1 _ _ | exact al21 _ _ _ | exact al22 _ _ _ | exact al31 _ _ _ _ | exact al32 _ _ _ _ | exact al33 _ _ _ _) (by simp)); have o0 := (cells3 BO.out).1; have o1 := (cells3 BO.out).2.1; have o2 := (cells3 BO.out).2.2; have p0 := free_of (i := 0) BO.out; have p1 := free_of (i := 1) BO.out; have p2 := free_of (i := 2) BO.out) | (have BO : Hid (w5.heap[_]? = some (Obj.cells #[.slice none 0 0, .slice none 0 0, .slice none 0 0] 26 (0, 0))) := Lib.hid (hk2.to (by repeat' (first | exact BO.out | apply heap_old)) (by simp)); have o0 := (cells3 BO.out).1; have o1 := (cells3 BO.out).2.1; have o2 := (cells3 BO.out).2.2; have p0 := free_of (i := 0) BO.out; have p1 := free_of (i := 1) BO.out; have p2 := free_of (i := 2) BO.out) | skip); have KC : Hid (Keep [] w2 w5) := Lib.hid (Keep.trans (by repeat' (first | with_reducible exact Keep.refl _ _ | with_reducible exact KC.out | with_reducible exact KW.out | with_reducible apply Keep.drew | with_reducible apply Keep.alloc | (with_reducible refine Keep.setCell ?_ (Or.inl ?_) _) | omega | exact Nat.le_refl _ | exact Nat.le_add_right _ _ | (dsimp only; omega))) hk2); have hz5 := KC.out.size; clear hf2 hk2))
    all_goals
      go_wp2_with fail
      go_meet
      exact ⟨_, aw, cw, ac, cc, rfl, (by first | with_reducible exact al1 _ _ | exact block_set 2 _ (block_set 1 _ (block_set 0 _ (by repeat' (first | with_reducible exact BO.out | with_reducible exact al1 _ _ | with_reducible apply heap_old))))), (by first | omega | exact Nat.le_refl _ | exact Nat.le_add_right _ _), (by repeat' (first | with_reducible exact Keep.refl _ _ | with_reducible exact KC.out | with_reducible exact KW.out | with_reducible apply Keep.drew | with_reducible apply Keep.alloc | (with_reducible refine Keep.setCell ?_ (Or.inl ?_) _) | omega | exact Nat.le_refl _ | exact Nat.le_add_right _ _ | (dsimp only; omega))), (by repeat' (first | with_reducible exact HF1.out | with_reducible exact BO.out | with_reducible exact al1 _ _ | (with_reducible refine FreshSl.kept0 ?_ HK2.out) | with_reducible apply FreshSl.drew | with_reducible apply FreshSl.alloc | (with_reducible refine FreshSl.put3 (T := 26) ?_ (by repeat' (first | with_reducible exact BO.out | with_reducible exact al1 _ _ | with_reducible apply heap_old)) (by decide)))), (by repeat' (first | with_reducible exact HF2.out | with_reducible exact BO.out | with_reducible exact al1 _ _ | (with_reducible refine FreshSl.kept0 ?_ HK1.out) | with_reducible apply FreshSl.drew | with_reducible apply FreshSl.alloc | (with_reducible refine FreshSl.put3 (T := 26) ?_ (by repeat' (first | with_reducible exact BO.out | with_reducible exact al1 _ _ | with_reducible apply heap_old)) (by decide))))⟩
  case rest =>
    obtain ⟨xo, a1, c1, a2, c2, rfl, hbx, hxo, k2c, hfw, hfc⟩ := hcut
    have HXO := Lib.hid hbx
    have K2C := Lib.hid k2c
    have HFW := Lib.hid hfw
    have HFC := Lib.hid hfc
    have hs2 : w.heap.size + 1 < w2.heap.size := lt_of_block BY.out
    have Hpn : Hid (ps.length = ps.length) := Lib.hid rfl
    have BXc := Lib.hid (k2c.to BX.out (by simp))
    clear hbx k2c hfw hfc e0 e1 e2
    obtain ⟨e0, e1, e2⟩ := cells3 BXc.out
    go_wp2_with fail
    clear e0 e1 e2
    go_loopw [20] (fun c wr => ∃ (k : Nat) (vP : Value), c = .int .i64 k ∧ k ≤ ps.length ∧ Keep [] w2 wr ∧ wr.heap[xo]? = some (.cells #[vP, .slice a1 ws.length c1, .slice a2 cs.length c2] 26 (0, 0)) ∧ GrowSl w2.heap.size wr 54 2 (PRepF w w.heap.size wr) vP (ps.take k) ∧
      FreshSl w2.heap.size wr 60 2 WinRep (.slice a1 ws.length c1) ws ∧ FreshSl w2.heap.size wr 66 4 ChanRep (.slice a2 cs.length c2) cs) (fun c _ => ps.length - (intOf c).toNat)
    case atStart => exact ⟨0, _, rfl, Nat.zero_le _, K2C.out, HXO.out, by simpa using GrowSl.nil, HFW.out, HFC.out⟩
    case round =>
      obtain ⟨i, vP, rfl, hi, kr, hbo, hgp, hfw, hfc⟩ := hrel
      have KR := Lib.hid kr
      have KW := Lib.hid (KK.out.trans kr)
      have HBO := Lib.hid hbo
      have HGP := Lib.hid hgp
      have FW := Lib.hid hfw
      have FC := Lib.hid hfc
      clear kr hbo hgp hfw hfc
      have BXr := Lib.hid (KR.out.to BX.out (by simp))
      obtain ⟨e0, e1, e2⟩ := cells3 BXr.out
      by_cases hil : i < ps.length
      · have hil' : (i : Int) < ps.length := by omega
        obtain ⟨p, hp0⟩ := get_of (n := ps.length) (Lib.hid rfl) hil
        have HP := Lib.hid hp0
        obtain ⟨ao, cap, he, _, _, h3⟩ := H1.out
        obtain ⟨b, o, cs4, hao, hbo, hbl, hcl, hc, p1, p2, rfl, hthr, hobj⟩ := h3 i p hp0
        obtain ⟨rfl, rfl⟩ : po = ao ∧ pc0 = cap := by simpa using he
        subst hao
        have q0 := cell_keep KW.out (hc 0 _ rfl) (by simp)
        have q1 := cell_keep KW.out (hc 1 _ rfl) (by simp)
        simp only [Nat.add_zero] at q0
        have HTHR := Lib.hid hthr
        have HOBJ := Lib.hid hobj
        obtain ⟨to1, tc1, rfl⟩ := HTHR.out.form
        obtain ⟨oo1, oc1, rfl⟩ := HOBJ.out.form
        obtain ⟨sm1, sm2, sm3⟩ := HB4.out p (List.mem_of_getElem? hp0)
        have SM3 := Lib.hid sm3
        clear hc hthr hobj h3 hp0 sm3
        obtain ⟨i3, hi3, hz30, hz31, hz32⟩ := info_parts cloneO_info
        have ka := (Keep.refl [] wr).alloc (.cells #[] 99)
        have g0 := cell_keep ka e0 (by simp)
        have g1 := cell_keep ka q0 (by simp)
        have g2 := cell_keep ka q1 (by simp)
        have KA := Lib.hid (KW.out.trans ka)
        clear ka
        go_wp2_with (at_builtin; refine wpList_append_sl rfl _ _ _ rfl 99 i3 _ 3 24 Try.underlying52 hi3 hz30 hz31 hz32 rfl (by omega) (by omega) wr.heap.size rfl rfl HOBJ.out KA.out ObjRep.one sm2 ?_)
        intro vo vc w5 hf5 hk5
        have HF5 := Lib.hid hf5
        have K5 : Hid (Keep [] wr w5) := Lib.hid (((Keep.refl [] wr).alloc _).trans hk5)
        clear hf5 hk5 g0 g1 g2
        have k6 : Keep [] wr (w5.alloc (.cells #[.slice none 0 0, .slice vo p.objs.length vc] 54)) := K5.out.alloc _
        have b6 := al1 w5 (.cells #[.slice none 0 0, .slice vo p.objs.length vc] 54)
        have f6 := HF5.out.alloc (.cells #[.slice none 0 0, .slice vo p.objs.length vc] 54)
        have l6 : w5.heap.size < (w5.alloc (.cells #[.slice none 0 0, .slice vo p.objs.length vc] 54)).heap.size := by simp
        have g0 := cell_keep k6 e0 (by simp)
        have g1 := cell_keep k6 q0 (by simp)
        have hxp : wr.heap.size ≤ w5.heap.size := K5.out.size
        go_wp2_with fail
        generalize w5.alloc (.cells #[.slice none 0 0, .slice vo p.objs.length vc] 54) = w6 at *
        generalize w5.heap.size = xp at *
        have K6 := Lib.hid k6
        have B6 := Lib.hid b6
        have F6 := Lib.hid f6
        have CE0 := Lib.hid e0
        have CQ0 := Lib.hid q0
        clear k6 b6 f6 g0 g1 HF5 K5 e0 e1 e2 q0 q1
        obtain ⟨wz, rfl⟩ : ∃ wz : World, wz = wr := ⟨_, rfl⟩
        go_loopw [39] (fun c wr => ∃ (k : Nat) (vT : Value), c = .int .i64 k ∧ k ≤ p.threads.length ∧ Keep [] wz wr ∧ wr.heap[xp]? = some (.cells #[vT, .slice vo p.objs.length vc] 54 (0, 0)) ∧ GrowSl wz.heap.size wr 58 4 (TRepF w w.heap.size wr) vT (p.threads.take k) ∧
          FreshSl w.heap.size wr 99 3 ObjRep (.slice vo p.objs.length vc) p.objs) (fun c _ => p.threads.length - (intOf c).toNat)
        case atStart => exact ⟨0, _, rfl, Nat.zero_le _, K6.out, B6.out, by simpa using GrowSl.nil, F6.out⟩
        case round =>
          obtain ⟨k, vT, rfl, hk, kq, hbq, hgt, hfo⟩ := hrel
          have KQ := Lib.hid kq
          have HBQ := Lib.hid hbq
          have HGT := Lib.hid hgt
          have HFO := Lib.hid hfo
          clear kq hbq hgt hfo
          have e0 := cell_keep KQ.out CE0.out (by simp)
          have q0 := cell_keep KQ.out CQ0.out (by simp)
          by_cases hkl : k < p.threads.length
          · have hkl' : (k : Int) < p.threads.length := by omega
            obtain ⟨t, ht0⟩ := get_of (n := p.threads.length) (Lib.hid rfl) hkl
            have HT := Lib.hid ht0
            obtain ⟨ao2, cap2, he2, _, _, h4⟩ := HTHR.out
            obtain ⟨b2, o2, cs5, hao2, hbo2, hbl2, hcl2, hc2, pv, rfl, hcp1, hcp2, hpg, hpr⟩ := h4 k t ht0
            obtain ⟨rfl, rfl⟩ : to1 = ao2 ∧ tc1 = cap2 := by simpa using he2
            subst hao2
            have KWQ := Lib.hid (KW.out.trans KQ.out)
            have t0 := cell_keep KWQ.out (hc2 0 _ rfl) (by simp)
            have t1 := cell_keep KWQ.out (hc2 1 _ rfl) (by simp)
            have t2 := cell_keep KWQ.out (hc2 2 _ rfl) (by simp)
            have t3 := cell_keep KWQ.out (hc2 3 _ rfl) (by simp)
            simp only [Nat.add_zero] at t0
            have HPG := Lib.hid hpg
            obtain ⟨go1, gc1, rfl⟩ := HPG.out.form
            obtain ⟨sp1, sp2⟩ := SM3.out t (List.mem_of_getElem? ht0)
            clear hc2 hpg h4 ht0 sp2
            obtain ⟨i4, hi4, hz40, hz41, hz42⟩ := info_parts cloneCl_info
            have kb := (Keep.refl [] wr).alloc (.cells #[.int .i64 t.prio, .int .u32 t.caps, .bool t.ctl, .slice go1 t.prog.length gc1] 58)
            have BT := Lib.hid (al21 wr (.cells #[.int .i64 t.prio, .int .u32 t.caps, .bool t.ctl, .slice go1 t.prog.length gc1] 58) (.cells #[] 42))
            obtain ⟨_, _, _, y3⟩ := cells4 BT.out
            have KB := Lib.hid (KWQ.out.trans (kb.alloc (.cells #[] 42)))
            have KB2 := Lib.hid (kb.alloc (.cells #[] 42))
            clear kb
            go_wp2_with (at_builtin; refine wpList_append_sl rfl _ _ _ rfl 42 i4 _ 6 64 Try.underlying56 hi4 hz40 hz41 hz42 rfl (by omega) (by omega) _ rfl rfl HPG.out KB.out CallRep.one sp1 ?_)
            intro qo qc w7 hf7 hk7
            have K7 : Hid (Keep [] wr w7) := Lib.hid (KB2.out.trans hk7)
            have HF7 := Lib.hid (hf7.keepT (S := []) (Rep' := CallRep (Old w) w7) (Keep.refl [] w7) (NoRow.nil _ _) (fun _ _ _ hx => hx.kept (KWQ.out.trans K7.out)))
            have BT7 := Lib.hid (hk7.to BT.out (by simp))
            clear hk7 hf7 t0 t1 t2 t3 y3
            obtain ⟨y0, y1, y2, y3⟩ := cells4 BT7.out
            have f3 := free_of (i := 3) BT7.out
            have hxw : xp < wr.heap.size := lt_of_block HBQ.out
            have kp := keep_put1 w7 wr.heap.size 3 (.slice qo t.prog.length qc)
            have BT8 := Lib.hid (show (w7.setCell ⟨wr.heap.size, 3, none⟩ (.slice qo t.prog.length qc)).heap[wr.heap.size]? = some (.cells #[.int .i64 t.prio, .int .u32 t.caps, .bool t.ctl, .slice qo t.prog.length qc] 58 (0, 0)) from block_set 3 (.slice qo t.prog.length qc) BT7.out)
            have BP8 := Lib.hid (kp.to (K7.out.to HBQ.out (by simp)) (by simp; omega))
            have HF8 := Lib.hid (HF7.out.keepT (Rep' := CallRep (Old w) (w7.setCell ⟨wr.heap.size, 3, none⟩ (.slice qo t.prog.length qc))) kp (NoRow.one BT7.out (by decide)) (fun _ _ _ hx => CallRep.keepO kp (by simp; have := KWQ.out.size; omega) hx))
            have K8 : Hid (Keep [] wr (w7.setCell ⟨wr.heap.size, 3, none⟩ (.slice qo t.prog.length qc))) := Lib.hid (K7.out.transS kp (T := []) (by simp) (by simp))
            clear kp
            obtain ⟨z0, z1, z2, z3⟩ := cells4 BT8.out
            obtain ⟨x0, x1⟩ := cells2 BP8.out
            have hlt : (p.threads.take k).length = k := by rw [List.length_take]; omega
            have HLT := Lib.hid hlt
            obtain ⟨f, ho, hf⟩ := HGT.out
            rw [hlt] at ho
            clear hlt
            have HO9 := Lib.hid (owns_move ho (K8.out.alloc (.cells #[.int .i64 t.prio, .int .u32 t.caps, .bool t.ctl, .slice qo t.prog.length qc] 58)) (NoRow.nil _ _))
            have HO := Lib.hid ho
            have HFf := Lib.hid hf
            have hz8 : (w7.setCell ⟨wr.heap.size, 3, none⟩ (.slice qo t.prog.length qc)).heap.size = w7.heap.size := by simp
            have hnw := (World.news_of_block (al1 (w7.setCell ⟨wr.heap.size, 3, none⟩ (.slice qo t.prog.length qc)) (.cells #[.int .i64 t.prio, .int .u32 t.caps, .bool t.ctl, .slice qo t.prog.length qc] 58)))
            rw [hz8] at hnw
            have HNW := Lib.hid hnw
            clear hnw
            have HB9 := Lib.hid (KQ.out.trans (K8.out.alloc (.cells #[.int .i64 t.prio, .int .u32 t.caps, .bool t.ctl, .slice qo t.prog.length qc] 58))).size
            have h1c : ∀ u ∈ ([.int .i64 t.prio, .int .u32 t.caps, .bool t.ctl, .slice qo t.prog.length qc] : List Value), u.oneCell' = true := by simp [Value.oneCell']
            have hm1 : k + 1 ≤ maxLen := by unfold maxLen; omega
            have hm2 : (k + 1) * 40 ≤ 140737488355328 := by omega
            obtain ⟨i5, hi5, hz50, hz51, hz52⟩ := info_parts cloneT_info
            clear ho hf
            go_wp2_with (at_builtin; refine wpList_append_own _ rfl _ _ 51 rfl wz.heap.size 58 i5 _ 4 40 Try.underlying51 hi5 hz50 hz51 hz52 rfl (by omega) vT k (flatR f k) rfl HO9.out _ 1 1 [.int .i64 t.prio, .int .u32 t.caps, .bool t.ctl, .slice qo t.prog.length qc] rfl rfl HNW.out h1c hm1 hm2 HB9.out ?_)
            intro v9 w9 ho9 hg9 hv9
            obtain ⟨vo9, vc9, rfl⟩ := owns_form ho9
            have B9 := Lib.hid (box_grown (BP8.out |> fun h => heap_old h) HO9.out (by decide) hg9)
            obtain ⟨x0, x1⟩ := cells2 B9.out
            have fx := free_of (i := 0) B9.out
            have HPT := Lib.hid (push_thread (w0 := w) (lo := w.heap.size) (xp := xp) HLT.out rfl (by have := KW.out.size; omega) hxp KQ.out K8.out HBQ.out HFO.out HO.out HFf.out HF8.out hcp1 hcp2 hpr ho9 hg9)
            have hsz := HPT.out.2.2.2.size
            go_wp2_with fail
            go_roundw
            case rel => exact ⟨k + 1, _, by go_num, by omega, HPT.out.2.2.2, HPT.out.1, by have := HPT.out.2.1; rw [take_more HT.out] at this; exact this, HPT.out.2.2.1⟩
            case measure => simp [intOf]; omega
          · have hke : p.threads.take k = p.threads := by rw [List.take_of_length_le (by omega)]
            have BXo := Lib.hid (KQ.out.to HBO.out (by simp))
            obtain ⟨u0, u1, u2⟩ := cells3 BXo.out
            obtain ⟨x0, x1⟩ := cells2 HBQ.out
            have HGT2 := Lib.hid (show FreshSl wz.heap.size wr 58 4 (TRepF w w.heap.size wr) vT p.threads from hke ▸ HGT.out.fresh)
            obtain ⟨gt, gc, rfl, _⟩ := HGT2.out.form
            have hlt : (ps.take i).length = i := by rw [List.length_take]; omega
            have HLT := Lib.hid hlt
            obtain ⟨f, ho, hf⟩ := HGP.out
            rw [hlt] at ho
            clear hlt
            have HO := Lib.hid (owns_move ho KQ.out (NoRow.nil _ _))
            have HO9 := Lib.hid (owns_move ho (KQ.out.alloc (.cells #[.slice gt p.threads.length gc, .slice vo p.objs.length vc] 54)) (NoRow.nil _ _))
            have HFf := Lib.hid (fun i x hi => (⟨(hf i x hi).1, (hf i x hi).2.keepT KQ.out (by simp) (NoRow.nil _ _) (NoRow.nil _ _) (NoRow.nil _ _)⟩ : _ ∧ PRepF w w.heap.size wr x (f i)))
            have HNW := Lib.hid (World.news_of_block (al1 wr (.cells #[.slice gt p.threads.length gc, .slice vo p.objs.length vc] 54)))
            have HB9 := Lib.hid ((KR.out.trans KQ.out).alloc (.cells #[.slice gt p.threads.length gc, .slice vo p.objs.length vc] 54)).size
            have h1c : ∀ u ∈ ([.slice gt p.threads.length gc, .slice vo p.objs.length vc] : List Value), u.oneCell' = true := by simp [Value.oneCell']
            have hm1 : i + 1 ≤ maxLen := by unfold maxLen; omega
            have hm2 : (i + 1) * 48 ≤ 140737488355328 := by omega
            obtain ⟨i5, hi5, hz50, hz51, hz52⟩ := info_parts cloneP_info
            clear ho hf
            go_wp2_with (at_builtin; refine wpList_append_own _ rfl _ _ 22 rfl w2.heap.size 54 i5 _ 2 48 Try.underlying22 hi5 hz50 hz51 hz52 rfl (by omega) vP i (flatR f i) rfl HO9.out _ 1 1 [.slice gt p.threads.length gc, .slice vo p.objs.length vc] rfl rfl HNW.out h1c hm1 hm2 HB9.out ?_)
            intro v9 w9 ho9 hg9 hv9
            obtain ⟨vo9, vc9, rfl⟩ := owns_form ho9
            have B9 := Lib.hid (box_grown (BXo.out |> fun h => heap_old h) HO9.out (by decide) hg9)
            obtain ⟨y0, y1, y2⟩ := cells3 B9.out
            have fx := free_of (i := 0) B9.out
            have HPT := Lib.hid (push_part (w0 := w) (lo := w.heap.size) (xo := xo) HLT.out rfl (by omega) hxo (KR.out.trans KQ.out) BXo.out (FW.out.keepT KQ.out (NoRow.nil _ _) (fun _ _ _ h => h)) (FC.out.keepT KQ.out (NoRow.nil _ _) (fun _ _ _ h => h)) HO.out HFf.out (HGT2.out.lo_mono (by have := KW.out.size; omega)) HFO.out ho9 hg9)
            go_wp2_with fail
            go_roundw
            case rel => exact ⟨i + 1, _, by go_num, by omega, HPT.out.2.2.2.2, HPT.out.1, by have := HPT.out.2.1; rw [take_more HP.out] at this; exact this, HPT.out.2.2.1, HPT.out.2.2.2.1⟩
            case measure => simp [intOf]; omega
      · have hie : ps.take i = ps := by rw [List.take_of_length_le (by omega)]
        obtain ⟨x0, x1, x2⟩ := cells3 HBO.out
        have HGP2 := Lib.hid (show FreshSl w2.heap.size wr 54 2 (PRepF w w.heap.size wr) vP ps from hie ▸ HGP.out.fresh)
        obtain ⟨gt, gc, rfl, _⟩ := HGP2.out.form
        have BY8 := Lib.hid (KR.out.to BY.out (by simp))
        obtain ⟨m0, m1, m2⟩ := cells3 BY8.out
        have n0 := free_of (i := 0) BY8.out
        have n1 := free_of (i := 1) BY8.out
        have n2 := free_of (i := 2) BY8.out
        have HWf : Hid ((((wr.setCell ⟨w.heap.size + 1, 0, none⟩ (.slice gt ps.length gc)).setCell ⟨w.heap.size + 1, 1, none⟩ (.slice a1 ws.length c1)).setCell ⟨w.heap.size + 1, 2, none⟩ (.slice a2 cs.length c2)).heap[w.heap.size + 1]? = some (.cells #[.slice gt ps.length gc, .slice a1 ws.length c1, .slice a2 cs.length c2] 26 (0, 0))) :=
          Lib.hid (block_set 2 _ (block_set 1 _ (block_set 0 _ BY8.out)))
        have HKF : Hid (Keep [w.heap.size + 1] wr (((wr.setCell ⟨w.heap.size + 1, 0, none⟩ (.slice gt ps.length gc)).setCell ⟨w.heap.size + 1, 1, none⟩ (.slice a1 ws.length c1)).setCell ⟨w.heap.size + 1, 2, none⟩ (.slice a2 cs.length c2))) :=
          Lib.hid ((((Keep.refl _ wr).setCell (.inr (by simp)) _).setCell (.inr (by simp)) _).setCell (.inr (by simp)) _)
        go_wp2_with fail
        generalize (((wr.setCell ⟨w.heap.size + 1, 0, none⟩ (.slice gt ps.length gc)).setCell ⟨w.heap.size + 1, 1, none⟩ (.slice a1 ws.length c1)).setCell ⟨w.heap.size + 1, 2, none⟩ (.slice a2 cs.length c2)) = wF at *
        obtain ⟨z0, z1, z2⟩ := cells3 HWf.out
        have lx : ∀ g, g ∈ [w.heap.size + 1] → w.heap.size ≤ g := by intro g hg; simp at hg; omega
        exact bodyPost_ret (v := .agg #[.slice gt ps.length gc, .slice a1 ws.length c1, .slice a2 cs.length c2]) (by simp [results, Try.results25, go_sem, z0, z1, z2]) rfl
          ⟨_, rfl, ⟨_, _, _, rfl, (HGP2.out.keepT HKF.out (NoRow.one BY8.out (by decide)) (fun _ _ _ hx => hx.keepT HKF.out lx (NoRow.one BY8.out (by decide)) (NoRow.one BY8.out (by decide)) (NoRow.one BY8.out (by decide)))).lo_mono (by omega), (FW.out.keepT HKF.out (NoRow.one BY8.out (by decide)) (fun _ _ _ h => h)).lo_mono (by omega), (FC.out.keepT HKF.out (NoRow.one BY8.out (by decide)) (fun _ _ _ h => h)).lo_mono (by omega)⟩, KW.out.transS HKF.out (T := []) (by simp) (by simp)⟩
end Clone
end Go.Proofs.Ytkmpajdiedpfhaa
