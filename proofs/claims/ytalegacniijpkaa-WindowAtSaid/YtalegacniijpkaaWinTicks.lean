/- The law WindowTicks: the walk. No conditions but those stated. -/
import Derived.Test.YtalegacniijpkaaWinRef
namespace Go.Proofs.Ytalegacniijpkaa
open Go.ChangeShapes Go.WideShapes Go.ChangeAt Go.RowKit
set_option linter.unusedVariables false
set_option linter.unusedSimpArgs false
namespace Win
/-- Both turns under way. -/
structure Both2 (w0 : World) (t r : Nat) (ao : Option Addr) (cap : Nat) (bo : Option Addr) (bcap : Nat) (l : List Wn) (k : Nat) (w : World) : Prop where
  turn : TurnRep w t ao cap l (run l k)
  ref : RefTurn w r bo bcap l (run l k)
  ne : t ≠ r
  ta : ∀ a, ao = some a → a.block ≠ r
  tb : ∀ a, bo = some a → a.block ≠ t
  keep : Keep [] w0 w
  t0 : w0.heap.size ≤ t
  r0 : w0.heap.size ≤ r
theorem Both2.more {w0 : World} {t r : Nat} {ao : Option Addr} {cap : Nat} {bo : Option Addr} {bcap : Nat} {l : List Wn} {k : Nat} {w w' : World} (h : Both2 w0 t r ao cap bo bcap l k w) (kk : Keep [] w w') : Both2 w0 t r ao cap bo bcap l k w' :=
  ⟨h.turn.keep kk (by simp) (by simp), h.ref.keep kk (by simp) (by simp), h.ne, h.ta, h.tb, h.keep.trans kk, h.t0, h.r0⟩
theorem Both2.mid {w0 : World} {t r : Nat} {ao : Option Addr} {cap : Nat} {bo : Option Addr} {bcap : Nat} {l : List Wn} {k : Nat} {w w' : World} (h : Both2 w0 t r ao cap bo bcap l k w) (k1 : Keep [t] w w') : RefTurn w' r bo bcap l (run l k) :=
  h.ref.keep k1 (by simpa using h.ne.symm) (fun a ha => by simpa using h.tb a ha)
theorem Both2.next {w0 : World} {t r : Nat} {ao : Option Addr} {cap : Nat} {bo : Option Addr} {bcap : Nat} {l : List Wn} {k : Nat} {w w' w'' : World} (h : Both2 w0 t r ao cap bo bcap l k w) (ht : TurnRep w' t ao cap l (tick l (run l k))) (k1 : Keep [t] w w')
    (hr : RefTurn w'' r bo bcap l (tick l (run l k))) (k2 : Keep [r] w' w'') : Both2 w0 t r ao cap bo bcap l (k + 1) w'' :=
  ⟨ht.keep k2 (by simpa using h.ne) (fun a ha => by simpa using h.ta a ha), hr, h.ne, h.ta, h.tb, (h.keep.transS k1 (T := []) (by simp) (by simp; exact h.t0)).transS k2 (by simp) (by simp; exact h.r0), h.t0, h.r0⟩
set_option maxRecDepth 100000 in
theorem windowTicks_walk (l : List Wn) (ao : Option Addr) (cap : Nat) (ticks : Int) (ht : 0 ≤ ticks ∧ ticks ≤ 65535) (w : World) (h : WinAt w ao cap l) (hal : ∀ a, ao = some a → a.block < w.heap.size) (hcm : cap ≤ maxLen)
    (hb : ∀ i, i < l.length → (wAt l i).2 ≤ 9223372036854775807) :
    Calls Try.prog 4 #[.slice ao l.length cap, .int .u16 ticks] w fun e w' => e = .returned (.bool true) ∧ Keep [] w w' := by
  have H := Lib.hid h
  have HB := Lib.hid hb
  have HA := Lib.hid hal
  have hlc := h.le
  unfold maxLen at hcm
  clear h hb hal
  by_cases h40 : (40 : Int) < l.length
  · go_enter Try.func4, Try.ntmps4
    go_wp2_with fail
    refine (win_awake _).mono ?_
    rintro e w1 ⟨rfl, k1⟩
    have K1 := Lib.hid k1
    clear k1
    go_wp2_with fail
    refine (win_awake _).mono ?_
    rintro e w2 ⟨rfl, k2⟩
    have K2 := Lib.hid (K1.out.trans k2)
    clear k2
    go_wp2_with fail
    go_ret
    exact ⟨rfl, K2.out⟩
  · go_enter Try.func4, Try.ntmps4
    go_wp2_with fail
    refine (win_awake _).mono ?_
    rintro e w1 ⟨rfl, k1⟩
    have K1 := Lib.hid k1
    clear k1
    go_wp2_with fail
    refine (win_new (H.out.keep K1.out (by simp)) (by omega)).mono ?_
    rintro e w2 ⟨t, ao2, cap2, rfl, h2, k2, ht2, ha2⟩
    have R2 := Lib.hid h2
    have K2 := Lib.hid (K1.out.trans k2)
    have hz := K1.out.size
    have hz2 := k2.size
    have htl := lt_of_block h2.head
    have HA2 := Lib.hid ha2
    clear k2 h2 ha2
    go_wp2_with fail
    have B0 : Hid (Both2 w t w2.heap.size ao2 cap2 ao cap l 0 (w2.alloc (.cells #[.slice ao l.length cap, .int .i64 0, .int .i64 0, .int .i64 0] 35))) := by
      have kk := (Keep.refl [] w2).alloc (.cells #[.slice ao l.length cap, .int .i64 0, .int .i64 0, .int .i64 0] 35)
      refine Lib.hid ⟨R2.out.keep kk (by simp) (by simp), ⟨heap_alloc_new w2 _, H.out.keep (K2.out.trans kk) (by simp), fun a ha => ?_, (fine_start l).near⟩, by omega, fun a ha => ?_, fun a ha => ?_, K2.out.trans kk, by omega, by omega⟩
      · have := HA.out a ha; omega
      · have := (HA2.out a ha).2; omega
      · have := HA.out a ha; omega
    have hn : 0 ≤ ticks % 600 ∧ ticks % 600 < 600 := by omega
    obtain ⟨n, hn'⟩ : ∃ n : Nat, ticks % 600 = n := ⟨(ticks % 600).toNat, by omega⟩
    rw [hn'] at hn ⊢
    have Hn := Lib.hid hn'
    clear hn'
    have hr : w.heap.size ≤ w2.heap.size := by omega
    have htr : t ≠ w2.heap.size := by omega
    generalize w2.alloc (.cells #[.slice ao l.length cap, .int .i64 0, .int .i64 0, .int .i64 0] 35) = w3 at B0 ⊢
    generalize w2.heap.size = r at *
    go_loopw [26] (fun c wr => ∃ k : Nat, c = .int .u16 k ∧ k ≤ n ∧ Both2 w t r ao2 cap2 ao cap l k wr) (fun c _ => n - (intOf c).toNat)
    case atStart => exact ⟨0, rfl, by omega, B0.out⟩
    case round =>
      obtain ⟨k, rfl, hk, hB⟩ := hrel
      have HBr := Lib.hid hB
      have c1 := cell_of (i := 1) (v := .int .i64 (run l k).1) hB.ref.head rfl
      clear hB
      by_cases hlt : k < n
      · have hlt' : (k : Int) < n := by omega
        go_wp2_with fail
        go_region_held3 (fun w' => w'.cell? ⟨r, 1, none⟩ = some (.int .i64 (run l k).1))
          (first | go_keep | exact cell_of (i := 1) (v := .int .i64 (run l k).1) B6.out.ref.head rfl | exact cell_of (i := 1) (v := .int .i64 (run l k).1) B5.out.ref.head rfl | exact cell_keep kb c1 (by simp))
          (first
            | (go_at_call 18; refine (win_part (HBr.out.more (Keep.ofDrewN [] _ _)).turn).mono ?_; rintro e w4 ⟨rfl, nd4, rfl⟩)
            | (go_at_call 19; refine (refT_part (HBr.out.more (Keep.ofDrewN [] _ _)).ref).mono ?_; rintro e w4 ⟨rfl, nd5, rfl⟩)
            | (go_at_call 20; refine (win_index (HBr.out.more (Keep.ofDrewN [] _ _)).turn).mono ?_; rintro e w4 ⟨rfl, rfl⟩)
            | (go_at_call 21; refine (win_left (HBr.out.more (Keep.ofDrewN [] _ _)).turn HB.out).mono ?_; rintro e w5 ⟨rfl, kb⟩; have B5 := Lib.hid ((HBr.out.more (Keep.ofDrewN [] _ _)).more kb))
            | (go_at_call 22; refine (refT_left B5.out.ref HB.out).mono ?_; rintro e w6 ⟨rfl, kb⟩; have B6 := Lib.hid (B5.out.more kb)))
        clear HBr B5 kb
        go_wp2_with fail
        refine (win_tick B6.out.turn (fine_run l k) HB.out (by omega)).mono ?_
        rintro e w7 ⟨rfl, h7, k7⟩
        have R7 := Lib.hid h7; have K7 := Lib.hid k7
        clear h7 k7
        go_wp2_with fail
        refine (refT_tick (B6.out.mid K7.out) (fine_run l k) HB.out (by omega)).mono ?_
        rintro e w8 ⟨rfl, h8, k8⟩
        have B8 := Lib.hid (B6.out.next R7.out K7.out h8 k8)
        clear h8 k8
        go_wp2_with fail
        go_roundw
        case rel => exact ⟨k + 1, by go_num, by omega, B8.out⟩
        case measure => simp [intOf]; omega
      · have hkn : k = n := by omega
        subst hkn
        go_wp2_with fail
        go_region_held3 (fun w' => w'.cell? ⟨r, 1, none⟩ = some (.int .i64 (run l k).1))
          (first | go_keep | exact cell_of (i := 1) (v := .int .i64 (run l k).1) B6.out.ref.head rfl | exact cell_of (i := 1) (v := .int .i64 (run l k).1) B5.out.ref.head rfl | exact cell_keep kb c1 (by simp))
          (first
            | (go_at_call 18; refine (win_part (HBr.out.more (Keep.ofDrewN [] _ _)).turn).mono ?_; rintro e w4 ⟨rfl, nd4, rfl⟩)
            | (go_at_call 19; refine (refT_part (HBr.out.more (Keep.ofDrewN [] _ _)).ref).mono ?_; rintro e w4 ⟨rfl, nd5, rfl⟩)
            | (go_at_call 20; refine (win_index (HBr.out.more (Keep.ofDrewN [] _ _)).turn).mono ?_; rintro e w4 ⟨rfl, rfl⟩)
            | (go_at_call 21; refine (win_left (HBr.out.more (Keep.ofDrewN [] _ _)).turn HB.out).mono ?_; rintro e w5 ⟨rfl, kb⟩; have B5 := Lib.hid ((HBr.out.more (Keep.ofDrewN [] _ _)).more kb))
            | (go_at_call 22; refine (refT_left B5.out.ref HB.out).mono ?_; rintro e w6 ⟨rfl, kb⟩; have B6 := Lib.hid (B5.out.more kb)))
        go_wp2_with fail
        go_ret
        exact ⟨rfl, B6.out.keep⟩
end Win
end Go.Proofs.Ytalegacniijpkaa
