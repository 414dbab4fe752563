/-
  TopSlipped: the walks of possible and what it asks.
-/
import Derived.Test.YtempbknidpmncaaDoorSlC
namespace Go.Proofs.YtempbknidpmncaaDoor
open Go.RowKit

theorem open111 (K : Camp) (w0 w : World) (B xb d i : Nat) (hX : BoxAt w0 w K B) (hx : w.cell? ⟨xb, 0, none⟩ = some (.int .i64 (d : Int))) (hi : i < K.n) :
    Calls Tryd.prog 111 #[.int .i64 (i : Int), .pointer (some ⟨xb, 0, none⟩), .pointer (some ⟨B, 0, none⟩)] w fun e w' => e = .returned (.bool (inb d 0 (K.lat i : Nat))) ∧ Below w.heap.size w w' := by
  have hn6 := hX.camp.n6
  have k2 := hX.c2
  obtain ⟨c0, c1, c2, c3, c4, c5⟩ := hX.camp.g i hi
  go_enter Tryd.func111, Tryd.ntmps111
  go_wp2
  refine wp_region_ord [(0, 0, 0), (1, 2, 1), (2, 0, 0), (3, 2, 4), (4, 0, 0), (5, 0, 28), (6, 0, 60), (7, 2, 124), (8, 0, 0), (9, 2, 256), (10, 0, 0), (11, 0, 1792), (12, 0, 3840), (13, 2, 7936), (14, 3, 16383), (15, 0, 32767)] false (by kernel_rfl) (by kernel_rfl) ?_
  repeat (first | (refine tx_P rfl (fun K hK => ?_); go_simp; refine hK _ _ ?_; clear hK K) | (refine tx_L rfl (fun K hK => ?_); go_simp; refine hK _ _ ?_; clear hK K))
  refine tx_E rfl (fun K hK => ?_)
  go_simp
  refine ⟨rfl, callsIn_wide.2 ((withinC_any _ _ _ _).mono ?_)⟩
  rintro e w1 ⟨rfl, rfl⟩
  refine hK _ _ ?_; clear hK K
  repeat (first | (refine tx_P rfl (fun K hK => ?_); go_simp; refine hK _ _ ?_; clear hK K) | (refine tx_L rfl (fun K hK => ?_); go_simp; refine hK _ _ ?_; clear hK K))
  refine tx_nil ?_
  go_wp2
  go_ret
  exact ⟨rfl, (Below.refl _ _).drew⟩
theorem open131 (K : Camp) (w0 w : World) (B xb bx d i : Nat) (hX : BoxAt w0 w K B) (hx : w.cell? ⟨xb, 0, none⟩ = some (.int .i64 (d : Int))) (hi : i < K.n)
    (hb : w.cell? ⟨bx, 0, none⟩ = some (.func (.func 111) #[] #[.pointer (some ⟨xb, 0, none⟩), .pointer (some ⟨B, 0, none⟩)])) :
    Calls Tryd.prog 131 #[.int .i64 (i : Int), .pointer (some ⟨bx, 0, none⟩)] w fun e w' => e = .returned (.bool (!inb d 0 (K.lat i : Nat))) ∧ Below w.heap.size w w' := by
  have hO := open111 K w0 w B xb d i hX hx hi
  go_enter Tryd.func131, Tryd.ntmps131
  go_wp2_with (refine hO.mono ?_; rintro e w1 ⟨rfl, hb1⟩)
  go_ret
  exact ⟨rfl, hb1⟩
theorem all112 (K : Camp) (w0 w : World) (B xb lb lc d i : Nat) (hX : BoxAt w0 w K B) (hx : w.cell? ⟨xb, 0, none⟩ = some (.int .i64 (d : Int))) (lx : xb < w.heap.size) (hi : i < K.n)
    (hl : w.cell? ⟨lb, 0, none⟩ = some (.int .i64 (i : Int))) (ll : lb < w.heap.size) :
    Calls Tryd.prog 112 #[.slice (some ⟨lb, 0, none⟩) 1 lc, .func (.func 111) #[] #[.pointer (some ⟨xb, 0, none⟩), .pointer (some ⟨B, 0, none⟩)]] w fun e w' => e = .returned (.bool (inb d 0 (K.lat i : Nat))) ∧ Below w.heap.size w w' := by
  obtain ⟨W, hW⟩ : ∃ W, W = w.alloc (.cells #[.func (.func 111) #[] #[.pointer (some ⟨xb, 0, none⟩), .pointer (some ⟨B, 0, none⟩)]] 147) := ⟨_, rfl⟩
  have hbW : Below w.heap.size w W := by rw [hW]; exact (Below.refl _ _).alloc (Nat.le_refl _) _
  have hF : Blk W w.heap.size #[.func (.func 111) #[] #[.pointer (some ⟨xb, 0, none⟩), .pointer (some ⟨B, 0, none⟩)]] 147 := by rw [hW]; exact Blk.new _ _ _
  have XW := hX.step hbW
  have hxW := (hbW.cell (p := ⟨xb, 0, none⟩) lx).trans hx
  have lxW := Nat.lt_of_lt_of_le lx hbW.size
  have hlW := (hbW.cell (p := ⟨lb, 0, none⟩) ll).trans hl
  have llW := Nat.lt_of_lt_of_le ll hbW.size
  have hA := anyInt131 (.pointer (some ⟨w.heap.size, 0, none⟩)) lb lc (i : Int) (!inb d 0 (K.lat i : Nat)) W hlW llW (fun W' hb' =>
    open131 K w0 W' B xb w.heap.size d i (XW.step hb') ((hb'.cell (p := ⟨xb, 0, none⟩) lxW).trans hxW) hi ((hF.below hb' hF.lt).cell 0 rfl))
  clear XW hF hX
  go_enter Tryd.func112, Tryd.ntmps112
  go_wp2_with (rw [← hW]; refine hA.mono ?_; rintro e w1 ⟨rfl, hb1⟩)
  go_ret
  exact ⟨ret_bool (by simp), hbW.trans (hb1.mono hbW.size)⟩

theorem most37 (K : Camp) (w : World) (h : CampAt w K) : Calls Tryd.prog 37 #[K.val, .int .i64 0] w fun e w' => e = .returned (.int .i64 9) ∧ Below w.heap.size w w' := by
  have X0 := BoxAt.new h
  have k0 := X0.c0
  have k3 := X0.c3
  have c1 := X0.camp.c1
  have v1 : IntKind.i64.wrap 9000 = 9000 := IntWalk.i64_in _ (by omega)
  have v2 : IntKind.i64.wrap 1000 = 1000 := IntWalk.i64_in _ (by omega)
  have v3 : IntKind.i64.wrap 9 = 9 := IntWalk.i64_in _ (by omega)
  unfold Camp.val
  go_enter Tryd.func37, Tryd.ntmps37
  go_wp2
  refine wp_region_ord [(0, 0, 0), (1, 2, 1), (2, 0, 0), (3, 0, 7), (4, 0, 15), (5, 2, 31), (6, 0, 63), (7, 0, 0), (8, 2, 128), (9, 0, 384), (10, 0, 1023), (11, 0, 2047)] false (by kernel_rfl) (by kernel_rfl) ?_
  repeat (first | (refine tx_P rfl (fun K hK => ?_); go_simp; refine hK _ _ ?_; clear hK K) | (refine tx_L rfl (fun K hK => ?_); go_simp; refine hK _ _ ?_; clear hK K))
  refine tx_nil ?_
  go_wp2
  go_ret
  exact ⟨rfl, X0.below.drew⟩
theorem mass38 (K : Camp) (w : World) (h : CampAt w K) (lb lc i : Nat) (hi : i < K.n) (hl : w.cell? ⟨lb, 0, none⟩ = some (.int .i64 (i : Int))) (ll : lb < w.heap.size) :
    Calls Tryd.prog 38 #[K.val, .slice (some ⟨lb, 0, none⟩) 1 lc] w fun e w' => e = .returned (.int .i64 (1 + i : Nat)) ∧ Below w.heap.size w w' := by
  have X0 := BoxAt.new h
  have hn6 := h.n6
  obtain ⟨W, hW⟩ : ∃ W, W = w.alloc (.cells #[.slice (some ⟨K.cb, 0, none⟩) 1 1, .slice (some ⟨K.pb, 0, none⟩) 1 1, .slice (some ⟨K.gb, 0, none⟩) K.n K.gcap, .int .i64 0] 46) := ⟨_, rfl⟩
  rw [← hW] at X0
  have k2 := X0.c2
  obtain ⟨c0, c1, c2, c3, c4, c5⟩ := X0.camp.g i hi
  have hlW := (X0.below.cell (p := ⟨lb, 0, none⟩) ll).trans hl
  unfold Camp.val
  go_enter Tryd.func38, Tryd.ntmps38
  go_wp2
  rw [← hW]
  clear hW
  have X9 := X0.below
  clear X0
  go_loopw [5, 7, 10] (fun s _ i' wr => wr = W ∧ ((i' = .int .i64 0 ∧ s = .int .i64 0) ∨ (i' = .int .i64 1 ∧ s = .int .i64 (1 + i : Nat)))) (fun _ _ i' _ => 1 - (intOf i').toNat)
  case atStart => exact ⟨rfl, .inl ⟨rfl, rfl⟩⟩
  case round =>
    obtain ⟨rfl, ⟨rfl, rfl⟩ | ⟨rfl, rfl⟩⟩ := hrel
    · go_wp2
      go_roundw
      case rel => exact ⟨trivial, .inr ⟨rfl, by go_num⟩⟩
      case measure => simp [intOf]
    · go_wp2
      go_ret
      exact ⟨rfl, X9⟩
end Go.Proofs.YtempbknidpmncaaDoor
