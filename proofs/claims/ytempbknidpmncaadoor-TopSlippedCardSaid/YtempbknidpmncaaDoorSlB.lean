/-
  TopSlipped: the law's campaign, and the walk of campaign.Check over it.
-/
import Derived.Test.YtempbknidpmncaaDoorSlA
import Derived.Test.YtempbknidpmncaaDoorItoa
namespace Go.Proofs.YtempbknidpmncaaDoor
open Go.RowKit

def bC : ByteArray := ⟨#[99]⟩
def bP : ByteArray := ⟨#[112]⟩
/-- The law's campaign: one craft, one pad, n cargoes. -/
structure Camp where
  n : Nat
  ag : Nat
  cl : Nat
  lat : Nat → Nat
  cb : Nat
  pb : Nat
  db : Nat
  gb : Nat
  gcap : Nat

def Camp.val (K : Camp) : Value := .agg #[.slice (some ⟨K.cb, 0, none⟩) 1 1, .slice (some ⟨K.pb, 0, none⟩) 1 1, .slice (some ⟨K.gb, 0, none⟩) K.n K.gcap, .int .i64 0]

structure CampAt (w : World) (K : Camp) : Prop where
  n1 : 1 ≤ K.n
  n6 : K.n ≤ 6
  ag1 : 1 ≤ K.ag
  ag20 : K.ag ≤ 20
  cl19 : K.cl ≤ 19
  late : ∀ j, j < K.n → K.lat j ≤ 1000
  lc : K.cb < w.heap.size
  lp : K.pb < w.heap.size
  ld : K.db < w.heap.size
  lg : K.gb < w.heap.size
  c0 : w.cell? ⟨K.cb, 0, none⟩ = some (.string bC)
  c1 : w.cell? ⟨K.cb, 1, none⟩ = some (.int .i64 9)
  c2 : w.cell? ⟨K.cb, 2, none⟩ = some (.int .i64 0)
  c3 : w.cell? ⟨K.cb, 3, none⟩ = some (.int .i64 (K.ag : Int))
  p0 : w.cell? ⟨K.pb, 0, none⟩ = some (.string bP)
  p1 : w.cell? ⟨K.pb, 1, none⟩ = some (.int .i64 (K.cl : Int))
  p2 : w.cell? ⟨K.pb, 2, none⟩ = some (.slice (some ⟨K.db, 0, none⟩) 1 1)
  d0 : w.cell? ⟨K.db, 0, none⟩ = some (.int .i64 0)
  g : ∀ j, j < K.n → w.cell? ⟨K.gb, j * 6, none⟩ = some (.string (dname j)) ∧ w.cell? ⟨K.gb, j * 6 + 1, none⟩ = some (.int .i64 (1 + j : Nat)) ∧
    w.cell? ⟨K.gb, j * 6 + 2, none⟩ = some (.int .i64 (j * j : Nat)) ∧ w.cell? ⟨K.gb, j * 6 + 3, none⟩ = some (.int .i64 0) ∧
    w.cell? ⟨K.gb, j * 6 + 4, none⟩ = some (.int .i64 (K.lat j : Nat)) ∧ w.cell? ⟨K.gb, j * 6 + 5, none⟩ = some (.bool false)

theorem CampAt.mono {w w' : World} {K : Camp} {B : Nat} (h : CampAt w K) (hb : Below B w w') (hB : w.heap.size ≤ B) : CampAt w' K := by
  have hc : ∀ b o, b < w.heap.size → w'.cell? ⟨b, o, none⟩ = w.cell? ⟨b, o, none⟩ := fun b o hlt => hb.cell (p := ⟨b, o, none⟩) (Nat.lt_of_lt_of_le hlt hB)
  have hs : w.heap.size ≤ w'.heap.size := hb.size
  exact { n1 := h.n1, n6 := h.n6, ag1 := h.ag1, ag20 := h.ag20, cl19 := h.cl19, late := h.late
          lc := Nat.lt_of_lt_of_le h.lc hs, lp := Nat.lt_of_lt_of_le h.lp hs, ld := Nat.lt_of_lt_of_le h.ld hs, lg := Nat.lt_of_lt_of_le h.lg hs
          c0 := (hc _ _ h.lc).trans h.c0, c1 := (hc _ _ h.lc).trans h.c1, c2 := (hc _ _ h.lc).trans h.c2, c3 := (hc _ _ h.lc).trans h.c3
          p0 := (hc _ _ h.lp).trans h.p0, p1 := (hc _ _ h.lp).trans h.p1, p2 := (hc _ _ h.lp).trans h.p2
          d0 := (hc _ _ h.ld).trans h.d0
          g := fun j hj => by
            simp only [hc _ _ h.lg]
            exact h.g j hj }
theorem CampAt.below {w w' : World} {K : Camp} (h : CampAt w K) (hb : Below w.heap.size w w') : CampAt w' K := h.mono hb (Nat.le_refl _)

/-! ### The names -/
theorem name58 (nm : ByteArray) (a b c : Value) (w : World) : Calls Tryd.prog 58 #[.agg #[.string nm, a, b, c]] w fun e w' => e = .returned (.string nm) ∧ Below w.heap.size w w' := by
  go_enter Tryd.func58, Tryd.ntmps58
  go_wp2
  go_ret
  exact ⟨rfl, (Below.refl _ _).alloc (Nat.le_refl _) _⟩
theorem name60 (nm : ByteArray) (a b : Value) (w : World) : Calls Tryd.prog 60 #[.agg #[.string nm, a, b]] w fun e w' => e = .returned (.string nm) ∧ Below w.heap.size w w' := by
  go_enter Tryd.func60, Tryd.ntmps60
  go_wp2
  go_ret
  exact ⟨rfl, (Below.refl _ _).alloc (Nat.le_refl _) _⟩
theorem name62 (nm : ByteArray) (a b c d f : Value) (w : World) : Calls Tryd.prog 62 #[.agg #[.string nm, a, b, c, d, f]] w fun e w' => e = .returned (.string nm) ∧ Below w.heap.size w w' := by
  go_enter Tryd.func62, Tryd.ntmps62
  go_wp2
  go_ret
  exact ⟨rfl, (Below.refl _ _).alloc (Nat.le_refl _) _⟩
/-! ### named -/
def nmC (_ : Nat) : ByteArray := bC
def nmP (_ : Nat) : ByteArray := bP

theorem named57 (K : Camp) (w : World) (h : CampAt w K) : Calls Tryd.prog 57 #[.slice (some ⟨K.cb, 0, none⟩) 1 1, .int .i64 3, .func (.func 58) #[] #[]] w fun e w' => e = .returned (.bool true) ∧ Below w.heap.size w w' := by
  have hn1 := h.n1
  have hn6 := h.n6
  have hlb := h.lc
  go_enter Tryd.func57, Tryd.ntmps57
  have hmm := @run_makeMap Tryd.prog
  go_wp2
  go_loopw [9, 10, 14] (fun _ _ i wr => ∃ k : Nat, k ≤ 1 ∧ i = .int .i64 (k : Int) ∧ Below w.heap.size w wr ∧ MapIs wr w.heap.size (setKV ((List.range k).map nmC))) (fun _ _ i _ => 1 - (intOf i).toNat)
  case atStart => exact ⟨0, Nat.zero_le _, rfl, (Below.refl _ _).alloc (Nat.le_refl _) _, MapIs.made w⟩
  case round =>
    obtain ⟨k, hk, rfl, hb, hM⟩ := hrel
    by_cases hlt : k < 1
    · have hc : ∀ o, wr.cell? ⟨K.cb, o, none⟩ = w.cell? ⟨K.cb, o, none⟩ := fun o => hb.cell (p := ⟨K.cb, o, none⟩) hlb
      obtain rfl : k = 0 := by omega
      have c0 : wr.cell? ⟨K.cb, 0, none⟩ = some (.string (nmC 0)) := (hc 0).trans h.c0
      have c1 := (hc 1).trans h.c1
      have c2 := (hc 2).trans h.c2
      have c3 := (hc 3).trans h.c3
      have hnew : nmC 0 ∉ (List.range 0).map nmC := by
        intro hin
        obtain ⟨j, hj, _⟩ := List.mem_map.1 hin
        have := List.mem_range.1 hj
        omega
      have hsz : w.heap.size < wr.heap.size := hM.lt
      have HN := Lib.hid hnew
      have hsn : 1 ≤ (nmC 0).size ∧ (nmC 0).size ≤ 32 := by exact ⟨by decide, by decide⟩
      generalize hnm : nmC 0 = nm at *
      have HNM := Lib.hid hnm
      clear hc hnew hnm
      go_wp2_with (first
        | (refine (name58 _ _ _ _ _).mono ?_
           rintro e w2 ⟨rfl, hb2⟩
           have hM2 : MapIs w2 w.heap.size (setKV ((List.range 0).map nmC)) := (hM.alloc _).of_block (hb2.block w.heap.size (by simp; omega))
           have hlook : (Instr.lookup 126 (.map (some w.heap.size)) (.string nm) false).run Tryd.prog w2 = .ok (.bool false) w2 := by
             rw [run_lookup_set Tryd.underlying126 Tryd.underlying9 (Tryd.zeroValue4 _) hM2 nm, decide_eq_false HN.out]
           obtain ⟨w3, hup, hM3, o3, ho3⟩ := run_mapUpdate_set (P := Tryd.prog) (T := 126) (E := 4) Tryd.underlying126 Tryd.underlying9 hM2 nm HN.out
           have HO := Lib.hid ho3
           have HM3 := Lib.hid hM3
           clear hM2 ho3 hM3)
        | (refine (withinC_yes _ _ _ _ (by omega) (by omega)).mono ?_; rintro e w' ⟨rfl, rfl⟩))
      go_roundw
      case rel =>
        refine ⟨0 + 1, by omega, by go_num, ?_, ?_⟩
        · rw [HO.out]; exact below_putObj ((hb.alloc hb.size _).trans (hb2.mono (by simp; omega))) (Nat.le_refl _) _
        · have := HM3.out
          rw [List.range_succ, List.map_append, List.map_singleton, HNM.out]; exact this
      case measure => simp [intOf] <;> omega
    · go_wp2_with (refine (withinC_yes _ _ _ _ (by omega) (by omega)).mono ?_; rintro e w' ⟨rfl, rfl⟩)
      go_ret
      exact ⟨rfl, hb⟩

theorem named59 (K : Camp) (w : World) (h : CampAt w K) : Calls Tryd.prog 59 #[.slice (some ⟨K.pb, 0, none⟩) 1 1, .int .i64 2, .func (.func 60) #[] #[]] w fun e w' => e = .returned (.bool true) ∧ Below w.heap.size w w' := by
  have hn1 := h.n1
  have hn6 := h.n6
  have hlb := h.lp
  go_enter Tryd.func59, Tryd.ntmps59
  have hmm := @run_makeMap Tryd.prog
  go_wp2
  go_loopw [9, 10, 14] (fun _ _ i wr => ∃ k : Nat, k ≤ 1 ∧ i = .int .i64 (k : Int) ∧ Below w.heap.size w wr ∧ MapIs wr w.heap.size (setKV ((List.range k).map nmP))) (fun _ _ i _ => 1 - (intOf i).toNat)
  case atStart => exact ⟨0, Nat.zero_le _, rfl, (Below.refl _ _).alloc (Nat.le_refl _) _, MapIs.made w⟩
  case round =>
    obtain ⟨k, hk, rfl, hb, hM⟩ := hrel
    by_cases hlt : k < 1
    · have hc : ∀ o, wr.cell? ⟨K.pb, o, none⟩ = w.cell? ⟨K.pb, o, none⟩ := fun o => hb.cell (p := ⟨K.pb, o, none⟩) hlb
      obtain rfl : k = 0 := by omega
      have c0 : wr.cell? ⟨K.pb, 0, none⟩ = some (.string (nmP 0)) := (hc 0).trans h.p0
      have c1 := (hc 1).trans h.p1
      have c2 := (hc 2).trans h.p2
      have hnew : nmP 0 ∉ (List.range 0).map nmP := by
        intro hin
        obtain ⟨j, hj, _⟩ := List.mem_map.1 hin
        have := List.mem_range.1 hj
        omega
      have hsz : w.heap.size < wr.heap.size := hM.lt
      have HN := Lib.hid hnew
      have hsn : 1 ≤ (nmP 0).size ∧ (nmP 0).size ≤ 32 := by exact ⟨by decide, by decide⟩
      generalize hnm : nmP 0 = nm at *
      have HNM := Lib.hid hnm
      clear hc hnew hnm
      go_wp2_with (first
        | (refine (name60 _ _ _ _).mono ?_
           rintro e w2 ⟨rfl, hb2⟩
           have hM2 : MapIs w2 w.heap.size (setKV ((List.range 0).map nmP)) := (hM.alloc _).of_block (hb2.block w.heap.size (by simp; omega))
           have hlook : (Instr.lookup 126 (.map (some w.heap.size)) (.string nm) false).run Tryd.prog w2 = .ok (.bool false) w2 := by
             rw [run_lookup_set Tryd.underlying126 Tryd.underlying9 (Tryd.zeroValue4 _) hM2 nm, decide_eq_false HN.out]
           obtain ⟨w3, hup, hM3, o3, ho3⟩ := run_mapUpdate_set (P := Tryd.prog) (T := 126) (E := 4) Tryd.underlying126 Tryd.underlying9 hM2 nm HN.out
           have HO := Lib.hid ho3
           have HM3 := Lib.hid hM3
           clear hM2 ho3 hM3)
        | (refine (withinC_yes _ _ _ _ (by omega) (by omega)).mono ?_; rintro e w' ⟨rfl, rfl⟩))
      go_roundw
      case rel =>
        refine ⟨0 + 1, by omega, by go_num, ?_, ?_⟩
        · rw [HO.out]; exact below_putObj ((hb.alloc hb.size _).trans (hb2.mono (by simp; omega))) (Nat.le_refl _) _
        · have := HM3.out
          rw [List.range_succ, List.map_append, List.map_singleton, HNM.out]; exact this
      case measure => simp [intOf] <;> omega
    · go_wp2_with (refine (withinC_yes _ _ _ _ (by omega) (by omega)).mono ?_; rintro e w' ⟨rfl, rfl⟩)
      go_ret
      exact ⟨rfl, hb⟩

theorem named61 (K : Camp) (w : World) (h : CampAt w K) : Calls Tryd.prog 61 #[.slice (some ⟨K.gb, 0, none⟩) K.n K.gcap, .int .i64 6, .func (.func 62) #[] #[]] w fun e w' => e = .returned (.bool true) ∧ Below w.heap.size w w' := by
  have hn1 := h.n1
  have hn6 := h.n6
  have hlb := h.lg
  go_enter Tryd.func61, Tryd.ntmps61
  have hmm := @run_makeMap Tryd.prog
  go_wp2
  go_loopw [9, 10, 14] (fun _ _ i wr => ∃ k : Nat, k ≤ K.n ∧ i = .int .i64 (k : Int) ∧ Below w.heap.size w wr ∧ MapIs wr w.heap.size (setKV ((List.range k).map dname))) (fun _ _ i _ => K.n - (intOf i).toNat)
  case atStart => exact ⟨0, Nat.zero_le _, rfl, (Below.refl _ _).alloc (Nat.le_refl _) _, MapIs.made w⟩
  case round =>
    obtain ⟨k, hk, rfl, hb, hM⟩ := hrel
    by_cases hlt : k < K.n
    · have hc : ∀ o, wr.cell? ⟨K.gb, o, none⟩ = w.cell? ⟨K.gb, o, none⟩ := fun o => hb.cell (p := ⟨K.gb, o, none⟩) hlb
      obtain ⟨c0, c1, c2, c3, c4, c5⟩ := h.g k hlt
      rw [← hc] at c0 c1 c2 c3 c4 c5
      have hnew : dname k ∉ (List.range k).map dname := by
        intro hin
        obtain ⟨j, hj, he⟩ := List.mem_map.1 hin
        have := List.mem_range.1 hj
        have := dname_inj (by omega) (by omega) he
        omega
      have hsz : w.heap.size < wr.heap.size := hM.lt
      have HN := Lib.hid hnew
      have hsn : 1 ≤ (dname k).size ∧ (dname k).size ≤ 32 := by rw [dname_size]; omega
      generalize hnm : dname k = nm at *
      have HNM := Lib.hid hnm
      clear hc hnew hnm
      go_wp2_with (first
        | (refine (name62 _ _ _ _ _ _ _).mono ?_
           rintro e w2 ⟨rfl, hb2⟩
           have hM2 : MapIs w2 w.heap.size (setKV ((List.range k).map dname)) := (hM.alloc _).of_block (hb2.block w.heap.size (by simp; omega))
           have hlook : (Instr.lookup 126 (.map (some w.heap.size)) (.string nm) false).run Tryd.prog w2 = .ok (.bool false) w2 := by
             rw [run_lookup_set Tryd.underlying126 Tryd.underlying9 (Tryd.zeroValue4 _) hM2 nm, decide_eq_false HN.out]
           obtain ⟨w3, hup, hM3, o3, ho3⟩ := run_mapUpdate_set (P := Tryd.prog) (T := 126) (E := 4) Tryd.underlying126 Tryd.underlying9 hM2 nm HN.out
           have HO := Lib.hid ho3
           have HM3 := Lib.hid hM3
           clear hM2 ho3 hM3)
        | (refine (withinC_yes _ _ _ _ (by omega) (by omega)).mono ?_; rintro e w' ⟨rfl, rfl⟩))
      go_roundw
      case rel =>
        refine ⟨k + 1, by omega, by go_num, ?_, ?_⟩
        · rw [HO.out]; exact below_putObj ((hb.alloc hb.size _).trans (hb2.mono (by simp; omega))) (Nat.le_refl _) _
        · have := HM3.out
          rw [List.range_succ, List.map_append, List.map_singleton, HNM.out]; exact this
      case measure => simp [intOf] <;> omega
    · go_wp2_with (refine (withinC_yes _ _ _ _ (by omega) (by omega)).mono ?_; rintro e w' ⟨rfl, rfl⟩)
      go_ret
      exact ⟨rfl, hb⟩

/-! ### all -/
theorem is63 (nm : ByteArray) (ag : Nat) (ha : ag ≤ 20) (w : World) : Calls Tryd.prog 63 #[.agg #[.string nm, .int .i64 9, .int .i64 0, .int .i64 (ag : Int)]] w fun e w' => e = .returned (.bool true) ∧ Below w.heap.size w w' := by
  go_enter Tryd.func63, Tryd.ntmps63
  go_wp2_with (refine (withinC_yes _ _ _ _ (by omega) (by omega)).mono ?_; rintro e w' ⟨rfl, rfl⟩)
  go_ret
  exact ⟨rfl, (Below.refl _ _).alloc (Nat.le_refl _) _⟩
theorem is64 (nm : ByteArray) (cl db cb cx : Nat) (hcl : cl ≤ 20) (w : World) (hd : w.cell? ⟨db, 0, none⟩ = some (.int .i64 0)) (ld : db < w.heap.size) (hx : w.cell? ⟨cx, 0, none⟩ = some (.slice (some ⟨cb, 0, none⟩) 1 1)) (lx : cx < w.heap.size) :
    Calls Tryd.prog 64 #[.agg #[.string nm, .int .i64 (cl : Int), .slice (some ⟨db, 0, none⟩) 1 1], .pointer (some ⟨cx, 0, none⟩)] w fun e w' => e = .returned (.bool true) ∧ Below w.heap.size w w' := by
  go_enter Tryd.func64, Tryd.ntmps64
  have hb : ∀ o, Below w.heap.size w (w.alloc o) := fun o => (Below.refl _ _).alloc (Nat.le_refl _) _
  have hx' : ∀ o, (w.alloc o).cell? ⟨cx, 0, none⟩ = some (.slice (some ⟨cb, 0, none⟩) 1 1) := fun o => ((hb o).cell (p := ⟨cx, 0, none⟩) lx).trans hx
  have hd' : ∀ o, (w.alloc o).cell? ⟨db, 0, none⟩ = some (.int .i64 ((0 : Nat) : Int)) := fun o => ((hb o).cell (p := ⟨db, 0, none⟩) ld).trans hd
  go_wp2_with (first
    | (refine (withinC_yes _ _ _ _ (by omega) (by omega)).mono ?_; rintro e w' ⟨rfl, rfl⟩)
    | (refine (rising_one db 1 0 1 _ (by omega) (by omega) (hd' _)).mono ?_; rintro e w' ⟨rfl, rfl⟩))
  go_ret
  exact ⟨rfl, (Below.refl _ _).alloc (Nat.le_refl _) _⟩
theorem is66 (nm : ByteArray) (m v lat : Nat) (x : Value) (hm : m ≤ 100) (hv : v ≤ 100) (hl : lat ≤ 1000) (w : World) :
    Calls Tryd.prog 66 #[.agg #[.string nm, .int .i64 (m : Int), .int .i64 (v : Int), .int .i64 0, .int .i64 (lat : Int), x]] w fun e w' => e = .returned (.bool true) ∧ Below w.heap.size w w' := by
  go_enter Tryd.func66, Tryd.ntmps66
  go_wp2_with (refine (withinC_yes _ _ _ _ (by omega) (by omega)).mono ?_; rintro e w' ⟨rfl, rfl⟩)
  go_ret
  exact ⟨ret_bool (by simp; omega), (Below.refl _ _).alloc (Nat.le_refl _) _⟩

theorem not106 (bx : Nat) (K : Camp) (w : World) (h : CampAt w K)  (hbx : w.cell? ⟨bx, 0, none⟩ = some (.func (.func 63) #[] #[])) (lbx : bx < w.heap.size)  :
    Calls Tryd.prog 106 #[.agg #[.string bC, .int .i64 9, .int .i64 0, .int .i64 (K.ag : Int)], .pointer (some ⟨bx, 0, none⟩)] w fun e w' => e = .returned (.bool false) ∧ Below w.heap.size w w' := by
  have hcl := h.cl19
  have hag := h.ag20
  have hn6 := h.n6
  have hlate := h.late
  have hb : ∀ o, Below w.heap.size w (w.alloc o) := fun o => (Below.refl _ _).alloc (Nat.le_refl _) _
  have hbx' : ∀ o, (w.alloc o).cell? ⟨bx, 0, none⟩ = some (.func (.func 63) #[] #[]) := fun o => ((hb o).cell (p := ⟨bx, 0, none⟩) lbx).trans hbx
  go_enter Tryd.func106, Tryd.ntmps106
  go_wp2_with (refine (is63 _ _ hag _).mono ?_; rintro e w2 ⟨rfl, hb2⟩)
  go_ret
  exact ⟨rfl, (hb _).trans (hb2.mono (by simp))⟩
theorem idx128 (bx : Nat) (K : Camp) (w : World) (h : CampAt w K)  (hbx : w.cell? ⟨bx, 0, none⟩ = some (.func (.func 63) #[] #[])) (lbx : bx < w.heap.size) :
    Calls Tryd.prog 128 #[.slice (some ⟨K.cb, 0, none⟩) 1 1, .func (.func 106) #[] #[.pointer (some ⟨bx, 0, none⟩)]] w fun e w' => e = .returned (.int .i64 (-1)) ∧ Below w.heap.size w w' := by
  have hn6 := h.n6
  have hlb := h.lc
  go_enter Tryd.func128, Tryd.ntmps128
  go_wp2
  go_loopw [5, 8] (fun _ i wr => ∃ k : Nat, k ≤ 1 ∧ i = .int .i64 (k : Int) ∧ Below w.heap.size w wr) (fun _ i _ => 1 - (intOf i).toNat)
  case atStart => exact ⟨0, Nat.zero_le _, rfl, Below.refl _ _⟩
  case round =>
    obtain ⟨k, hk, rfl, hb⟩ := hrel
    by_cases hlt : k < 1
    · have hc : ∀ o, wr.cell? ⟨K.cb, o, none⟩ = w.cell? ⟨K.cb, o, none⟩ := fun o => hb.cell (p := ⟨K.cb, o, none⟩) hlb
      obtain rfl : k = 0 := by omega
      have c0 := (hc 0).trans h.c0
      have c1 := (hc 1).trans h.c1
      have c2 := (hc 2).trans h.c2
      have c3 := (hc 3).trans h.c3
      have hbx' := (hb.cell (p := ⟨bx, 0, none⟩) lbx).trans hbx
      have lbx' := Nat.lt_of_lt_of_le lbx hb.size
      have hK := h.below hb
      clear hc
      go_wp2_with (refine (not106 bx K wr hK  hbx' lbx' ).mono ?_; rintro e w2 ⟨rfl, hb2⟩)
      go_roundw
      case rel => exact ⟨0 + 1, by omega, by go_num, hb.trans (hb2.mono hb.size)⟩
      case measure => simp [intOf] <;> omega
    · go_wp2
      go_ret
      exact ⟨rfl, hb⟩
theorem has105 (bx : Nat) (K : Camp) (w : World) (h : CampAt w K)  (hbx : w.cell? ⟨bx, 0, none⟩ = some (.func (.func 63) #[] #[])) (lbx : bx < w.heap.size) :
    Calls Tryd.prog 105 #[.slice (some ⟨K.cb, 0, none⟩) 1 1, .func (.func 106) #[] #[.pointer (some ⟨bx, 0, none⟩)]] w fun e w' => e = .returned (.bool false) ∧ Below w.heap.size w w' := by
  go_enter Tryd.func105, Tryd.ntmps105
  go_wp2_with (refine (idx128 bx K w h  hbx lbx).mono ?_; rintro e w2 ⟨rfl, hb2⟩)
  go_ret
  exact ⟨rfl, hb2⟩
theorem all67 (K : Camp) (w : World) (h : CampAt w K)  :
    Calls Tryd.prog 67 #[.slice (some ⟨K.cb, 0, none⟩) 1 1, (.func (.func 63) #[] #[])] w fun e w' => e = .returned (.bool true) ∧ Below w.heap.size w w' := by
  have hb : ∀ o, Below w.heap.size w (w.alloc o) := fun o => (Below.refl _ _).alloc (Nat.le_refl _) _
  go_enter Tryd.func67, Tryd.ntmps67
  go_wp2_with (refine (has105 w.heap.size K _ (h.below (hb _))  ((Blk.new _ _ _).cell 0 rfl) (by simp)).mono ?_; rintro e w2 ⟨rfl, hb2⟩)
  go_ret
  exact ⟨rfl, (hb _).trans (hb2.mono (by simp))⟩

theorem not108 (bx : Nat) (K : Camp) (w : World) (h : CampAt w K) (cx : Nat) (hx : w.cell? ⟨cx, 0, none⟩ = some (.slice (some ⟨K.cb, 0, none⟩) 1 1)) (lx : cx < w.heap.size) (hbx : w.cell? ⟨bx, 0, none⟩ = some (.func (.func 64) #[] #[.pointer (some ⟨cx, 0, none⟩)])) (lbx : bx < w.heap.size)  :
    Calls Tryd.prog 108 #[.agg #[.string bP, .int .i64 (K.cl : Int), .slice (some ⟨K.db, 0, none⟩) 1 1], .pointer (some ⟨bx, 0, none⟩)] w fun e w' => e = .returned (.bool false) ∧ Below w.heap.size w w' := by
  have hcl := h.cl19
  have hag := h.ag20
  have hn6 := h.n6
  have hlate := h.late
  have hb : ∀ o, Below w.heap.size w (w.alloc o) := fun o => (Below.refl _ _).alloc (Nat.le_refl _) _
  have hbx' : ∀ o, (w.alloc o).cell? ⟨bx, 0, none⟩ = some (.func (.func 64) #[] #[.pointer (some ⟨cx, 0, none⟩)]) := fun o => ((hb o).cell (p := ⟨bx, 0, none⟩) lbx).trans hbx
  go_enter Tryd.func108, Tryd.ntmps108
  go_wp2_with (refine (is64 _ _ _ _ _ (by omega) _ ((h.below (hb _)).d0) ((h.below (hb _)).ld) (((hb _).cell (p := ⟨cx, 0, none⟩) lx).trans hx) (Nat.lt_of_lt_of_le lx (hb _).size)).mono ?_; rintro e w2 ⟨rfl, hb2⟩)
  go_ret
  exact ⟨rfl, (hb _).trans (hb2.mono (by simp))⟩
theorem idx129 (bx : Nat) (K : Camp) (w : World) (h : CampAt w K) (cx : Nat) (hx : w.cell? ⟨cx, 0, none⟩ = some (.slice (some ⟨K.cb, 0, none⟩) 1 1)) (lx : cx < w.heap.size) (hbx : w.cell? ⟨bx, 0, none⟩ = some (.func (.func 64) #[] #[.pointer (some ⟨cx, 0, none⟩)])) (lbx : bx < w.heap.size) :
    Calls Tryd.prog 129 #[.slice (some ⟨K.pb, 0, none⟩) 1 1, .func (.func 108) #[] #[.pointer (some ⟨bx, 0, none⟩)]] w fun e w' => e = .returned (.int .i64 (-1)) ∧ Below w.heap.size w w' := by
  have hn6 := h.n6
  have hlb := h.lp
  go_enter Tryd.func129, Tryd.ntmps129
  go_wp2
  go_loopw [5, 8] (fun _ i wr => ∃ k : Nat, k ≤ 1 ∧ i = .int .i64 (k : Int) ∧ Below w.heap.size w wr) (fun _ i _ => 1 - (intOf i).toNat)
  case atStart => exact ⟨0, Nat.zero_le _, rfl, Below.refl _ _⟩
  case round =>
    obtain ⟨k, hk, rfl, hb⟩ := hrel
    by_cases hlt : k < 1
    · have hc : ∀ o, wr.cell? ⟨K.pb, o, none⟩ = w.cell? ⟨K.pb, o, none⟩ := fun o => hb.cell (p := ⟨K.pb, o, none⟩) hlb
      obtain rfl : k = 0 := by omega
      have c0 := (hc 0).trans h.p0
      have c1 := (hc 1).trans h.p1
      have c2 := (hc 2).trans h.p2
      have hbx' := (hb.cell (p := ⟨bx, 0, none⟩) lbx).trans hbx
      have lbx' := Nat.lt_of_lt_of_le lbx hb.size
      have hK := h.below hb
      have hx' := (hb.cell (p := ⟨cx, 0, none⟩) lx).trans hx
      have lx' := Nat.lt_of_lt_of_le lx hb.size
      clear hc
      go_wp2_with (refine (not108 bx K wr hK cx hx' lx' hbx' lbx' ).mono ?_; rintro e w2 ⟨rfl, hb2⟩)
      go_roundw
      case rel => exact ⟨0 + 1, by omega, by go_num, hb.trans (hb2.mono hb.size)⟩
      case measure => simp [intOf] <;> omega
    · go_wp2
      go_ret
      exact ⟨rfl, hb⟩
theorem has107 (bx : Nat) (K : Camp) (w : World) (h : CampAt w K) (cx : Nat) (hx : w.cell? ⟨cx, 0, none⟩ = some (.slice (some ⟨K.cb, 0, none⟩) 1 1)) (lx : cx < w.heap.size) (hbx : w.cell? ⟨bx, 0, none⟩ = some (.func (.func 64) #[] #[.pointer (some ⟨cx, 0, none⟩)])) (lbx : bx < w.heap.size) :
    Calls Tryd.prog 107 #[.slice (some ⟨K.pb, 0, none⟩) 1 1, .func (.func 108) #[] #[.pointer (some ⟨bx, 0, none⟩)]] w fun e w' => e = .returned (.bool false) ∧ Below w.heap.size w w' := by
  go_enter Tryd.func107, Tryd.ntmps107
  go_wp2_with (refine (idx129 bx K w h cx hx lx hbx lbx).mono ?_; rintro e w2 ⟨rfl, hb2⟩)
  go_ret
  exact ⟨rfl, hb2⟩
theorem all68 (K : Camp) (w : World) (h : CampAt w K) (cx : Nat) (hx : w.cell? ⟨cx, 0, none⟩ = some (.slice (some ⟨K.cb, 0, none⟩) 1 1)) (lx : cx < w.heap.size) :
    Calls Tryd.prog 68 #[.slice (some ⟨K.pb, 0, none⟩) 1 1, (.func (.func 64) #[] #[.pointer (some ⟨cx, 0, none⟩)])] w fun e w' => e = .returned (.bool true) ∧ Below w.heap.size w w' := by
  have hb : ∀ o, Below w.heap.size w (w.alloc o) := fun o => (Below.refl _ _).alloc (Nat.le_refl _) _
  go_enter Tryd.func68, Tryd.ntmps68
  go_wp2_with (refine (has107 w.heap.size K _ (h.below (hb _)) cx (((hb _).cell (p := ⟨cx, 0, none⟩) lx).trans hx) (Nat.lt_of_lt_of_le lx (hb _).size) ((Blk.new _ _ _).cell 0 rfl) (by simp)).mono ?_; rintro e w2 ⟨rfl, hb2⟩)
  go_ret
  exact ⟨rfl, (hb _).trans (hb2.mono (by simp))⟩

theorem not110 (bx : Nat) (K : Camp) (w : World) (h : CampAt w K)  (hbx : w.cell? ⟨bx, 0, none⟩ = some (.func (.func 66) #[] #[])) (lbx : bx < w.heap.size) (nm : ByteArray) (m v lat : Nat) (hm : m ≤ 100) (hv : v ≤ 100) (hl : lat ≤ 1000) :
    Calls Tryd.prog 110 #[.agg #[.string nm, .int .i64 (m : Int), .int .i64 (v : Int), .int .i64 0, .int .i64 (lat : Int), .bool false], .pointer (some ⟨bx, 0, none⟩)] w fun e w' => e = .returned (.bool false) ∧ Below w.heap.size w w' := by
  have hcl := h.cl19
  have hag := h.ag20
  have hn6 := h.n6
  have hlate := h.late
  have hb : ∀ o, Below w.heap.size w (w.alloc o) := fun o => (Below.refl _ _).alloc (Nat.le_refl _) _
  have hbx' : ∀ o, (w.alloc o).cell? ⟨bx, 0, none⟩ = some (.func (.func 66) #[] #[]) := fun o => ((hb o).cell (p := ⟨bx, 0, none⟩) lbx).trans hbx
  go_enter Tryd.func110, Tryd.ntmps110
  go_wp2_with (refine (is66 nm m v lat _ hm hv hl _).mono ?_; rintro e w2 ⟨rfl, hb2⟩)
  go_ret
  exact ⟨rfl, (hb _).trans (hb2.mono (by simp))⟩
theorem idx130 (bx : Nat) (K : Camp) (w : World) (h : CampAt w K)  (hbx : w.cell? ⟨bx, 0, none⟩ = some (.func (.func 66) #[] #[])) (lbx : bx < w.heap.size) :
    Calls Tryd.prog 130 #[.slice (some ⟨K.gb, 0, none⟩) K.n K.gcap, .func (.func 110) #[] #[.pointer (some ⟨bx, 0, none⟩)]] w fun e w' => e = .returned (.int .i64 (-1)) ∧ Below w.heap.size w w' := by
  have hn6 := h.n6
  have hlb := h.lg
  go_enter Tryd.func130, Tryd.ntmps130
  go_wp2
  go_loopw [5, 8] (fun _ i wr => ∃ k : Nat, k ≤ K.n ∧ i = .int .i64 (k : Int) ∧ Below w.heap.size w wr) (fun _ i _ => K.n - (intOf i).toNat)
  case atStart => exact ⟨0, Nat.zero_le _, rfl, Below.refl _ _⟩
  case round =>
    obtain ⟨k, hk, rfl, hb⟩ := hrel
    by_cases hlt : k < K.n
    · have hc : ∀ o, wr.cell? ⟨K.gb, o, none⟩ = w.cell? ⟨K.gb, o, none⟩ := fun o => hb.cell (p := ⟨K.gb, o, none⟩) hlb
      obtain ⟨c0, c1, c2, c3, c4, c5⟩ := h.g k hlt
      rw [← hc] at c0 c1 c2 c3 c4 c5
      have hv : k * k ≤ 5 * 5 := Nat.mul_le_mul (by omega) (by omega)
      have hm : 1 + k ≤ 100 := by omega
      have hl := h.late k hlt
      generalize 1 + k = m at c1 hm
      generalize k * k = v at c2 hv
      generalize K.lat k = lat at c4 hl
      generalize dname k = nm at c0
      have hbx' := (hb.cell (p := ⟨bx, 0, none⟩) lbx).trans hbx
      have lbx' := Nat.lt_of_lt_of_le lbx hb.size
      have hK := h.below hb
      clear hc
      go_wp2_with (refine (not110 bx K wr hK  hbx' lbx' nm m v lat hm (by omega) hl).mono ?_; rintro e w2 ⟨rfl, hb2⟩)
      go_roundw
      case rel => exact ⟨k + 1, by omega, by go_num, hb.trans (hb2.mono hb.size)⟩
      case measure => simp [intOf] <;> omega
    · go_wp2
      go_ret
      exact ⟨rfl, hb⟩
theorem has109 (bx : Nat) (K : Camp) (w : World) (h : CampAt w K)  (hbx : w.cell? ⟨bx, 0, none⟩ = some (.func (.func 66) #[] #[])) (lbx : bx < w.heap.size) :
    Calls Tryd.prog 109 #[.slice (some ⟨K.gb, 0, none⟩) K.n K.gcap, .func (.func 110) #[] #[.pointer (some ⟨bx, 0, none⟩)]] w fun e w' => e = .returned (.bool false) ∧ Below w.heap.size w w' := by
  go_enter Tryd.func109, Tryd.ntmps109
  go_wp2_with (refine (idx130 bx K w h  hbx lbx).mono ?_; rintro e w2 ⟨rfl, hb2⟩)
  go_ret
  exact ⟨rfl, hb2⟩
theorem all69 (K : Camp) (w : World) (h : CampAt w K)  :
    Calls Tryd.prog 69 #[.slice (some ⟨K.gb, 0, none⟩) K.n K.gcap, (.func (.func 66) #[] #[])] w fun e w' => e = .returned (.bool true) ∧ Below w.heap.size w w' := by
  have hb : ∀ o, Below w.heap.size w (w.alloc o) := fun o => (Below.refl _ _).alloc (Nat.le_refl _) _
  go_enter Tryd.func69, Tryd.ntmps69
  go_wp2_with (refine (has109 w.heap.size K _ (h.below (hb _))  ((Blk.new _ _ _).cell 0 rfl) (by simp)).mono ?_; rintro e w2 ⟨rfl, hb2⟩)
  go_ret
  exact ⟨rfl, (hb _).trans (hb2.mono (by simp))⟩

/-! ### The campaign in a box -/
def Camp.cells (K : Camp) : Array Value := #[.slice (some ⟨K.cb, 0, none⟩) 1 1, .slice (some ⟨K.pb, 0, none⟩) 1 1, .slice (some ⟨K.gb, 0, none⟩) K.n K.gcap, .int .i64 0]
/-- The call's own copy of the campaign lies in block B. -/
structure BoxAt (w0 W : World) (K : Camp) (B : Nat) : Prop where
  camp : CampAt W K
  blk : Blk W B K.cells 46
  below : Below w0.heap.size w0 W
  old : w0.heap.size ≤ B
theorem BoxAt.new {w : World} {K : Camp} (h : CampAt w K) : BoxAt w (w.alloc (.cells #[.slice (some ⟨K.cb, 0, none⟩) 1 1, .slice (some ⟨K.pb, 0, none⟩) 1 1, .slice (some ⟨K.gb, 0, none⟩) K.n K.gcap, .int .i64 0] 46)) K w.heap.size where
  camp := h.below ((Below.refl _ _).alloc (Nat.le_refl _) _)
  blk := Blk.new w _ 46
  below := (Below.refl _ _).alloc (Nat.le_refl _) _
  old := Nat.le_refl _
section
variable {w0 W W' : World} {K : Camp} {B : Nat}
theorem BoxAt.lt (h : BoxAt w0 W K B) : B < W.heap.size := h.blk.lt
theorem BoxAt.step (h : BoxAt w0 W K B) (hb : Below W.heap.size W W') : BoxAt w0 W' K B where
  camp := h.camp.below hb
  blk := h.blk.below hb h.lt
  below := h.below.trans (hb.mono h.below.size)
  old := h.old
theorem BoxAt.alloc (h : BoxAt w0 W K B) (o : Obj) : BoxAt w0 (W.alloc o) K B := h.step ((Below.refl _ _).alloc (Nat.le_refl _) _)
theorem BoxAt.drew (h : BoxAt w0 W K B) : BoxAt w0 W.drew K B := h.step ((Below.refl _ _).drew)
theorem BoxAt.c0 (h : BoxAt w0 W K B) : W.cell? ⟨B, 0, none⟩ = some (.slice (some ⟨K.cb, 0, none⟩) 1 1) := h.blk.cell 0 rfl
theorem BoxAt.c1 (h : BoxAt w0 W K B) : W.cell? ⟨B, 1, none⟩ = some (.slice (some ⟨K.pb, 0, none⟩) 1 1) := h.blk.cell 1 rfl
theorem BoxAt.c2 (h : BoxAt w0 W K B) : W.cell? ⟨B, 2, none⟩ = some (.slice (some ⟨K.gb, 0, none⟩) K.n K.gcap) := h.blk.cell 2 rfl
theorem BoxAt.c3 (h : BoxAt w0 W K B) : W.cell? ⟨B, 3, none⟩ = some (.int .i64 0) := h.blk.cell 3 rfl
end

theorem Check_any (K : Camp) (w : World) (h : CampAt w K) : Calls Tryd.prog 30 #[K.val] w fun e w' => e = .returned (.bool true) ∧ Below w.heap.size w w' := by
  have X0 := BoxAt.new h
  have k00 := X0.c0
  unfold Camp.val
  go_enter Tryd.func30, Tryd.ntmps30
  go_wp2_with (first
    | (refine (named57 K _ X0.camp).mono ?_; rintro e w1 ⟨rfl, hb1⟩; have X1 := X0.step hb1; have k11 := X1.c1)
    | (refine (named59 K _ X1.camp).mono ?_; rintro e w2 ⟨rfl, hb2⟩; have X2 := X1.step hb2; have k22 := X2.c2)
    | (refine (named61 K _ X2.camp).mono ?_; rintro e w3 ⟨rfl, hb3⟩; have X3 := X2.step hb3; have k30 := X3.c0)
    | (refine (all67 K _ X3.camp).mono ?_; rintro e w4 ⟨rfl, hb4⟩; have X4 := X3.step hb4; have k41 := X4.c1)
    | (refine (all68 K _ X4.camp _ X4.c0 X4.lt).mono ?_; rintro e w5 ⟨rfl, hb5⟩; have X5 := X4.step hb5; have k52 := X5.c2)
    | (refine (all69 K _ X5.camp).mono ?_; rintro e w6 ⟨rfl, hb6⟩; have X6 := X5.step hb6; have k63 := X6.c3)
    | (refine (withinC_yes _ _ _ _ (by omega) (by omega)).mono ?_; rintro e w7 ⟨rfl, rfl⟩))
  go_ret
  exact ⟨rfl, X6.below⟩
end Go.Proofs.YtempbknidpmncaaDoor
