/-
  TopSlipped: the row proved: at every two slices of uint16, three uint8 and a uint16 the law answers true, and they read as they did.
-/
import Derived.Test.YtempbknidpmncaaDoorRows
import Derived.Test.YtempbknidpmncaaDoorSlN
import Derived.ProofKit
import Derived.LaidMore
import Derived.OpenShut
import Derived.Stop.Joined
namespace Go.Proofs.YtempbknidpmncaaDoor
open Go.ChangeShapes Go.WideShapes Go.ChangeAt Go.RowKit

theorem Tryd.own : ownKnob Tryd.prog.godebug = none := by kernel_rfl
theorem Tryd.laidOut : laidOutB Tryd.prog = true := by kernel_rfl
theorem Tryd.bytes37 : Tryd.prog.bytesOf 37 = 2 := by kernel_rfl
theorem Tryd.cells37 : Tryd.prog.cellsOf 37 = 1 := by kernel_rfl

/-- The door's own heap meets the condition. -/
theorem sl_door_met (os : Os) (args : Array Value) : laidMetH Tryd.prog Rows.topSlippedRow.laid ((World.doorLaid Tryd.prog 4000 os).forCall (fun _ _ => 0) ⟨#[], args, []⟩).memory :=
  laidMetH_of_parts3 (fuel := 8) (laidMet_of_run' 8 (by kernel_rfl) (by kernel_rfl)) (by kernel_rfl) (by kernel_rfl)

/-- What a slice of uint16 reads as, for the walks. -/
theorem u16_open {H : Type} {enc : TypeId × Value → H} {W : World} {v : Value} {d : DataW H} {p : List MemPlace} (h : DataW.Trod enc Tryd.prog W 0 (fun _ => true) true 22 v d p) (hk : ∃ a l c, v = .slice a l c)
    (hr : ∀ xs ys, d = .slice xs ys → (xs.length + ys.length) * Tryd.prog.bytesOf 37 ≤ reachBytes) : ∃ xs, U16At W v xs := by
  obtain ⟨fuel, hf⟩ := h
  obtain ⟨a0, len, cap, rfl⟩ := hk
  rcases open_ints Tryd.underlying22 Tryd.underlying37 Tryd.cells37 hf with ⟨hcs, hx⟩ | ⟨a, len', cap', zs, hcs, _, hl, hm, hz, hx, hcell, hwz⟩
  · simp [Value.cells] at hcs
    obtain ⟨rfl, rfl, rfl⟩ := hcs
    exact ⟨[], none, 0, rfl, by simp, fun j x h => by simp at h⟩
  · simp [Value.cells] at hcs
    obtain ⟨rfl, rfl, rfl⟩ := hcs
    simp only [if_true] at hz
    refine ⟨(zs.take len).map Int.toNat, some a, cap, ?_, ?_, ?_⟩
    · congr 1
      simp; omega
    · have h1 : (List.map Int.toNat (zs.take len)).length = len := by simp; omega
      have h2 := hr _ _ (Prod.mk.inj hx).1
      rw [Tryd.bytes37] at h2
      simp only [lits, List.length_map, List.length_take, List.length_drop, reachBytes] at h2
      rw [h1]; omega
    · intro j x hj
      rw [List.getElem?_map, Option.map_eq_some_iff] at hj
      obtain ⟨z, hz', rfl⟩ := hj
      have hzj : zs[j]? = some z := by
        have hlt := (List.getElem?_eq_some_iff.1 hz').1
        rw [List.length_take] at hlt
        rwa [List.getElem?_take_of_lt (by omega)] at hz'
      have hjl := (List.getElem?_eq_some_iff.1 hzj).1
      have hc := hcell j hjl
      have hgd : zs.getD j 0 = z := by simp [List.getD, hzj]
      rw [hgd] at hc
      have hw := hwz z (List.mem_of_getElem? hzj)
      have hw2 : 0 ≤ z ∧ z < 65536 := by
        simp [Lit.wf, IntKind.min, IntKind.max, IntKind.signed, IntKind.bits] at hw
        omega
      obtain ⟨b, off, spot⟩ := a
      have hspot : spot = none := by simpa [Addr.add] using World.cell?_spot (hcell 0 (by omega))
      subst hspot
      have hc' : W.cell? ⟨b, off + j, none⟩ = some (.int .u16 z) := by rwa [add_plain] at hc
      refine ⟨by omega, b, off, rfl, ?_, ?_⟩
      · exact World.block_lt_of_cell? W ⟨b, off + j, none⟩ hc'
      · rw [hc', Int.toNat_of_nonneg hw2.1]


set_option maxRecDepth 100000 in
theorem topSlipped_lifted (os : Os) (started : os.Started) (H : Type) (enc : TypeId × Value → H) :
    ReturnsInHanded {} Tryd.checked os 4 .any (fun w args => (Rows.topSlippedSpec.pre enc Tryd.prog Tryd.f4 [] false w args ∧ laidMetH Tryd.prog Rows.topSlippedRow.laid w) ∧ sizedMet enc Tryd.prog Tryd.f4 (OpenSpec.ofChange Rows.topSlippedSpec) false w args)
      (Rows.topSlippedSpec.post enc Tryd.prog Tryd.f4 false true false false) := by
  refine returnsInHanded_of_change_and (C := Tryd.checked) (X := fun w _ => laidMetH Tryd.prog Rows.topSlippedRow.laid w) (fun _ _ _ hh h => h.of_heap hh) Tryd.own started (by kernel_rfl) Tryd.func4
    (ChangeSpec.witness_shaped (enc := enc) (C := Tryd.checked) (os := os) (X := fun w _ => laidMetH Tryd.prog Rows.topSlippedRow.laid w) false (World.doorLaid Tryd.prog 4000 os) #[.slice none 0 0, .slice none 0 0, .int .u8 0, .int .u8 0, .int .u8 0, .int .u16 0] 8 rfl (World.shaped_of_RefB (by kernel_rfl) (by kernel_rfl)) (by kernel_rfl) (by kernel_rfl) (by kernel_rfl) (sl_door_met os _)) ?_
  intro W base args ds gs before hval0 hW _ hsz _ _
  have hval : ∀ (j : Nat) t v, Tryd.f4.params[j]? = some t → args[j]? = some v → Value.okWide Tryd.prog W .any base t v := hval0
  have hW' := hW
  obtain ⟨p, q, hA0, hV, rfl, _, _⟩ := hW
  have hA : DataW.TrodAll enc Tryd.prog W 0 (fun _ => true) true Tryd.f4.params.toList args.toList ds p := hA0
  rw [Tryd.params4] at hA hval
  obtain ⟨v0, r0, d0, e0, p0, q0, hargs, rfl, rfl, h0, hA⟩ := trodAll_cons hA
  obtain ⟨v1, r1, d1, e1, p1, q1, rfl, rfl, rfl, h1, hA⟩ := trodAll_cons hA
  obtain ⟨v2, r2, d2, e2, p2, q2, rfl, rfl, rfl, h2, hA⟩ := trodAll_cons hA
  obtain ⟨v3, r3, d3, e3, p3, q3, rfl, rfl, rfl, h3, hA⟩ := trodAll_cons hA
  obtain ⟨v4, r4, d4, e4, p4, q4, rfl, rfl, rfl, h4, hA⟩ := trodAll_cons hA
  obtain ⟨v5, r5, d5, e5, p5, q5, rfl, rfl, rfl, h5, hA⟩ := trodAll_cons hA
  obtain ⟨rfl, rfl, rfl⟩ := trodAll_nil hA
  obtain rfl : args = #[v0, v1, v2, v3, v4, v5] := by cases args; simp_all
  obtain ⟨rfl, rfl⟩ := trodVars_none hV
  clear hA0 hval0 hargs
  simp only [List.append_nil] at hW'
  have hlt : ∀ x ∈ p0 ++ (p1 ++ (p2 ++ (p3 ++ (p4 ++ p5)))), x.block < W.heap.size := fun x hx => by simpa using hW'.lt x (by simpa using hx)
  have m0 : ∀ x ∈ p0, x.block < W.heap.size := fun x hx => hlt x (by simp [hx])
  have m1 : ∀ x ∈ p1, x.block < W.heap.size := fun x hx => hlt x (by simp [hx])
  have m2 : ∀ x ∈ p2, x.block < W.heap.size := fun x hx => hlt x (by simp [hx])
  have m3 : ∀ x ∈ p3, x.block < W.heap.size := fun x hx => hlt x (by simp [hx])
  have m4 : ∀ x ∈ p4, x.block < W.heap.size := fun x hx => hlt x (by simp [hx])
  have m5 : ∀ x ∈ p5, x.block < W.heap.size := fun x hx => hlt x (by simp [hx])
  obtain ⟨ps, hps⟩ := u16_open h0 (okWide_slice Tryd.underlying22 (hval 0 22 v0 rfl rfl)) (fun xs ys e => sized_slice hsz (j := 0) (t := 22) (e := 37) rfl (by rw [e]; rfl) Tryd.underlying22)
  obtain ⟨ss, hss⟩ := u16_open h1 (okWide_slice Tryd.underlying22 (hval 1 22 v1 rfl rfl)) (fun xs ys e => sized_slice hsz (j := 1) (t := 22) (e := 37) rfl (by rw [e]; rfl) Tryd.underlying22)
  obtain ⟨n2, rfl, rfl, _, w2⟩ := open_int Tryd.underlying5 (hval 2 5 v2 rfl rfl) h2
  obtain ⟨n3, rfl, rfl, _, w3⟩ := open_int Tryd.underlying5 (hval 3 5 v3 rfl rfl) h3
  obtain ⟨n4, rfl, rfl, _, w4⟩ := open_int Tryd.underlying5 (hval 4 5 v4 rfl rfl) h4
  obtain ⟨n5, rfl, rfl, _, w5⟩ := open_int Tryd.underlying37 (hval 5 37 v5 rfl rfl) h5
  have b2 := bounds_u8 w2
  have b3 := bounds_u8 w3
  have b4 := bounds_u8 w4
  have b5 := bounds_u16 w5
  obtain ⟨a, rfl⟩ : ∃ a : Nat, n2 = (a : Int) := ⟨n2.toNat, by omega⟩
  obtain ⟨b, rfl⟩ : ∃ a : Nat, n3 = (a : Int) := ⟨n3.toNat, by omega⟩
  obtain ⟨c, rfl⟩ : ∃ a : Nat, n4 = (a : Int) := ⟨n4.toNat, by omega⟩
  obtain ⟨x, rfl⟩ : ∃ a : Nat, n5 = (a : Int) := ⟨n5.toNat, by omega⟩
  refine (TopSlipped_any v0 v1 ps ss a b c x W (by omega) (by omega) (by omega) (by omega) hps hss).mono fun e W' ⟨he, hb⟩ => ?_
  subst he
  exact ⟨_, rfl, ⟨_, _, _, [], _, [], hW', trodAll_mk1 (shut_bool Tryd.underlying4 true),
    trodAll_cons_mk (Below.trod Tryd.laidOut (by kernel_rfl) (of_decide_eq_true (by kernel_rfl)) h0 hb m0) (trodAll_cons_mk (Below.trod Tryd.laidOut (by kernel_rfl) (of_decide_eq_true (by kernel_rfl)) h1 hb m1)
      (trodAll_cons_mk (Below.trod Tryd.laidOut (by kernel_rfl) (of_decide_eq_true (by kernel_rfl)) h2 hb m2) (trodAll_cons_mk (Below.trod Tryd.laidOut (by kernel_rfl) (of_decide_eq_true (by kernel_rfl)) h3 hb m3)
        (trodAll_cons_mk (Below.trod Tryd.laidOut (by kernel_rfl) (of_decide_eq_true (by kernel_rfl)) h4 hb m4) (trodAll_mk1 (Below.trod Tryd.laidOut (by kernel_rfl) (of_decide_eq_true (by kernel_rfl)) h5 hb m5)))))), rfl, hb.frame _, fun h => by cases h⟩⟩

theorem topSlipped_holds : Rows.TopSlippedSaid :=
  OpenClaim.holds_of_wide 4 Tryd.f4 rfl rfl rfl rfl rfl rfl rfl ⟨rfl, rfl, rfl, rfl, rfl⟩ rfl rfl rfl rfl rfl (by kernel_rfl) Tryd.func4 (by kernel_rfl)
    (of_decide_eq_true (by kernel_rfl)) (by unfold Func.isWrapper; first | (rw [if_pos (by decide +kernel)]; kernel_rfl) | (rw [if_neg (by decide +kernel)]; exact ⟨rfl, rfl⟩))
    (fun os started H enc _ => topSlipped_lifted os started H enc)
end Go.Proofs.YtempbknidpmncaaDoor
