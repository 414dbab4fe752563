/-
  TopBus: the row proved: at every two slices of uint16 the law answers true, and they read as they did.
-/
import Derived.Test.YtempbknidpmncaaDoorRows
import Derived.Test.YtempbknidpmncaaDoorBusH
import Derived.ProofKit
import Derived.LaidMore
import Derived.OpenShut
import Derived.Stop.Joined
namespace Go.Proofs.YtempbknidpmncaaDoor
open Go.ChangeShapes Go.WideShapes Go.ChangeAt Go.RowKit

theorem Tryd.own : ownKnob Tryd.prog.godebug = none := by kernel_rfl
theorem Tryd.laidOut : laidOutB Tryd.prog = true := by kernel_rfl
theorem Tryd.bytes37 : Tryd.prog.bytesOf 37 = 2 := by kernel_rfl
theorem Tryd.cells37 : Tryd.prog.cellsOf 37 = 1 := by kernel_rfl

/-- The door's own heap meets the condition. -/
theorem bus_door_met (os : Os) (args : Array Value) : laidMetH Tryd.prog Rows.topBusRow.laid ((World.doorLaid Tryd.prog 4000 os).forCall (fun _ _ => 0) ⟨#[], args, []⟩).memory :=
  laidMetH_of_parts3 (fuel := 8) (laidMet_of_run' 8 (by kernel_rfl) (by kernel_rfl)) (by kernel_rfl) (by kernel_rfl)

/-- What a slice of uint16 reads as, for the walks. -/
theorem u16_open {H : Type} {enc : TypeId × Value → H} {W : World} {v : Value} {d : DataW H} {p : List MemPlace} (h : DataW.Trod enc Tryd.prog W 0 (fun _ => true) true 22 v d p) (hk : ∃ a l c, v = .slice a l c)
    (hr : ∀ xs ys, d = .slice xs ys → (xs.length + ys.length) * Tryd.prog.bytesOf 37 ≤ reachBytes) : ∃ xs, U16At W v xs := by
  obtain ⟨fuel, hf⟩ := h
  obtain ⟨a0, len, cap, rfl⟩ := hk
  rcases open_ints Tryd.underlying22 Tryd.underlying37 Tryd.cells37 hf with ⟨hcs, hx⟩ | ⟨a, len', cap', zs, hcs, _, hl, hm, hz, hx, hcell, hwz⟩
  · simp [Value.cells] at hcs
    obtain ⟨rfl, rfl, rfl⟩ := hcs
    exact ⟨[], none, 0, rfl, by simp, fun j x h => by simp at h⟩
  · simp [Value.cells] at hcs
    obtain ⟨rfl, rfl, rfl⟩ := hcs
    simp only [if_true] at hz
    refine ⟨(zs.take len).map Int.toNat, some a, cap, ?_, ?_, ?_⟩
    · congr 1
      simp; omega
    · have h1 : (List.map Int.toNat (zs.take len)).length = len := by simp; omega
      have h2 := hr _ _ (Prod.mk.inj hx).1
      rw [Tryd.bytes37] at h2
      simp only [lits, List.length_map, List.length_take, List.length_drop, reachBytes] at h2
      rw [h1]; omega
    · intro j x hj
      rw [List.getElem?_map, Option.map_eq_some_iff] at hj
      obtain ⟨z, hz', rfl⟩ := hj
      have hzj : zs[j]? = some z := by
        have hlt := (List.getElem?_eq_some_iff.1 hz').1
        rw [List.length_take] at hlt
        rwa [List.getElem?_take_of_lt (by omega)] at hz'
      have hjl := (List.getElem?_eq_some_iff.1 hzj).1
      have hc := hcell j hjl
      have hgd : zs.getD j 0 = z := by simp [List.getD, hzj]
      rw [hgd] at hc
      have hw := hwz z (List.mem_of_getElem? hzj)
      have hw2 : 0 ≤ z ∧ z < 65536 := by
        simp [Lit.wf, IntKind.min, IntKind.max, IntKind.signed, IntKind.bits] at hw
        omega
      obtain ⟨b, off, spot⟩ := a
      have hspot : spot = none := by simpa [Addr.add] using World.cell?_spot (hcell 0 (by omega))
      subst hspot
      have hc' : W.cell? ⟨b, off + j, none⟩ = some (.int .u16 z) := by rwa [add_plain] at hc
      refine ⟨by omega, b, off, rfl, ?_, ?_⟩
      · exact World.block_lt_of_cell? W ⟨b, off + j, none⟩ hc'
      · rw [hc', Int.toNat_of_nonneg hw2.1]

set_option maxRecDepth 100000 in
theorem topBus_lifted (os : Os) (started : os.Started) (H : Type) (enc : TypeId × Value → H) :
    ReturnsInHanded {} Tryd.checked os 3 .any (fun w args => (Rows.topBusSpec.pre enc Tryd.prog Tryd.f3 [] false w args ∧ laidMetH Tryd.prog Rows.topBusRow.laid w) ∧ sizedMet enc Tryd.prog Tryd.f3 (OpenSpec.ofChange Rows.topBusSpec) false w args)
      (Rows.topBusSpec.post enc Tryd.prog Tryd.f3 false true false false) := by
  refine returnsInHanded_of_change_and (C := Tryd.checked) (X := fun w _ => laidMetH Tryd.prog Rows.topBusRow.laid w) (fun _ _ _ hh h => h.of_heap hh) Tryd.own started (by kernel_rfl) Tryd.func3
    (ChangeSpec.witness_shaped (enc := enc) (C := Tryd.checked) (os := os) (X := fun w _ => laidMetH Tryd.prog Rows.topBusRow.laid w) false (World.doorLaid Tryd.prog 4000 os) #[.slice none 0 0, .slice none 0 0] 8 rfl (World.shaped_of_RefB (by kernel_rfl) (by kernel_rfl)) (by kernel_rfl) (by kernel_rfl) (by kernel_rfl) (bus_door_met os _)) ?_
  intro W base args ds gs before hval0 hW _ hsz _ _
  have hval : ∀ (j : Nat) t v, Tryd.f3.params[j]? = some t → args[j]? = some v → Value.okWide Tryd.prog W .any base t v := hval0
  have hW' := hW
  obtain ⟨p, q, hA0, hV, rfl, _, _⟩ := hW
  have hA : DataW.TrodAll enc Tryd.prog W 0 (fun _ => true) true Tryd.f3.params.toList args.toList ds p := hA0
  rw [Tryd.params3] at hA hval
  obtain ⟨v0, v1, d0, d1, p0, p1, rfl, rfl, rfl, h0, h1⟩ := trodAll_two hA
  obtain ⟨rfl, rfl⟩ := trodVars_none hV
  clear hA0 hval0
  simp only [List.append_nil] at hW'
  have hlt : ∀ x ∈ p0 ++ p1, x.block < W.heap.size := fun x hx => by simpa using hW'.lt x hx
  have hlt0 : ∀ x ∈ p0, x.block < W.heap.size := fun x hx => hlt x (List.mem_append_left _ hx)
  have hlt1 : ∀ x ∈ p1, x.block < W.heap.size := fun x hx => hlt x (List.mem_append_right _ hx)
  obtain ⟨ps, hps⟩ := u16_open h0 (okWide_slice Tryd.underlying22 (hval 0 22 v0 rfl rfl)) (fun xs ys e => sized_slice hsz (j := 0) (t := 22) (e := 37) rfl (by rw [e]; rfl) Tryd.underlying22)
  obtain ⟨ss, hss⟩ := u16_open h1 (okWide_slice Tryd.underlying22 (hval 1 22 v1 rfl rfl)) (fun xs ys e => sized_slice hsz (j := 1) (t := 22) (e := 37) rfl (by rw [e]; rfl) Tryd.underlying22)
  refine (TopBus_any v0 v1 ps ss W hps hss).mono fun e W' ⟨he, hb⟩ => ?_
  subst he
  exact ⟨_, rfl, ⟨_, _, _, [], _, [], hW', trodAll_mk1 (shut_bool Tryd.underlying4 true), trodAll_mk2 (Below.trod Tryd.laidOut (by kernel_rfl) (of_decide_eq_true (by kernel_rfl)) h0 hb hlt0) (Below.trod Tryd.laidOut (by kernel_rfl) (of_decide_eq_true (by kernel_rfl)) h1 hb hlt1), rfl, hb.frame _, fun h => by cases h⟩⟩

theorem topBus_holds : Rows.TopBusSaid :=
  OpenClaim.holds_of_wide 3 Tryd.f3 rfl rfl rfl rfl rfl rfl rfl ⟨rfl, rfl, rfl, rfl, rfl⟩ rfl rfl rfl rfl rfl (by kernel_rfl) Tryd.func3 (by kernel_rfl)
    (of_decide_eq_true (by kernel_rfl)) (by unfold Func.isWrapper; first | (rw [if_pos (by decide +kernel)]; kernel_rfl) | (rw [if_neg (by decide +kernel)]; exact ⟨rfl, rfl⟩))
    (fun os started H enc _ => topBus_lifted os started H enc)
end Go.Proofs.YtempbknidpmncaaDoor
