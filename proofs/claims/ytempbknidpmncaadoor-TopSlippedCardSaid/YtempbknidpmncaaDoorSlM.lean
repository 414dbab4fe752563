/-
  TopSlipped: what lies in memory while the law builds its campaign and its plan.
-/
import Derived.Test.YtempbknidpmncaaDoorSlL
namespace Go.Proofs.YtempbknidpmncaaDoor
open Go.RowKit

def cargoC (lat : Nat → Nat) (j : Nat) : List Value := (List.range j).flatMap fun k => [.string (dname k), .int .i64 (1 + k : Nat), .int .i64 (k * k : Nat), .int .i64 0, .int .i64 (lat k : Nat), .bool false]
theorem cargoC_succ (lat : Nat → Nat) (k : Nat) : cargoC lat (k + 1) = cargoC lat k ++ [.string (dname k), .int .i64 (1 + k : Nat), .int .i64 (k * k : Nat), .int .i64 0, .int .i64 (lat k : Nat), .bool false] := by simp [cargoC, List.range_succ]
theorem cargoC_length (lat : Nat → Nat) : ∀ j, (cargoC lat j).length = j * 6
  | 0 => rfl
  | j + 1 => by rw [cargoC_succ, List.length_append, cargoC_length lat j]; simp; omega
theorem cargoC_at (lat : Nat → Nat) : ∀ (j k o : Nat), k < j → o < 6 → (cargoC lat j)[k * 6 + o]? = ([.string (dname k), .int .i64 (1 + k : Nat), .int .i64 (k * k : Nat), .int .i64 0, .int .i64 (lat k : Nat), .bool false] : List Value)[o]?
  | 0, _, _, h, _ => by omega
  | j + 1, k, o, h, ho => by
    rw [cargoC_succ]
    by_cases hk : k = j
    · subst hk
      rw [List.getElem?_append_right (by rw [cargoC_length]; omega), cargoC_length]
      congr 1; omega
    · rw [List.getElem?_append_left (by rw [cargoC_length]; omega)]
      exact cargoC_at lat j k o (by omega) ho

theorem rows_ne {w : World} {base e size n : Nat} {v : Value} {xs : List Value} {base' e' size' n' : Nat} {v' : Value} {xs' : List Value} (h : w.ownsRow base e size v n xs) (h' : w.ownsRow base' e' size' v' n' xs') (hne : e ≠ e') : v.ownBlock = none ∨ v.ownBlock ≠ v'.ownBlock := by
  rcases h.2 with ⟨rfl, _⟩ | ⟨g, cap, cs, rfl, _, hh, _⟩
  · exact .inl rfl
  · exact .inr (fun e2 => ownBlock_ne h' (show Blk w g cs e from hh) (Ne.symm hne) e2)

structure Fix (w0 W : World) (N ag cl s : Nat) : Prop where
  f0 : Blk W w0.heap.size #[.int .i64 (N : Int)] 3
  f1 : Blk W (w0.heap.size + 1) #[.string bC, .int .i64 9, .int .i64 0, .int .i64 (ag : Int)] 39
  f2 : Blk W (w0.heap.size + 2) #[.int .i64 0] 3
  f3 : Blk W (w0.heap.size + 3) #[.string bP, .int .i64 (cl : Int), .slice (some ⟨w0.heap.size + 2, 0, none⟩) 1 1] 42
  f5 : Blk W (w0.heap.size + 5) #[.int .i64 (s : Int)] 3
section
variable {w0 W W' : World} {N ag cl s : Nat}
theorem Fix.below (h : Fix w0 W N ag cl s) (hb : Below W.heap.size W W') : Fix w0 W' N ag cl s :=
  ⟨h.f0.below hb h.f0.lt, h.f1.below hb h.f1.lt, h.f2.below hb h.f2.lt, h.f3.below hb h.f3.lt, h.f5.below hb h.f5.lt⟩
theorem Fix.row (h : Fix w0 W N ag cl s) {base e size n : Nat} {v : Value} {xs : List Value} (ho : W.ownsRow base e size v n xs) (hg : W.grownBy W' v.ownBlock) (h1 : e ≠ 3) (h2 : e ≠ 39) (h3 : e ≠ 42) : Fix w0 W' N ag cl s :=
  ⟨h.f0.grown hg (ownBlock_ne ho h.f0 h1), h.f1.grown hg (ownBlock_ne ho h.f1 h2), h.f2.grown hg (ownBlock_ne ho h.f2 h1), h.f3.grown hg (ownBlock_ne ho h.f3 h3), h.f5.grown hg (ownBlock_ne ho h.f5 h1)⟩
theorem Fix.at (h : Fix w0 W N ag cl s) {c : Nat} (hg : W.grownBy W' (some c)) (hc : w0.heap.size + 4 ≤ c) (hc5 : c ≠ w0.heap.size + 5) : Fix w0 W' N ag cl s :=
  ⟨h.f0.grown hg (by intro e; injection e; omega), h.f1.grown hg (by intro e; injection e; omega), h.f2.grown hg (by intro e; injection e; omega), h.f3.grown hg (by intro e; injection e; omega), h.f5.grown hg (by intro e; injection e; omega)⟩
end

def campC (b : Nat) (gv : Value) : Array Value := #[.slice (some ⟨b + 1, 0, none⟩) 1 1, .slice (some ⟨b + 3, 0, none⟩) 1 1, gv, .int .i64 0]
structure Bld (w0 W : World) (N ag cl s kp kg : Nat) (D lat lbs lcs : Nat → Nat) (v gv : Value) : Prop where
  fix : Fix w0 W N ag cl s
  camp : Blk W (w0.heap.size + 4) (campC w0.heap.size gv) 46
  lv : Blk W (w0.heap.size + 6) #[v] 47
  rowp : RowP w0 W v kp D lbs lcs
  rowg : W.ownsRow w0.heap.size 49 6 gv kg (cargoC lat kg)
  below : Below w0.heap.size w0 W
theorem own_below {W W' : World} {base e size n : Nat} {v : Value} {xs : List Value} (h : W.ownsRow base e size v n xs) (hb : Below W.heap.size W W') : W'.ownsRow base e size v n xs :=
  h.kept (row := none) ⟨hb.os, hb.tape, hb.output, hb.size, fun k hk _ => hb.block k hk⟩ (by
    cases hv : v.ownBlock with
    | none => exact .inl rfl
    | some k => exact .inr (fun e => by cases e))
theorem own_at {W W' : World} {base e size n c : Nat} {v : Value} {xs : List Value} {cs : Array Value} {t : TypeId} (h : W.ownsRow base e size v n xs) (hg : W.grownBy W' (some c)) (hc : Blk W c cs t) (hne : e ≠ t) : W'.ownsRow base e size v n xs :=
  h.kept hg (.inr (fun e => ownBlock_ne h hc hne e.symm))
section
variable {w0 W W' : World} {N ag cl s kp kg : Nat} {D lat lbs lcs : Nat → Nat} {v gv : Value}
theorem Bld.step (h : Bld w0 W N ag cl s kp kg D lat lbs lcs v gv) (hb : Below W.heap.size W W') : Bld w0 W' N ag cl s kp kg D lat lbs lcs v gv :=
  ⟨h.fix.below hb, h.camp.below hb h.camp.lt, h.lv.below hb h.lv.lt, h.rowp.below hb, own_below h.rowg hb, h.below.trans (hb.mono h.below.size)⟩
theorem Bld.drew (h : Bld w0 W N ag cl s kp kg D lat lbs lcs v gv) : Bld w0 W.drew N ag cl s kp kg D lat lbs lcs v gv := h.step ((Below.refl _ _).drew)
theorem Bld.alloc (h : Bld w0 W N ag cl s kp kg D lat lbs lcs v gv) (o : Obj) : Bld w0 (W.alloc o) N ag cl s kp kg D lat lbs lcs v gv := h.step ((Below.refl _ _).alloc (Nat.le_refl _) o)
/-- A cargo more. -/
theorem Bld.cargo (h : Bld w0 W N ag cl s kp kg D lat lbs lcs v gv) {w3 : World} {gv' : Value} (hown : w3.ownsRow w0.heap.size 49 6 gv' (kg + 1) (cargoC lat (kg + 1))) (hg : W.grownBy w3 gv.ownBlock) (hb : Below w0.heap.size w0 w3) :
    Blk w3 (w0.heap.size + 4) (campC w0.heap.size gv) 46 ∧ Bld w0 (w3.setCell ⟨w0.heap.size + 4, 2, none⟩ gv') N ag cl s kp (kg + 1) D lat lbs lcs v gv' := by
  have hc := h.camp.grown hg (ownBlock_ne h.rowg h.camp (by decide))
  have hl := h.lv.grown hg (ownBlock_ne h.rowg h.lv (by decide))
  have hs := grownBy_set w3 (w0.heap.size + 4) 2 gv'
  have hp : RowP w0 w3 v kp D lbs lcs := ⟨h.rowp.own.kept hg (rows_ne h.rowp.own h.rowg (by decide)), fun k hk => by
    obtain ⟨h1, cs, h2, h3⟩ := h.rowp.loads k hk
    exact ⟨h1, cs, h2.grown hg (ownBlock_ne h.rowg h2 (by decide)), h3⟩⟩
  refine ⟨hc, (h.fix.row h.rowg hg (by decide) (by decide) (by decide)).at hs (by omega) (by omega), ?_, hl.grown hs (by intro e; injection e; omega), ?_, own_at hown hs hc (by decide), hb.setCell (show w0.heap.size ≤ w0.heap.size + 4 by omega) _⟩
  · have := hc.setCell 2 gv'
    simpa [campC] using this
  · exact ⟨own_at hp.own hs hc (by decide), fun k hk => by
      obtain ⟨h1, cs, h2, h3⟩ := hp.loads k hk
      exact ⟨h1, cs, h2.grown hs (by
        intro e; injection e with e
        have h4 : Blk w3 (w0.heap.size + 4) cs 3 := by rw [← e]; exact h2
        unfold Blk at h4 hc; rw [hc] at h4; injection h4 with h4; injection h4 with _ h4; exact absurd h4 (by decide)), h3⟩⟩
/-- A launch more. -/
theorem Bld.launch (h : Bld w0 W N ag cl s kp kg D lat lbs lcs v gv) {w3 : World} {v' : Value} {lbs' lcs' : Nat → Nat} (hown : RowP w0 w3 v' (kp + 1) D lbs' lcs') (hg : W.grownBy w3 v.ownBlock) (hb : Below w0.heap.size w0 w3) :
    Blk w3 (w0.heap.size + 6) #[v] 47 ∧ Bld w0 (w3.setCell ⟨w0.heap.size + 6, 0, none⟩ v') N ag cl s (kp + 1) kg D lat lbs' lcs' v' gv := by
  have hc := h.camp.grown hg (ownBlock_ne h.rowp.own h.camp (by decide))
  have hl := h.lv.grown hg (ownBlock_ne h.rowp.own h.lv (by decide))
  have hs := grownBy_set w3 (w0.heap.size + 6) 0 v'
  have hgv : w3.ownsRow w0.heap.size 49 6 gv kg (cargoC lat kg) := h.rowg.kept hg (rows_ne h.rowg h.rowp.own (by decide))
  refine ⟨hl, (h.fix.row h.rowp.own hg (by decide) (by decide) (by decide)).at hs (by omega) (by omega), hc.grown hs (by intro e; injection e; omega), ?_, ?_, own_at hgv hs hl (by decide), hb.setCell (show w0.heap.size ≤ w0.heap.size + 6 by omega) _⟩
  · have := hl.setCell 0 v'
    simpa using this
  · exact ⟨own_at hown.own hs hl (by decide), fun k hk => by
      obtain ⟨h1, cs, h2, h3⟩ := hown.loads k hk
      exact ⟨h1, cs, h2.grown hs (by
        intro e; injection e with e
        have h4 : Blk w3 (w0.heap.size + 6) cs 3 := by rw [← e]; exact h2
        unfold Blk at h4 hl; rw [hl] at h4; injection h4 with h4; injection h4 with _ h4; exact absurd h4 (by decide)), h3⟩⟩
end

theorem edge_ex {p : Nat → Bool} (h0 : p 0 = true) : ∀ {n : Nat}, p n = false → ∃ S, S < n ∧ p S = true ∧ p (S + 1) = false
  | 0, h => by rw [h0] at h; cases h
  | n + 1, h => by
    cases hn : p n with
    | true => exact ⟨n, by omega, hn, h⟩
    | false =>
      obtain ⟨S, h1, h2, h3⟩ := edge_ex h0 hn
      exact ⟨S, by omega, h2, h3⟩

/-- What was built is the law's campaign and plan. -/
theorem Bld.law {w0 W : World} {N ag cl s : Nat} {D lat lbs lcs : Nat → Nat} {v gv : Value} (h : Bld w0 W N ag cl s N N D lat lbs lcs v gv) (hN1 : 1 ≤ N) (hN6 : N ≤ 6) (hag1 : 1 ≤ ag) (hag20 : ag ≤ 20) (hcl : cl ≤ 19)
    (hlat : ∀ j, j < N → lat j ≤ 1000) (hs : max ag cl = s) (hgap : GapD s N D) (i : Nat) :
    ∃ (K : Camp) (g cap : Nat), K.n = N ∧ K.ag = ag ∧ K.cl = cl ∧ K.lat = lat ∧ v = .slice (some ⟨g, 0, none⟩) N cap ∧ LawAt (W.alloc (.cells #[.int .i64 (i : Int)] 3)) K g cap i D (w0.heap.size + 6) W.heap.size w0.heap.size (w0.heap.size + 5) (w0.heap.size + 4) := by
  have hb : Below W.heap.size W (W.alloc (.cells #[.int .i64 (i : Int)] 3)) := (Below.refl _ _).alloc (Nat.le_refl _) _
  have h' := h.step hb
  obtain ⟨A, cap, rfl, hc1, hc2, hob, hA⟩ := h.rowp.form
  obtain ⟨g, rfl⟩ := hA (by omega)
  have hg := (hob g rfl).1
  rcases h'.rowg.2 with ⟨_, h0⟩ | ⟨gb, gcap, cs, rfl, hgb, hh, hg1, hg2, _⟩
  · omega
  refine ⟨⟨N, ag, cl, lat, w0.heap.size + 1, w0.heap.size + 3, w0.heap.size + 2, gb, gcap⟩, g, cap, rfl, rfl, rfl, rfl, rfl, ?_⟩
  have hC : CampAt (W.alloc (.cells #[.int .i64 (i : Int)] 3)) ⟨N, ag, cl, lat, w0.heap.size + 1, w0.heap.size + 3, w0.heap.size + 2, gb, gcap⟩ :=
    { n1 := hN1, n6 := hN6, ag1 := hag1, ag20 := hag20, cl19 := hcl, late := hlat
      lc := h'.fix.f1.lt, lp := h'.fix.f3.lt, ld := h'.fix.f2.lt, lg := (Array.getElem?_eq_some_iff.1 hh).1
      c0 := h'.fix.f1.cell 0 rfl, c1 := h'.fix.f1.cell 1 rfl, c2 := h'.fix.f1.cell 2 rfl, c3 := h'.fix.f1.cell 3 rfl
      p0 := h'.fix.f3.cell 0 rfl, p1 := h'.fix.f3.cell 1 rfl, p2 := h'.fix.f3.cell 2 rfl, d0 := h'.fix.f2.cell 0 rfl
      g := fun j hj => by
        have hc : ∀ o, o < 6 → (W.alloc (.cells #[.int .i64 (i : Int)] 3)).cell? ⟨gb, j * 6 + o, none⟩ = ([.string (dname j), .int .i64 (1 + j : Nat), .int .i64 (j * j : Nat), .int .i64 0, .int .i64 (lat j : Nat), .bool false] : List Value)[o]? := fun o ho => by
          have hj' : j < N := hj
          rw [h'.rowg.cellAt (j * 6 + o) (by omega)]; exact cargoC_at lat N j o hj ho
        exact ⟨by simpa using hc 0 (by omega), hc 1 (by omega), hc 2 (by omega), hc 3 (by omega), hc 4 (by omega), hc 5 (by omega)⟩ }
  exact { camp := hC
          plan := ⟨h'.rowp.plan, Nat.lt_of_lt_of_le hg hb.size, hc2, hc1, by rw [show max ag cl = s from hs]; exact hgap⟩
          l := h'.lv.cell 0 rfl
          a := (Blk.new W _ _).cell 0 rfl
          m := h'.fix.f0.cell 0 rfl
          s := by
            have := h'.fix.f5.cell 0 rfl
            rw [← hs] at this; exact this
          c := h'.camp
          ll := h'.lv.lt, la := (Blk.new W _ _).lt, lm := h'.fix.f0.lt, ls := h'.fix.f5.lt }
end Go.Proofs.YtempbknidpmncaaDoor
