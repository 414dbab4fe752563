/-
  TopBus: the walks of digit, within, gcd, valid, Cycle.
-/
import Derived.Test.YtempbknidpmncaaDoorBase
namespace Go.Proofs.YtempbknidpmncaaDoor
open Go.RowKit

theorem ret_bool {a b : Bool} (h : a = b) : Ending.returned (.bool a) = .returned (.bool b) := by rw [h]
theorem ret_int {k : IntKind} {a b : Int} (h : a = b) : Ending.returned (.int k a) = .returned (.int k b) := by rw [h]

def inb (n a b : Int) : Bool := decide (a ≤ n) && decide (n ≤ b)
theorem inb_true {n a b : Int} (h1 : a ≤ n) (h2 : n ≤ b) : inb n a b = true := by simp [inb, h1, h2]

theorem within_any (n a b : Int) (w : World) :
    Calls Tryd.prog 29 #[.int .i64 n, .int .i64 a, .int .i64 b] w fun e w' => e = .returned (.bool (inb n a b)) ∧ w = w' := by
  go_enter Tryd.func29, Tryd.ntmps29
  by_cases h1 : a ≤ n
  · go_wp2; go_ret; exact ⟨ret_bool (by simp [inb, h1]), rfl⟩
  · go_wp2; go_ret; exact ⟨ret_bool (by simp [inb]; omega), rfl⟩
/-- The same where it is so. -/
theorem within_yes (n a b : Int) (w : World) (h1 : a ≤ n) (h2 : n ≤ b) :
    Calls Tryd.prog 29 #[.int .i64 n, .int .i64 a, .int .i64 b] w fun e w' => e = .returned (.bool true) ∧ w = w' :=
  (within_any n a b w).mono fun _ _ h => by rwa [inb_true h1 h2] at h

/-- A message: its deadline is its period. -/
structure Msg where
  name : ByteArray
  size : Nat
  period : Nat

/-- The block's first cells are those of messages. -/
def MsgsAt (w : World) (b : Nat) (l : List Msg) : Prop := ∀ i m, l[i]? = some m →
  w.cell? ⟨b, i * 4, none⟩ = some (.string m.name) ∧ w.cell? ⟨b, i * 4 + 1, none⟩ = some (.int .i64 m.size) ∧
  w.cell? ⟨b, i * 4 + 2, none⟩ = some (.int .i64 m.period) ∧ w.cell? ⟨b, i * 4 + 3, none⟩ = some (.int .i64 m.period)

theorem MsgsAt.of_block {w w' : World} {b : Nat} {l : List Msg} (h : MsgsAt w b l) (he : w'.heap[b]? = w.heap[b]?) : MsgsAt w' b l := by
  intro i m hm
  have hc : ∀ o, w'.cell? ⟨b, o, none⟩ = w.cell? ⟨b, o, none⟩ := fun o => World.cell?_of_block (w := w) (a := ⟨b, o, none⟩) he
  simp only [hc]
  exact h i m hm

/-- What a list of messages must be. -/
structure Good (l : List Msg) : Prop where
  len1 : 1 ≤ l.length
  len : l.length ≤ 8
  nodup : (l.map (·.name)).Nodup
  name : ∀ m ∈ l, 1 ≤ m.name.size ∧ m.name.size ≤ 32
  size : ∀ m ∈ l, 1 ≤ m.size ∧ m.size ≤ m.period
  period : ∀ m ∈ l, m.period ∣ 200

theorem Good.p_le {l : List Msg} (h : Good l) {m : Msg} (hm : m ∈ l) : m.period ≤ 200 := Nat.le_of_dvd (by omega) (h.period m hm)

theorem name_new {l : List Msg} (h : (l.map (·.name)).Nodup) {k : Nat} {m : Msg} (hk : l[k]? = some m) : m.name ∉ (l.take k).map (·.name) := by
  intro hin
  have h2 : (l.map (·.name)) = (l.take k).map (·.name) ++ (l.drop k).map (·.name) := by rw [← List.map_append, List.take_append_drop]
  rw [h2, List.nodup_append] at h
  have hd : m ∈ l.drop k := by rw [List.mem_iff_getElem?]; exact ⟨0, by simpa using hk⟩
  exact h.2.2 _ hin _ (List.mem_map_of_mem hd) rfl

set_option maxHeartbeats 400000 in
theorem valid_any (b cap : Nat) (l : List Msg) (hg : Good l) (w : World) (hm : MsgsAt w b l) (hbw : b < w.heap.size) :
    Calls Tryd.prog 24 #[.slice (some ⟨b, 0, none⟩) l.length cap] w fun e w' => e = .returned (.bool true) ∧ Below w.heap.size w w' := by
  have hl8 := hg.len
  have hl1 := hg.len1
  go_enter Tryd.func24, Tryd.ntmps24
  have hmm := @run_makeMap Tryd.prog
  go_wp2
  go_loopw [9] (fun i wr => ∃ k : Nat, k ≤ l.length ∧ i = .int .i64 k ∧ Below w.heap.size w wr ∧ MapIs wr w.heap.size (setKV ((l.take k).map (·.name)))) (fun i _ => l.length - (intOf i).toNat)
  case atStart => exact ⟨0, Nat.zero_le _, rfl, (Below.refl _ _).alloc (Nat.le_refl _) _, MapIs.made w⟩
  case round =>
    obtain ⟨k, hk, rfl, hb, hM⟩ := hrel
    by_cases hlt : k < l.length
    · obtain ⟨m, hmk⟩ : ∃ m, l[k]? = some m := ⟨l[k], by simp [hlt]⟩
      have hmem : m ∈ l := List.mem_of_getElem? hmk
      have hn := hg.name m hmem
      have hs := hg.size m hmem
      have hp := hg.p_le hmem
      have hc : ∀ o, wr.cell? ⟨b, o, none⟩ = w.cell? ⟨b, o, none⟩ := fun o => hb.cell (p := ⟨b, o, none⟩) hbw
      obtain ⟨c0, c1, c2, c3⟩ := hm k m hmk
      rw [← hc] at c0 c1 c2 c3
      have hnew : m.name ∉ (l.take k).map (·.name) := by
        exact name_new hg.nodup hmk
      have hlook : ∀ o, (Instr.lookup 126 (.map (some w.heap.size)) (.string m.name) false).run Tryd.prog (wr.alloc o) = .ok (.bool false) (wr.alloc o) := by
        intro o
        rw [run_lookup_set Tryd.underlying126 Tryd.underlying9 (Tryd.zeroValue4 _) (hM.alloc o) m.name, decide_eq_false hnew]
      have hsz : w.heap.size < wr.heap.size := hM.lt
      obtain ⟨w2, hup, hM2, o2, ho2⟩ := run_mapUpdate_set (P := Tryd.prog) (T := 126) (E := 4) Tryd.underlying126 Tryd.underlying9 (hM.alloc (.cells #[Value.string m.name, Value.int .i64 m.size, Value.int .i64 m.period, Value.int .i64 m.period] 28)) m.name hnew
      have HN := Lib.hid hnew; have HK := Lib.hid hmk; have HO := Lib.hid ho2
      clear hc hnew hmk ho2 hM
      go_wp2_with (go_at_call 29; refine (within_yes _ _ _ _ (by omega) (by omega)).mono ?_; rintro e w' ⟨rfl, rfl⟩)
      go_roundw
      case rel => 
        refine ⟨k + 1, by omega, by go_num, ?_, ?_⟩
        · rw [HO.out]; exact below_putObj (hb.alloc hb.size _) (Nat.le_refl _) _
        · rw [List.take_add_one, HK.out]; simpa using hM2
      case measure => simp [intOf]; omega
    · go_wp2_with (go_at_call 29; refine (within_yes _ _ _ _ (by omega) (by omega)).mono ?_; rintro e w' ⟨rfl, rfl⟩)
      go_ret
      exact ⟨rfl, hb⟩
/-- A slice argument of uint16s: what it reads as. -/
def U16At (w : World) (v : Value) (xs : List Nat) : Prop :=
  ∃ A cap, v = .slice A xs.length cap ∧ xs.length ≤ 140737488351232 ∧ ∀ (j x : Nat), xs[j]? = some x → x < 65536 ∧ ∃ b off, A = some ⟨b, off, none⟩ ∧ b < w.heap.size ∧ w.cell? ⟨b, off + j, none⟩ = some (.int .u16 (x : Int))

theorem U16At.below {w w' : World} {v : Value} {xs : List Nat} (h : U16At w v xs) (hb : Below w.heap.size w w') : U16At w' v xs := by
  obtain ⟨A, cap, rfl, hl, hc⟩ := h
  refine ⟨A, cap, rfl, hl, fun j x hx => ?_⟩
  obtain ⟨h1, b, off, hA, hlt, hcell⟩ := hc j x hx
  exact ⟨h1, b, off, hA, Nat.lt_of_lt_of_le hlt hb.size, (hb.cell (p := ⟨b, off + j, none⟩) hlt).trans hcell⟩

def dig (xs : List Nat) (i n : Nat) : Nat := xs.getD i 0 % n

theorem digit_any (v : Value) (xs : List Nat) (i n : Nat) (w : World) (h : U16At w v xs) (_hi : i ≤ 1000) (hn1 : 1 ≤ n) (hn : n ≤ 65536) :
    Calls Tryd.prog 6 #[v, .int .i64 i, .int .i64 n] w fun e w' => e = .returned (.int .i64 (dig xs i n : Nat)) ∧ w = w' := by
  obtain ⟨A, cap, rfl, hl, hc⟩ := h
  by_cases hlt : i < xs.length
  · obtain ⟨x, hx⟩ : ∃ x, xs[i]? = some x := ⟨xs[i], by simp [hlt]⟩
    obtain ⟨h1, b, off, rfl, -, hcell⟩ := hc i x hx
    have hd : dig xs i n = x % n := by simp [dig, hx]
    rw [hd]
    have hn0 : ¬ (n : Int) = 0 := by omega
    clear hd hx hc
    go_enter Tryd.func6, Tryd.ntmps6
    go_wp2
    go_ret
    exact ⟨ret_int (by simp), rfl⟩
  · have hd : dig xs i n = 0 := by simp [dig, List.getElem?_eq_none (by omega : xs.length ≤ i)]
    rw [hd]
    clear hc hd
    go_enter Tryd.func6, Tryd.ntmps6
    go_wp2
    go_ret
    exact ⟨rfl, rfl⟩

theorem gcd_any (a b : Nat) (w : World) (ha : a ≤ 1000000) (hb : b ≤ 1000000):
    Calls Tryd.prog 25 #[.int .i64 a, .int .i64 b] w fun e w' => e = .returned (.int .i64 (Nat.gcd a b)) ∧ ∃ n, w' = w.drewN n := by
  go_enter Tryd.func25, Tryd.ntmps25
  go_wp2
  go_loopw [0, 1] (fun x y wr => ∃ p q n : Nat, p ≤ 1000000 ∧ q ≤ 1000000 ∧ x = .int .i64 p ∧ y = .int .i64 q ∧ Nat.gcd p q = Nat.gcd a b ∧ wr = w.drewN n) (fun _ y _ => (intOf y).toNat)
  case atStart => exact ⟨a, b, 0, ha, hb, rfl, rfl, rfl, rfl⟩
  case round =>
    obtain ⟨p, q, n, hp, hq, rfl, rfl, hgq, rfl⟩ := hrel
    have HG := Lib.hid hgq; clear hgq
    by_cases h : q = 0
    · subst h
      have hz : ((((0 : Nat) : Int)) != 0) = false := by simp
      go_wp2
      go_ret
      exact ⟨by rw [← HG.out]; simp, n, rfl⟩
    · have hz : (((q : Int)) != 0) = true := by simp; omega
      have hq1 : 1 ≤ q := by omega
      have hm := Nat.mod_lt p hq1
      go_wp2
      go_quiet (fail)
      go_wp2
      go_roundw
      case rel => exact ⟨q, p % q, n + nq, by omega, by omega, rfl, by simp, by rw [← HG.out, Nat.gcd_comm p q, Nat.gcd_rec q p, Nat.gcd_comm], World.drewN_drewN ..⟩
      case measure => simp [intOf]; omega

def cyc (l : List Msg) : Nat := l.foldl (fun c m => Nat.lcm c m.period) 1
def njobs (c : Nat) (l : List Msg) : Nat := (l.map fun m => c / m.period).sum

theorem cyc_snoc (l : List Msg) (m : Msg) : cyc (l ++ [m]) = Nat.lcm (cyc l) m.period := by simp [cyc]
theorem njobs_snoc (c : Nat) (l : List Msg) (m : Msg) : njobs c (l ++ [m]) = njobs c l + c / m.period := by simp [njobs]
theorem fold_dvd (l : List Msg) (h : ∀ m ∈ l, m.period ∣ 200) : ∀ c, c ∣ 200 → l.foldl (fun c m => Nat.lcm c m.period) c ∣ 200 := by
  induction l with
  | nil => intro c hc; exact hc
  | cons m l ih => intro c hc; exact ih (fun x hx => h x (List.mem_cons_of_mem _ hx)) _ (Nat.lcm_dvd hc (h m (List.mem_cons_self ..)))
theorem cyc_dvd (l : List Msg) (h : ∀ m ∈ l, m.period ∣ 200) : cyc l ∣ 200 := fold_dvd l h 1 (by decide)
theorem njobs_le (c : Nat) (l : List Msg) : njobs c l ≤ l.length * c := by
  induction l with
  | nil => simp [njobs]
  | cons m l ih =>
    have := Nat.div_le_self c m.period
    simp only [njobs, List.map_cons, List.sum_cons, List.length_cons] at *
    rw [Nat.succ_mul]; omega
theorem take_snoc' {α : Type} {l : List α} {k : Nat} {m : α} (h : l[k]? = some m) : l.take (k + 1) = l.take k ++ [m] := by
  rw [List.take_add_one, h]; rfl

def cycRes (l : List Msg) : Value := if njobs (cyc l) l ≤ 256 then .tuple #[.int .i64 (cyc l : Nat), .int .i64 0] else .tuple #[.int .i64 0, .int .i64 3]
theorem cycRes_yes {l : List Msg} (h : njobs (cyc l) l ≤ 256) : cycRes l = .tuple #[.int .i64 (cyc l : Nat), .int .i64 0] := if_pos h
theorem cycRes_no {l : List Msg} (h : ¬ njobs (cyc l) l ≤ 256) : cycRes l = .tuple #[.int .i64 0, .int .i64 3] := if_neg h

set_option maxHeartbeats 400000 in
theorem Cycle_any (b cap : Nat) (l : List Msg) (hg : Good l) (w : World) (hm : MsgsAt w b l) (hbw : b < w.heap.size) :
    Calls Tryd.prog 8 #[.slice (some ⟨b, 0, none⟩) l.length cap] w fun e w' => e = .returned (cycRes l) ∧ Below w.heap.size w w' := by
  have hl8 := hg.len
  go_enter Tryd.func8, Tryd.ntmps8
  go_wp2_with (go_at_call 24; refine (valid_any b cap l hg _ hm hbw).mono ?_; rintro e w1 ⟨rfl, hb1⟩)
  go_loopw [4, 15] (fun c i wr => ∃ k : Nat, k ≤ l.length ∧ i = .int .i64 k ∧ c = .int .i64 (cyc (l.take k) : Nat) ∧ Below w.heap.size w wr) (fun _ i _ => l.length - (intOf i).toNat)
  case atStart => exact ⟨0, Nat.zero_le _, rfl, rfl, hb1⟩
  case round =>
    obtain ⟨k, hk, rfl, rfl, hb⟩ := hrel
    have hd1 := cyc_dvd (l.take k) (fun m hmm => hg.period m (List.mem_of_mem_take hmm))
    by_cases hlt : k < l.length
    · obtain ⟨m, hmk⟩ : ∃ m, l[k]? = some m := ⟨l[k], by simp [hlt]⟩
      have hmem : m ∈ l := List.mem_of_getElem? hmk
      have hp := hg.p_le hmem
      have hs := hg.size m hmem
      have hc : ∀ o, wr.cell? ⟨b, o, none⟩ = w.cell? ⟨b, o, none⟩ := fun o => hb.cell (p := ⟨b, o, none⟩) hbw
      obtain ⟨c0, c1, c2, c3⟩ := hm k m hmk
      rw [← hc] at c0 c1 c2 c3
      have HS := Lib.hid (take_snoc' hmk)
      have hd2 : cyc (l.take (k + 1)) ∣ 200 := cyc_dvd _ (fun m hmm => hg.period m (List.mem_of_mem_take hmm))
      have hle1 := Nat.le_of_dvd (by omega) hd1
      have hpos1 := Nat.pos_of_dvd_of_pos hd1 (by omega)
      have hle2 := Nat.le_of_dvd (by omega) hd2
      rw [HS.out, cyc_snoc] at hle2
      have hval : cyc (l.take k) * (m.period / Nat.gcd (cyc (l.take k)) m.period) = Nat.lcm (cyc (l.take k)) m.period := by
        rw [Nat.lcm, Nat.mul_div_assoc _ (Nat.gcd_dvd_right _ _)]
      have HS2 : Hid (cyc (l.take (k + 1)) = cyc (l.take k) * (m.period / Nat.gcd (cyc (l.take k)) m.period)) := Lib.hid (by rw [HS.out, cyc_snoc, hval])
      rw [← hval] at hle2
      have hgp : 0 < Nat.gcd (cyc (l.take k)) m.period := Nat.gcd_pos_of_pos_left _ hpos1
      have hle2' : ((cyc (l.take k) : Nat) : Int) * (((m.period : Nat) : Int) / ((Nat.gcd (cyc (l.take k)) m.period : Nat) : Int)) ≤ 200 := by have h := Int.ofNat_le.2 hle2; rwa [Int.natCast_mul, Int.natCast_ediv] at h
      have hq1 : 0 ≤ (((m.period : Nat) : Int) / ((Nat.gcd (cyc (l.take k)) m.period : Nat) : Int)) := Int.ediv_nonneg (by omega) (by omega)
      have hq2 : (((m.period : Nat) : Int) / ((Nat.gcd (cyc (l.take k)) m.period : Nat) : Int)) ≤ 200 := Int.le_trans (Int.ediv_le_self _ (by omega)) (by omega)
      have hge2' : 0 ≤ ((cyc (l.take k) : Nat) : Int) * (((m.period : Nat) : Int) / ((Nat.gcd (cyc (l.take k)) m.period : Nat) : Int)) := Int.mul_nonneg (by omega) hq1
      clear hc hmk hval hle2 hd1 hd2
      generalize cyc (l.take k) = c at *
      go_wp2
      go_quiet ((go_at_call 25; exact Calls.quiet_of (gcd_any _ _ _ (by omega) (by omega))))
      go_wp2
      go_roundw
      case rel => exact ⟨k + 1, by omega, by go_num, by rw [HS2.out]; go_num, below_drewN (hb.alloc hb.size _) _⟩
      case measure => simp [intOf]; omega
    · have hk' : k = l.length := by omega
      have HK := Lib.hid hk'; clear hk'
      have HC : Hid (cyc (l.take k) = cyc l) := Lib.hid (by rw [HK.out, List.take_length])
      have hle1 := Nat.le_of_dvd (by omega) hd1
      clear hd1
      generalize cyc (l.take k) = c at *
      go_wp2
      go_loopw [5, 33] (fun s i wr => ∃ j : Nat, j ≤ l.length ∧ i = .int .i64 j ∧ s = .int .i64 (njobs c (l.take j) : Nat) ∧ Below w.heap.size w wr) (fun _ i _ => l.length - (intOf i).toNat)
      case atStart => exact ⟨0, Nat.zero_le _, rfl, rfl, hb⟩
      case round =>
        obtain ⟨j, hj, rfl, rfl, hb⟩ := hrel
        have hnj := njobs_le c (l.take j)
        have hnj2 : njobs c (l.take j) ≤ 1600 := by
          have h1 : (l.take j).length ≤ 8 := by simp; omega
          exact Nat.le_trans hnj (Nat.le_trans (Nat.mul_le_mul h1 hle1) (by omega))
        clear hnj
        by_cases hlt : j < l.length
        · obtain ⟨m, hmj⟩ : ∃ m, l[j]? = some m := ⟨l[j], by simp [hlt]⟩
          have hmem : m ∈ l := List.mem_of_getElem? hmj
          have hp := hg.p_le hmem
          have hs := hg.size m hmem
          have hc : ∀ o, wr.cell? ⟨b, o, none⟩ = w.cell? ⟨b, o, none⟩ := fun o => hb.cell (p := ⟨b, o, none⟩) hbw
          obtain ⟨c0, c1, c2, c3⟩ := hm j m hmj
          rw [← hc] at c0 c1 c2 c3
          have HS := Lib.hid (take_snoc' hmj)
          have hq1 : 0 ≤ (((c : Nat) : Int) / ((m.period : Nat) : Int)) := Int.ediv_nonneg (by omega) (by omega)
          have hq2 : (((c : Nat) : Int) / ((m.period : Nat) : Int)) ≤ 200 := Int.le_trans (Int.ediv_le_self _ (by omega)) (by omega)
          clear hc hmj
          go_wp2
          go_roundw
          case rel => exact ⟨j + 1, by omega, by go_num, by rw [HS.out, njobs_snoc]; go_num, hb.alloc hb.size _⟩
          case measure => simp [intOf]; omega
        · have hj' : j = l.length := by omega
          have HJ := Lib.hid hj'; clear hj'
          have HN : Hid (njobs c (l.take j) = njobs (cyc l) l) := Lib.hid (by rw [HJ.out, List.take_length, HC.out])
          generalize njobs c (l.take j) = nj at *
          by_cases h256 : nj ≤ 256
          · go_wp2
            go_ret2
            exact ⟨by rw [cycRes_yes (by rw [← HN.out]; exact h256), ← HC.out]; rfl, hb⟩
          · go_wp2
            go_ret2
            exact ⟨by rw [cycRes_no (by rw [← HN.out]; exact h256)]; rfl, hb⟩

end Go.Proofs.YtempbknidpmncaaDoor
