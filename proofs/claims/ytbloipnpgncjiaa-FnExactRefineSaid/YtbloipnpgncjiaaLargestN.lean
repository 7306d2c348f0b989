/- Largest, of the program and of the reference. -/
import Derived.Test.YtbloipnpgncjiaaTab2
namespace Go.Proofs.Ytbloipnpgncjiaa
open Go.RowKit

def amountN (y : Nat) : Nat := if Fl.lt .f32 y 0 then negB y else y
def maxN (m a : Nat) : Nat := if Fl.lt .f32 m a then a else m
def largestN (ps : List (Nat × Nat)) : Nat := ps.foldl (fun m p => maxN m (amountN p.2)) 0
/-- it returns a single that is this one (but for which NaN) -/
def RetL (v : Nat) (w : World) (e : Ending) (w' : World) : Prop := ∃ r, e = .returned (.float .f32 r) ∧ Fl.Eqv .f32 r v ∧ Below w.heap.size w w'
def largestV (ps : List (Nat × Nat)) : Nat := if tabOk ps then largestN ps else 0
theorem largest_snoc (ps : List (Nat × Nat)) {k : Nat} (h : k < ps.length) : largestN (ps.take (k + 1)) = maxN (largestN (ps.take k)) (amountN ps[k].2) := by
  unfold largestN
  rw [List.take_succ_eq_append_getElem h, List.foldl_append]; rfl
theorem rung_negB (y : Nat) : Fl.rung Ieee.single (negB y) = Fl.rung Ieee.single y := by
  have e : negB y = y ^^^ 2 ^ 31 := rfl
  have s : Ieee.single.signWeight = 2 ^ 31 := by decide +kernel
  unfold Fl.rung
  rw [e, s, Nat.xor_mod_two_pow]
  simp
theorem fin_negB (y : Nat) : fin32 (negB y) = fin32 y := by
  unfold fin32 Fl.fin; rw [rung_negB]
theorem fin_amount {y : Nat} (h : fin32 y = true) : fin32 (amountN y) = true := by
  unfold amountN
  split
  · rw [fin_negB]; exact h
  · exact h
/-- finite and not below 0, to the sign -/
def Pos (m : Nat) : Prop := fin32 m = true ∧ Fl.neg Ieee.single m = false
theorem pos_zero : Pos 0 := by constructor <;> decide +kernel
theorem pos_max {m a : Nat} (hm : Pos m) (ha : fin32 a = true) : Pos (maxN m a) := by
  unfold maxN
  split
  · rename_i h
    refine ⟨ha, ?_⟩
    rw [Fl.lt_ky] at h
    simp only [Bool.and_eq_true, decide_eq_true_eq] at h
    have h2 : 0 ≤ Fl.ky .f32 m := by
      show 0 ≤ Fl.key Ieee.single m
      unfold Fl.key; rw [hm.2]; simp
    have h3 : 0 < Fl.key Ieee.single a := Int.lt_of_le_of_lt h2 h.2
    cases hn : Fl.neg Ieee.single a
    · rfl
    · unfold Fl.key at h3; rw [hn] at h3; simp at h3; omega
  · exact hm
theorem run_max32 {P : Program} {m a : Nat} (hm : Pos m) (ha : fin32 a = true) (ts : Array TypeId) (t : TypeId) (w : World) : (Builtin.max_ ts t #[.float .f32 m, .float .f32 a]).run P w = .ok (.float .f32 (maxN m a)) w := by
  have n1 := Fl.fin_nan .f32 hm.1
  have n2 := Fl.fin_nan .f32 ha
  have ho := Fl.order_ky .f32 n1 n2
  have hneg : (FloatKind.f32.decode m).neg = false := by
    obtain ⟨m', p', e, _⟩ := Fl.read_fin Ieee.single hm.1
    have e' : FloatKind.f32.decode m = .number (Fl.neg Ieee.single m) m' p' := e
    rw [e']; exact hm.2
  have hl : Fl.lt .f32 m a = (FloatKind.f32.format.order m a == some .lt) := rfl
  unfold maxN
  rw [hl]
  rcases hc : compare (Fl.ky .f32 m) (Fl.ky .f32 a) with _ | _ | _ <;> rw [hc] at ho <;> simp [Builtin.max_, Builtin.max2, ho, hneg] <;> rfl
theorem gt_lt' (x y : Nat) : (FloatKind.f32.format.order x y == some .gt) = Fl.lt .f32 y x := gt_lt x y

set_option maxHeartbeats 400000 in
theorem amount_spec (y : Nat) (w : World) : Calls Try.prog 84 #[.float .f32 y] w fun e w' => e = .returned (.float .f32 (amountN y)) ∧ w' = w := by
  rcases Bool.eq_false_or_eq_true (Fl.lt .f32 y 0) with h | h
  · have H := hid (show amountN y = negB y by unfold amountN; rw [h]; rfl)
    have hl : (FloatKind.f32.format.order y 0 == some .lt) = true := h
    clear h
    go_enter Try.func84, Try.ntmps84
    go_wp2_with fail
    go_ret
    exact ⟨by rw [H.out]; rfl, rfl⟩
  · have H := hid (show amountN y = y by unfold amountN; rw [h]; rfl)
    have hl : (FloatKind.f32.format.order y 0 == some .lt) = false := h
    clear h
    go_enter Try.func84, Try.ntmps84
    go_wp2_with fail
    go_ret
    exact ⟨by rw [H.out]; rfl, rfl⟩

set_option maxHeartbeats 400000 in
theorem amount_impl (y : Nat) (w : World) : Calls Try.prog 85 #[.float .f32 y] w fun e w' => e = .returned (.float .f32 (amountN y)) ∧ w' = w := by
  rcases Bool.eq_false_or_eq_true (Fl.lt .f32 y 0) with h | h
  · have H := hid (show amountN y = negB y by unfold amountN; rw [h]; rfl)
    have hl : (FloatKind.f32.format.order y 0 == some .lt) = true := h
    clear h
    go_enter Try.func85, Try.ntmps85
    go_wp2_with fail
    go_ret
    exact ⟨by rw [H.out]; rfl, rfl⟩
  · have H := hid (show amountN y = y by unfold amountN; rw [h]; rfl)
    have hl : (FloatKind.f32.format.order y 0 == some .lt) = false := h
    clear h
    go_enter Try.func85, Try.ntmps85
    go_wp2_with fail
    go_ret
    exact ⟨by rw [H.out]; rfl, rfl⟩

set_option maxRecDepth 20000 in
set_option maxHeartbeats 2000000 in
theorem largest_spec (A : Option Addr) (c : Nat) (ps : List (Nat × Nat)) (w : World) (ha : Pts w w.heap.size A ps) (hn : ps.length ≤ 1048576) :
    Calls Try.prog 40 #[.slice A ps.length c] w (RetL (largestV ps) w) := by
  have HA := hid ha
  clear ha
  rcases Bool.eq_false_or_eq_true (tabOk ps) with ht | ht
  · have HT := hid ht
    have HL := hid (tabOk_iff.1 ht)
    have HV := hid (show largestV ps = largestN ps by unfold largestV; rw [ht]; rfl)
    have hlz : (ps.length : Int) ≤ 32 := by have := HL.out.1; omega
    clear ht
    go_enter Try.func40, Try.ntmps40
    go_wp2_with fail
    go_loopw [3, 4] (fun m i wr => ∃ k : Nat, k ≤ ps.length ∧ i = .int .i64 k ∧ m = .float .f32 (largestN (ps.take k)) ∧ Pos (largestN (ps.take k)) ∧ Below w.heap.size w wr) (fun _ i _ => ps.length - (intOf i).toNat)
    case atStart => exact ⟨0, by omega, rfl, rfl, pos_zero, Below.refl _ _⟩
    case round =>
      obtain ⟨k, hk, rfl, rfl, hp, hb⟩ := hrel
      have HP := hid hp
      have HB := hid hb
      clear hp
      by_cases hlt : k < ps.length
      · have hkz : (k : Int) < (ps.length : Int) := by omega
        have HAr := hid ((HA.out.below hb).more HB.out.size)
        clear hb
        go_wp2_with fail
        refine (tab_spec _ _ _ _ (by exact HAr.out) hn).mono ?_
        rintro e w1 ⟨rfl, n1, rfl⟩
        rw [show tabOk ps = true from HT.out]
        obtain ⟨ad, rfl, had, hca, hca'⟩ := HAr.out.at_ hlt
        have HF := hid (fin_amount (step_fin (getD_at hlt) (HL.out.2 k hlt)).2)
        have HS := hid (largest_snoc ps hlt)
        generalize largestN (ps.take k) = m at HP HS
        generalize ps[k].2 = y at hca' HF HS
        clear hca
        rcases Bool.eq_false_or_eq_true (Fl.lt .f32 m (amountN y)) with hl | hl
        · have HL1 := hid (show maxN m (amountN y) = amountN y by unfold maxN; rw [hl]; rfl)
          have hgt : (FloatKind.f32.format.order (amountN y) m == some .gt) = true := (gt_lt' _ _).trans hl
          clear hl
          go_wp2_with fail
          refine (amount_spec _ _).mono ?_
          rintro e w2 ⟨rfl, rfl⟩
          go_wp2_with fail
          refine (amount_spec _ _).mono ?_
          rintro e w2 ⟨rfl, rfl⟩
          go_wp2_with fail
          go_roundw
          case rel => exact ⟨k + 1, by omega, by go_num, by rw [HS.out, HL1.out], by rw [HS.out]; exact pos_max HP.out HF.out, below_drewN HB.out _⟩
          case measure => simp [intOf]; omega
        · have HL1 := hid (show maxN m (amountN y) = m by unfold maxN; rw [hl]; rfl)
          have hgt : (FloatKind.f32.format.order (amountN y) m == some .gt) = false := (gt_lt' _ _).trans hl
          clear hl
          go_wp2_with fail
          refine (amount_spec _ _).mono ?_
          rintro e w2 ⟨rfl, rfl⟩
          go_wp2_with fail
          go_roundw
          case rel => exact ⟨k + 1, by omega, by go_num, by rw [HS.out, HL1.out], by rw [HS.out]; exact pos_max HP.out HF.out, below_drewN HB.out _⟩
          case measure => simp [intOf]; omega
      · have : k = ps.length := by omega
        subst this
        clear hb
        go_wp2_with fail
        go_ret
        refine ⟨_, rfl, ?_, HB.out⟩
        rw [HV.out, List.take_length]; exact Fl.Eqv.refl _ _
  · have HT := hid ht
    have HV := hid (show largestV ps = 0 by unfold largestV; rw [ht]; rfl)
    have hnz : (ps.length : Int) ≤ 1048576 := by omega
    clear ht
    by_cases h0 : ps.length = 0
    · have h0z : (ps.length : Int) = 0 := by omega
      go_enter Try.func40, Try.ntmps40
      go_wp2_with fail
      go_loopw [3, 4] (fun m i wr => i = .int .i64 0 ∧ m = .float .f32 0 ∧ wr = w) (fun _ _ _ => 0)
      case atStart => exact ⟨rfl, rfl, rfl⟩
      case round =>
        obtain ⟨rfl, rfl, rfl⟩ := hrel
        go_wp2_with fail
        go_ret
        exact ⟨0, rfl, by rw [HV.out]; exact Fl.Eqv.refl _ _, Below.refl _ _⟩
    · have h0z : (0 : Int) < (ps.length : Int) := by omega
      go_enter Try.func40, Try.ntmps40
      go_wp2_with fail
      go_loopw [3, 4] (fun m i wr => i = .int .i64 0 ∧ m = .float .f32 0 ∧ wr = w) (fun _ _ _ => 0)
      case atStart => exact ⟨rfl, rfl, rfl⟩
      case round =>
        obtain ⟨rfl, rfl, rfl⟩ := hrel
        go_wp2_with fail
        refine (tab_spec _ _ _ _ HA.out hn).mono ?_
        rintro e w1 ⟨rfl, n1, rfl⟩
        rw [show tabOk ps = false from HT.out]
        go_wp2_with fail
        go_ret
        exact ⟨0, rfl, by rw [HV.out]; exact Fl.Eqv.refl _ _, below_drewN (Below.refl _ _) _⟩

set_option maxRecDepth 20000 in
set_option maxHeartbeats 2000000 in
theorem largest_impl (A : Option Addr) (c : Nat) (ps : List (Nat × Nat)) (w : World) (ha : Pts w w.heap.size A ps) (hn : ps.length ≤ 1048576) :
    Calls Try.prog 41 #[.slice A ps.length c] w (RetL (largestV ps) w) := by
  have HA := hid ha
  clear ha
  rcases Bool.eq_false_or_eq_true (tabOk ps) with ht | ht
  · have HT := hid ht
    have HL := hid (tabOk_iff.1 ht)
    have HV := hid (show largestV ps = largestN ps by unfold largestV; rw [ht]; rfl)
    have hlz : (ps.length : Int) ≤ 32 := by have := HL.out.1; omega
    clear ht
    go_enter Try.func41, Try.ntmps41
    go_wp2_with fail
    refine (tab_impl _ _ _ _ HA.out hn).mono ?_
    rintro e w1 ⟨rfl, hb⟩
    rw [show tabOk ps = true from HT.out]
    have H1 := hid (hb)
    have HA1 := hid (HA.out.next H1.out)
    clear hb
    go_wp2_with fail
    go_loopw [3, 5, 11] (fun m _ i wr => ∃ k : Nat, k ≤ ps.length ∧ i = .int .i64 k ∧ m = .float .f32 (largestN (ps.take k)) ∧ Pos (largestN (ps.take k)) ∧ Below w1.heap.size w1 wr) (fun _ _ i _ => ps.length - (intOf i).toNat)
    case atStart => exact ⟨0, by omega, rfl, rfl, pos_zero, Below.refl _ _⟩
    case round =>
      obtain ⟨k, hk, rfl, rfl, hp, hb⟩ := hrel
      have HP := hid hp
      have HB := hid hb
      clear hp
      by_cases hlt : k < ps.length
      · have hkz : (k : Int) < (ps.length : Int) := by omega
        obtain ⟨ad, rfl, had, hca, hca'⟩ := (HA1.out.below hb).at_ hlt
        have HF := hid (fin_amount (step_fin (getD_at hlt) (HL.out.2 k hlt)).2)
        have HS := hid (largest_snoc ps hlt)
        generalize largestN (ps.take k) = m at HP HS
        generalize ps[k].2 = y at hca' HF HS
        clear hb
        have hmax := run_max32 (P := Try.prog) HP.out HF.out
        go_wp2_with fail
        refine (amount_impl _ _).mono ?_
        rintro e w2 ⟨rfl, rfl⟩
        go_wp2_with fail
        go_roundw
        case rel => exact ⟨k + 1, by omega, by go_num, by rw [HS.out], by rw [HS.out]; exact pos_max HP.out HF.out, (HB.out.alloc HB.out.size _)⟩
        case measure => simp [intOf]; omega
      · have : k = ps.length := by omega
        subst this
        clear hb
        go_wp2_with fail
        go_ret
        refine ⟨_, rfl, ?_, bthen H1.out HB.out⟩
        rw [HV.out, List.take_length]; exact Fl.Eqv.refl _ _
  · have HT := hid ht
    have HV := hid (show largestV ps = 0 by unfold largestV; rw [ht]; rfl)
    have hnz : (ps.length : Int) ≤ 1048576 := by omega
    clear ht
    go_enter Try.func41, Try.ntmps41
    go_wp2_with fail
    refine (tab_impl _ _ _ _ HA.out hn).mono ?_
    rintro e w1 ⟨rfl, hb⟩
    rw [show tabOk ps = false from HT.out]
    have H1 := hid (hb)
    have HA1 := hid (HA.out.next H1.out)
    clear hb
    go_wp2_with fail
    go_ret
    exact ⟨0, rfl, by rw [HV.out]; exact Fl.Eqv.refl _ _, H1.out⟩
end Go.Proofs.Ytbloipnpgncjiaa
