/- CountEqual of the program and of the reference, and the law. -/
import Derived.Test.YtgenphbackbepaaCopy
namespace Go.Proofs.Ytgenphbackbepaa
open Go.RowKit

def cntN (xs : List Nat) (x : Nat) : Nat := (xs.filter fun y => Fl.eq .f32 y x).length
theorem eq_comm (x y : Nat) : Fl.eq .f32 x y = Fl.eq .f32 y x := by
  rw [Fl.eq_ky, Fl.eq_ky]
  cases Fl.nan .f32 x <;> cases Fl.nan .f32 y <;> simp
  exact ⟨Eq.symm, Eq.symm⟩
theorem cnt_snoc (xs : List Nat) (x : Nat) {k : Nat} (h : k < xs.length) : cntN (xs.take (k + 1)) x = cntN (xs.take k) x + (if Fl.eq .f32 xs[k] x then 1 else 0) := by
  unfold cntN
  rw [List.take_succ_eq_append_getElem h, List.filter_append]
  cases hc : Fl.eq .f32 xs[k] x <;> simp [hc]
theorem cnt_le (xs : List Nat) (x k : Nat) : cntN (xs.take k) x ≤ k := by
  unfold cntN
  have h1 := List.length_filter_le (fun y => Fl.eq .f32 y x) (xs.take k)
  have h2 : (xs.take k).length ≤ k := List.length_take_le _ _
  omega
def countV (xs : List Nat) (x : Nat) : Nat := if xs.length ≤ 64 then cntN xs x else 0

set_option maxHeartbeats 1000000 in
theorem count_impl (A : Option Addr) (c : Nat) (xs : List Nat) (x : Nat) (w : World) (ha : Sing w w.heap.size A xs) (hn : xs.length ≤ 1048576) :
    Calls Try.prog 17 #[.slice A xs.length c, .float .f32 x] w fun e w' => e = .returned (.int .i64 (countV xs x : Nat)) ∧ w = w' := by
  have HA := hid ha
  clear ha
  by_cases h64 : xs.length ≤ 64
  · have hlz : (xs.length : Int) ≤ 64 := by omega
    have HV := hid (show countV xs x = cntN xs x from if_pos h64)
    go_enter Try.func17, Try.ntmps17
    go_wp2
    go_loop [5, 7, 13] (fun n _ i => ∃ k : Nat, k ≤ xs.length ∧ i = .int .i64 k ∧ n = .int .i64 (cntN (xs.take k) x : Nat)) (fun _ _ i => xs.length - (intOf i).toNat)
    case atStart => exact ⟨0, Nat.zero_le _, rfl, rfl⟩
    case round =>
      obtain ⟨k, hk, rfl, rfl⟩ := hrel
      have hcl := cnt_le xs x k
      by_cases hlt : k < xs.length
      · obtain ⟨ad, rfl, had, hca⟩ := HA.out.at_ hlt
        have hsn := cnt_snoc xs x hlt
        rw [eq_comm] at hsn
        have HS := hid hsn
        clear hsn
        have hkz : (k : Int) < (xs.length : Int) := by omega
        rcases Bool.eq_false_or_eq_true (FloatKind.f32.format.order x xs[k] == some .eq) with he | he
        all_goals
          have HE := hid he
          go_wp2
          go_round
          case rel => exact ⟨k + 1, by omega, by go_num, by rw [HS.out]; unfold Fl.eq; rw [HE.out]; go_num⟩
          case measure => simp [intOf]; omega
      · have : k = xs.length := by omega
        subst this
        go_wp2
        go_ret
        exact ⟨by rw [HV.out]; simp, rfl⟩
  · have hlz : (64 : Int) < (xs.length : Int) := by omega
    have HV := hid (show countV xs x = 0 from if_neg h64)
    go_enter Try.func17, Try.ntmps17
    go_wp2
    go_ret
    exact ⟨by rw [HV.out]; rfl, rfl⟩

set_option maxHeartbeats 1000000 in
theorem count_spec (A : Option Addr) (c : Nat) (xs : List Nat) (x : Nat) (w : World) (ha : Sing w w.heap.size A xs) (hn : xs.length ≤ 1048576) :
    Calls Try.prog 15 #[.slice A xs.length c, .float .f32 x] w fun e w' => e = .returned (.int .i64 (countV xs x : Nat)) ∧ w = w' := by
  have HA := hid ha
  clear ha
  by_cases h64 : xs.length ≤ 64
  · have hlz : (xs.length : Int) ≤ 64 := by omega
    have HV := hid (show countV xs x = cntN xs x from if_pos h64)
    go_enter Try.func15, Try.ntmps15
    go_wp2
    go_loop [5, 6] (fun n i => ∃ k : Nat, k ≤ xs.length ∧ i = .int .i64 k ∧ n = .int .i64 (cntN (xs.take k) x : Nat)) (fun _ i => xs.length - (intOf i).toNat)
    case atStart => exact ⟨0, Nat.zero_le _, rfl, rfl⟩
    case round =>
      obtain ⟨k, hk, rfl, rfl⟩ := hrel
      have hcl := cnt_le xs x k
      by_cases hlt : k < xs.length
      · obtain ⟨ad, rfl, had, hca⟩ := HA.out.at_ hlt
        have HS := hid (cnt_snoc xs x hlt)
        have hkz : (k : Int) < (xs.length : Int) := by omega
        rcases Bool.eq_false_or_eq_true (FloatKind.f32.format.order xs[k] x == some .eq) with he | he
        all_goals
          have HE := hid he
          go_wp2
          go_round
          case rel => exact ⟨k + 1, by omega, by go_num, by rw [HS.out]; unfold Fl.eq; rw [HE.out]; go_num⟩
          case measure => simp [intOf]; omega
      · have : k = xs.length := by omega
        subst this
        go_wp2
        go_ret
        exact ⟨by rw [HV.out]; simp, rfl⟩
  · have hlz : (64 : Int) < (xs.length : Int) := by omega
    have HV := hid (show countV xs x = 0 from if_neg h64)
    go_enter Try.func15, Try.ntmps15
    go_wp2
    go_loop [5, 6] (fun n i => n = .int .i64 0 ∧ i = .int .i64 0) (fun _ i => 0)
    case atStart => exact ⟨rfl, rfl⟩
    case round =>
      obtain ⟨rfl, rfl⟩ := hrel
      go_wp2
      go_ret
      exact ⟨by rw [HV.out]; rfl, rfl⟩

set_option maxHeartbeats 1000000 in
theorem law_count (A : Option Addr) (l c : Nat) (xs : List Nat) (hl : l = xs.length) (hx : l ≤ 9223372036854775807) (x : Nat) (w : World) (ha : Sing w w.heap.size A xs) (_ : ∀ x ∈ xs, x < 4294967296) :
    Calls Try.prog 3 #[.slice A l c, .float .f32 x] w fun e w' => e = .returned (.bool true) ∧ Below w.heap.size w w' := by
  subst hl
  have HA := hid ha
  clear ha
  by_cases hb : xs.length ≤ 1048576
  · have hbz : (xs.length : Int) ≤ 1048576 := by omega
    go_enter Try.func3, Try.ntmps3
    go_wp2_with fail
    refine (toS_any _ _ _ _ HA.out hb).mono ?_
    rintro e w1 ⟨g1, rfl, hg1, hs1, hb1⟩
    have H1 := hid hb1
    have HA1 := hid ((HA.out.below hb1).more hb1.size)
    clear hb1 HA
    go_wp2_with fail
    refine (count_spec _ _ _ _ _ hs1 hb).mono ?_
    rintro e w' ⟨rfl, rfl⟩
    go_wp2_with fail
    refine (toS_any _ _ _ _ HA1.out hb).mono ?_
    rintro e w2 ⟨g2, rfl, hg2, hs2, hb2⟩
    have H2 := hid (bthen H1.out hb2)
    have HA2 := hid ((HA1.out.below hb2).more hb2.size)
    clear hb2 HA1 H1 hs1
    go_wp2_with fail
    refine (count_impl _ _ _ _ _ hs2 hb).mono ?_
    rintro e w' ⟨rfl, rfl⟩
    go_wp2_with fail
    refine (toS_any _ _ _ _ HA2.out hb).mono ?_
    rintro e w3 ⟨g3, rfl, hg3, hs3, hb3⟩
    have H3 := hid (bthen H2.out hb3)
    have hs2' := (hs2.below hb3).more hb3.size
    clear hb3 HA2 H2 hs2
    go_wp2_with fail
    refine (eqS_any _ _ _ _ _ _ hs2' hs3 hb).mono ?_
    rintro e w4 ⟨rfl, hb4⟩
    have H4 := hid (bthen H3.out hb4)
    clear hb4 H3
    go_wp2
    go_ret
    exact ⟨rfl, H4.out⟩
  · have hbz : (1048576 : Int) < (xs.length : Int) := by omega
    go_enter Try.func3, Try.ntmps3
    go_wp2
    go_ret
    exact ⟨rfl, Below.refl _ _⟩
end Go.Proofs.Ytgenphbackbepaa
