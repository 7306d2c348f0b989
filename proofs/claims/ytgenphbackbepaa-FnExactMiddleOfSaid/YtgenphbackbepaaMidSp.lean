/- MiddleOf and SpreadOf of the program, of a short good list. -/
import Derived.Test.YtgenphbackbepaaRisen
import Derived.Test.YtgenphbackbepaaNum
namespace Go.Proofs.Ytgenphbackbepaa
open Go.RowKit

def midV (xs : List Nat) : Nat := (isort xs).getD ((xs.length - 1) / 2) 0
def sprD (xs : List Nat) : Nat := Fl.arith .f32 .sub ((isort xs).getD (xs.length - 1) 0) ((isort xs).getD 0 0)
def sprB (xs : List Nat) : Bool := decide (0 < xs.length) && fin32 (sprD xs)
def sprV (xs : List Nat) : Nat := if sprB xs then sprD xs else 0
theorem good_nan {xs : List Nat} (h : goodB xs = true) : ∀ x ∈ xs, Fl.nan .f32 x = false := fun x hx => Fl.fin_nan .f32 (show Fl.fin Ieee.single x = true from (goodB_iff.1 h).2 x hx)
theorem Sing.atD {w : World} {B : Nat} {A : Option Addr} {xs : List Nat} (h : Sing w B A xs) {k : Nat} (hk : k < xs.length) : ∃ ad, A = some ad ∧ ad.block < B ∧ w.cell? (ad.add k) = some (.float .f32 (xs.getD k 0)) := by
  obtain ⟨ad, e, hb, hc⟩ := h.at_ hk
  exact ⟨ad, e, hb, by simpa [List.getD, hk] using hc⟩

set_option maxRecDepth 20000 in
set_option maxHeartbeats 1000000 in
theorem mid_any (A : Option Addr) (c : Nat) (xs : List Nat) (hg : goodB xs = true) (w : World) (ha : Sing w w.heap.size A xs) (hn : xs.length ≤ 19) :
    Calls Try.prog 35 #[.slice A xs.length c] w fun e w' => e = .returned (.tuple #[.float .f32 (if 0 < xs.length then midV xs else 0), .bool (decide (0 < xs.length))]) ∧ Below w.heap.size w w' := by
  have HA := hid ha
  have HG := hid hg
  have hlz : (xs.length : Int) ≤ 19 := by omega
  clear ha hg
  by_cases h0 : 0 < xs.length
  · have h0z : ¬ ((xs.length : Int) = 0) := by omega
    have h1z : (1 : Int) ≤ (xs.length : Int) := by omega
    rw [decide_eq_true h0, if_pos h0]
    go_enter Try.func35, Try.ntmps35
    go_wp2_with fail
    refine (good_impl A c xs w HA.out (by omega)).mono ?_
    rintro e w1 ⟨rfl, hd1⟩
    have hb1 := Drew.below hd1 w.heap.size
    rw [HG.out]
    have HB1 := hid hb1
    have HA1 := hid ((HA.out.below hb1).more hb1.size)
    clear hd1 hb1
    go_wp2_with fail
    refine (risen_any A c xs (good_nan HG.out) w1 HA1.out h0 hn).mono ?_
    rintro e w2 ⟨g, c2, rfl, hs2, hb2⟩
    have HB2 := hid (bthen HB1.out hb2)
    obtain ⟨k, hk⟩ : ∃ k, (xs.length - 1) / 2 = k := ⟨_, rfl⟩
    have hkl : k < (isort xs).length := by rw [isort_len]; omega
    obtain ⟨ad, e2, had, hca⟩ := hs2.atD hkl
    cases e2
    have HMV := hid (show midV xs = (isort xs).getD k 0 by unfold midV; rw [hk])
    generalize (isort xs).getD k 0 = m at hca HMV
    have hkz : ((xs.length : Int) - 1) / 2 = (k : Int) := by omega
    have hkn : (k : Int) < (xs.length : Int) := by omega
    clear hs2 hb2 hk hkl
    rw [addr_add0] at hca
    go_wp2_with fail
    go_ret2
    exact ⟨by rw [HMV.out]; rfl, HB2.out⟩
  · have h0z : (xs.length : Int) = 0 := by omega
    rw [decide_eq_false h0, if_neg h0]
    go_enter Try.func35, Try.ntmps35
    go_wp2_with fail
    refine (good_impl A c xs w HA.out (by omega)).mono ?_
    rintro e w1 ⟨rfl, hd1⟩
    have hb1 := Drew.below hd1 w.heap.size
    rw [HG.out]
    have HB1 := hid hb1
    clear hd1 hb1
    go_wp2_with fail
    go_ret2
    exact ⟨rfl, HB1.out⟩

set_option maxRecDepth 20000 in
set_option maxHeartbeats 1000000 in
theorem spread_any (A : Option Addr) (c : Nat) (xs : List Nat) (hg : goodB xs = true) (w : World) (ha : Sing w w.heap.size A xs) (hn : xs.length ≤ 19) :
    Calls Try.prog 37 #[.slice A xs.length c] w fun e w' => e = .returned (.tuple #[.float .f32 (sprV xs), .bool (sprB xs)]) ∧ Below w.heap.size w w' := by
  have HA := hid ha
  have HG := hid hg
  have hlz : (xs.length : Int) ≤ 19 := by omega
  clear ha hg
  by_cases h0 : 0 < xs.length
  · have h0z : ¬ ((xs.length : Int) = 0) := by omega
    have h1z : (1 : Int) ≤ (xs.length : Int) := by omega
    go_enter Try.func37, Try.ntmps37
    go_wp2_with fail
    refine (good_impl A c xs w HA.out (by omega)).mono ?_
    rintro e w1 ⟨rfl, hd1⟩
    have hb1 := Drew.below hd1 w.heap.size
    rw [HG.out]
    have HB1 := hid hb1
    have HA1 := hid ((HA.out.below hb1).more hb1.size)
    clear hd1 hb1
    go_wp2_with fail
    refine (risen_any A c xs (good_nan HG.out) w1 HA1.out h0 hn).mono ?_
    rintro e w2 ⟨g, c2, rfl, hs2, hb2⟩
    have HB2 := hid (bthen HB1.out hb2)
    obtain ⟨k, hk⟩ : ∃ k, xs.length - 1 = k := ⟨_, rfl⟩
    have hkl : k < (isort xs).length := by rw [isort_len]; omega
    have hkl0 : 0 < (isort xs).length := by rw [isort_len]; omega
    obtain ⟨ad, e2, had, hca⟩ := hs2.atD hkl
    cases e2
    obtain ⟨ad, e2, had, hcb⟩ := hs2.atD hkl0
    cases e2
    have hf1 : Fl.fin Ieee.single ((isort xs).getD k 0) = true := by
      have e : (isort xs).getD k 0 = (isort xs)[k] := by simp [List.getD, hkl]
      rw [e]; exact (goodB_iff.1 HG.out).2 _ (isort_mem.1 (List.getElem_mem _))
    have hf2 : Fl.fin Ieee.single ((isort xs).getD 0 0) = true := by
      have e : (isort xs).getD 0 0 = (isort xs)[0] := by simp [List.getD, hkl0]
      rw [e]; exact (goodB_iff.1 HG.out).2 _ (isort_mem.1 (List.getElem_mem _))
    obtain ⟨d, hd, _⟩ := Fl.sub_spec Ieee.single hf1 hf2
    have HD := hid (show floatBits .sub .f32 ((isort xs).getD k 0) ((isort xs).getD 0 0) = some d from hd)
    have HSD := hid (show sprD xs = d by unfold sprD; rw [hk]; exact Fl.arith_some HD.out)
    generalize (isort xs).getD k 0 = m at hca HD
    generalize (isort xs).getD 0 0 = m0 at hcb HD
    have hkz : (xs.length : Int) - 1 = (k : Int) := by omega
    have hkn : (k : Int) < (xs.length : Int) := by omega
    have h0n : (0 : Int) < (xs.length : Int) := by omega
    have hwr : IntKind.i64.wrap (k : Int) = (k : Int) := by rw [IntKind.wrap_i64]; omega
    clear hs2 hb2 hk hkl hkl0 hf1 hf2 hd
    rw [addr_add0] at hca hcb
    go_wp2_with fail
    go_quiet (first | (rw [run_float_arith _ _ _ _ _ _ _ HD.out]; exact ⟨rfl, rfl⟩))
    go_wp2_with fail
    refine (finiteSingle_any _ _).mono ?_
    rintro e w3 ⟨rfl, n3, rfl⟩
    rcases Bool.eq_false_or_eq_true (fin32 d) with hf | hf
    · have HSB := hid (show sprB xs = true by unfold sprB; rw [decide_eq_true h0, HSD.out, hf]; rfl)
      have HSV := hid (show sprV xs = d by unfold sprV; rw [HSB.out, HSD.out]; rfl)
      rw [hf]
      clear hf
      go_wp2_with fail
      go_ret2
      exact ⟨by rw [HSB.out, HSV.out]; rfl, below_drewN HB2.out _⟩
    · have HSB := hid (show sprB xs = false by unfold sprB; rw [decide_eq_true h0, HSD.out, hf]; rfl)
      have HSV := hid (show sprV xs = 0 by unfold sprV; rw [HSB.out]; rfl)
      rw [hf]
      clear hf
      go_wp2_with fail
      go_ret2
      exact ⟨by rw [HSB.out, HSV.out]; rfl, below_drewN HB2.out _⟩
  · have h0z : (xs.length : Int) = 0 := by omega
    have HSB := hid (show sprB xs = false by unfold sprB; rw [decide_eq_false h0]; rfl)
    have HSV := hid (show sprV xs = 0 by unfold sprV; rw [HSB.out]; rfl)
    go_enter Try.func37, Try.ntmps37
    go_wp2_with fail
    refine (good_impl A c xs w HA.out (by omega)).mono ?_
    rintro e w1 ⟨rfl, hd1⟩
    have hb1 := Drew.below hd1 w.heap.size
    rw [HG.out]
    have HB1 := hid hb1
    clear hd1 hb1
    go_wp2_with fail
    go_ret2
    exact ⟨by rw [HSB.out, HSV.out]; rfl, HB1.out⟩
end Go.Proofs.Ytgenphbackbepaa
