/- MiddleOf and SpreadOf, of the program and of the reference, for every list. -/
import Derived.Test.YtgenphbackbepaaSrtS
set_option linter.unusedSimpArgs false
namespace Go.Proofs.Ytgenphbackbepaa
open Go.RowKit

/-- it returns a single that is this one, and a yes or no -/
def RetFE (v : Nat) (b : Bool) (w : World) (e : Ending) (w' : World) : Prop := ∃ r, e = .returned (.tuple #[.float .f32 r, .bool b]) ∧ True ∧ Fl.Eqv .f32 r v ∧ Below w.heap.size w w'
def middleB (xs : List Nat) : Bool := goodB xs && decide (0 < xs.length)
def middleV (xs : List Nat) : Nat := if middleB xs then midV xs else 0
def spreadB (xs : List Nat) : Bool := goodB xs && sprB xs
def spreadV (xs : List Nat) : Nat := if spreadB xs then sprD xs else 0
theorem good_len {xs : List Nat} (h : goodB xs = true) : xs.length ≤ 64 := (goodB_iff.1 h).1

set_option maxHeartbeats 1000000 in
theorem middle_impl (A : Option Addr) (c : Nat) (xs : List Nat) (w : World) (ha : Sing w w.heap.size A xs) (hn : xs.length ≤ 1048576) :
    Calls Try.prog 35 #[.slice A xs.length c] w (RetFE (middleV xs) (middleB xs) w) := by
  rcases Bool.eq_false_or_eq_true (goodB xs) with hg | hg
  · refine (midG_any A c xs hg w ha (good_len hg)).mono ?_
    rintro e w1 ⟨rfl, hb⟩
    have hB : middleB xs = decide (0 < xs.length) := by unfold middleB; rw [hg]; rfl
    have hV : middleV xs = if 0 < xs.length then midV xs else 0 := by
      unfold middleV
      rw [hB]
      by_cases h0 : 0 < xs.length
      · rw [if_pos h0, if_pos (by simpa using h0)]
      · rw [if_neg h0, if_neg (by simpa using h0)]
    rw [hB, hV]
    exact ⟨_, rfl, trivial, Fl.Eqv.refl _ _, hb⟩
  · have HG := hid hg
    have HA := hid ha
    have hB : middleB xs = false := by unfold middleB; rw [hg]; rfl
    have HV := hid (show middleV xs = 0 by unfold middleV; rw [hB]; rfl)
    rw [hB]
    clear hg ha hB
    go_enter Try.func35, Try.ntmps35
    go_wp2_with fail
    refine (good_impl A c xs w HA.out hn).mono ?_
    rintro e w1 ⟨rfl, hd1⟩
    have HB1 := hid (Drew.below hd1 w.heap.size)
    rw [HG.out]
    clear hd1
    go_wp2_with fail
    go_ret2
    exact ⟨_, rfl, trivial, by rw [HV.out]; exact Fl.Eqv.refl _ _, HB1.out⟩

set_option maxHeartbeats 1000000 in
theorem spread_impl (A : Option Addr) (c : Nat) (xs : List Nat) (w : World) (ha : Sing w w.heap.size A xs) (hn : xs.length ≤ 1048576) :
    Calls Try.prog 37 #[.slice A xs.length c] w (RetFE (spreadV xs) (spreadB xs) w) := by
  rcases Bool.eq_false_or_eq_true (goodB xs) with hg | hg
  · have hB : spreadB xs = sprB xs := by unfold spreadB; rw [hg]; rfl
    have hV : spreadV xs = sprV xs := by unfold spreadV sprV; rw [hB]
    rw [hB, hV]
    refine (spreadG_any A c xs hg w ha (good_len hg)).mono ?_
    rintro e w1 ⟨rfl, hb⟩
    exact ⟨_, rfl, trivial, Fl.Eqv.refl _ _, hb⟩
  · have HG := hid hg
    have HA := hid ha
    have hB : spreadB xs = false := by unfold spreadB; rw [hg]; rfl
    have HV := hid (show spreadV xs = 0 by unfold spreadV; rw [hB]; rfl)
    rw [hB]
    clear hg ha hB
    go_enter Try.func37, Try.ntmps37
    go_wp2_with fail
    refine (good_impl A c xs w HA.out hn).mono ?_
    rintro e w1 ⟨rfl, hd1⟩
    have HB1 := hid (Drew.below hd1 w.heap.size)
    rw [HG.out]
    clear hd1
    go_wp2_with fail
    go_ret2
    exact ⟨_, rfl, trivial, by rw [HV.out]; exact Fl.Eqv.refl _ _, HB1.out⟩

set_option maxRecDepth 20000 in
set_option maxHeartbeats 2000000 in
theorem middle_spec (A : Option Addr) (c : Nat) (xs : List Nat) (w : World) (ha : Sing w w.heap.size A xs) (hn : xs.length ≤ 1048576) :
    Calls Try.prog 34 #[.slice A xs.length c] w (RetFE (middleV xs) (middleB xs) w) := by
  have HA := hid ha
  clear ha
  rcases Bool.eq_false_or_eq_true (goodB xs) with hg | hg
  · have HG := hid hg
    have hl64 := good_len hg
    have hlz : (xs.length : Int) ≤ 64 := by omega
    by_cases h0 : 0 < xs.length
    · have h0z : ¬ ((xs.length : Int) = 0) := by omega
      have h1z : (1 : Int) ≤ (xs.length : Int) := by omega
      have hB : middleB xs = true := by unfold middleB; rw [hg, decide_eq_true h0]; rfl
      have HV := hid (show middleV xs = midV xs by unfold middleV; rw [hB]; rfl)
      rw [hB]
      clear hg hB
      go_enter Try.func34, Try.ntmps34
      go_wp2_with fail
      refine (good_spec A c xs w HA.out hn).mono ?_
      rintro e w1 ⟨rfl, hd1⟩
      have hb1 := Drew.below hd1 w.heap.size
      rw [HG.out]
      have HB1 := hid hb1
      have HA1 := hid ((HA.out.below hb1).more hb1.size)
      clear hd1 hb1
      go_wp2_with fail
      refine (sorted_any A c xs (good_nan HG.out) w1 HA1.out hl64).mono ?_
      rintro e w2 ⟨g, c2, rfl, hs2, hb2⟩
      have HB2 := hid (bthen HB1.out hb2)
      obtain ⟨k, hk⟩ : ∃ k, (xs.length - 1) / 2 = k := ⟨_, rfl⟩
      have hsl : (isort xs).length = xs.length := isort_len xs
      have hkl : k < (isort xs).length := by omega
      obtain ⟨_, e2, had, hca⟩ := hs2.atL hkl
      cases e2
      have HMV := hid (show midV xs = (isort xs).getD k 0 by unfold midV; rw [hk])
      generalize (isort xs).getD k 0 = m at hca HMV
      have hkz : ((xs.length : Int) - 1) / 2 = (k : Int) := by omega
      have hkn : (k : Int) < (xs.length : Int) := by omega
      rw [hsl]
      clear hs2 hb2 hk hkl hsl
      rw [addr_add0] at hca
      go_wp2_with fail
      go_ret2
      exact ⟨_, rfl, trivial, by rw [HV.out, HMV.out]; exact Fl.Eqv.refl _ _, HB2.out⟩
    · have h0z : (xs.length : Int) = 0 := by omega
      have hB : middleB xs = false := by unfold middleB; rw [hg, decide_eq_false h0]; rfl
      have HV := hid (show middleV xs = 0 by unfold middleV; rw [hB]; rfl)
      rw [hB]
      clear hg hB
      go_enter Try.func34, Try.ntmps34
      go_wp2_with fail
      refine (good_spec A c xs w HA.out hn).mono ?_
      rintro e w1 ⟨rfl, hd1⟩
      have HB1 := hid (Drew.below hd1 w.heap.size)
      rw [HG.out]
      clear hd1
      go_wp2_with fail
      go_ret2
      exact ⟨_, rfl, trivial, by rw [HV.out]; exact Fl.Eqv.refl _ _, HB1.out⟩
  · have HG := hid hg
    have hB : middleB xs = false := by unfold middleB; rw [hg]; rfl
    have HV := hid (show middleV xs = 0 by unfold middleV; rw [hB]; rfl)
    rw [hB]
    clear hg hB
    go_enter Try.func34, Try.ntmps34
    go_wp2_with fail
    refine (good_spec A c xs w HA.out hn).mono ?_
    rintro e w1 ⟨rfl, hd1⟩
    have HB1 := hid (Drew.below hd1 w.heap.size)
    rw [HG.out]
    clear hd1
    go_wp2_with fail
    go_ret2
    exact ⟨_, rfl, trivial, by rw [HV.out]; exact Fl.Eqv.refl _ _, HB1.out⟩

set_option maxRecDepth 20000 in
set_option maxHeartbeats 2000000 in
theorem spread_spec (A : Option Addr) (c : Nat) (xs : List Nat) (w : World) (ha : Sing w w.heap.size A xs) (hn : xs.length ≤ 1048576) :
    Calls Try.prog 36 #[.slice A xs.length c] w (RetFE (spreadV xs) (spreadB xs) w) := by
  have HA := hid ha
  clear ha
  rcases Bool.eq_false_or_eq_true (goodB xs) with hg | hg
  · have HG := hid hg
    have hl64 := good_len hg
    have hlz : (xs.length : Int) ≤ 64 := by omega
    by_cases h0 : 0 < xs.length
    · have h0z : ¬ ((xs.length : Int) = 0) := by omega
      have h1z : (1 : Int) ≤ (xs.length : Int) := by omega
      clear hg
      go_enter Try.func36, Try.ntmps36
      go_wp2_with fail
      refine (good_spec A c xs w HA.out hn).mono ?_
      rintro e w1 ⟨rfl, hd1⟩
      have hb1 := Drew.below hd1 w.heap.size
      rw [HG.out]
      have HB1 := hid hb1
      have HA1 := hid ((HA.out.below hb1).more hb1.size)
      clear hd1 hb1
      go_wp2_with fail
      refine (sorted_any A c xs (good_nan HG.out) w1 HA1.out hl64).mono ?_
      rintro e w2 ⟨g, c2, rfl, hs2, hb2⟩
      have HB2 := hid (bthen HB1.out hb2)
      obtain ⟨k, hk⟩ : ∃ k, xs.length - 1 = k := ⟨_, rfl⟩
      have hsl : (isort xs).length = xs.length := isort_len xs
      have hkl : k < (isort xs).length := by omega
      have hkl0 : 0 < (isort xs).length := by omega
      obtain ⟨_, e2, had, hca⟩ := hs2.atL hkl
      cases e2
      obtain ⟨_, e2, had, hcb⟩ := hs2.atL hkl0
      cases e2
      have hf1 : Fl.fin Ieee.single ((isort xs).getD k 0) = true := by
        have e : (isort xs).getD k 0 = (isort xs)[k] := by simp [List.getD, hkl]
        rw [e]; exact (goodB_iff.1 HG.out).2 _ (isort_mem.1 (List.getElem_mem _))
      have hf2 : Fl.fin Ieee.single ((isort xs).getD 0 0) = true := by
        have e : (isort xs).getD 0 0 = (isort xs)[0] := by simp [List.getD, hkl0]
        rw [e]; exact (goodB_iff.1 HG.out).2 _ (isort_mem.1 (List.getElem_mem _))
      obtain ⟨d, hd, _⟩ := Fl.sub_spec Ieee.single hf1 hf2
      have HD := hid (show floatBits .sub .f32 ((isort xs).getD k 0) ((isort xs).getD 0 0) = some d from hd)
      have HSD := hid (show sprD xs = d by unfold sprD; rw [hk]; exact Fl.arith_some HD.out)
      generalize (isort xs).getD k 0 = m at hca HD
      generalize (isort xs).getD 0 0 = m0 at hcb HD
      have hkz : (xs.length : Int) - 1 = (k : Int) := by omega
      have hkn : (k : Int) < (xs.length : Int) := by omega
      have h0n : (0 : Int) < (xs.length : Int) := by omega
      have hwr : IntKind.i64.wrap (k : Int) = (k : Int) := by rw [IntKind.wrap_i64]; omega
      rw [hsl]
      clear hs2 hb2 hk hkl hkl0 hf1 hf2 hd hsl
      rw [addr_add0] at hca hcb
      go_wp2_with fail
      go_quiet (first | (rw [run_float_arith _ _ _ _ _ _ _ HD.out]; exact ⟨rfl, rfl⟩))
      go_wp2_with fail
      refine upon_widen some_f32 Try.underlying28 ?_
      intro r n3 hr
      have E := hid hr.fin32
      clear hr
      go_wp2_with fail
      refine (fine_any _ _).mono ?_
      rintro e w3 ⟨rfl, m3, rfl⟩
      rw [show finB r = fin32 d from E.out]
      rcases Bool.eq_false_or_eq_true (fin32 d) with hf | hf
      · have HSB := hid (show spreadB xs = true by unfold spreadB sprB; rw [HG.out, decide_eq_true h0, HSD.out, hf]; rfl)
        have HSV := hid (show spreadV xs = d by unfold spreadV; rw [HSB.out, HSD.out]; rfl)
        rw [hf]
        clear hf
        go_wp2_with fail
        go_ret2
        exact ⟨d, by rw [HSB.out]; rfl, trivial, by rw [HSV.out]; exact Fl.Eqv.refl _ _, below_drewN HB2.out _⟩
      · have HSB := hid (show spreadB xs = false by unfold spreadB sprB; rw [HG.out, decide_eq_true h0, HSD.out, hf]; rfl)
        have HSV := hid (show spreadV xs = 0 by unfold spreadV; rw [HSB.out]; rfl)
        rw [hf]
        clear hf
        go_wp2_with fail
        go_ret2
        exact ⟨0, by rw [HSB.out]; rfl, trivial, by rw [HSV.out]; exact Fl.Eqv.refl _ _, below_drewN HB2.out _⟩
    · have h0z : (xs.length : Int) = 0 := by omega
      have hB : spreadB xs = false := by unfold spreadB sprB; rw [hg, decide_eq_false h0]; rfl
      have HV := hid (show spreadV xs = 0 by unfold spreadV; rw [hB]; rfl)
      rw [hB]
      clear hg hB
      go_enter Try.func36, Try.ntmps36
      go_wp2_with fail
      refine (good_spec A c xs w HA.out hn).mono ?_
      rintro e w1 ⟨rfl, hd1⟩
      have HB1 := hid (Drew.below hd1 w.heap.size)
      rw [HG.out]
      clear hd1
      go_wp2_with fail
      go_ret2
      exact ⟨_, rfl, trivial, by rw [HV.out]; exact Fl.Eqv.refl _ _, HB1.out⟩
  · have HG := hid hg
    have hB : spreadB xs = false := by unfold spreadB; rw [hg]; rfl
    have HV := hid (show spreadV xs = 0 by unfold spreadV; rw [hB]; rfl)
    rw [hB]
    clear hg hB
    go_enter Try.func36, Try.ntmps36
    go_wp2_with fail
    refine (good_spec A c xs w HA.out hn).mono ?_
    rintro e w1 ⟨rfl, hd1⟩
    have HB1 := hid (Drew.below hd1 w.heap.size)
    rw [HG.out]
    clear hd1
    go_wp2_with fail
    go_ret2
    exact ⟨_, rfl, trivial, by rw [HV.out]; exact Fl.Eqv.refl _ _, HB1.out⟩
end Go.Proofs.Ytgenphbackbepaa
