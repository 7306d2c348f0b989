/- TableRises, of the program and of the reference. -/
import Derived.Test.YthdmbbbkjomhhaaTab2
namespace Go.Proofs.Ythdmbbbkjomhhaa
open Go.RowKit

def riseAt (ps : List (Nat × Nat)) (i : Nat) : Bool := i == 0 || Fl.lt .f32 (ps.getD (i - 1) (0, 0)).2 (ps.getD i (0, 0)).2
def risesB (ps : List (Nat × Nat)) : Bool := tabOk ps && (List.range ps.length).all (riseAt ps)
theorem risesB_iff {ps : List (Nat × Nat)} : risesB ps = true ↔ tabOk ps = true ∧ ∀ i, i < ps.length → riseAt ps i = true := by simp [risesB]
theorem risesB_not {ps : List (Nat × Nat)} {k : Nat} (hk : k < ps.length) (h : riseAt ps k = false) : risesB ps = false := by
  cases ht : risesB ps
  · rfl
  · rw [(risesB_iff.1 ht).2 k hk] at h; cases h
theorem rise_next {ps : List (Nat × Nat)} {k x y x' y' : Nat} (h0 : k ≠ 0) (h : ps.getD k (0, 0) = (x, y)) (h' : ps.getD (k - 1) (0, 0) = (x', y')) : riseAt ps k = Fl.lt .f32 y' y := by
  unfold riseAt; rw [h, h', show (k == 0) = false by simpa using h0]; simp

set_option maxRecDepth 20000 in
set_option maxHeartbeats 2000000 in
theorem rises_spec (A : Option Addr) (c : Nat) (ps : List (Nat × Nat)) (w : World) (ha : Pts w w.heap.size A ps) (hn : ps.length ≤ 1048576) :
    Calls Try.prog 38 #[.slice A ps.length c] w fun e w' => e = .returned (.bool (risesB ps)) ∧ Below w.heap.size w w' := by
  have HA := hid ha
  clear ha
  rcases Bool.eq_false_or_eq_true (tabOk ps) with ht | ht
  · have HT := hid ht
    have HL := hid (tabOk_iff.1 ht)
    have hlz : (ps.length : Int) ≤ 32 := by have := HL.out.1; omega
    have h2z : (2 : Int) ≤ (ps.length : Int) := by have := HL.out.1; omega
    have h2n : 2 ≤ ps.length := HL.out.1.1
    clear ht
    go_enter Try.func38, Try.ntmps38
    go_wp2_with fail
    refine (tab_spec _ _ _ _ HA.out hn).mono ?_
    rintro e w1 ⟨rfl, hb⟩
    rw [show tabOk ps = true from HT.out]
    have H1 := hid (Drew.below hb w.heap.size)
    have HA1 := hid (HA.out.next H1.out)
    clear hb
    go_wp2_with fail
    go_loopw [3] (fun i wr => ∃ k : Nat, 1 ≤ k ∧ k ≤ ps.length ∧ i = .int .i64 k ∧ (∀ i, i < k → riseAt ps i = true) ∧ Below w1.heap.size w1 wr) (fun i _ => ps.length - (intOf i).toNat)
    case atStart => exact ⟨1, by omega, by omega, rfl, fun i h => by rw [show i = 0 by omega]; rfl, Below.refl _ _⟩
    case round =>
      obtain ⟨k, h1, hk, rfl, hall, hb⟩ := hrel
      have HR := hid hall
      have HB := hid hb
      clear hall
      by_cases hlt : k < ps.length
      · obtain ⟨ad, x, y, rfl, had, hxy, hca, hca'⟩ := (HA1.out.below hb).at2 hlt
        obtain ⟨ad', x', y', had', _, hxy', hcb, hcb'⟩ := (HA1.out.below hb).at2 (k := k - 1) (by omega)
        cases had'
        have hkz : (k : Int) < (ps.length : Int) := by omega
        have h0z : (0 : Int) < (k : Int) := by omega
        have HP := hid (step_fin hxy' (HL.out.2 (k - 1) (by omega)))
        have HQ := hid (step_fin hxy (HL.out.2 k hlt))
        have HS := hid (rise_next (by omega) hxy hxy')
        have HLE := hid (le_lt HQ.out.2 HP.out.2)
        have HGT := hid (gt_lt y y')
        clear hxy hxy' hb
        rcases Bool.eq_false_or_eq_true (Fl.lt .f32 y' y) with hlx | hlx
        · have HLX := hid hlx
          have hle : (FloatKind.f32.format.order y y' == some .lt || FloatKind.f32.format.order y y' == some .eq) = false := by
            have := HLE.out
            rw [hlx] at this; exact this
          clear hlx
          go_wp2_with fail
          go_quiet (fail)
          clear hle
          go_wp2_with fail
          go_roundw
          case rel =>
            refine ⟨k + 1, by omega, by omega, by go_num, fun i hi => ?_, below_drewN HB.out _⟩
            by_cases e : i = k
            · subst e
              rw [HS.out, HLX.out]
            · exact HR.out i (by omega)
          case measure => simp [intOf]; omega
        · have HLX := hid hlx
          have hle : (FloatKind.f32.format.order y y' == some .lt || FloatKind.f32.format.order y y' == some .eq) = true := by
            have := HLE.out
            rw [hlx] at this; exact this
          clear hlx
          go_wp2_with fail
          go_quiet (fail)
          clear hle
          go_wp2_with fail
          go_ret
          exact ⟨by rw [risesB_not hlt (by rw [HS.out, HLX.out])]; rfl, bthen H1.out (below_drewN HB.out _)⟩
      · have : k = ps.length := by omega
        subst this
        clear hb
        go_wp2_with fail
        go_ret
        exact ⟨by rw [risesB_iff.2 ⟨HT.out, HR.out⟩]; rfl, bthen H1.out HB.out⟩
  · have HT := hid ht
    clear ht
    go_enter Try.func38, Try.ntmps38
    go_wp2_with fail
    refine (tab_spec _ _ _ _ HA.out hn).mono ?_
    rintro e w1 ⟨rfl, hb⟩
    rw [show tabOk ps = false from HT.out]
    have H1 := hid (Drew.below hb w.heap.size)
    have HA1 := hid (HA.out.next H1.out)
    clear hb
    go_wp2_with fail
    go_ret
    exact ⟨by rw [show risesB ps = false by unfold risesB; rw [HT.out]; rfl]; rfl, H1.out⟩

set_option maxRecDepth 20000 in
set_option maxHeartbeats 2000000 in
theorem rises_impl (A : Option Addr) (c : Nat) (ps : List (Nat × Nat)) (w : World) (ha : Pts w w.heap.size A ps) (hn : ps.length ≤ 1048576) :
    Calls Try.prog 39 #[.slice A ps.length c] w fun e w' => e = .returned (.bool (risesB ps)) ∧ Below w.heap.size w w' := by
  have HA := hid ha
  clear ha
  rcases Bool.eq_false_or_eq_true (tabOk ps) with ht | ht
  · have HT := hid ht
    have HL := hid (tabOk_iff.1 ht)
    have hlz : (ps.length : Int) ≤ 32 := by have := HL.out.1; omega
    have h2z : (2 : Int) ≤ (ps.length : Int) := by have := HL.out.1; omega
    have h2n : 2 ≤ ps.length := HL.out.1.1
    clear ht
    go_enter Try.func39, Try.ntmps39
    go_wp2_with fail
    refine (tab_impl _ _ _ _ HA.out hn).mono ?_
    rintro e w1 ⟨rfl, hb⟩
    rw [show tabOk ps = true from HT.out]
    have H1 := hid (hb)
    have HA1 := hid (HA.out.next H1.out)
    clear hb
    go_wp2_with fail
    go_loopw [3] (fun i wr => ∃ k : Nat, 1 ≤ k ∧ k ≤ ps.length ∧ i = .int .i64 k ∧ (∀ i, i < k → riseAt ps i = true) ∧ Below w1.heap.size w1 wr) (fun i _ => ps.length - (intOf i).toNat)
    case atStart => exact ⟨1, by omega, by omega, rfl, fun i h => by rw [show i = 0 by omega]; rfl, Below.refl _ _⟩
    case round =>
      obtain ⟨k, h1, hk, rfl, hall, hb⟩ := hrel
      have HR := hid hall
      have HB := hid hb
      clear hall
      by_cases hlt : k < ps.length
      · obtain ⟨ad, x, y, rfl, had, hxy, hca, hca'⟩ := (HA1.out.below hb).at2 hlt
        obtain ⟨ad', x', y', had', _, hxy', hcb, hcb'⟩ := (HA1.out.below hb).at2 (k := k - 1) (by omega)
        cases had'
        have hkz : (k : Int) < (ps.length : Int) := by omega
        have h0z : (0 : Int) < (k : Int) := by omega
        have HP := hid (step_fin hxy' (HL.out.2 (k - 1) (by omega)))
        have HQ := hid (step_fin hxy (HL.out.2 k hlt))
        have HS := hid (rise_next (by omega) hxy hxy')
        have HLE := hid (le_lt HQ.out.2 HP.out.2)
        have HGT := hid (gt_lt y y')
        clear hxy hxy' hb
        rcases Bool.eq_false_or_eq_true (Fl.lt .f32 y' y) with hlx | hlx
        · have HLX := hid hlx
          have hle : (FloatKind.f32.format.order y y' == some .gt) = true := by
            have := HGT.out
            rw [hlx] at this; exact this
          clear hlx
          go_wp2_with fail
          go_quiet (fail)
          clear hle
          go_wp2_with fail
          go_roundw
          case rel =>
            refine ⟨k + 1, by omega, by omega, by go_num, fun i hi => ?_, below_drewN HB.out _⟩
            by_cases e : i = k
            · subst e
              rw [HS.out, HLX.out]
            · exact HR.out i (by omega)
          case measure => simp [intOf]; omega
        · have HLX := hid hlx
          have hle : (FloatKind.f32.format.order y y' == some .gt) = false := by
            have := HGT.out
            rw [hlx] at this; exact this
          clear hlx
          go_wp2_with fail
          go_quiet (fail)
          clear hle
          go_wp2_with fail
          go_ret
          exact ⟨by rw [risesB_not hlt (by rw [HS.out, HLX.out])]; rfl, bthen H1.out (below_drewN HB.out _)⟩
      · have : k = ps.length := by omega
        subst this
        clear hb
        go_wp2_with fail
        go_ret
        exact ⟨by rw [risesB_iff.2 ⟨HT.out, HR.out⟩]; rfl, bthen H1.out HB.out⟩
  · have HT := hid ht
    clear ht
    go_enter Try.func39, Try.ntmps39
    go_wp2_with fail
    refine (tab_impl _ _ _ _ HA.out hn).mono ?_
    rintro e w1 ⟨rfl, hb⟩
    rw [show tabOk ps = false from HT.out]
    have H1 := hid (hb)
    have HA1 := hid (HA.out.next H1.out)
    clear hb
    go_wp2_with fail
    go_ret
    exact ⟨by rw [show risesB ps = false by unfold risesB; rw [HT.out]; rfl]; rfl, H1.out⟩
end Go.Proofs.Ythdmbbbkjomhhaa
