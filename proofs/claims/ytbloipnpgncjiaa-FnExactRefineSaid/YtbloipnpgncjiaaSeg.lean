/- SegmentOf, of the program and of the reference. -/
import Derived.Test.YtbloipnpgncjiaaTab2
namespace Go.Proofs.Ytbloipnpgncjiaa
open Go.RowKit

def segF (ps : List (Nat × Nat)) (x : Nat) : Nat → Nat → Nat
  | 0, k => k
  | f + 1, k => if k + 2 < ps.length ∧ Fl.le .f32 (ps.getD (k + 1) (0, 0)).1 x = true then segF ps x f (k + 1) else k
def segIn (ps : List (Nat × Nat)) (x : Nat) : Bool := tabOk ps && (Fl.ge .f32 x (ps.getD 0 (0, 0)).1 && Fl.le .f32 x (ps.getD (ps.length - 1) (0, 0)).1)
def segN (ps : List (Nat × Nat)) (x : Nat) : Nat := segF ps x ps.length 0
def segV (ps : List (Nat × Nat)) (x : Nat) : Int := if segIn ps x then (segN ps x : Int) else -1
theorem segF_next {ps : List (Nat × Nat)} {x k : Nat} (h : k + 2 < ps.length) (hl : Fl.le .f32 (ps.getD (k + 1) (0, 0)).1 x = true) : segF ps x (ps.length - k) k = segF ps x (ps.length - (k + 1)) (k + 1) := by
  rw [show ps.length - k = (ps.length - (k + 1)) + 1 by omega]
  conv => lhs; unfold segF
  rw [if_pos ⟨h, hl⟩]
theorem segF_stop {ps : List (Nat × Nat)} {x k f : Nat} (h : ¬ (k + 2 < ps.length ∧ Fl.le .f32 (ps.getD (k + 1) (0, 0)).1 x = true)) : segF ps x f k = k := by
  cases f with
  | zero => rfl
  | succ f => unfold segF; rw [if_neg h]

set_option maxRecDepth 20000 in
set_option maxHeartbeats 2000000 in
theorem seg_spec (A : Option Addr) (c : Nat) (ps : List (Nat × Nat)) (x : Nat) (w : World) (ha : Pts w w.heap.size A ps) (hn : ps.length ≤ 1048576) :
    Calls Try.prog 30 #[.slice A ps.length c, .float .f32 x] w fun e w' => e = .returned (.int .i64 (segV ps x)) ∧ Below w.heap.size w w' := by
  have HA := hid ha
  clear ha
  have hnz : (ps.length : Int) ≤ 1048576 := by omega
  rcases Bool.eq_false_or_eq_true (tabOk ps) with ht | ht
  · have HT := hid ht
    have HL := hid (tabOk_iff.1 ht)
    have hlz : (ps.length : Int) ≤ 32 := by have := HL.out.1; omega
    have h2z : (2 : Int) ≤ (ps.length : Int) := by have := HL.out.1; omega
    have h2n : 2 ≤ ps.length := HL.out.1.1
    clear ht
    go_enter Try.func30, Try.ntmps30
    go_wp2_with fail
    refine (tab_spec _ _ _ _ HA.out hn).mono ?_
    rintro e w1 ⟨rfl, hb⟩
    rw [show tabOk ps = true from HT.out]
    have H1 := hid (Drew.below hb w.heap.size)
    have HA1 := hid (HA.out.next H1.out)
    clear hb
    obtain ⟨ad, x0, y0, rfl, had, hxy0, hc0, hc0'⟩ := HA1.out.at2 (k := 0) (by omega)
    obtain ⟨ad', xn, yn, had', _, hxyn, hcn, hcn'⟩ := HA1.out.at2 (k := ps.length - 1) (by omega)
    cases had'
    rw [show ad.add (0 * 2) = ad from by simp [Addr.add]] at hc0
    clear hc0' hcn'
    have HIN := hid (show segIn ps x = (Fl.ge .f32 x x0 && Fl.le .f32 x xn) by unfold segIn; rw [HT.out, hxy0, hxyn]; rfl)
    clear hxy0 hxyn
    rcases Bool.eq_false_or_eq_true (Fl.ge .f32 x x0) with hg | hg
    · have HG := hid hg
      have hge : (FloatKind.f32.format.order x x0 == some .gt || FloatKind.f32.format.order x x0 == some .eq) = true := hg
      clear hg
      rcases Bool.eq_false_or_eq_true (Fl.le .f32 x xn) with hl | hl
      · have HLE := hid hl
        have hle : (FloatKind.f32.format.order x xn == some .lt || FloatKind.f32.format.order x xn == some .eq) = true := hl
        clear hl
        go_wp2_with fail
        clear hge hle hc0 hcn
        go_loopw [5] (fun i wr => ∃ k : Nat, k ≤ ps.length ∧ i = .int .i64 k ∧ segN ps x = segF ps x (ps.length - k) k ∧ Below w1.heap.size w1 wr) (fun i _ => ps.length - (intOf i).toNat)
        case atStart => exact ⟨0, by omega, rfl, rfl, Below.refl _ _⟩
        case round =>
          obtain ⟨k, hk, rfl, hs, hb⟩ := hrel
          have HS := hid hs
          have HB := hid hb
          clear hs
          by_cases hlt : k + 2 < ps.length
          · obtain ⟨ad', x1, y1, had', _, hxy, hca, hca'⟩ := (HA1.out.below hb).at2 (k := k + 1) (by omega)
            cases had'
            have hkz : (k : Int) + 2 < (ps.length : Int) := by omega
            have HXY := hid hxy
            clear hxy hb hca'
            rcases Bool.eq_false_or_eq_true (Fl.le .f32 x1 x) with hl | hl
            · have HL1 := hid hl
              have hle : (FloatKind.f32.format.order x1 x == some .lt || FloatKind.f32.format.order x1 x == some .eq) = true := hl
              clear hl
              go_wp2_with fail
              go_roundw
              case rel => exact ⟨k + 1, by omega, by go_num, by rw [HS.out]; exact segF_next hlt (by rw [HXY.out]; exact HL1.out), HB.out⟩
              case measure => simp [intOf]; omega
            · have HL1 := hid hl
              have hle : (FloatKind.f32.format.order x1 x == some .lt || FloatKind.f32.format.order x1 x == some .eq) = false := hl
              clear hl
              go_wp2_with fail
              go_ret
              refine ⟨?_, bthen H1.out HB.out⟩
              rw [show segV ps x = (k : Int) by unfold segV; rw [HIN.out, HG.out, HLE.out, HS.out, segF_stop (fun h => by rw [HXY.out, HL1.out] at h; cases h.2)]; rfl]
              rfl
          · have hkz : ¬ ((k : Int) + 2 < (ps.length : Int)) := by omega
            have hkz2 : (k : Int) ≤ (ps.length : Int) := by omega
            clear hb
            go_wp2_with fail
            go_ret
            refine ⟨?_, bthen H1.out HB.out⟩
            rw [show segV ps x = (k : Int) by unfold segV; rw [HIN.out, HG.out, HLE.out, HS.out, segF_stop (fun h => hlt h.1)]; rfl]
            rfl
      · have HLE := hid hl
        have hle : (FloatKind.f32.format.order x xn == some .lt || FloatKind.f32.format.order x xn == some .eq) = false := hl
        clear hl
        go_wp2_with fail
        go_ret
        exact ⟨by rw [show segV ps x = -1 by unfold segV; rw [HIN.out, HG.out, HLE.out]; rfl]; rfl, H1.out⟩
    · have HG := hid hg
      have hge : (FloatKind.f32.format.order x x0 == some .gt || FloatKind.f32.format.order x x0 == some .eq) = false := hg
      clear hg
      go_wp2_with fail
      go_ret
      exact ⟨by rw [show segV ps x = -1 by unfold segV; rw [HIN.out, HG.out]; rfl]; rfl, H1.out⟩
  · have HT := hid ht
    clear ht
    go_enter Try.func30, Try.ntmps30
    go_wp2_with fail
    refine (tab_spec _ _ _ _ HA.out hn).mono ?_
    rintro e w1 ⟨rfl, hb⟩
    rw [show tabOk ps = false from HT.out]
    have H1 := hid (Drew.below hb w.heap.size)
    have HA1 := hid (HA.out.next H1.out)
    clear hb
    go_wp2_with fail
    go_ret
    exact ⟨by rw [show segV ps x = -1 by unfold segV segIn; rw [HT.out]; rfl]; rfl, H1.out⟩

set_option maxRecDepth 20000 in
set_option maxHeartbeats 2000000 in
theorem seg_impl (A : Option Addr) (c : Nat) (ps : List (Nat × Nat)) (x : Nat) (w : World) (ha : Pts w w.heap.size A ps) (hn : ps.length ≤ 1048576) :
    Calls Try.prog 31 #[.slice A ps.length c, .float .f32 x] w fun e w' => e = .returned (.int .i64 (segV ps x)) ∧ Below w.heap.size w w' := by
  have HA := hid ha
  clear ha
  have hnz : (ps.length : Int) ≤ 1048576 := by omega
  rcases Bool.eq_false_or_eq_true (tabOk ps) with ht | ht
  · have HT := hid ht
    have HL := hid (tabOk_iff.1 ht)
    have hlz : (ps.length : Int) ≤ 32 := by have := HL.out.1; omega
    have h2z : (2 : Int) ≤ (ps.length : Int) := by have := HL.out.1; omega
    have h2n : 2 ≤ ps.length := HL.out.1.1
    clear ht
    go_enter Try.func31, Try.ntmps31
    go_wp2_with fail
    refine (tab_impl _ _ _ _ HA.out hn).mono ?_
    rintro e w1 ⟨rfl, hb⟩
    rw [show tabOk ps = true from HT.out]
    have H1 := hid (hb)
    have HA1 := hid (HA.out.next H1.out)
    clear hb
    obtain ⟨ad, x0, y0, rfl, had, hxy0, hc0, hc0'⟩ := HA1.out.at2 (k := 0) (by omega)
    obtain ⟨ad', xn, yn, had', _, hxyn, hcn, hcn'⟩ := HA1.out.at2 (k := ps.length - 1) (by omega)
    cases had'
    rw [show ad.add (0 * 2) = ad from by simp [Addr.add]] at hc0
    clear hc0' hcn'
    have HIN := hid (show segIn ps x = (Fl.ge .f32 x x0 && Fl.le .f32 x xn) by unfold segIn; rw [HT.out, hxy0, hxyn]; rfl)
    clear hxy0 hxyn
    rcases Bool.eq_false_or_eq_true (Fl.ge .f32 x x0) with hg | hg
    · have HG := hid hg
      have hge : (FloatKind.f32.format.order x x0 == some .gt || FloatKind.f32.format.order x x0 == some .eq) = true := hg
      clear hg
      rcases Bool.eq_false_or_eq_true (Fl.le .f32 x xn) with hl | hl
      · have HLE := hid hl
        have hle : (FloatKind.f32.format.order x xn == some .lt || FloatKind.f32.format.order x xn == some .eq) = true := hl
        clear hl
        go_wp2_with fail
        clear hge hle hc0 hcn
        go_loopw [6] (fun i wr => ∃ k : Nat, k ≤ ps.length ∧ i = .int .i64 k ∧ segN ps x = segF ps x (ps.length - k) k ∧ Below w1.heap.size w1 wr) (fun i _ => ps.length - (intOf i).toNat)
        case atStart => exact ⟨0, by omega, rfl, rfl, Below.refl _ _⟩
        case round =>
          obtain ⟨k, hk, rfl, hs, hb⟩ := hrel
          have HS := hid hs
          have HB := hid hb
          clear hs
          by_cases hlt : k + 2 < ps.length
          · obtain ⟨ad', x1, y1, had', _, hxy, hca, hca'⟩ := (HA1.out.below hb).at2 (k := k + 1) (by omega)
            cases had'
            have hkz : (k : Int) + 2 < (ps.length : Int) := by omega
            have HXY := hid hxy
            clear hxy hb hca'
            rcases Bool.eq_false_or_eq_true (Fl.le .f32 x1 x) with hl | hl
            · have HL1 := hid hl
              have hle : (FloatKind.f32.format.order x1 x == some .lt || FloatKind.f32.format.order x1 x == some .eq) = true := hl
              clear hl
              go_wp2_with fail
              go_roundw
              case rel => exact ⟨k + 1, by omega, by go_num, by rw [HS.out]; exact segF_next hlt (by rw [HXY.out]; exact HL1.out), HB.out⟩
              case measure => simp [intOf]; omega
            · have HL1 := hid hl
              have hle : (FloatKind.f32.format.order x1 x == some .lt || FloatKind.f32.format.order x1 x == some .eq) = false := hl
              clear hl
              go_wp2_with fail
              go_ret
              refine ⟨?_, bthen H1.out HB.out⟩
              rw [show segV ps x = (k : Int) by unfold segV; rw [HIN.out, HG.out, HLE.out, HS.out, segF_stop (fun h => by rw [HXY.out, HL1.out] at h; cases h.2)]; rfl]
              rfl
          · have hkz : ¬ ((k : Int) + 2 < (ps.length : Int)) := by omega
            have hkz2 : (k : Int) ≤ (ps.length : Int) := by omega
            clear hb
            go_wp2_with fail
            go_ret
            refine ⟨?_, bthen H1.out HB.out⟩
            rw [show segV ps x = (k : Int) by unfold segV; rw [HIN.out, HG.out, HLE.out, HS.out, segF_stop (fun h => hlt h.1)]; rfl]
            rfl
      · have HLE := hid hl
        have hle : (FloatKind.f32.format.order x xn == some .lt || FloatKind.f32.format.order x xn == some .eq) = false := hl
        clear hl
        go_wp2_with fail
        go_ret
        exact ⟨by rw [show segV ps x = -1 by unfold segV; rw [HIN.out, HG.out, HLE.out]; rfl]; rfl, H1.out⟩
    · have HG := hid hg
      have hge : (FloatKind.f32.format.order x x0 == some .gt || FloatKind.f32.format.order x x0 == some .eq) = false := hg
      clear hg
      go_wp2_with fail
      go_ret
      exact ⟨by rw [show segV ps x = -1 by unfold segV; rw [HIN.out, HG.out]; rfl]; rfl, H1.out⟩
  · have HT := hid ht
    clear ht
    go_enter Try.func31, Try.ntmps31
    go_wp2_with fail
    refine (tab_impl _ _ _ _ HA.out hn).mono ?_
    rintro e w1 ⟨rfl, hb⟩
    rw [show tabOk ps = false from HT.out]
    have H1 := hid (hb)
    have HA1 := hid (HA.out.next H1.out)
    clear hb
    go_wp2_with fail
    go_ret
    exact ⟨by rw [show segV ps x = -1 by unfold segV segIn; rw [HT.out]; rfl]; rfl, H1.out⟩
end Go.Proofs.Ytbloipnpgncjiaa
