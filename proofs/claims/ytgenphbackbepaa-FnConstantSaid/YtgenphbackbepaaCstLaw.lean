/- The law of elements that are all alike: it answers true for every code. -/
import Derived.Test.YtgenphbackbepaaCstL
import Derived.Test.YtgenphbackbepaaDList
import Derived.Test.YtgenphbackbepaaOpenB
namespace Go.Proofs.Ytgenphbackbepaa
open Go.RowKit

set_option maxRecDepth 20000 in
set_option maxHeartbeats 4000000 in
theorem law_cst (A : Option Addr) (l c : Nat) (hx : l ≤ 9223372036854775807) (w : World) (ha : Byts w w.heap.size A l) :
    Calls Try.prog 14 #[.slice A l c] w fun e w' => e = .returned (.bool true) ∧ Below w.heap.size w w' := by
  have HA := hid ha
  clear ha
  by_cases hb : 1048576 < l
  · go_enter Try.func14, Try.ntmps14
    go_wp2_with fail
    refine (big_any A l c w hx).mono ?_
    rintro e w0 ⟨rfl, rfl⟩
    rw [decide_eq_true hb]
    go_wp2_with fail
    go_ret
    exact ⟨rfl, Below.refl _ _⟩
  · go_enter Try.func14, Try.ntmps14
    go_wp2_with fail
    refine (big_any A l c w hx).mono ?_
    rintro e w0 ⟨rfl, hw0⟩
    subst hw0
    rw [decide_eq_false hb]
    go_wp2_with fail
    refine (drawL_any A l c _ HA.out (by omega)).mono ?_
    rintro e w1 ⟨v, xs, n, rfl, hl9, hall, hn, own1, hb1⟩
    obtain ⟨A1, c1, g1, rfl, s1, _, hA1, _⟩ := own_open own1
    have HB1 := hid hb1
    have S1 := hid s1
    have HALL := hid hall
    have HK1 := hid hA1
    have hlz : (xs.length : Int) ≤ 9 := by omega
    clear own1 hb1 s1 hall hA1
    by_cases hc : 2 ≤ n
    · have h0z : ¬ ((xs.length : Int) = 0) := by omega
      have h0p : (0 : Int) < (xs.length : Int) := by omega
      have h2z : ¬ ((n : Int) < 2) := by omega
      have hnz : (n : Int) ≤ 9 := by omega
      have hbe : ((xs.length : Int) == 0) = false := by simpa using h0z
      have hde : decide ((n : Int) < 2) = false := decide_eq_false h2z
      obtain ⟨e1, _⟩ := HK1.out (by omega)
      subst e1
      obtain ⟨ad, ea, had, hca⟩ := S1.out.atD (k := 0) (by omega)
      cases ea
      rw [addr_add0] at hca
      have HX := hid (show fin32 (xs.getD 0 0) = true by
        have e : xs.getD 0 0 = xs[0]'(by omega) := by simp [List.getD, show 0 < xs.length by omega]
        rw [e]; exact HALL.out _ (List.getElem_mem _))
      generalize xs.getD 0 0 = x at hca HX
      have HCA := hid hca
      have hg1 : g1 < w1.heap.size := had
      have HO := hid (World.ownsRow_lit w1 #[] 0 (Nat.le_refl _) (by unfold maxLen; omega) (by simp) : (w1.alloc (.cells #[] 23)).ownsRow w1.heap.size 23 1 (.slice (some ⟨w1.heap.size, 0, none⟩) 0 0) 0 [])
      obtain ⟨i0, hi, hz0, hz1, hz2⟩ := info_parts Try.info_f32
      have HI := hid hi
      have HZ := hid (show i0.zero = some (.float .f32 0) ∧ i0.size = 1 ∧ i0.bytes = 4 from ⟨hz0, hz1, hz2⟩)
      clear hi hz0 hz1 hz2 hca had
      go_wp2_with fail
      go_loopw [7, 8] (fun v i wr => ∃ k : Nat, k ≤ n ∧ i = .int .i64 k ∧ wr.ownsRow w1.heap.size 23 1 v k (fcells (List.replicate k x)) ∧ Below w1.heap.size w1 wr) (fun _ i _ => n - (intOf i).toNat)
      case atStart => exact ⟨0, Nat.zero_le _, rfl, HO.out, below_new _ _⟩
      case round =>
        obtain ⟨k, hk, rfl, hown, hbw⟩ := hrel
        have HW := hid hown
        have HBW := hid hbw
        have hcr : wr.cell? ⟨g1, 0, none⟩ = some (.float .f32 x) := (hbw.cell (p := ⟨g1, 0, none⟩) hg1).trans HCA.out
        clear hown hbw
        by_cases hlt : k < n
        · have hkz : (k : Int) < (n : Int) := by omega
          have hi := HI.out
          have hsz := HBW.out.size
          go_wp2_with (at_builtin; refine wpList_append_own _ rfl _ _ 22 rfl w1.heap.size 23 i0 (.float .f32 0) 1 4 Try.underlying22 hi HZ.out.1 HZ.out.2.1 HZ.out.2.2 rfl (by decide) _ _ _ rfl (HW.out.alloc _) ⟨wr.heap.size, 0, none⟩ 1 1 [.float .f32 x] rfl rfl ?c1 ?c2 ?c3 ?c4 ?c5 ?_)
          case c1 =>
            intro j u hj
            match j, hj with
            | 0, hj => simp at hj; subst hj; simp [Addr.add]
          case c2 => intro u hu; simp at hu; subst hu; rfl
          case c3 => unfold maxLen; omega
          case c4 => omega
          case c5 => simp; omega
          · intro v' w3 hown' hgrow _
            have HO3 := hid hown'
            have HB3 := hid (show Below w1.heap.size w1 w3 from Below.grown (HBW.out.alloc HBW.out.size _) hgrow (by simp; omega) (fun k' hk' => (HW.out.lt _ hk').1))
            clear hown' hgrow hi hsz
            go_wp2_with fail
            go_roundw
            case rel => exact ⟨k + 1, by omega, by go_num, by rw [List.replicate_succ', fcells_app]; exact HO3.out, HB3.out⟩
            case measure => simp [intOf]; omega
        · have : k = n := by omega
          subst this
          obtain ⟨ys, hys⟩ : ∃ ys, List.replicate k x = ys := ⟨_, rfl⟩
          have hyl : ys.length = k := by rw [← hys, List.length_replicate]
          have ho := HW.out
          rw [hys] at ho
          rw [← hyl] at ho
          obtain ⟨A2, c2, g2, rfl, s2, _, hA2, _⟩ := own_open ho
          have S2 := hid s2
          have hcl : ys.length ≤ 9 := by omega
          have HYK := hid hyl
          have HG := hid (show goodB ys = true by rw [← hys]; exact cst_good HX.out (by omega))
          have HM := hid (show meanB ys = true ∧ Fl.nan .f32 (meanV ys) = false ∧ Fl.ky .f32 (meanV ys) = Fl.ky .f32 x by rw [← hys]; exact cst_mean HX.out (by omega) (by omega))
          have HMID := hid (show (if 0 < ys.length then midV ys else 0) = x ∧ decide (0 < ys.length) = true by
            rw [if_pos (by omega)]
            exact ⟨by rw [← hys]; exact cst_mid (by omega), decide_eq_true (by omega)⟩)
          have HSP := hid (show sprB ys = true ∧ Fl.nan .f32 (sprV ys) = false ∧ Fl.ky .f32 (sprV ys) = 0 by rw [← hys]; exact cst_spread HX.out (by omega))
          have HDB := hid (show driftB ys = true by unfold driftB; rw [HG.out, decide_eq_true (by omega)]; rfl)
          have HDR := hid (show Fl.nan .f64 (driftV ys) = false ∧ Fl.ky .f64 (driftV ys) = 0 by
            have e : driftV ys = driftR ys := by unfold driftV; rw [HDB.out]; rfl
            rw [e, ← hys]; exact drift_zero HX.out (by omega) (by omega))
          have HCT := hid (show countV ys x = k by rw [← hys]; exact cst_count HX.out (by omega))
          have HB2 := hid (HB1.out.trans (HBW.out.mono HB1.out.size))
          have HNX := hid (show Fl.nan .f32 x = false from Fl.fin_nan .f32 (show Fl.fin Ieee.single x = true from HX.out))
          clear hys ho s2 hA2 HW
          rw [hyl]
          rw [← HYK.out]
          have hkk : (ys.length : Int) = (k : Int) := by omega
          clear hyl
          clear hkk
          go_wp2_with fail
          refine (mean_impl A2 c2 ys wr S2.out (by omega)).mono ?_
          rintro e w4 ⟨r1, rfl, _, hr1, hb4⟩
          rw [HM.out.1]
          have q1 : (FloatKind.f32.format.order r1 x == some .eq) = true := by
            rw [show r1 = meanV ys from (hr1.symm.eq _ HM.out.2.1).symm]
            exact eq_of_ky HM.out.2.1 HNX.out HM.out.2.2
          have HB4 := hid (bthen HB2.out hb4)
          have S2 := hid ((S2.out.below hb4).more hb4.size)
          have hcr := (hb4.cell (p := ⟨g1, 0, none⟩) (by have := HBW.out.size; show g1 < _; omega)).trans hcr
          have hs4 := hb4.size
          clear hr1 hb4
          go_wp2_with fail
          refine (mid_any A2 c2 ys HG.out w4 S2.out (by omega)).mono ?_
          rintro e w5 ⟨rfl, hb5⟩
          rw [HMID.out.1, HMID.out.2]
          have HB5 := hid (bthen HB4.out hb5)
          have S2 := hid ((S2.out.below hb5).more hb5.size)
          have hcr := (hb5.cell (p := ⟨g1, 0, none⟩) (by have := HBW.out.size; show g1 < _; omega)).trans hcr
          have hs5 := hb5.size
          clear hb5
          go_wp2_with fail
          refine (spread_any A2 c2 ys HG.out w5 S2.out (by omega)).mono ?_
          rintro e w6 ⟨rfl, hb6⟩
          rw [HSP.out.1]
          have q3 : (FloatKind.f32.format.order (sprV ys) 0 == some .eq) = true := eq_of_ky HSP.out.2.1 (by decide +kernel) (by rw [HSP.out.2.2]; decide +kernel)
          have HB6 := hid (bthen HB5.out hb6)
          have S2 := hid ((S2.out.below hb6).more hb6.size)
          have hcr := (hb6.cell (p := ⟨g1, 0, none⟩) (by have := HBW.out.size; show g1 < _; omega)).trans hcr
          have hs6 := hb6.size
          clear hb6
          go_wp2_with fail
          refine (drift_impl A2 c2 ys w6 S2.out (by omega)).mono ?_
          rintro e w7 ⟨r2, rfl, _, hr2, hb7⟩
          rw [HDB.out]
          have q4 : (FloatKind.f64.format.order r2 0 == some .eq) = true := by
            rw [show r2 = driftV ys from (hr2.symm.eq _ HDR.out.1).symm]
            exact eq_of_ky HDR.out.1 (by decide +kernel) (by rw [HDR.out.2]; decide +kernel)
          have HB7 := hid (bthen HB6.out hb7)
          have S2 := hid ((S2.out.below hb7).more hb7.size)
          have hcr := (hb7.cell (p := ⟨g1, 0, none⟩) (by have := HBW.out.size; show g1 < _; omega)).trans hcr
          have q2 : (FloatKind.f32.format.order x x == some .eq) = true := eq_of_ky HNX.out HNX.out rfl
          clear hr2 hb7
          go_wp2_with fail
          refine (count_impl A2 c2 ys x w7 S2.out (by omega)).mono ?_
          rintro e w8 ⟨rfl, rfl⟩
          rw [HCT.out]
          go_wp2_with fail
          go_ret
          exact ⟨by first | rfl | simp [HYK.out], HB7.out⟩
    · have h2z : (n : Int) < 2 := by omega
      have HS0 := hid (show Sing (w1.alloc (.cells #[] 23)) (w1.alloc (.cells #[] 23)).heap.size (some ⟨w1.heap.size, 0, none⟩) [] from ⟨rfl, fun h => absurd h (by simp)⟩)
      have HDB := hid (show driftB ([] : List Nat) = false by decide)
      by_cases h0 : xs.length = 0
      · have h0z : (xs.length : Int) = 0 := by omega
        go_wp2_with fail
        refine (drift_impl _ 0 [] _ HS0.out (by simp)).mono ?_
        rintro e w4 ⟨r1, rfl, _, hr1, hb4⟩
        rw [HDB.out]
        have HB4 := hid (bthen (bthen HB1.out (below_new w1 _)) hb4)
        clear hr1 hb4
        go_wp2_with fail
        go_ret
        exact ⟨rfl, HB4.out⟩
      · have h0z : ¬ ((xs.length : Int) = 0) := by omega
        have hbe : ((xs.length : Int) == 0) = false := by simpa using h0z
        have hde : decide ((n : Int) < 2) = true := decide_eq_true h2z
        go_wp2_with fail
        refine (drift_impl _ 0 [] _ HS0.out (by simp)).mono ?_
        rintro e w4 ⟨r1, rfl, _, hr1, hb4⟩
        rw [HDB.out]
        have HB4 := hid (bthen (bthen HB1.out (below_new w1 _)) hb4)
        clear hr1 hb4
        go_wp2_with fail
        go_ret
        exact ⟨rfl, HB4.out⟩
end Go.Proofs.Ytgenphbackbepaa
