/- The law of the turned list: it answers true for every code. -/
import Derived.Test.YtgenphbackbepaaTurnL
import Derived.Test.YtgenphbackbepaaCstL
import Derived.Test.YtgenphbackbepaaDList
import Derived.Test.YtgenphbackbepaaOpenB
namespace Go.Proofs.Ytgenphbackbepaa
open Go.RowKit

theorem mean_all {xs : List Nat} (hg : goodB xs = true) : meanB xs = decide (0 < xs.length) ∧ meanB (tuL xs) = decide (0 < xs.length) ∧ Fl.nan .f32 (meanV xs) = false ∧ Fl.nan .f32 (meanV (tuL xs)) = false ∧ Fl.ky .f32 (meanV (tuL xs)) = -Fl.ky .f32 (meanV xs) := by
  by_cases h0 : 0 < xs.length
  · obtain ⟨a, b, c, d, e⟩ := mean_turn hg h0
    rw [decide_eq_true h0]
    exact ⟨a, b, c, d, e⟩
  · have e1 : meanB xs = false := by unfold meanB; rw [decide_eq_false h0]; cases goodB xs <;> rfl
    have e2 : meanB (tuL xs) = false := by unfold meanB; rw [tuL_len, decide_eq_false h0]; cases goodB (tuL xs) <;> rfl
    have v1 : meanV xs = 0 := by unfold meanV; rw [e1]; rfl
    have v2 : meanV (tuL xs) = 0 := by unfold meanV; rw [e2]; rfl
    rw [decide_eq_false h0, v1, v2]
    exact ⟨e1, e2, by decide +kernel, by decide +kernel, by decide +kernel⟩
theorem drift_all {xs : List Nat} (hg : goodB xs = true) (h9 : xs.length ≤ 9) : driftB (tuL xs) = driftB xs ∧ Fl.nan .f64 (driftV xs) = false ∧ Fl.nan .f64 (driftV (tuL xs)) = false ∧ Fl.ky .f64 (driftV (tuL xs)) = -Fl.ky .f64 (driftV xs) := by
  have hB : driftB (tuL xs) = driftB xs := by unfold driftB; rw [hg, tuL_good hg, tuL_len]
  by_cases h2 : 2 ≤ xs.length
  · have e1 : driftB xs = true := by unfold driftB; rw [hg, decide_eq_true h2]; rfl
    obtain ⟨a, b, c⟩ := driftR_turn (goodB_iff.1 hg).2 h2 h9
    have v1 : driftV xs = driftR xs := by unfold driftV; rw [e1]; rfl
    have v2 : driftV (tuL xs) = driftR (tuL xs) := by unfold driftV; rw [hB, e1]; rfl
    rw [v1, v2]
    exact ⟨hB, a, b, c⟩
  · have e1 : driftB xs = false := by unfold driftB; rw [decide_eq_false h2]; cases goodB xs <;> rfl
    have v1 : driftV xs = 0 := by unfold driftV; rw [e1]; rfl
    have v2 : driftV (tuL xs) = 0 := by unfold driftV; rw [hB, e1]; rfl
    rw [v1, v2]
    exact ⟨hB, by decide +kernel, by decide +kernel, by decide +kernel⟩
theorem tu_take {xs : List Nat} {k : Nat} (hk : k < xs.length) : (tuL xs).take (k + 1) = (tuL xs).take k ++ [Op.negFloat .f32 (xs.getD k 0)] := by
  rw [List.take_succ_eq_append_getElem (by rw [tuL_len]; exact hk)]
  congr 1
  simp [tuL, List.getD, hk]

set_option maxRecDepth 20000 in
set_option maxHeartbeats 4000000 in
theorem law_turned (A : Option Addr) (l c : Nat) (hx : l ≤ 9223372036854775807) (w : World) (ha : Byts w w.heap.size A l) :
    Calls Try.prog 12 #[.slice A l c] w fun e w' => e = .returned (.bool true) ∧ Below w.heap.size w w' := by
  have HA := hid ha
  clear ha
  by_cases hb : 1048576 < l
  · go_enter Try.func12, Try.ntmps12
    go_wp2_with fail
    refine (big_any A l c w hx).mono ?_
    rintro e w0 ⟨rfl, rfl⟩
    rw [decide_eq_true hb]
    go_wp2_with fail
    go_ret
    exact ⟨rfl, Below.refl _ _⟩
  · go_enter Try.func12, Try.ntmps12
    go_wp2_with fail
    refine (big_any A l c w hx).mono ?_
    rintro e w0 ⟨rfl, hw0⟩
    subst hw0
    rw [decide_eq_false hb]
    go_wp2_with fail
    refine (drawL_any A l c _ HA.out (by omega)).mono ?_
    rintro e w1 ⟨v, xs, n, rfl, hl9, hall, hn, own1, hb1⟩
    obtain ⟨A1, c1, g1, rfl, s1, _, hA1, _⟩ := own_open own1
    have HB1 := hid hb1
    have S1 := hid s1
    have HG := hid (show goodB xs = true from goodB_iff.2 ⟨by omega, hall⟩)
    have hlz : (xs.length : Int) ≤ 9 := by omega
    have HO := hid (World.ownsRow_lit w1 #[] 0 (Nat.le_refl _) (by unfold maxLen; omega) (by simp) : (w1.alloc (.cells #[] 23)).ownsRow w1.heap.size 23 1 (.slice (some ⟨w1.heap.size, 0, none⟩) 0 0) 0 [])
    obtain ⟨i0, hi, hz0, hz1, hz2⟩ := info_parts Try.info_f32
    have HI := hid hi
    have HZ := hid (show i0.zero = some (.float .f32 0) ∧ i0.size = 1 ∧ i0.bytes = 4 from ⟨hz0, hz1, hz2⟩)
    clear own1 hb1 s1 hall hA1 hi hz0 hz1 hz2
    go_wp2_with fail
    go_loopw [5, 6] (fun v i wr => ∃ k : Nat, k ≤ xs.length ∧ i = .int .i64 k ∧ wr.ownsRow w1.heap.size 23 1 v k (fcells ((tuL xs).take k)) ∧ Below w1.heap.size w1 wr) (fun _ i _ => xs.length - (intOf i).toNat)
    case atStart => exact ⟨0, Nat.zero_le _, rfl, HO.out, below_new _ _⟩
    case round =>
      obtain ⟨k, hk, rfl, hown, hbw⟩ := hrel
      have HW := hid hown
      have HBW := hid hbw
      by_cases hlt : k < xs.length
      · obtain ⟨ad, rfl, had, hca⟩ := (S1.out.below hbw).atD (k := k) hlt
        have hkz : (k : Int) < (xs.length : Int) := by omega
        have HT := hid (tu_take hlt)
        generalize xs.getD k 0 = x at hca HT
        have hi := HI.out
        have hsz := HBW.out.size
        clear hown hbw
        go_wp2_with (at_builtin; refine wpList_append_own _ rfl _ _ 22 rfl w1.heap.size 23 i0 (.float .f32 0) 1 4 Try.underlying22 hi HZ.out.1 HZ.out.2.1 HZ.out.2.2 rfl (by decide) _ _ _ rfl (HW.out.alloc _) ⟨wr.heap.size, 0, none⟩ 1 1 [.float .f32 (Op.negFloat .f32 x)] rfl rfl ?c1 ?c2 ?c3 ?c4 ?c5 ?_)
        case c1 =>
          intro j u hj
          match j, hj with
          | 0, hj => simp at hj; subst hj; simp [Addr.add]
        case c2 => intro u hu; simp at hu; subst hu; rfl
        case c3 => unfold maxLen; omega
        case c4 => omega
        case c5 => simp; omega
        · intro v' w3 hown' hgrow _
          have HO3 := hid hown'
          have HB3 := hid (show Below w1.heap.size w1 w3 from Below.grown (HBW.out.alloc HBW.out.size _) hgrow (by simp; omega) (fun k' hk' => (HW.out.lt _ hk').1))
          clear hown' hgrow hi hsz
          go_wp2_with fail
          go_roundw
          case rel => exact ⟨k + 1, by omega, by go_num, by rw [HT.out, fcells_app]; exact HO3.out, HB3.out⟩
          case measure => simp [intOf]; omega
      · have : k = xs.length := by omega
        subst this
        have ho := HW.out
        rw [← tuL_len xs, List.take_length] at ho
        obtain ⟨M1, M2, M3, M4, M5⟩ := mean_all HG.out
        obtain ⟨D1, D2, D3, D4⟩ := drift_all HG.out hl9
        obtain ⟨P1, P2, P3, P4⟩ := spread_turn HG.out
        have hgy := tuL_good HG.out
        have hyl := tuL_len xs
        generalize tuL xs = ys at ho M2 M4 M5 D1 D3 D4 P1 P3 P4 hgy hyl
        obtain ⟨A2, c2, g2, rfl, s2, _, _, _⟩ := own_open ho
        have S2 := hid s2
        have S1 := hid ((S1.out.below HBW.out).more HBW.out.size)
        have HB2 := hid (HB1.out.trans (HBW.out.mono HB1.out.size))
        have hy9 : ys.length ≤ 9 := by omega
        have HGY := hid hgy
        have HM1 := hid M1
        have HM2 := hid M2
        have HMK := hid (And.intro M3 (And.intro M4 M5))
        have HD1 := hid D1
        have HDK := hid (And.intro D2 (And.intro D3 D4))
        have HP1 := hid P1
        have HPK := hid (And.intro P2 (And.intro P3 P4))
        obtain ⟨bd, hbd⟩ : ∃ bd, driftB xs = bd := ⟨_, rfl⟩
        obtain ⟨bs, hbs⟩ : ∃ bs, sprB xs = bs := ⟨_, rfl⟩
        have HBD := hid hbd
        have HBS := hid hbs
        have hm1z : decide ((0 : Int) < (xs.length : Int)) = decide (0 < xs.length) := by
          by_cases h : 0 < xs.length
          · rw [decide_eq_true h, decide_eq_true (by omega)]
          · rw [decide_eq_false h, decide_eq_false (by omega)]
        have HMZ := hid hm1z
        clear ho s2 hown hbw HW hyl hgy M1 M2 M3 M4 M5 D1 D2 D3 D4 P1 P2 P3 P4 hbd hbs hm1z
        obtain ⟨b0, hb0⟩ : ∃ b0, decide (0 < xs.length) = b0 := ⟨_, rfl⟩
        rw [hb0] at HM1 HM2 HMZ
        clear hb0
        go_wp2_with fail
        refine (mean_impl A1 c1 xs wr S1.out (by omega)).mono ?_
        rintro e w4 ⟨r1, rfl, _, hr1, hb4⟩
        rw [HM1.out]
        have E1 := hid (show r1 = meanV xs from (hr1.symm.eq _ HMK.out.1).symm)
        have HB4 := hid (bthen HB2.out hb4)
        have S1 := hid ((S1.out.below hb4).more hb4.size)
        have S2 := hid ((S2.out.below hb4).more hb4.size)
        clear hr1 hb4
        go_wp2_with fail
        refine (mean_impl A2 c2 ys w4 S2.out (by omega)).mono ?_
        rintro e w5 ⟨r2, rfl, _, hr2, hb5⟩
        rw [HM2.out]
        have q1 : (FloatKind.f32.format.order r1 (Op.negFloat .f32 r2) == some .eq) = true := by
          rw [E1.out, show r2 = meanV ys from (hr2.symm.eq _ HMK.out.2.1).symm]
          exact eq_of_ky HMK.out.1 ((nan_turn .f32 _).trans HMK.out.2.1) (by rw [key_turn, HMK.out.2.2]; omega)
        have HB5 := hid (bthen HB4.out hb5)
        have S1 := hid ((S1.out.below hb5).more hb5.size)
        have S2 := hid ((S2.out.below hb5).more hb5.size)
        clear hr2 hb5
        go_wp2_with fail
        refine (drift_impl A1 c1 xs w5 S1.out (by omega)).mono ?_
        rintro e w6 ⟨d1, rfl, _, hd1, hb6⟩
        rw [HBD.out]
        have E2 := hid (show d1 = driftV xs from (hd1.symm.eq _ HDK.out.1).symm)
        have HB6 := hid (bthen HB5.out hb6)
        have S1 := hid ((S1.out.below hb6).more hb6.size)
        have S2 := hid ((S2.out.below hb6).more hb6.size)
        clear hd1 hb6
        go_wp2_with fail
        refine (drift_impl A2 c2 ys w6 S2.out (by omega)).mono ?_
        rintro e w7 ⟨d2, rfl, _, hd2, hb7⟩
        rw [HD1.out, HBD.out]
        have q2 : (FloatKind.f64.format.order d1 (Op.negFloat .f64 d2) == some .eq) = true := by
          rw [E2.out, show d2 = driftV ys from (hd2.symm.eq _ HDK.out.2.1).symm]
          exact eq_of_ky HDK.out.1 ((nan_turn .f64 _).trans HDK.out.2.1) (by rw [key_turn, HDK.out.2.2]; omega)
        have HB7 := hid (bthen HB6.out hb7)
        have S1 := hid ((S1.out.below hb7).more hb7.size)
        have S2 := hid ((S2.out.below hb7).more hb7.size)
        clear hd2 hb7
        go_wp2_with fail
        refine (spread_any A1 c1 xs HG.out w7 S1.out (by omega)).mono ?_
        rintro e w8 ⟨rfl, hb8⟩
        rw [HBS.out]
        have HB8 := hid (bthen HB7.out hb8)
        have S2 := hid ((S2.out.below hb8).more hb8.size)
        clear hb8
        go_wp2_with fail
        refine (spread_any A2 c2 ys HGY.out w8 S2.out (by omega)).mono ?_
        rintro e w9 ⟨rfl, hb9⟩
        rw [HP1.out, HBS.out]
        have q3 : (FloatKind.f32.format.order (sprV xs) (sprV ys) == some .eq) = true := eq_of_ky HPK.out.1 HPK.out.2.1 HPK.out.2.2.symm
        have HB9 := hid (bthen HB8.out hb9)
        clear hb9
        generalize sprV xs = sx at q3 ⊢
        generalize sprV ys = sy at q3 ⊢
        have hmz := HMZ.out
        cases b0
        · have h0z : ¬ ((0 : Int) < (xs.length : Int)) := of_decide_eq_false hmz
          clear hmz
          obtain rfl : xs = [] := List.eq_nil_of_length_eq_zero (by omega)
          clear h0z
          cases bd <;> cases bs
          all_goals
            go_wp2_with fail
            go_ret
            exact ⟨rfl, HB9.out⟩
        · have h0z : (0 : Int) < (xs.length : Int) := of_decide_eq_true hmz
          clear hmz
          cases bd <;> cases bs
          all_goals
            go_wp2_with fail
            go_ret
            exact ⟨rfl, HB9.out⟩
end Go.Proofs.Ytgenphbackbepaa
