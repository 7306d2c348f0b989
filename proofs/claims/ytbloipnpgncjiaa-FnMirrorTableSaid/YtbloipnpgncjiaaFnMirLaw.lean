/- The law of tables that are mirrored twice: it answers true for every code. -/
import Derived.Test.YtbloipnpgncjiaaNodeL
import Derived.Test.YtbloipnpgncjiaaSame64
import Derived.Test.YtbloipnpgncjiaaDAt
import Derived.Test.YtbloipnpgncjiaaOpenB
namespace Go.Proofs.Ytbloipnpgncjiaa
open Go.RowKit

set_option maxRecDepth 20000 in
set_option maxHeartbeats 4000000 in
theorem law_fnmir (A : Option Addr) (l c : Nat) (hx : l ≤ 9223372036854775807) (w : World) (ha : Byts w w.heap.size A l) :
    Calls Try.prog 16 #[.slice A l c] w fun e w' => e = .returned (.bool true) ∧ Below w.heap.size w w' := by
  have HA := hid ha
  clear ha
  by_cases hb : 1048576 < l
  · go_enter Try.func16, Try.ntmps16
    go_wp2_with fail
    refine (big_any A l c w hx).mono ?_
    rintro e w0 ⟨rfl, rfl⟩
    rw [decide_eq_true hb]
    go_wp2_with fail
    go_ret
    exact ⟨rfl, Below.refl _ _⟩
  · go_enter Try.func16, Try.ntmps16
    go_wp2_with fail
    refine (big_any A l c w hx).mono ?_
    rintro e w0 ⟨rfl, hw0⟩
    subst hw0
    rw [decide_eq_false hb]
    go_wp2_with fail
    refine (drawT_any A l c _ HA.out (by omega)).mono ?_
    rintro e w1 ⟨v, x, ps, rfl, hd, own1, hb1⟩
    obtain ⟨A1, c1, g1, rfl, s1, hg1, hA1, _⟩ := own_openP own1
    have HD := hid hd
    have hpn : ps.length ≤ 6 := hd.2.1
    have HB1 := hid hb1
    have S1 := hid s1
    have HT := hid (dtab_ok hd)
    obtain ⟨ms, hms⟩ : ∃ ms, ms = mirT ps ps.length := ⟨_, rfl⟩
    have HDM := hid (show DTab ms by rw [hms]; exact dtab_mir hd)
    have HTM := hid (dtab_ok HDM.out)
    have HML := hid (show mirL ps = ms by unfold mirL; rw [HT.out, hms]; rfl)
    have HMM := hid (show mirL ms = ps by unfold mirL; rw [HTM.out, hms]; exact mir_mir ps)
    have HLK := hid (show Fl.nan .f32 (largestV ps) = false ∧ Fl.nan .f32 (largestV ms) = false ∧ Fl.ky .f32 (largestV ms) = Fl.ky .f32 (largestV ps) by rw [hms]; exact largest_mir hd)
    have HAT := hid (show ∀ k, k < ps.length → ∃ j, j < ms.length ∧ ms.getD j (0, 0) = mirP (ps.getD k (0, 0)) from fun k hk => ⟨ps.length - 1 - k, by rw [hms, mirT_length]; omega, by rw [hms, mir_at (by omega), show ps.length - 1 - (ps.length - 1 - k) = k by omega]⟩)
    have hmn : ms.length ≤ 6 := HDM.out.2.1
    clear hd own1 hb1 s1 hA1 hms
    go_wp2_with fail
    refine (mirror_impl A1 c1 ps w1 S1.out (by omega)).mono ?_
    rintro e w2 ⟨v2, rfl, own2, hb2⟩
    rw [HML.out] at own2
    rw [HT.out]
    obtain ⟨A2, c2, g2, rfl, s2, hg2, hA2, _⟩ := own_openP own2
    have HB2 := hid (bthen HB1.out hb2)
    have S1 := hid (S1.out.next hb2)
    have S2 := hid s2
    clear own2 hb2 s2 hA2
    go_wp2_with fail
    refine (mirror_impl A2 c2 ms w2 S2.out (by omega)).mono ?_
    rintro e w3 ⟨v3, rfl, own3, hb3⟩
    rw [HMM.out] at own3
    rw [HTM.out]
    obtain ⟨A3, c3, g3, rfl, s3, hg3, hA3, _⟩ := own_openP own3
    have HB3 := hid (bthen HB2.out hb3)
    have S1 := hid (S1.out.next hb3)
    have S2 := hid (S2.out.next hb3)
    have S3 := hid s3
    clear own3 hb3 s3 hA3
    go_wp2_with fail
    refine (sameP_any A3 A1 c3 c1 ps w3 S3.out S1.out (by omega)).mono ?_
    rintro e w4 ⟨rfl, hb4⟩
    have hb4 := Drew.below hb4 w3.heap.size
    have HB4 := hid (bthen HB3.out hb4)
    have S1 := hid (S1.out.next hb4)
    have S2 := hid (S2.out.next hb4)
    clear hb4 S3
    go_wp2_with fail
    refine (tab_impl A2 c2 ms w4 S2.out (by omega)).mono ?_
    rintro e w5 ⟨rfl, hb5⟩
    rw [HTM.out]
    have HB5 := hid (bthen HB4.out hb5)
    have S1 := hid (S1.out.next hb5)
    have S2 := hid (S2.out.next hb5)
    clear hb5
    go_wp2_with fail
    refine (largest_impl A2 c2 ms w5 S2.out (by omega)).mono ?_
    rintro e w6 ⟨r1, rfl, hr1, hb6⟩
    have HB6 := hid (bthen HB5.out hb6)
    have S1 := hid (S1.out.next hb6)
    have S2 := hid (S2.out.next hb6)
    have R1 := hid hr1
    clear hb6 hr1
    go_wp2_with fail
    refine (largest_impl A1 c1 ps w6 S1.out (by omega)).mono ?_
    rintro e w7 ⟨r2, rfl, hr2, hb7⟩
    have HB7 := hid (bthen HB6.out hb7)
    have S1 := hid (S1.out.next hb7)
    have S2 := hid (S2.out.next hb7)
    have hne : (FloatKind.f32.format.order r1 r2 != some .eq) = false := by
      have e1 : r1 = largestV ms := (R1.out.symm.eq _ HLK.out.2.1).symm
      have e2 : r2 = largestV ps := (hr2.symm.eq _ HLK.out.1).symm
      rw [e1, e2, Fl.order_ky .f32 HLK.out.2.1 HLK.out.1, HLK.out.2.2]
      simp [compare, compareOfLessAndEq]
    clear hb7 hr2
    go_wp2_with fail
    clear hne
    go_loopw [9, 10, 11] (fun i _ _ wr => ∃ k : Nat, k ≤ ps.length ∧ i = .int .i64 k ∧ Below w7.heap.size w7 wr) (fun i _ _ _ => ps.length - (intOf i).toNat)
    case atStart => exact ⟨0, Nat.zero_le _, rfl, Below.refl _ _⟩
    case round =>
      obtain ⟨k, hk, rfl, hb⟩ := hrel
      have HW := hid hb
      by_cases hlt : k < ps.length
      · obtain ⟨ad, x, y, rfl, had, hxy, hca, hca'⟩ := (S1.out.below hb).at2 hlt
        have hkz : (k : Int) < (ps.length : Int) := by omega
        obtain ⟨j, hj, hjv⟩ := HAT.out k hlt
        have hnode := inter_node HDM.out hj
        rw [hjv, hxy] at hnode
        have HN := hid (show segIn ms (negB x) = true ∧ interV ms (negB x) = negB y from hnode)
        have HY := hid (show Fl.nan .f32 (negB y) = false from by
          have := (HDM.out.2.2.1 j hj).2
          rw [hjv, hxy] at this
          exact bnd_nan (by decide) this)
        clear hjv hnode hxy
        clear hb
        go_wp2_with fail
        refine (inter_impl A2 c2 ms (negB x) _ ((S2.out.below HW.out).more HW.out.size) (by omega)).mono ?_
        rintro e w8 ⟨q, rfl, hq, hb8⟩
        rw [HN.out.1]
        have HW2 := hid (bthen HW.out hb8)
        have hcb : w8.cell? ⟨(ad.add (k * 2)).block, (ad.add (k * 2)).off + 1, none⟩ = some (.float .f32 y) := (hb8.cell (p := ⟨(ad.add (k * 2)).block, (ad.add (k * 2)).off + 1, none⟩) (by show (ad.add _).block < _; rw [block_of_add]; have := HW.out.size; omega)).trans hca'
        have hqe : (FloatKind.f32.format.order q (Op.negFloat .f32 y) != some .eq) = false := by
          have e1 : q = negB y := by
            rw [HN.out.2] at hq
            exact (hq.symm.eq _ HY.out).symm
          rw [e1]
          show (FloatKind.f32.format.order (negB y) (negB y) != some .eq) = false
          rw [Fl.order_self, HY.out]; rfl
        clear hq hb8 hca hca'
        go_wp2_with fail
        go_roundw
        case rel => exact ⟨k + 1, by omega, by go_num, HW2.out⟩
        case measure => simp [intOf]; omega
      · have : k = ps.length := by omega
        subst this
        clear hb
        go_wp2_with fail
        go_ret
        exact ⟨rfl, bthen HB7.out HW.out⟩
end Go.Proofs.Ytbloipnpgncjiaa
