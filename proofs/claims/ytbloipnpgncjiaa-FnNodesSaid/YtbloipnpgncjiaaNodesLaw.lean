/- The law of the nodes of a table: it answers true for every code. -/
import Derived.Test.YtbloipnpgncjiaaBetwL
import Derived.Test.YtbloipnpgncjiaaSame64
import Derived.Test.YtbloipnpgncjiaaDAt
import Derived.Test.YtbloipnpgncjiaaOpenB
namespace Go.Proofs.Ytbloipnpgncjiaa
open Go.RowKit

set_option maxRecDepth 20000 in
set_option maxHeartbeats 4000000 in
theorem law_nodes (A : Option Addr) (l c : Nat) (hx : l ≤ 9223372036854775807) (w : World) (ha : Byts w w.heap.size A l) :
    Calls Try.prog 13 #[.slice A l c] w fun e w' => e = .returned (.bool true) ∧ Below w.heap.size w w' := by
  have HA := hid ha
  clear ha
  by_cases hb : 1048576 < l
  · go_enter Try.func13, Try.ntmps13
    go_wp2_with fail
    refine (big_any A l c w hx).mono ?_
    rintro e w0 ⟨rfl, rfl⟩
    rw [decide_eq_true hb]
    go_wp2_with fail
    go_ret
    exact ⟨rfl, Below.refl _ _⟩
  · go_enter Try.func13, Try.ntmps13
    go_wp2_with fail
    refine (big_any A l c w hx).mono ?_
    rintro e w0 ⟨rfl, hw0⟩
    subst hw0
    rw [decide_eq_false hb]
    go_wp2_with fail
    refine (drawT_any A l c _ HA.out (by omega)).mono ?_
    rintro e w1 ⟨v, x, ps, rfl, hd, own1, hb1⟩
    obtain ⟨A1, c1, g1, rfl, s1, hg1, hA1, _⟩ := own_openP own1
    have HD := hid hd
    have hpn : ps.length ≤ 6 := hd.2.1
    have hpz : (ps.length : Int) ≤ 6 := by omega
    have HB1 := hid hb1
    have S1 := hid s1
    have HT := hid (dtab_ok hd)
    clear hd own1 hb1 s1 hA1
    go_wp2_with fail
    refine (tab_impl A1 c1 ps w1 S1.out (by omega)).mono ?_
    rintro e w2 ⟨rfl, hb2⟩
    rw [HT.out]
    have HB2 := hid (bthen HB1.out hb2)
    have S1 := hid (S1.out.next hb2)
    clear hb2
    go_wp2_with fail
    go_loopw [5, 6, 7, 8] (fun nd i _ _ wr => ∃ (k : Nat) (b : Bool), k ≤ ps.length ∧ i = .int .i64 k ∧ nd = .bool b ∧ (b = false → ∀ j, j < k → Fl.eq .f32 (ps.getD j (0, 0)).1 x = false) ∧ Below w2.heap.size w2 wr) (fun _ i _ _ _ => ps.length - (intOf i).toNat)
    case atStart => exact ⟨0, false, Nat.zero_le _, rfl, rfl, fun _ j h => absurd h (by omega), Below.refl _ _⟩
    case round =>
      obtain ⟨k, b, hk, rfl, rfl, hno, hb⟩ := hrel
      have HW := hid hb
      have HNO := hid hno
      clear hno
      by_cases hlt : k < ps.length
      · obtain ⟨ad, xk, yk, rfl, had, hxy, hca, hca'⟩ := (S1.out.below hb).at2 hlt
        have hkz : (k : Int) < (ps.length : Int) := by omega
        have hnode := inter_node HD.out hlt
        rw [hxy] at hnode
        have HN := hid (show segIn ps xk = true ∧ interV ps xk = yk from hnode)
        have HXY := hid hxy
        clear hnode hb hxy
        go_wp2_with fail
        refine (inter_impl _ c1 ps xk _ ((S1.out.below HW.out).more HW.out.size) (by omega)).mono ?_
        rintro e w8 ⟨q, rfl, hq, hb8⟩
        rw [HN.out.1]
        have HW2 := hid (bthen HW.out hb8)
        have HQ := hid (show Fl.Eqv .f32 q yk by rw [HN.out.2] at hq; exact hq)
        have hcb : w8.cell? ⟨(ad.add (k * 2)).block, (ad.add (k * 2)).off + 1, none⟩ = some (.float .f32 yk) := (hb8.cell (p := ⟨(ad.add (k * 2)).block, (ad.add (k * 2)).off + 1, none⟩) (by show (ad.add _).block < _; rw [block_of_add]; have := HW.out.size; omega)).trans hca'
        have hcc : w8.cell? (ad.add (k * 2)) = some (.float .f32 xk) := (hb8.cell (p := ad.add (k * 2)) (by rw [block_of_add]; have := HW.out.size; omega)).trans hca
        clear hq hb8 hca hca'
        go_wp2_with fail
        refine (s32_any q yk _ HQ.out).mono ?_
        rintro e w9 ⟨rfl, n9, rfl⟩
        cases b
        · rcases Bool.eq_false_or_eq_true (FloatKind.f32.format.order xk x == some .eq) with he | he
          · go_wp2_with fail
            go_roundw
            case rel => exact ⟨k + 1, true, by omega, by go_num, by first | rfl | simp, (fun h => by cases h), below_drewN HW2.out _⟩
            case measure => simp [intOf]; omega
          · have HE := hid (show Fl.eq .f32 xk x = false from he)
            go_wp2_with fail
            go_roundw
            case rel =>
              exact ⟨k + 1, false, by omega, by go_num, by first | rfl | simp, (fun _ j hj => by
                by_cases e : j = k
                · subst e; rw [HXY.out]; exact HE.out
                · exact HNO.out (by first | rfl | trivial) j (by omega)), below_drewN HW2.out _⟩
            case measure => simp [intOf]; omega
        · go_wp2_with fail
          go_roundw
          case rel => exact ⟨k + 1, true, by omega, by go_num, by first | rfl | simp, (fun h => by cases h), below_drewN HW2.out _⟩
          case measure => simp [intOf]; omega
      · have : k = ps.length := by omega
        subst this
        have S1 := hid ((S1.out.below HW.out).more HW.out.size)
        have HB3 := hid (bthen HB2.out HW.out)
        clear hb HW
        go_wp2_with fail
        refine (seg_impl A1 c1 ps x wr S1.out (by omega)).mono ?_
        rintro e w3 ⟨rfl, hb3⟩
        have HB4 := hid (bthen HB3.out hb3)
        have S1 := hid (S1.out.next hb3)
        clear hb3
        rcases Bool.eq_false_or_eq_true (segIn ps x) with hs | hs
        · have HS := hid hs
          have hsv : segV ps x = (segN ps x : Int) := by unfold segV; rw [hs]; rfl
          rw [hsv]
          cases b
          · obtain ⟨k, xa, ya, xb, yb, d, u, hkk, hk1, hpa, hpb, hsub, hadd, hny, hc⟩ := inter_btw HD.out hs (HNO.out (by first | rfl | trivial))
            rw [hkk]
            clear hs hsv hkk
            have HNY := hid hny
            have HSUB := hid hsub
            have HADD := hid hadd
            have HC := hid hc
            have hk1z : (k : Int) + 1 < (ps.length : Int) := by omega
            clear hny hsub hadd hc
            go_wp2_with fail
            refine (inter_impl A1 c1 ps x w3 S1.out (by omega)).mono ?_
            rintro e w4 ⟨q, rfl, hq, hb4⟩
            rw [HS.out]
            have HB5 := hid (bthen HB4.out hb4)
            have S1 := hid (S1.out.next hb4)
            have HQ := hid (show q = interV ps x from (hq.symm.eq _ HNY.out).symm)
            clear hq hb4
            obtain ⟨ad, xa', ya', rfl, had, hpa', hca, hca'⟩ := S1.out.at2 (k := k) (by omega)
            obtain ⟨ad', xb', yb', e', had', hpb', hcb, hcb'⟩ := S1.out.at2 (k := k + 1) hk1
            cases e'
            rw [hpa] at hpa'
            rw [hpb] at hpb'
            cases hpa'
            cases hpb'
            clear hpa hpb
            have hwr : IntKind.i64.wrap ((k : Int) + 1) = (k : Int) + 1 := by rw [IntKind.wrap_i64]; omega
            have hw0 : (0 : Int) ≤ (k : Int) + 1 := by omega
            have htn : ((k : Int) + 1).toNat = k + 1 := by omega
            rcases HC.out with ⟨z1, z2, z3⟩ | ⟨z1, z2, z3, z4⟩
            · rw [← HQ.out] at z2 z3
              have y1 : (FloatKind.f32.format.order d 0 == some .gt || FloatKind.f32.format.order d 0 == some .eq) = true := z1
              have y2 : (FloatKind.f32.format.order q ya == some .gt || FloatKind.f32.format.order q ya == some .eq) = true := z2
              have y3 : (FloatKind.f32.format.order q u == some .lt || FloatKind.f32.format.order q u == some .eq) = true := z3
              clear z1 z2 z3
              go_wp2_with fail
              go_quiet (first | (rw [run_float_arith _ _ _ _ _ _ _ HSUB.out]; exact ⟨rfl, rfl⟩))
              go_wp2_with fail
              refine upon_bitsQ HADD.out ?_
              go_wp2_with fail
              go_ret
              exact ⟨rfl, below_drewN HB5.out _⟩
            · rw [← HQ.out] at z3 z4
              have y1 : (FloatKind.f32.format.order d 0 == some .gt || FloatKind.f32.format.order d 0 == some .eq) = false := z1
              have y2 : (FloatKind.f32.format.order d 0 == some .lt || FloatKind.f32.format.order d 0 == some .eq) = true := z2
              have y3 : (FloatKind.f32.format.order q ya == some .lt || FloatKind.f32.format.order q ya == some .eq) = true := z3
              have y4 : (FloatKind.f32.format.order q u == some .gt || FloatKind.f32.format.order q u == some .eq) = true := z4
              clear z1 z2 z3 z4
              rcases Bool.eq_false_or_eq_true (FloatKind.f32.format.order q ya == some .gt || FloatKind.f32.format.order q ya == some .eq) with g1 | g1 <;> rcases Bool.eq_false_or_eq_true (FloatKind.f32.format.order q u == some .lt || FloatKind.f32.format.order q u == some .eq) with g2 | g2
              all_goals
                go_wp2_with fail
                go_quiet (first | (rw [run_float_arith _ _ _ _ _ _ _ HSUB.out]; exact ⟨rfl, rfl⟩))
                go_wp2_with fail
                refine upon_bitsQ HADD.out ?_
                go_wp2_with fail
                go_ret
                exact ⟨rfl, below_drewN HB5.out _⟩
          · clear hs hsv
            have hnz : (0 : Int) ≤ (segN ps x : Int) := by omega
            go_wp2_with fail
            refine (inter_impl A1 c1 ps x w3 S1.out (by omega)).mono ?_
            rintro e w4 ⟨q, rfl, hq, hb4⟩
            rw [HS.out]
            have HB5 := hid (bthen HB4.out hb4)
            clear hq hb4
            go_wp2_with fail
            go_ret
            exact ⟨rfl, HB5.out⟩
        · have HS := hid hs
          have hsv : segV ps x = -1 := by unfold segV; rw [hs]; rfl
          rw [hsv]
          clear hs hsv
          cases b
          all_goals
            go_wp2_with fail
            refine (inter_impl A1 c1 ps x w3 S1.out (by omega)).mono ?_
            rintro e w4 ⟨q, rfl, hq, hb4⟩
            rw [HS.out]
            have HB5 := hid (bthen HB4.out hb4)
            clear hq hb4
            go_wp2_with fail
            go_ret
            exact ⟨rfl, HB5.out⟩
end Go.Proofs.Ytbloipnpgncjiaa
