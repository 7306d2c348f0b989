/- The law of the two sums: it answers true for every code. -/
import Derived.Test.YtgenphbackbepaaTwoL2
import Derived.Test.YtgenphbackbepaaDList
import Derived.Test.YtgenphbackbepaaOpenB
namespace Go.Proofs.Ytgenphbackbepaa
open Go.RowKit

theorem own_cap {w : World} {base : Nat} {t : TypeId} {A : Option Addr} {n c : Nat} {xs : List Value} (h : w.ownsRow base t 1 (.slice A n c) n xs) : n ≤ c := by
  rcases h.2 with ⟨h1, h2⟩ | ⟨g, cap, cur, h1, _, _, hcap, _⟩
  · cases h2; exact Nat.zero_le _
  · cases h1; exact hcap

set_option maxRecDepth 20000 in
set_option maxHeartbeats 4000000 in
theorem law_two (A : Option Addr) (l c : Nat) (hx : l ≤ 9223372036854775807) (w : World) (ha : Byts w w.heap.size A l) :
    Calls Try.prog 9 #[.slice A l c] w fun e w' => e = .returned (.bool true) ∧ Below w.heap.size w w' := by
  have HA := hid ha
  clear ha
  by_cases hb : 1048576 < l
  · go_enter Try.func9, Try.ntmps9
    go_wp2_with fail
    refine (big_any A l c w hx).mono ?_
    rintro e w0 ⟨rfl, rfl⟩
    rw [decide_eq_true hb]
    go_wp2_with fail
    go_ret
    exact ⟨rfl, Below.refl _ _⟩
  · go_enter Try.func9, Try.ntmps9
    go_wp2_with fail
    refine (big_any A l c w hx).mono ?_
    rintro e w0 ⟨rfl, hw0⟩
    subst hw0
    rw [decide_eq_false hb]
    go_wp2_with fail
    refine (drawL_any A l c _ HA.out (by omega)).mono ?_
    rintro e w1 ⟨v, xs, n, rfl, hl9, hall, hn, own1, hb1⟩
    obtain ⟨A1, c1, g1, rfl, s1, _, _, _⟩ := own_open own1
    have hcap := hid (own_cap own1)
    have HB1 := hid hb1
    have S1 := hid s1
    have hlz : (xs.length : Int) ≤ 9 := by omega
    have HG := hid (show goodB xs = true from goodB_iff.2 ⟨by omega, hall⟩)
    have HALL := hid hall
    obtain ⟨d1, d2, pr, f1, f2, f3, l1, l2, n1, n2, n3⟩ := two_sums hl9 hall
    have HF1 := hid f1
    have HF2 := hid f2
    have HF3 := hid f3
    have HNM := hid n1
    have HSV := hid (show sumV xs = sumN xs by unfold sumV; rw [HG.out]; rfl)
    have HPV := hid (show pairV xs = pairN xs by unfold pairV; rw [HG.out]; rfl)
    have HNS := hid n2
    have HNP := hid n3
    have HL1 := hid l1
    have HL2 := hid l2
    clear own1 hb1 s1 hall hn f1 f2 f3 l1 l2 n1 n2 n3
    go_wp2_with fail
    refine (sum_impl A1 c1 xs w1 S1.out (by omega)).mono ?_
    rintro e w2 ⟨a, rfl, _, ha, hb2⟩
    rw [HG.out]
    have EA := hid (show a = sumN xs by rw [HSV.out] at ha; exact (ha.symm.eq _ HNS.out).symm)
    have HB2 := hid (bthen HB1.out hb2)
    have S1 := hid ((S1.out.below hb2).more hb2.size)
    clear ha hb2
    go_wp2_with fail
    refine (pair_impl A1 c1 xs w2 S1.out (by omega) hcap.out).mono ?_
    rintro e w3 ⟨b, rfl, _, hbv, hb3⟩
    rw [HG.out]
    have EB := hid (show b = pairN xs by rw [HPV.out] at hbv; exact (hbv.symm.eq _ HNP.out).symm)
    have HB3 := hid (bthen HB2.out hb3)
    have S1 := hid ((S1.out.below hb3).more hb3.size)
    clear hbv hb3
    go_wp2_with fail
    go_loopw [9, 10] (fun m i wr => ∃ k q : Nat, k ≤ xs.length ∧ i = .int .i64 k ∧ m = .float .f64 q ∧ Fl.Eqv .f64 q (mostN (xs.take k)) ∧ Drew w3 wr) (fun _ i _ => xs.length - (intOf i).toNat)
    case atStart => exact ⟨0, 0, Nat.zero_le _, rfl, rfl, Fl.Eqv.refl _ _, 0, rfl⟩
    case round =>
      obtain ⟨k, q, hk, rfl, rfl, hq, m, rfl⟩ := hrel
      have HQ := hid hq
      clear hq
      by_cases hlt : k < xs.length
      · obtain ⟨ad, rfl, had, hca⟩ := S1.out.at_ hlt
        have hkz : (k : Int) < (xs.length : Int) := by omega
        have HM := hid (mostN_snoc xs hlt)
        generalize xs[k] = x at hca HM
        rcases Bool.eq_false_or_eq_true (FloatKind.f32.format.order x 0 == some .lt) with hlt0 | hlt0
        · have HMS := hid (show mostS (mostN (xs.take k)) x = Fl.arith .f64 .sub (mostN (xs.take k)) (Fl.wid x) by
            unfold mostS; rw [if_pos (show Fl.lt .f32 x 0 = true from hlt0)])
          go_wp2_with fail
          refine upon_widen some_f32 Try.underlying28 ?_
          intro r n hr
          have E := hid hr.w
          clear hr
          go_wp2_with fail
          refine upon_arith (.inr (.inl rfl)) ?_
          intro r2 n2 hr2
          have E2 := hid (hr2.arith _ HQ.out E.out)
          clear hr2
          go_wp2_with fail
          go_roundw
          case rel => exact ⟨k + 1, r2, by omega, by go_num, rfl, by rw [HM.out, HMS.out]; exact E2.out, by first | exact ⟨_, rfl⟩ | (simp only [World.drewN_drewN]; exact ⟨_, rfl⟩)⟩
          case measure => simp [intOf]; omega
        · have HMS := hid (show mostS (mostN (xs.take k)) x = Fl.arith .f64 .add (mostN (xs.take k)) (Fl.wid x) by
            unfold mostS; rw [if_neg (by rw [show Fl.lt .f32 x 0 = false from hlt0]; decide)])
          go_wp2_with fail
          refine upon_widen some_f32 Try.underlying28 ?_
          intro r n hr
          have E := hid hr.w
          clear hr
          go_wp2_with fail
          refine upon_arith (.inl rfl) ?_
          intro r2 n2 hr2
          have E2 := hid (hr2.arith _ HQ.out E.out)
          clear hr2
          go_wp2_with fail
          go_roundw
          case rel => exact ⟨k + 1, r2, by omega, by go_num, rfl, by rw [HM.out, HMS.out]; exact E2.out, by first | exact ⟨_, rfl⟩ | (simp only [World.drewN_drewN]; exact ⟨_, rfl⟩)⟩
          case measure => simp [intOf]; omega
      · have : k = xs.length := by omega
        subst this
        have eq : q = mostN xs := by
          have := HQ.out
          rw [List.take_length] at this
          exact (this.symm.eq _ HNM.out).symm
        have ea := EA.out
        have eb := EB.out
        have F1 := hid (show floatBits .sub .f64 a b = some d1 by rw [ea, eb]; exact HF1.out)
        have F2 := hid (show floatBits .sub .f64 b a = some d2 by rw [ea, eb]; exact HF2.out)
        have F3 := hid (show floatBits .mul .f64 q 4427486594234968593 = some pr by rw [eq]; exact HF3.out)
        have y1 : (FloatKind.f64.format.order d1 pr == some .lt || FloatKind.f64.format.order d1 pr == some .eq) = true := HL1.out
        have y2 : (FloatKind.f64.format.order d2 pr == some .lt || FloatKind.f64.format.order d2 pr == some .eq) = true := HL2.out
        clear eq ea eb
        go_wp2_with fail
        refine upon_bits F1.out ?_
        go_wp2_with fail
        refine upon_bits F3.out ?_
        go_wp2_with fail
        refine upon_bits F2.out ?_
        go_wp2_with fail
        refine upon_bits F3.out ?_
        go_wp2_with fail
        go_ret
        exact ⟨rfl, below_drewN HB3.out _⟩
end Go.Proofs.Ytgenphbackbepaa
