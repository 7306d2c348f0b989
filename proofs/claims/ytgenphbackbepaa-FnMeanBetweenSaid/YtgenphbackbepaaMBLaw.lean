/- The law of the mean between: it answers true for every code. -/
import Derived.Test.YtgenphbackbepaaMidSp
import Derived.Test.YtgenphbackbepaaMov
import Derived.Test.YtgenphbackbepaaCountLaw
import Derived.Test.YtgenphbackbepaaDList
import Derived.Test.YtgenphbackbepaaOpenB
namespace Go.Proofs.Ytgenphbackbepaa
open Go.RowKit

theorem own_capS {w : World} {base : Nat} {t : TypeId} {A : Option Addr} {n c : Nat} {xs : List Value} (h : w.ownsRow base t 1 (.slice A n c) n xs) : n ≤ c := by
  rcases h.2 with ⟨h1, h2⟩ | ⟨g, cap, cur, h1, _, _, hcap, _⟩
  · cases h2; exact Nat.zero_le _
  · cases h1; exact hcap
theorem run_max_any {P : Program} {m a : Nat} (hm : fin32 m = true) (ha : fin32 a = true) : ∃ r, (∀ (ts : Array TypeId) (t : TypeId) (w : World), (Builtin.max_ ts t #[.float .f32 m, .float .f32 a]).run P w = .ok (.float .f32 r) w) ∧ fin32 r = true ∧ Fl.ky .f32 m ≤ Fl.ky .f32 r ∧ Fl.ky .f32 a ≤ Fl.ky .f32 r := by
  have n1 := Fl.fin_nan .f32 (show Fl.fin Ieee.single m = true from hm)
  have n2 := Fl.fin_nan .f32 (show Fl.fin Ieee.single a = true from ha)
  have ho := Fl.order_ky .f32 n1 n2
  by_cases h1 : Fl.ky .f32 m < Fl.ky .f32 a
  · rw [Fl.cmp_lt h1] at ho
    exact ⟨a, fun ts t w => by simp [Builtin.max_, Builtin.max2, ho], ha, by omega, by omega⟩
  · by_cases h2 : Fl.ky .f32 a < Fl.ky .f32 m
    · rw [Fl.cmp_gt h2] at ho
      exact ⟨m, fun ts t w => by simp [Builtin.max_, Builtin.max2, ho], hm, by omega, by omega⟩
    · have h3 : Fl.ky .f32 m = Fl.ky .f32 a := by omega
      rw [h3, show compare (Fl.ky .f32 a) (Fl.ky .f32 a) = .eq by simp [compare, compareOfLessAndEq]] at ho
      refine ⟨if (FloatKind.f32.decode m).neg then a else m, fun ts t w => by simp [Builtin.max_, Builtin.max2, ho], ?_, ?_, ?_⟩ <;> split <;> first | exact ha | exact hm | omega
theorem run_min_any {P : Program} {m a : Nat} (hm : fin32 m = true) (ha : fin32 a = true) : ∃ r, (∀ (ts : Array TypeId) (t : TypeId) (w : World), (Builtin.min_ ts t #[.float .f32 m, .float .f32 a]).run P w = .ok (.float .f32 r) w) ∧ fin32 r = true ∧ Fl.ky .f32 r ≤ Fl.ky .f32 m ∧ Fl.ky .f32 r ≤ Fl.ky .f32 a := by
  have n1 := Fl.fin_nan .f32 (show Fl.fin Ieee.single m = true from hm)
  have n2 := Fl.fin_nan .f32 (show Fl.fin Ieee.single a = true from ha)
  have ho := Fl.order_ky .f32 n1 n2
  by_cases h1 : Fl.ky .f32 m < Fl.ky .f32 a
  · rw [Fl.cmp_lt h1] at ho
    exact ⟨m, fun ts t w => by simp [Builtin.min_, Builtin.min2, ho], hm, by omega, by omega⟩
  · by_cases h2 : Fl.ky .f32 a < Fl.ky .f32 m
    · rw [Fl.cmp_gt h2] at ho
      exact ⟨a, fun ts t w => by simp [Builtin.min_, Builtin.min2, ho], ha, by omega, by omega⟩
    · have h3 : Fl.ky .f32 m = Fl.ky .f32 a := by omega
      rw [h3, show compare (Fl.ky .f32 a) (Fl.ky .f32 a) = .eq by simp [compare, compareOfLessAndEq]] at ho
      refine ⟨if (FloatKind.f32.decode m).neg then m else a, fun ts t w => by simp [Builtin.min_, Builtin.min2, ho], ?_, ?_, ?_⟩ <;> split <;> first | exact ha | exact hm | omega
theorem finN {x : Nat} (h : fin32 x = true) : Fl.nan .f32 x = false := Fl.fin_nan .f32 (show Fl.fin Ieee.single x = true from h)
theorem ge_of {x y : Nat} (hx : fin32 x = true) (hy : fin32 y = true) (h : Fl.ky .f32 y ≤ Fl.ky .f32 x) : (FloatKind.f32.format.order x y == some .gt || FloatKind.f32.format.order x y == some .eq) = true := by
  have : Fl.ge .f32 x y = true := by rw [Fl.ge_ky, finN hx, finN hy]; simpa using h
  exact this
theorem le_of {x y : Nat} (hx : fin32 x = true) (hy : fin32 y = true) (h : Fl.ky .f32 x ≤ Fl.ky .f32 y) : (FloatKind.f32.format.order x y == some .lt || FloatKind.f32.format.order x y == some .eq) = true := by
  have : Fl.le .f32 x y = true := by rw [Fl.le_ky, finN hx, finN hy]; simpa using h
  exact this
theorem not_lt_of {x y : Nat} (hx : fin32 x = true) (hy : fin32 y = true) (h : Fl.ky .f32 y ≤ Fl.ky .f32 x) : (FloatKind.f32.format.order x y == some .lt) = false := by
  have : Fl.lt .f32 x y = false := by rw [Fl.lt_ky, finN hx, finN hy]; simpa using h
  exact this
theorem not_gt_of {x y : Nat} (hx : fin32 x = true) (hy : fin32 y = true) (h : Fl.ky .f32 x ≤ Fl.ky .f32 y) : (FloatKind.f32.format.order x y == some .gt) = false := by
  have : Fl.gt .f32 x y = false := by rw [Fl.gt_ky, finN hx, finN hy]; simpa using h
  exact this
theorem getD_mem {xs : List Nat} {k : Nat} (h : k < xs.length) : xs.getD k 0 ∈ xs := by
  have e : xs.getD k 0 = xs[k] := by simp [List.getD, h]
  rw [e]; exact List.getElem_mem _
/-- a mean lies between -/
theorem mean_in {xs ys : List Nat} {lo hi : Nat} (hlo : fin32 lo = true) (hhi : fin32 hi = true) (hb : meanB ys = true) (hs : ∀ y ∈ ys, y ∈ xs) (h : ∀ x ∈ xs, Fl.ky .f32 lo ≤ Fl.ky .f32 x ∧ Fl.ky .f32 x ≤ Fl.ky .f32 hi) :
    fin32 (meanV ys) = true ∧ Fl.ky .f32 lo ≤ Fl.ky .f32 (meanV ys) ∧ Fl.ky .f32 (meanV ys) ≤ Fl.ky .f32 hi := by
  have g1 := Fl.key_fin (f := Ieee.single) hlo
  have g2 := Fl.key_fin (f := Ieee.single) hhi
  have m := mean_btw g1 g2 hb (fun y hy => h y (hs y hy))
  have e : meanV ys = Fl.nar (meanQ ys) := by unfold meanV; rw [hb]; rfl
  rw [e]
  exact ⟨m.2.2.1, m.2.2.2.1, m.2.2.2.2⟩

set_option maxRecDepth 20000 in
set_option maxHeartbeats 4000000 in
theorem law_mb (A : Option Addr) (l c : Nat) (hx : l ≤ 9223372036854775807) (w : World) (ha : Byts w w.heap.size A l) :
    Calls Try.prog 13 #[.slice A l c] w fun e w' => e = .returned (.bool true) ∧ Below w.heap.size w w' := by
  have HA := hid ha
  clear ha
  by_cases hb : 1048576 < l
  · go_enter Try.func13, Try.ntmps13
    go_wp2_with fail
    refine (big_any A l c w hx).mono ?_
    rintro e w0 ⟨rfl, rfl⟩
    rw [decide_eq_true hb]
    go_wp2_with fail
    go_ret
    exact ⟨rfl, Below.refl _ _⟩
  · go_enter Try.func13, Try.ntmps13
    go_wp2_with fail
    refine (big_any A l c w hx).mono ?_
    rintro e w0 ⟨rfl, hw0⟩
    subst hw0
    rw [decide_eq_false hb]
    go_wp2_with fail
    refine (drawL_any A l c _ HA.out (by omega)).mono ?_
    rintro e w1 ⟨v, xs, n, rfl, hl9, hall, hn, own1, hb1⟩
    obtain ⟨A1, c1, g1, rfl, s1, _, hA1, _⟩ := own_open own1
    have hcap := hid (own_capS own1)
    have HB1 := hid hb1
    have S1 := hid s1
    have HALL := hid hall
    have HK1 := hid hA1
    have HG := hid (show goodB xs = true from goodB_iff.2 ⟨by omega, hall⟩)
    have hlz : (xs.length : Int) ≤ 9 := by omega
    have hnl : (n : Int) ≤ (xs.length : Int) := by omega
    clear own1 hb1 s1 hall hA1
    by_cases h0 : 0 < xs.length
    · have h0p : (0 : Int) < (xs.length : Int) := by omega
      have HMB := hid (show meanB xs = true from meanB_iff.2 ⟨HG.out, h0⟩)
      have HMN := hid (show fin32 (meanV xs) = true by
        have m := mean_btw bot32 top32 HMB.out (all_btw HG.out)
        have e : meanV xs = Fl.nar (meanQ xs) := by unfold meanV; rw [HMB.out]; rfl
        rw [e]; exact m.2.2.1)
      go_wp2_with fail
      refine (mean_impl A1 c1 xs w1 S1.out (by omega)).mono ?_
      rintro e w2 ⟨r, rfl, _, hr, hb2⟩
      rw [HMB.out]
      have ER := hid (show r = meanV xs from (hr.symm.eq _ (finN HMN.out)).symm)
      have HB2 := hid (bthen HB1.out hb2)
      have S1 := hid ((S1.out.below hb2).more hb2.size)
      clear hr hb2
      go_wp2_with fail
      refine (mid_any A1 c1 xs HG.out w2 S1.out (by omega)).mono ?_
      rintro e w3 ⟨rfl, hb3⟩
      rw [decide_eq_true h0, if_pos h0]
      have HB3 := hid (bthen HB2.out hb3)
      have S1 := hid ((S1.out.below hb3).more hb3.size)
      have HMID := hid (show midV xs ∈ xs by
        unfold midV
        exact isort_mem.1 (getD_mem (by rw [isort_len]; omega)))
      clear hb3
      obtain ⟨e1, _⟩ := HK1.out (by omega)
      subst e1
      obtain ⟨ad, ea, had, hca⟩ := S1.out.atD (k := 0) h0
      cases ea
      rw [addr_add0] at hca
      have HX0 := hid (HALL.out _ (getD_mem h0))
      generalize xs.getD 0 0 = x0 at hca HX0
      generalize midV xs = mid at HMID
      clear had
      go_wp2_with fail
      go_loopw [9, 10, 11] (fun lo hi i wr => ∃ k a b : Nat, k ≤ xs.length ∧ i = .int .i64 k ∧ lo = .float .f32 a ∧ hi = .float .f32 b ∧ fin32 a = true ∧ fin32 b = true ∧ (∀ j, j < k → Fl.ky .f32 a ≤ Fl.ky .f32 (xs.getD j 0) ∧ Fl.ky .f32 (xs.getD j 0) ≤ Fl.ky .f32 b) ∧ wr = w3) (fun _ _ i _ => xs.length - (intOf i).toNat)
      case atStart => exact ⟨0, x0, x0, Nat.zero_le _, rfl, rfl, rfl, HX0.out, HX0.out, fun j hj => absurd hj (by omega), rfl⟩
      case round =>
        obtain ⟨k, a, b, hk, rfl, rfl, rfl, hfa, hfb, hin, rfl⟩ := hrel
        have HFA := hid hfa
        have HFB := hid hfb
        have HIN := hid hin
        clear hfa hfb hin
        by_cases hlt : k < xs.length
        · obtain ⟨ad, ea, had, hcb⟩ := S1.out.atD (k := k) hlt
          cases ea
          rw [addr_add0] at hcb
          have hkz : (k : Int) < (xs.length : Int) := by omega
          have HXK := hid (HALL.out _ (getD_mem hlt))
          obtain ⟨x, hxe⟩ : ∃ x, xs.getD k 0 = x := ⟨_, rfl⟩
          rw [hxe] at hcb HXK
          have HXE := hid hxe
          obtain ⟨p, hmin, fp, p1, p2⟩ := run_min_any (P := Try.prog) HFA.out HXK.out
          obtain ⟨q, hmax, fq, q1, q2⟩ := run_max_any (P := Try.prog) HFB.out HXK.out
          have HP := hid (And.intro fp (And.intro p1 p2))
          have HQ := hid (And.intro fq (And.intro q1 q2))
          clear had hxe fp p1 p2 fq q1 q2
          go_wp2_with fail
          go_roundw
          case rel =>
            refine ⟨k + 1, p, q, by omega, by go_num, rfl, rfl, HP.out.1, HQ.out.1, fun j hj => ?_, by first | rfl | trivial⟩
            have h1 := HP.out.2
            have h2 := HQ.out.2
            by_cases e : j = k
            · subst e; rw [HXE.out]; exact ⟨h1.2, h2.2⟩
            · have := HIN.out j (by omega)
              exact ⟨by omega, by omega⟩
          case measure => simp [intOf]; omega
        · have : k = xs.length := by omega
          subst this
          have HIN2 := hid (show ∀ x ∈ xs, Fl.ky .f32 a ≤ Fl.ky .f32 x ∧ Fl.ky .f32 x ≤ Fl.ky .f32 b from fun x hx => by
            obtain ⟨i, hi, rfl⟩ := List.getElem_of_mem hx
            have := HIN.out i hi
            rwa [show xs.getD i 0 = xs[i] by simp [List.getD, hi]] at this)
          have HM := hid (mean_in HFA.out HFB.out HMB.out (fun y hy => hy) HIN2.out)
          rw [← ER.out] at HM
          have HMD := hid (HIN2.out mid HMID.out)
          have HMF := hid (HALL.out mid HMID.out)
          have y1 := ge_of HM.out.1 HFA.out HM.out.2.1
          have y2 := le_of HM.out.1 HFB.out HM.out.2.2
          have y3 := ge_of HMF.out HFA.out HMD.out.1
          have y4 := le_of HMF.out HFB.out HMD.out.2
          have HCNT := hid (show 0 < countV xs mid by
            unfold countV cntN
            rw [if_pos (by omega)]
            refine List.length_pos_of_mem (a := mid) (List.mem_filter.2 ⟨HMID.out, ?_⟩)
            rw [Fl.eq_ky, finN HMF.out]; simp)
          clear hca
          by_cases hn0 : 1 ≤ n
          · have HMV := hid (show movB xs (n : Int) = true by unfold movB; rw [HG.out, decide_eq_true (by omega)]; rfl)
            have HLL := hid (show movL xs (n : Int) = movT xs n (xs.length - n + 1) by unfold movL; rw [HMV.out]; rfl)
            obtain ⟨L, hL⟩ : ∃ L, movL xs (n : Int) = L := ⟨_, rfl⟩
            have hLl : L.length = xs.length - n + 1 := by rw [← hL, HLL.out, movT_length]
            have HLI := hid (show ∀ i, i < L.length → fin32 (L.getD i 0) = true ∧ Fl.ky .f32 a ≤ Fl.ky .f32 (L.getD i 0) ∧ Fl.ky .f32 (L.getD i 0) ≤ Fl.ky .f32 b from fun i hi => by
              have e : L.getD i 0 = meanV ((xs.drop i).take n) := by
                rw [← hL, HLL.out]
                unfold movT
                simp [List.getD, show i < xs.length - n + 1 by omega]
              rw [e]
              have hlen : ((xs.drop i).take n).length = n := by rw [List.length_take, List.length_drop]; omega
              exact mean_in HFA.out HFB.out (meanB_iff.2 ⟨good_part HG.out i n, by omega⟩) (fun y hy => List.mem_of_mem_drop (List.mem_of_mem_take hy)) HIN2.out)
            have HLZ := hid (show (L.length : Int) = (xs.length : Int) - (n : Int) + 1 by omega)
            have hn0z : (0 : Int) < (n : Int) := by omega
            go_wp2_with fail
            refine (mov_impl _ c1 xs n wr S1.out (by omega) hcap.out).mono ?_
            rintro e w5 ⟨v5, rfl, own5, hb5⟩
            rw [HMV.out]
            rw [hL] at own5
            obtain ⟨A5, c5, g5, rfl, s5, _, _, _⟩ := own_open own5
            have S5 := hid s5
            have HB5 := hid (bthen HB3.out hb5)
            have S1 := hid ((S1.out.below hb5).more hb5.size)
            have hlq : ((L.length : Int) != (xs.length : Int) - (n : Int) + 1) = false := by rw [HLZ.out]; simp
            have hLz9 : (L.length : Int) ≤ 9 := by omega
            clear own5 s5 hb5 hL hLl
            go_wp2_with fail
            go_loopw [14] (fun i w6 => ∃ k : Nat, k ≤ L.length ∧ i = .int .i64 k ∧ w6 = w5) (fun i _ => L.length - (intOf i).toNat)
            case atStart => exact ⟨0, Nat.zero_le _, rfl, rfl⟩
            case round =>
              obtain ⟨k, hk, rfl, rfl⟩ := hrel
              by_cases hlt : k < L.length
              · obtain ⟨ad, rfl, had, hcb⟩ := S5.out.atD (k := k) hlt
                have hkz : (k : Int) < (L.length : Int) := by omega
                have h3 := HLI.out k hlt
                generalize L.getD k 0 = z at hcb h3
                have z1 := not_lt_of h3.1 HFA.out h3.2.1
                have z2 := not_gt_of h3.1 HFB.out h3.2.2
                clear h3
                go_wp2_with fail
                go_roundw
                case rel => exact ⟨k + 1, by omega, by go_num, by first | rfl | trivial⟩
                case measure => simp [intOf]; omega
              · have : k = L.length := by omega
                subst this
                go_wp2_with fail
                refine (count_impl _ c1 xs mid _ S1.out (by omega)).mono ?_
                rintro e w8 ⟨rfl, rfl⟩
                have hcp : (0 : Int) < ((countV xs mid : Nat) : Int) := by have := HCNT.out; omega
                go_wp2_with fail
                go_ret
                exact ⟨by have := HCNT.out; first | rfl | simpa using this | (simp; omega), HB5.out⟩
          · have hn00 : n = 0 := by omega
            subst hn00
            have HMV := hid (show movB xs ((0 : Nat) : Int) = false by unfold movB; rw [decide_eq_false (by omega)]; cases goodB xs <;> rfl)
            have HLL := hid (show movL xs ((0 : Nat) : Int) = [] by unfold movL; rw [HMV.out]; rfl)
            go_wp2_with fail
            refine (mov_impl _ c1 xs _ wr S1.out (by omega) hcap.out).mono ?_
            rintro e w5 ⟨v5, rfl, own5, hb5⟩
            first | rw [HMV.out] | rw [show movB xs 0 = false from HMV.out]
            first | rw [HLL.out] at own5 | rw [show movL xs 0 = [] from HLL.out] at own5
            obtain ⟨A5, c5, g5, rfl, s5, _, _, _⟩ := own_open own5
            have HB5 := hid (bthen HB3.out hb5)
            have S1 := hid ((S1.out.below hb5).more hb5.size)
            clear own5 s5 hb5
            go_wp2_with fail
            go_loopw [14] (fun i w6 => i = .int .i64 0 ∧ w6 = w5) (fun i _ => 0)
            case atStart => exact ⟨rfl, rfl⟩
            case round =>
              obtain ⟨rfl, rfl⟩ := hrel
              go_wp2_with fail
              refine (count_impl _ c1 xs mid _ S1.out (by omega)).mono ?_
              rintro e w8 ⟨rfl, rfl⟩
              have hcp : (0 : Int) < ((countV xs mid : Nat) : Int) := by have := HCNT.out; omega
              go_wp2_with fail
              go_ret
              exact ⟨by have := HCNT.out; first | rfl | simpa using this | (simp; omega), HB5.out⟩
    · have h0z : ¬ ((0 : Int) < (xs.length : Int)) := by omega
      have HMB := hid (show meanB xs = false by unfold meanB; rw [decide_eq_false h0]; cases goodB xs <;> rfl)
      have HMV := hid (show meanV xs = 0 by unfold meanV; rw [HMB.out]; rfl)
      go_wp2_with fail
      refine (mean_impl A1 c1 xs w1 S1.out (by omega)).mono ?_
      rintro e w2 ⟨r, rfl, _, hr, hb2⟩
      rw [HMB.out]
      have ER := hid (show r = 0 by rw [HMV.out] at hr; exact (hr.symm.eq _ (by decide +kernel)).symm)
      have HB2 := hid (bthen HB1.out hb2)
      have S1 := hid ((S1.out.below hb2).more hb2.size)
      clear hr hb2
      go_wp2_with fail
      refine (mid_any A1 c1 xs HG.out w2 S1.out (by omega)).mono ?_
      rintro e w3 ⟨rfl, hb3⟩
      rw [decide_eq_false h0, if_neg h0]
      have HB3 := hid (bthen HB2.out hb3)
      have q0 : (FloatKind.f32.format.order r 0 == some .eq) = true := by rw [ER.out]; decide +kernel
      clear hb3
      go_wp2_with fail
      go_ret
      exact ⟨rfl, HB3.out⟩
end Go.Proofs.Ytgenphbackbepaa
