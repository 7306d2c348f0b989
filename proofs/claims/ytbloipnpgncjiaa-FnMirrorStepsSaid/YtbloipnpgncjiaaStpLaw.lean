/- Where the number is not finite; the law's same; what steps come to, part by part. -/
import Derived.Test.YtbloipnpgncjiaaTrace
import Derived.Test.YtbloipnpgncjiaaDSts
import Derived.Test.YtbloipnpgncjiaaSame64
import Derived.Test.YtbloipnpgncjiaaOpenB
namespace Go.Proofs.Ytbloipnpgncjiaa
open Go.RowKit Ieee

theorem corr_app : ∀ (xs ys : List St) (z : Nat × Nat), corr (xs ++ ys) z = (corr xs z).bind (corr ys)
  | [], ys, z => rfl
  | s :: xs, ys, z => by
    simp only [List.cons_append]
    unfold corr
    split
    · exact corr_app xs ys (stv s z)
    · rfl
theorem corr_cut (ss : List St) (k : Nat) (z : Nat × Nat) : corr ss z = (corr (ss.take k) z).bind (corr (ss.drop k)) := by
  rw [← corr_app, List.take_append_drop]
theorem AllOk.take {ss : List St} (h : AllOk ss) (k : Nat) : AllOk (ss.take k) := ⟨by rw [List.length_take]; have := h.1; omega, fun s hs => h.2 s (List.mem_of_mem_take hs)⟩
theorem AllOk.drop {ss : List St} (h : AllOk ss) (k : Nat) : AllOk (ss.drop k) := ⟨by rw [List.length_drop]; have := h.1; omega, fun s hs => h.2 s (List.mem_of_mem_drop hs)⟩
/-- an owned list, opened -/
theorem own_openS {w : World} {base : Nat} {t : TypeId} {v : Value} {L : List St} (h : w.ownsRow base t 4 v L.length (scells L)) :
    ∃ A c, v = .slice A L.length c ∧ Sts w w.heap.size A L ∧ L.length ≤ c := by
  have h0 := h
  obtain ⟨h1, h2⟩ := h
  rcases h2 with ⟨rfl, e⟩ | ⟨g, cap, cur, rfl, hg, hc, hcap, hm, hsz, ht⟩
  · exact ⟨none, 0, by rw [e], ⟨h1, fun hn => absurd hn (by omega)⟩, by omega⟩
  · exact ⟨some ⟨g, 0, none⟩, cap, rfl, Reads.of_own h0, hcap⟩

set_option maxRecDepth 20000 in
set_option maxHeartbeats 1000000 in
theorem corr_bad (A : Option Addr) (c : Nat) (ss : List St) (z : Nat × Nat) (w : World) (ha : Sts w w.heap.size A ss) (hok : AllOk ss) (h1 : z.1 < 2 ^ 64) (h2 : z.2 < 2 ^ 64) (hz : cFin z = false) :
    Calls Try.prog 60 #[.slice A ss.length c, .complex .f64 z.1 z.2] w fun e w' => e = .returned (.tuple #[.complex .f64 0 0, .bool false]) ∧ Below w.heap.size w w' := by
  have HA := hid ha
  have HK := hid hok
  clear ha hok
  go_enter Try.func60, Try.ntmps60
  go_wp2_with fail
  refine (stepsOk_any A c ss _ HA.out HK.out).mono ?_
  rintro e w1 ⟨rfl, hb1⟩
  have HB1 := hid hb1
  clear hb1
  go_wp2_with fail
  refine (isfin_any z.1 z.2 h1 h2 _).mono ?_
  rintro e w2 ⟨rfl, rfl⟩
  rw [show (finB z.1 && finB z.2) = false from hz]
  go_wp2_with fail
  go_ret2
  exact ⟨rfl, HB1.out⟩

set_option maxRecDepth 20000 in
set_option maxHeartbeats 1000000 in
theorem trace_bad (A : Option Addr) (c : Nat) (ss : List St) (z : Nat × Nat) (w : World) (ha : Sts w w.heap.size A ss) (hok : AllOk ss) (h1 : z.1 < 2 ^ 64) (h2 : z.2 < 2 ^ 64) (hz : cFin z = false) :
    Calls Try.prog 61 #[.slice A ss.length c, .complex .f64 z.1 z.2] w fun e w' => e = .returned (.slice none 0 0) ∧ Below w.heap.size w w' := by
  have HA := hid ha
  have HK := hid hok
  clear ha hok
  go_enter Try.func61, Try.ntmps61
  go_wp2_with fail
  refine (stepsOk_any A c ss _ HA.out HK.out).mono ?_
  rintro e w1 ⟨rfl, hb1⟩
  have HB1 := hid hb1
  clear hb1
  go_wp2_with fail
  refine (isfin_any z.1 z.2 h1 h2 _).mono ?_
  rintro e w2 ⟨rfl, rfl⟩
  rw [show (finB z.1 && finB z.2) = false from hz]
  go_wp2_with fail
  go_ret
  exact ⟨rfl, HB1.out⟩

set_option maxRecDepth 20000 in
set_option maxHeartbeats 1000000 in
theorem samez_any (a b : Nat) (w : World) (ha : a < 2 ^ 64) (hb : b < 2 ^ 64) :
    Calls Try.prog 63 #[.complex .f64 a b, .complex .f64 a b] w fun e w' => e = .returned (.bool true) ∧ Drew w w' := by
  have HA := hid ha
  have HB := hid hb
  clear ha hb
  go_enter Try.func63, Try.ntmps63
  go_wp2_with fail
  refine (s64_any a a _ (Fl.Eqv.refl _ _) HA.out).mono ?_
  rintro e w1 ⟨rfl, n, rfl⟩
  go_wp2_with fail
  refine (s64_any b b _ (Fl.Eqv.refl _ _) HB.out).mono ?_
  rintro e w1 ⟨rfl, m, rfl⟩
  go_wp2_with fail
  go_ret
  exact ⟨rfl, _, rfl⟩

theorem corrN_any (A : Option Addr) (c n : Nat) (ss : List St) (z : Nat × Nat) (w : World) (hn : ss.length = n) (ha : Sts w w.heap.size A ss) (hok : AllOk ss) (hz : Num z) :
    Calls Try.prog 60 #[.slice A n c, .complex .f64 z.1 z.2] w (RetC ss z w) := by subst hn; exact corr_any A c ss z w ha hok hz
theorem corrN_bad (A : Option Addr) (c n : Nat) (ss : List St) (z : Nat × Nat) (w : World) (hn : ss.length = n) (ha : Sts w w.heap.size A ss) (hok : AllOk ss) (h1 : z.1 < 2 ^ 64) (h2 : z.2 < 2 ^ 64) (hz : cFin z = false) :
    Calls Try.prog 60 #[.slice A n c, .complex .f64 z.1 z.2] w fun e w' => e = .returned (.tuple #[.complex .f64 0 0, .bool false]) ∧ Below w.heap.size w w' := by subst hn; exact corr_bad A c ss z w ha hok h1 h2 hz
theorem num_zero : Num (0, 0) := ⟨by decide, by decide, by decide +kernel⟩

set_option maxRecDepth 20000 in
set_option maxHeartbeats 8000000 in
theorem law_steps (A : Option Addr) (l c : Nat) (hx : l ≤ 9223372036854775807) (w : World) (ha : Byts w w.heap.size A l) :
    Calls Try.prog 17 #[.slice A l c] w fun e w' => e = .returned (.bool true) ∧ Below w.heap.size w w' := by
  have HA := hid ha
  clear ha
  by_cases hb : 1048576 < l
  · go_enter Try.func17, Try.ntmps17
    go_wp2_with fail
    refine (big_any A l c w hx).mono ?_
    rintro e w0 ⟨rfl, rfl⟩
    rw [decide_eq_true hb]
    go_wp2_with fail
    go_ret
    exact ⟨rfl, Below.refl _ _⟩
  · go_enter Try.func17, Try.ntmps17
    go_wp2_with fail
    refine (big_any A l c w hx).mono ?_
    rintro e w0 ⟨rfl, hw0⟩
    subst hw0
    rw [decide_eq_false hb]
    go_wp2_with fail
    refine (drawS_any A l c _ HA.out (by omega)).mono ?_
    rintro e w1 ⟨v, ss, x, y, rfl, hx1, hy1, hl, hd, hown, hb1⟩
    obtain ⟨A1, c1, rfl, hs1, hcap⟩ := own_openS hown
    have HOK := hid (show AllOk ss from ⟨by omega, hd⟩)
    have HS1 := hid hs1
    have HB1 := hid hb1
    have HX := hid hx1
    have HY := hid hy1
    have hlz : (ss.length : Int) ≤ 5 := by omega
    have hcapz : (ss.length : Int) ≤ (c1 : Int) := by omega
    clear hx1 hy1 hd hown hs1 hb1
    obtain ⟨k, hk, hkz⟩ : ∃ k : Nat, k ≤ ss.length ∧ (ss.length : Int) / 2 = k := ⟨ss.length / 2, by omega, by omega⟩
    have hkt : (ss.length : Int).tdiv 2 = k := by rw [← hkz]; exact Int.tdiv_eq_ediv_of_nonneg (by omega)
    have hkz2 : (k : Int) ≤ (ss.length : Int) := by omega
    have hkz3 : (k : Int) ≤ (c1 : Int) := by omega
    rcases Bool.eq_false_or_eq_true (cFin (x, y)) with hf | hf
    · have HZ := hid (show Num (x, y) from ⟨HX.out, HY.out, hf⟩)
      clear hf
      go_wp2_with fail
      refine (corr_any A1 c1 ss (x, y) _ HS1.out HOK.out HZ.out).mono ?_
      rintro e w2 ⟨hcc, hb2⟩
      have HB2 := hid (bthen HB1.out hb2)
      have HS2 := hid (HS1.out.next hb2)
      clear hb2
      rcases hcc with ⟨u, hu, hn, rfl⟩ | ⟨hu, rfl⟩
      · skip
        go_wp2_with fail
        refine (trace_any A1 c1 ss (x, y) _ HS2.out HOK.out HZ.out).mono ?_
        rintro e w3 ⟨v3, rfl, hown3, hnum3, hb3⟩
        have HB3 := hid (bthen HB2.out hb3)
        have HS3 := hid (HS2.out.next hb3)
        have HN3 := hid hnum3
        obtain ⟨A2, c2, rfl⟩ : ∃ A2 c2, v3 = .slice A2 (trace ss (x, y)).length c2 := by
          obtain ⟨_, h2⟩ := hown3
          rcases h2 with ⟨rfl, e⟩ | ⟨g, cap, cur, rfl, _⟩
          · exact ⟨none, 0, by rw [e]⟩
          · exact ⟨_, _, rfl⟩
        have hrd := Reads.of_own hown3
        obtain ⟨htl, hue⟩ := corr_some ss (x, y) u hu
        have HU := hid hu
        have HUE := hid hue
        have HNU := hid hn
        rw [htl] at hrd ⊢
        have HRD := hid hrd
        clear hb3 hnum3 hown3 hrd hu hn hue htl
        go_wp2_with fail
        refine (stepsOk_any A1 c1 ss _ HS3.out HOK.out).mono ?_
        rintro e w4 ⟨rfl, hb4⟩
        have HB4 := hid (bthen HB3.out hb4)
        have HS4 := hid (HS3.out.next hb4)
        have HRD4 := hid ((Reads.below HRD.out hb4).more hb4.size)
        clear hb4
        go_wp2_with fail
        refine (isfin_any x y HX.out HY.out _).mono ?_
        rintro e w5 ⟨rfl, rfl⟩
        rw [show (finB x && finB y) = true from HZ.out.2.2]
        by_cases h0 : ss.length = 0
        · have h0z : ¬ ((0 : Int) < (ss.length : Int)) := by omega
          have HS5 := HS4
          have HB5 := HB4
          clear h0 HS4 HB4
          go_wp2_with fail
          refine (corrN_any A1 c1 k (ss.take k) (x, y) _ (by rw [List.length_take]; omega) (HS5.out.take hk) (HOK.out.take k) HZ.out).mono ?_
          rintro e w6 ⟨hc6, hb6⟩
          have HB6 := hid (bthen HB5.out hb6)
          have HS6 := hid (HS5.out.next hb6)
          clear hb6
          rcases hc6 with ⟨t6, ht6, hn6, rfl⟩ | ⟨ht6, rfl⟩
          · have HN6 := hid hn6
            have HC6 := hid (show corr (ss.drop k) t6 = some u by have := HU.out; rw [corr_cut ss k, ht6] at this; exact this)
            clear hn6 ht6
            by_cases hck : c1 = k
            all_goals
              have hdr := HS6.out.drop hk hcap
              first | rw [if_pos hck] at hdr | rw [if_neg hck] at hdr
              have HDR := hid hdr
              clear hdr
              go_wp2_with fail
              refine (corrN_any _ _ _ (ss.drop k) t6 _ (by rw [List.length_drop]) HDR.out (HOK.out.drop k) HN6.out).mono ?_
              rintro e w7 ⟨hcc, hb7⟩
              have HB7 := hid (bthen HB6.out hb7)
              clear hb7
              rcases hcc with ⟨t, ht, hnt, rfl⟩ | ⟨ht, rfl⟩
              · have htu : t = u := by rw [HC6.out] at ht; cases ht; rfl
                clear ht hnt
                subst htu
                go_wp2_with fail
                refine (samez_any _ _ _ HNU.out.1 HNU.out.2.1).mono ?_
                rintro e w8 ⟨rfl, m8, rfl⟩
                go_wp2_with fail
                go_ret
                exact ⟨rfl, below_drewN HB7.out _⟩
              · rw [HC6.out] at ht; cases ht
          · exfalso
            have := HU.out
            rw [corr_cut ss k, ht6] at this
            cases this
        · have h0z : (0 : Int) < (ss.length : Int) := by omega
          obtain ⟨m, hm⟩ : ∃ m, ss.length = m + 1 := ⟨ss.length - 1, by omega⟩
          obtain ⟨ad, vz, rfl, had, hv, hcell⟩ := Reads.at_ HRD4.out (k := m) (by omega)
          have hv' : vz = .complex .f64 u.1 u.2 := by
            have htl : (trace ss (x, y)).length = ss.length := (corr_some ss (x, y) u HU.out).1
            have hm' : m < (trace ss (x, y)).length := by omega
            have e : (trace ss (x, y))[m] = u := by
              have := HUE.out
              rw [if_neg h0, hm, Nat.add_sub_cancel, List.getD, List.getElem?_eq_getElem hm'] at this
              exact this.symm
            unfold zcells at hv
            rw [List.getElem?_map, List.getElem?_eq_getElem hm', e] at hv
            simpa using hv.symm
          subst hv'
          have hmz : (m : Int) < (ss.length : Int) := by omega
          have hwr : (ss.length : Int) - 1 = (m : Int) := by omega
          have HM := hid hm
          clear hv hm h0
          go_wp2_with fail
          refine (samez_any _ _ _ HNU.out.1 HNU.out.2.1).mono ?_
          rintro e w5 ⟨rfl, m5, rfl⟩
          have HS5 := hid (HS4.out.next (below_drewN (Below.refl _ _) m5))
          have HB5 := hid (below_drewN HB4.out m5)
          go_wp2_with fail
          refine (corrN_any A1 c1 k (ss.take k) (x, y) _ (by rw [List.length_take]; omega) (HS5.out.take hk) (HOK.out.take k) HZ.out).mono ?_
          rintro e w6 ⟨hc6, hb6⟩
          have HB6 := hid (bthen HB5.out hb6)
          have HS6 := hid (HS5.out.next hb6)
          clear hb6
          rcases hc6 with ⟨t6, ht6, hn6, rfl⟩ | ⟨ht6, rfl⟩
          · have HN6 := hid hn6
            have HC6 := hid (show corr (ss.drop k) t6 = some u by have := HU.out; rw [corr_cut ss k, ht6] at this; exact this)
            clear hn6 ht6
            by_cases hck : c1 = k
            all_goals
              have hdr := HS6.out.drop hk hcap
              first | rw [if_pos hck] at hdr | rw [if_neg hck] at hdr
              have HDR := hid hdr
              clear hdr
              go_wp2_with fail
              refine (corrN_any _ _ _ (ss.drop k) t6 _ (by rw [List.length_drop]) HDR.out (HOK.out.drop k) HN6.out).mono ?_
              rintro e w7 ⟨hcc, hb7⟩
              have HB7 := hid (bthen HB6.out hb7)
              clear hb7
              rcases hcc with ⟨t, ht, hnt, rfl⟩ | ⟨ht, rfl⟩
              · have htu : t = u := by rw [HC6.out] at ht; cases ht; rfl
                clear ht hnt
                subst htu
                go_wp2_with fail
                refine (samez_any _ _ _ HNU.out.1 HNU.out.2.1).mono ?_
                rintro e w8 ⟨rfl, m8, rfl⟩
                go_wp2_with fail
                go_ret
                exact ⟨rfl, below_drewN HB7.out _⟩
              · rw [HC6.out] at ht; cases ht
          · exfalso
            have := HU.out
            rw [corr_cut ss k, ht6] at this
            cases this
      · skip
        go_wp2_with fail
        refine (trace_any A1 c1 ss (x, y) _ HS2.out HOK.out HZ.out).mono ?_
        rintro e w3 ⟨v3, rfl, hown3, hnum3, hb3⟩
        have HB3 := hid (bthen HB2.out hb3)
        have HS3 := hid (HS2.out.next hb3)
        have HN3 := hid hnum3
        obtain ⟨A2, c2, rfl⟩ : ∃ A2 c2, v3 = .slice A2 (trace ss (x, y)).length c2 := by
          obtain ⟨_, h2⟩ := hown3
          rcases h2 with ⟨rfl, e⟩ | ⟨g, cap, cur, rfl, _⟩
          · exact ⟨none, 0, by rw [e]⟩
          · exact ⟨_, _, rfl⟩
        have hrd := Reads.of_own hown3
        have htl := corr_none ss (x, y) hu
        have HU := hid hu
        have htlz : ¬ (((trace ss (x, y)).length : Int) = (ss.length : Int)) := by omega
        have htlz2 : (((trace ss (x, y)).length : Int) == (ss.length : Int)) = false := by simpa using htlz
        clear hb3 hnum3 hown3 hrd hu
        go_wp2_with fail
        refine (stepsOk_any A1 c1 ss _ HS3.out HOK.out).mono ?_
        rintro e w4 ⟨rfl, hb4⟩
        have HB4 := hid (bthen HB3.out hb4)
        have HS4 := hid (HS3.out.next hb4)
        clear hb4
        go_wp2_with fail
        refine (isfin_any x y HX.out HY.out _).mono ?_
        rintro e w5 ⟨rfl, rfl⟩
        rw [show (finB x && finB y) = true from HZ.out.2.2]
        go_wp2_with fail
        refine (corrN_any A1 c1 k (ss.take k) (x, y) _ (by rw [List.length_take]; omega) (HS4.out.take hk) (HOK.out.take k) HZ.out).mono ?_
        rintro e w6 ⟨hc6, hb6⟩
        have HB6 := hid (bthen HB4.out hb6)
        have HS6 := hid (HS4.out.next hb6)
        clear hb6
        rcases hc6 with ⟨t6, ht6, hn6, rfl⟩ | ⟨ht6, rfl⟩
        · have HN6 := hid hn6
          have HC6 := hid (show corr (ss.drop k) t6 = none by have := HU.out; rw [corr_cut ss k, ht6] at this; exact this)
          clear hn6 ht6
          by_cases hck : c1 = k
          all_goals
            have hdr := HS6.out.drop hk hcap
            first | rw [if_pos hck] at hdr | rw [if_neg hck] at hdr
            have HDR := hid hdr
            clear hdr
            go_wp2_with fail
            refine (corrN_any _ _ _ (ss.drop k) t6 _ (by rw [List.length_drop]) HDR.out (HOK.out.drop k) HN6.out).mono ?_
            rintro e w7 ⟨hcc, hb7⟩
            have HB7 := hid (bthen HB6.out hb7)
            clear hb7
            rcases hcc with ⟨t, ht, hnt, rfl⟩ | ⟨ht, rfl⟩
            · rw [HC6.out] at ht; cases ht
            · go_wp2_with fail
              go_ret
              exact ⟨rfl, HB7.out⟩
        · clear ht6
          by_cases hck : c1 = k
          all_goals
            have hdr := HS6.out.drop hk hcap
            first | rw [if_pos hck] at hdr | rw [if_neg hck] at hdr
            have HDR := hid hdr
            clear hdr
            go_wp2_with fail
            refine (corrN_any _ _ _ (ss.drop k) (0, 0) _ (by rw [List.length_drop]) HDR.out (HOK.out.drop k) num_zero).mono ?_
            rintro e w7 ⟨hcc, hb7⟩
            have HB7 := hid (bthen HB6.out hb7)
            clear hb7
            rcases hcc with ⟨t, ht, hnt, rfl⟩ | ⟨ht, rfl⟩
            all_goals
              go_wp2_with fail
              go_ret
              exact ⟨rfl, HB7.out⟩
    · have HF := hid hf
      clear hf
      go_wp2_with fail
      refine (corr_bad A1 c1 ss (x, y) _ HS1.out HOK.out HX.out HY.out HF.out).mono ?_
      rintro e w2 ⟨rfl, hb2⟩
      have HB2 := hid (bthen HB1.out hb2)
      have HS2 := hid (HS1.out.next hb2)
      clear hb2
      go_wp2_with fail
      refine (trace_bad A1 c1 ss (x, y) _ HS2.out HOK.out HX.out HY.out HF.out).mono ?_
      rintro e w3 ⟨rfl, hb3⟩
      have HB3 := hid (bthen HB2.out hb3)
      have HS3 := hid (HS2.out.next hb3)
      clear hb3
      go_wp2_with fail
      refine (stepsOk_any A1 c1 ss _ HS3.out HOK.out).mono ?_
      rintro e w4 ⟨rfl, hb4⟩
      have HB4 := hid (bthen HB3.out hb4)
      have HS4 := hid (HS3.out.next hb4)
      clear hb4
      go_wp2_with fail
      refine (isfin_any x y HX.out HY.out _).mono ?_
      rintro e w5 ⟨rfl, rfl⟩
      rw [show (finB x && finB y) = false from HF.out]
      go_wp2_with fail
      refine (corrN_bad A1 c1 k (ss.take k) (x, y) _ (by rw [List.length_take]; omega) (HS4.out.take hk) (HOK.out.take k) HX.out HY.out HF.out).mono ?_
      rintro e w6 ⟨rfl, hb6⟩
      have HB6 := hid (bthen HB4.out hb6)
      have HS6 := hid (HS4.out.next hb6)
      clear hb6
      by_cases hck : c1 = k
      all_goals
        have hdr := HS6.out.drop hk hcap
        first | rw [if_pos hck] at hdr | rw [if_neg hck] at hdr
        have HDR := hid hdr
        clear hdr
        go_wp2_with fail
        refine (corrN_any _ _ _ (ss.drop k) (0, 0) _ (by rw [List.length_drop]) HDR.out (HOK.out.drop k) num_zero).mono ?_
        rintro e w7 ⟨hcc, hb7⟩
        have HB7 := hid (bthen HB6.out hb7)
        clear hb7
        rcases hcc with ⟨t, ht, hnt, rfl⟩ | ⟨ht, rfl⟩
        all_goals
          go_wp2_with fail
          go_ret
          exact ⟨rfl, HB7.out⟩
end Go.Proofs.Ytbloipnpgncjiaa
