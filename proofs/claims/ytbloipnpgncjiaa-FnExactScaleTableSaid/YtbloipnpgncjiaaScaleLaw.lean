/- The law of ScaleTable: it answers true for every list of points and number. -/
import Derived.Test.YtbloipnpgncjiaaScale
import Derived.Test.YtbloipnpgncjiaaScale2
import Derived.Test.YtbloipnpgncjiaaOwnP
namespace Go.Proofs.Ytbloipnpgncjiaa
open Go.RowKit

set_option maxRecDepth 20000 in
set_option maxHeartbeats 4000000 in
theorem law_scale (A : Option Addr) (l c : Nat) (xs : List (Nat × Nat)) (hl : l = xs.length) (hx : l ≤ 9223372036854775807) (f : Nat) (w : World) (ha : Pts w w.heap.size A xs) (_ : ∀ x ∈ xs, x.1 < 4294967296 ∧ x.2 < 4294967296) :
    Calls Try.prog 11 #[.slice A l c, .float .f32 f] w fun e w' => e = .returned (.bool true) ∧ Below w.heap.size w w' := by
  subst hl
  have HA := hid ha
  clear ha
  by_cases hb : xs.length ≤ 1048576
  · have hbz : (xs.length : Int) ≤ 1048576 := by omega
    have hL := scR_len f xs
    have CS := hid (fun A c w ha => scale_spec A c xs f w ha hb)
    have CI := hid (fun A c w ha => scale_impl A c xs f w ha hb)
    generalize scR f xs = L at CS CI hL
    generalize scB f xs = b at CS CI
    have hLn : L.length ≤ 1048576 := by omega
    have hLz : (L.length : Int) ≤ 1048576 := by omega
    go_enter Try.func11, Try.ntmps11
    go_wp2_with fail
    refine (sz_any A _ c 1048576 (Nat.le_refl _) hx w).mono ?_
    rintro e w0 ⟨rfl, hw0⟩
    rw [hw0]
    clear hw0
    rw [if_pos hb]
    have hz : ¬ ((1048576 : Int) - (xs.length : Int) < 0) := by omega
    go_wp2_with fail
    refine (toP_any _ _ _ _ HA.out hb).mono ?_
    rintro e w1 ⟨g1, rfl, hg1, hs1, hb1⟩
    have H1 := hid hb1
    clear hb1
    go_wp2_with fail
    refine (CS.out _ _ _ hs1).mono ?_
    rintro e w2 ⟨v5, rfl, own5, hb2⟩
    obtain ⟨A5, c5, g5, rfl, s5, hg5, hA5, _⟩ := own_openP own5
    have H2 := hid (bthen H1.out hb2)
    have S5 := hid s5
    have K5 := hid hA5
    clear hb2 own5 s5 hs1 H1 hA5
    go_wp2_with fail
    refine (toPW_any _ _ _ _ ((HA.out.below H2.out).more H2.out.size) hb).mono ?_
    rintro e w3 ⟨g7, rfl, hg7, hs7, hb3, f7, row7⟩
    have H3 := hid (bthen H2.out hb3)
    have S5 := hid ((S5.out.below hb3).more hb3.size)
    have R7 := hid row7
    have S7 := hid hs7
    have N57 : 0 < L.length → g5 ≠ g7 := fun h => by have := (K5.out h).2; omega
    have h7 : g7 < w3.heap.size := row7.1
    clear hb3 row7 hs7
    go_wp2_with fail
    refine (CI.out _ _ _ S7.out).mono ?_
    rintro e w4 ⟨v8, rfl, own8, hb4⟩
    obtain ⟨A8, c8, g8, rfl, s8, hg8, hA8, row8⟩ := own_openP own8
    have H4 := hid (bthen H3.out hb4)
    have S5 := hid ((S5.out.below hb4).more hb4.size)
    have S7 := hid ((S7.out.below hb4).more hb4.size)
    have R7 := hid (R7.out.next hb4)
    have S8 := hid s8
    have K8 := hid hA8
    have R8 := hid row8
    have N78 : g8 ≠ g7 := by omega
    have N58 : 0 < L.length → g5 ≠ g8 := fun h => by have := (K5.out h).2; have := H3.out.size; omega
    have hw8 : w.heap.size ≤ g8 := by have := H3.out.size; omega
    have hw7 : w.heap.size ≤ g7 := by have := H2.out.size; omega
    clear hb4 own8 s8 hA8 row8
    go_wp2_with fail
    refine (eqP_any _ _ _ _ _ _ S8.out S5.out hLn).mono ?_
    rintro e w5 ⟨rfl, hb5⟩
    have H5 := hid (bthen H4.out hb5)
    have S5 := hid ((S5.out.below hb5).more hb5.size)
    have S7 := hid ((S7.out.below hb5).more hb5.size)
    have S8 := hid ((S8.out.below hb5).more hb5.size)
    have R7 := hid (R7.out.next hb5)
    have R8 := hid (fun h => (R8.out h).next hb5)
    clear hb5
    go_wp2_with fail
    refine (toP_any _ _ _ _ ((HA.out.below H5.out).more H5.out.size) hb).mono ?_
    rintro e w6 ⟨g6, rfl, hg6, hs6, hb6⟩
    have H6 := hid (bthen H5.out hb6)
    have S5 := hid ((S5.out.below hb6).more hb6.size)
    have S7 := hid ((S7.out.below hb6).more hb6.size)
    have S8 := hid ((S8.out.below hb6).more hb6.size)
    have R7 := hid (R7.out.next hb6)
    have R8 := hid (fun h => (R8.out h).next hb6)
    clear hb6
    go_wp2_with fail
    refine (eqP_any _ _ _ _ _ _ S7.out hs6 hb).mono ?_
    rintro e w7 ⟨rfl, hb7⟩
    have H7 := hid (bthen H6.out hb7)
    have S5 := hid ((S5.out.below hb7).more hb7.size)
    have S8 := hid ((S8.out.below hb7).more hb7.size)
    have R7 := hid (R7.out.next hb7)
    have R8 := hid (fun h => (R8.out h).next hb7)
    clear hb7 hs6
    go_wp2_with fail
    refine (markP_any _ g7 _ _ 1 _ _ (fun _ => rfl) (fun _ => R7.out) (by omega) (by omega) (by omega)).mono ?_
    rintro e w8 ⟨rfl, _, but7⟩
    have H8 := hid (H7.out.trans (but7.2.2 _ hw7))
    have S5 := hid ((S5.out.but (fun h => (K5.out h).1) but7 N57).more (B' := w8.heap.size) (by rw [but7.1]; exact Nat.le_refl _))
    have S8 := hid ((S8.out.but (fun h => (K8.out h).1) but7 (fun _ => N78)).more (B' := w8.heap.size) (by rw [but7.1]; exact Nat.le_refl _))
    have R8 := hid (fun h => (R8.out h).but but7 N78)
    clear but7
    have hk0 : ¬ ((1 : Int) + ((xs.length * 2 : Nat) : Int) < 0) := by omega
    go_wp2_with fail
    refine (eqP_any _ _ _ _ _ _ S8.out S5.out hLn).mono ?_
    rintro e w9 ⟨rfl, hb9⟩
    have H9 := hid (bthen H8.out hb9)
    have S5 := hid ((S5.out.below hb9).more hb9.size)
    have R8 := hid (fun h => (R8.out h).next hb9)
    clear hb9
    go_wp2_with fail
    refine (markP_any _ g8 _ _ 1 _ _ (fun h => (K8.out h).1) R8.out (by omega) (by omega) (by omega)).mono ?_
    rintro e w10 ⟨rfl, row8, but8⟩
    have H10 := hid (H9.out.trans (but8.2.2 _ hw8))
    have S5 := hid ((S5.out.but (fun h => (K5.out h).1) but8 N58).more (B' := w10.heap.size) (by rw [but8.1]; exact Nat.le_refl _))
    have R8 := hid row8
    clear but8 row8
    go_wp2_with fail
    refine (heldP_any _ g8 _ _ 1 _ (fun h => (K8.out h).1) R8.out (by omega) (by omega) (by omega)).mono ?_
    rintro e w11 ⟨rfl, rfl⟩
    have hq0 : ¬ ((1 : Int) + ((L.length * 2 : Nat) : Int) < 0) := by omega
    go_wp2_with fail
    refine (toP_any _ _ _ _ ((HA.out.below H10.out).more H10.out.size) hb).mono ?_
    rintro e w12 ⟨g12, rfl, hg12, hs12, hb12⟩
    have H12 := hid (bthen H10.out hb12)
    have S5 := hid ((S5.out.below hb12).more hb12.size)
    have R8 := hid (fun h => (R8.out h).next hb12)
    clear hb12
    go_wp2_with fail
    refine (CI.out _ _ _ hs12).mono ?_
    rintro e w13 ⟨v13, rfl, own13, hb13⟩
    obtain ⟨A13, c13, g13, rfl, s13, _, _, _⟩ := own_openP own13
    have H13 := hid (bthen H12.out hb13)
    have S5 := hid ((S5.out.below hb13).more hb13.size)
    have R8 := hid (fun h => (R8.out h).next hb13)
    have S13 := hid s13
    clear hb13 own13 s13 hs12
    go_wp2_with fail
    refine (eqP_any _ _ _ _ _ _ S13.out S5.out hLn).mono ?_
    rintro e w14 ⟨rfl, hb14⟩
    have H14 := hid (bthen H13.out hb14)
    have R8 := hid (fun h => (R8.out h).next hb14)
    clear hb14
    go_wp2_with fail
    refine (heldP_any _ g8 _ _ 1 _ (fun h => (K8.out h).1) R8.out (by omega) (by omega) (by omega)).mono ?_
    rintro e w15 ⟨rfl, rfl⟩
    go_wp2_with fail
    go_ret
    exact ⟨rfl, H14.out⟩
  · have hbz : (1048576 : Int) < (xs.length : Int) := by omega
    go_enter Try.func11, Try.ntmps11
    go_wp2_with fail
    refine (sz_any A _ c 1048576 (Nat.le_refl _) hx w).mono ?_
    rintro e w0 ⟨rfl, hw0⟩
    rw [hw0]
    clear hw0
    rw [if_neg hb]
    go_wp2_with fail
    go_ret
    exact ⟨rfl, Below.refl _ _⟩
end Go.Proofs.Ytbloipnpgncjiaa
