/- The law of Refine: it answers true for every list of points and list of singles. -/
import Derived.Test.YtbloipnpgncjiaaRefSp2
import Derived.Test.YtbloipnpgncjiaaOwnP
import Derived.Test.YtbloipnpgncjiaaOwnW
namespace Go.Proofs.Ytbloipnpgncjiaa
open Go.RowKit

theorem refL_len (ps : List (Nat × Nat)) (xs : List Nat) : (refL ps xs).length ≤ 32 := by
  unfold refL
  split
  · rename_i h
    unfold refB at h
    simp only [Bool.and_eq_true] at h
    exact (tabOk_iff.1 h.2).1.2
  · simp

set_option maxRecDepth 20000 in
set_option maxHeartbeats 8000000 in
theorem law_ref (A : Option Addr) (l c : Nat) (ps : List (Nat × Nat)) (hl : l = ps.length) (hx : l ≤ 9223372036854775807) (B : Option Addr) (l2 d : Nat) (rs : List Nat) (hl2 : l2 = rs.length) (hx2 : l2 ≤ 9223372036854775807) (w : World) (ha : Pts w w.heap.size A ps) (_ : ∀ x ∈ ps, x.1 < 4294967296 ∧ x.2 < 4294967296) (hr : Sing w w.heap.size B rs) (_ : ∀ x ∈ rs, x < 4294967296) :
    Calls Try.prog 6 #[.slice A l c, .slice B l2 d] w fun e w' => e = .returned (.bool true) ∧ Below w.heap.size w w' := by
  subst hl
  subst hl2
  have HA := hid ha
  have HB := hid hr
  clear ha hr
  by_cases hbr : rs.length ≤ 1048576
  · have hrz : (rs.length : Int) ≤ 1048576 := by omega
    by_cases hb : ps.length ≤ 1048576
    · have hbz : (ps.length : Int) ≤ 1048576 := by omega
      have hz : ¬ ((1048576 : Int) - (ps.length : Int) < 0) := by omega
      have hL := refL_len ps rs
      have CS := hid (fun A B c d w ha hr => refine_spec A B c d ps rs w ha hr hb hbr)
      have CI := hid (fun A B c d w ha hr => refine_impl A B c d ps rs w ha hr hb hbr)
      generalize refL ps rs = L at CS CI hL
      generalize refB ps rs = bb at CS CI
      have hLn : L.length ≤ 1048576 := by omega
      have hLz : (L.length : Int) ≤ 32 := by omega
      go_enter Try.func6, Try.ntmps6
      go_wp2_with fail
      refine (sz_any A _ c 1048576 (Nat.le_refl _) hx w).mono ?_
      rintro e w0 ⟨rfl, hw0⟩
      rw [hw0, if_pos hb]
      clear hw0
      go_wp2_with fail
      refine (toP_any _ _ _ _ HA.out hb).mono ?_
      rintro e w1 ⟨g1, rfl, hg1, hs1, hb1⟩
      have H1 := hid hb1
      have S1 := hid hs1
      clear hb1 hs1
      go_wp2_with fail
      refine (toS_any _ _ _ _ ((HB.out.below H1.out).more H1.out.size) hbr).mono ?_
      rintro e w2 ⟨g2, rfl, hg2, hs2, hb2⟩
      have H2 := hid (bthen H1.out hb2)
      have S1 := hid ((S1.out.below hb2).more hb2.size)
      have S2 := hid hs2
      clear hb2 hs2
      go_wp2_with fail
      refine (CS.out _ _ _ _ _ S1.out S2.out).mono ?_
      rintro e w3 ⟨v5, rfl, ⟨A5, c5, g5, rfl, s5, hg5, hA5, _⟩, hb3⟩
      have H3 := hid (bthen H2.out hb3)
      have S5 := hid s5
      have K5 := hid hA5
      clear hb3 s5 hA5 S1 S2
      go_wp2_with fail
      refine (toPW_any _ _ _ _ ((HA.out.below H3.out).more H3.out.size) hb).mono ?_
      rintro e w4 ⟨g7, rfl, hg7, hs7, hb4, f7, row7⟩
      have H4 := hid (bthen H3.out hb4)
      have S5 := hid ((S5.out.below hb4).more hb4.size)
      have R7 := hid row7
      have S7 := hid hs7
      have N57 : 0 < L.length → g5 ≠ g7 := fun h => by have := (K5.out h).2; omega
      have h7 : g7 < w4.heap.size := row7.1
      have hw7 : w.heap.size ≤ g7 := by have := H3.out.size; omega
      have z3 := H3.out.size
      clear hb4 row7 hs7
      go_wp2_with fail
      refine (toW_any _ _ _ _ ((HB.out.below H4.out).more H4.out.size) hbr).mono ?_
      rintro e w5 ⟨g9, rfl, hg9, hs9, hb5, row9⟩
      have H5 := hid (bthen H4.out hb5)
      have S5 := hid ((S5.out.below hb5).more hb5.size)
      have S7 := hid ((S7.out.below hb5).more hb5.size)
      have R7 := hid (R7.out.next hb5)
      have S9 := hid hs9
      have R9 := hid row9
      have N79 : g7 ≠ g9 := by omega
      have N59 : 0 < L.length → g5 ≠ g9 := fun h => by have := (K5.out h).2; omega
      have h9 : g9 < w5.heap.size := row9.1
      have hw9 : w.heap.size ≤ g9 := by have := H4.out.size; omega
      clear hb5 row9 hs9
      go_wp2_with fail
      refine (CI.out _ _ _ _ _ S7.out S9.out).mono ?_
      rintro e w6 ⟨v8, rfl, ⟨A8, c8, g8, rfl, s8, hg8, hA8, row8⟩, hb6⟩
      have H6 := hid (bthen H5.out hb6)
      have S5 := hid ((S5.out.below hb6).more hb6.size)
      have S7 := hid ((S7.out.below hb6).more hb6.size)
      have R7 := hid (R7.out.next hb6)
      have S9 := hid ((S9.out.below hb6).more hb6.size)
      have R9 := hid (R9.out.next hb6)
      have S8 := hid s8
      have K8 := hid hA8
      have R8 := hid row8
      have N78 : g8 ≠ g7 := by omega
      have N98 : g8 ≠ g9 := by omega
      have N58 : 0 < L.length → g5 ≠ g8 := fun h => by have := (K5.out h).2; omega
      have hw8 : w.heap.size ≤ g8 := by have := H5.out.size; omega
      clear hb6 s8 hA8 row8
      go_wp2_with fail
      refine (eqP_any _ _ _ _ _ _ S8.out S5.out hLn).mono ?_
      rintro e w7 ⟨rfl, hb7⟩
      have H7 := hid (bthen H6.out hb7)
      have S5 := hid ((S5.out.below hb7).more hb7.size)
      have S7 := hid ((S7.out.below hb7).more hb7.size)
      have R7 := hid (R7.out.next hb7)
      have S9 := hid ((S9.out.below hb7).more hb7.size)
      have R9 := hid (R9.out.next hb7)
      have S8 := hid ((S8.out.below hb7).more hb7.size)
      have R8 := hid (fun h => (R8.out h).next hb7)
      clear hb7
      go_wp2_with fail
      refine (toP_any _ _ _ _ ((HA.out.below H7.out).more H7.out.size) hb).mono ?_
      rintro e w8 ⟨gx, rfl, hgx, hsx, hb8⟩
      have H8 := hid (bthen H7.out hb8)
      have S5 := hid ((S5.out.below hb8).more hb8.size)
      have S7 := hid ((S7.out.below hb8).more hb8.size)
      have R7 := hid (R7.out.next hb8)
      have S9 := hid ((S9.out.below hb8).more hb8.size)
      have R9 := hid (R9.out.next hb8)
      have S8 := hid ((S8.out.below hb8).more hb8.size)
      have R8 := hid (fun h => (R8.out h).next hb8)
      clear hb8
      go_wp2_with fail
      refine (eqP_any _ _ _ _ _ _ S7.out hsx hb).mono ?_
      rintro e w9 ⟨rfl, hb9⟩
      have H9 := hid (bthen H8.out hb9)
      have S5 := hid ((S5.out.below hb9).more hb9.size)
      have R7 := hid (R7.out.next hb9)
      have S9 := hid ((S9.out.below hb9).more hb9.size)
      have R9 := hid (R9.out.next hb9)
      have S8 := hid ((S8.out.below hb9).more hb9.size)
      have R8 := hid (fun h => (R8.out h).next hb9)
      clear hb9 hsx
      go_wp2_with fail
      refine (toS_any _ _ _ _ ((HB.out.below H9.out).more H9.out.size) hbr).mono ?_
      rintro e w10 ⟨gy, rfl, hgy, hsy, hb10⟩
      have H10 := hid (bthen H9.out hb10)
      have S5 := hid ((S5.out.below hb10).more hb10.size)
      have R7 := hid (R7.out.next hb10)
      have S9 := hid ((S9.out.below hb10).more hb10.size)
      have R9 := hid (R9.out.next hb10)
      have S8 := hid ((S8.out.below hb10).more hb10.size)
      have R8 := hid (fun h => (R8.out h).next hb10)
      clear hb10
      go_wp2_with fail
      refine (eqS_any _ _ _ _ _ _ S9.out hsy hbr).mono ?_
      rintro e w11 ⟨rfl, hb11⟩
      have H11 := hid (bthen H10.out hb11)
      have S5 := hid ((S5.out.below hb11).more hb11.size)
      have R7 := hid (R7.out.next hb11)
      have R9 := hid (R9.out.next hb11)
      have S8 := hid ((S8.out.below hb11).more hb11.size)
      have R8 := hid (fun h => (R8.out h).next hb11)
      clear hb11 hsy
      go_wp2_with fail
      refine (markP_any _ g7 _ _ 1 _ _ (fun _ => rfl) (fun _ => R7.out) (by omega) (by omega) (by omega)).mono ?_
      rintro e w12 ⟨rfl, _, but7⟩
      have H12 := hid (H11.out.trans (but7.2.2 _ hw7))
      have S5 := hid ((S5.out.but (fun h => (K5.out h).1) but7 N57).more (B' := w12.heap.size) (by rw [but7.1]; exact Nat.le_refl _))
      have S8 := hid ((S8.out.but (fun h => (K8.out h).1) but7 (fun _ => N78)).more (B' := w12.heap.size) (by rw [but7.1]; exact Nat.le_refl _))
      have R8 := hid (fun h => (R8.out h).but but7 N78)
      have R9 := hid (R9.out.but but7 (fun e => N79 e.symm))
      clear but7
      have hk0 : ((1 : Int) + ((ps.length * 2 : Nat) : Int)) ≤ 2097153 := by omega
      obtain ⟨k1, hk1⟩ : ∃ k1 : Nat, (1 : Int) + ((ps.length * 2 : Nat) : Int) = (k1 : Int) := ⟨1 + ps.length * 2, by omega⟩
      rw [hk1] at hk0
      rw [hk1]
      clear hk1
      go_wp2_with fail
      refine (markS_any _ g9 _ _ (k1 : Int) _ _ (fun _ => rfl) (fun _ => R9.out) (by omega) (by omega) (by omega)).mono ?_
      rintro e w13 ⟨rfl, _, but9⟩
      have H13 := hid (H12.out.trans (but9.2.2 _ hw9))
      have S5 := hid ((S5.out.but (fun h => (K5.out h).1) but9 N59).more (B' := w13.heap.size) (by rw [but9.1]; exact Nat.le_refl _))
      have S8 := hid ((S8.out.but (fun h => (K8.out h).1) but9 (fun _ => N98)).more (B' := w13.heap.size) (by rw [but9.1]; exact Nat.le_refl _))
      have R8 := hid (fun h => (R8.out h).but but9 N98)
      clear but9
      have hk2 : ¬ ((k1 : Int) + (rs.length : Int) < 0) := by omega
      go_wp2_with fail
      refine (eqP_any _ _ _ _ _ _ S8.out S5.out hLn).mono ?_
      rintro e w14 ⟨rfl, hb14⟩
      have H14 := hid (bthen H13.out hb14)
      have S5 := hid ((S5.out.below hb14).more hb14.size)
      have R8 := hid (fun h => (R8.out h).next hb14)
      clear hb14
      go_wp2_with fail
      refine (markP_any _ g8 _ _ 1 _ _ (fun h => (K8.out h).1) R8.out (by omega) (by omega) (by omega)).mono ?_
      rintro e w15 ⟨rfl, row8, but8⟩
      have H15 := hid (H14.out.trans (but8.2.2 _ hw8))
      have S5 := hid ((S5.out.but (fun h => (K5.out h).1) but8 N58).more (B' := w15.heap.size) (by rw [but8.1]; exact Nat.le_refl _))
      have R8 := hid row8
      clear but8 row8
      go_wp2_with fail
      refine (heldP_any _ g8 _ _ 1 _ (fun h => (K8.out h).1) R8.out (by omega) (by omega) (by omega)).mono ?_
      rintro e w16 ⟨rfl, rfl⟩
      have hq0 : ¬ ((1 : Int) + ((L.length * 2 : Nat) : Int) < 0) := by omega
      go_wp2_with fail
      refine (toP_any _ _ _ _ ((HA.out.below H15.out).more H15.out.size) hb).mono ?_
      rintro e w17 ⟨g17, rfl, hg17, hs17, hb17⟩
      have H17 := hid (bthen H15.out hb17)
      have S5 := hid ((S5.out.below hb17).more hb17.size)
      have R8 := hid (fun h => (R8.out h).next hb17)
      have S17 := hid hs17
      clear hb17 hs17
      go_wp2_with fail
      refine (toS_any _ _ _ _ ((HB.out.below H17.out).more H17.out.size) hbr).mono ?_
      rintro e w18 ⟨g18, rfl, hg18, hs18, hb18⟩
      have H18 := hid (bthen H17.out hb18)
      have S5 := hid ((S5.out.below hb18).more hb18.size)
      have R8 := hid (fun h => (R8.out h).next hb18)
      have S17 := hid ((S17.out.below hb18).more hb18.size)
      have S18 := hid hs18
      clear hb18 hs18
      go_wp2_with fail
      refine (CI.out _ _ _ _ _ S17.out S18.out).mono ?_
      rintro e w19 ⟨v19, rfl, ⟨A19, c19, g19, rfl, s19, _, _, _⟩, hb19⟩
      have H19 := hid (bthen H18.out hb19)
      have S5 := hid ((S5.out.below hb19).more hb19.size)
      have R8 := hid (fun h => (R8.out h).next hb19)
      have S19 := hid s19
      clear hb19 s19
      go_wp2_with fail
      refine (eqP_any _ _ _ _ _ _ S19.out S5.out hLn).mono ?_
      rintro e w20 ⟨rfl, hb20⟩
      have H20 := hid (bthen H19.out hb20)
      have R8 := hid (fun h => (R8.out h).next hb20)
      clear hb20
      go_wp2_with fail
      refine (heldP_any _ g8 _ _ 1 _ (fun h => (K8.out h).1) R8.out (by omega) (by omega) (by omega)).mono ?_
      rintro e w21 ⟨rfl, rfl⟩
      go_wp2_with fail
      go_ret
      exact ⟨rfl, H20.out⟩
    · go_enter Try.func6, Try.ntmps6
      go_wp2_with fail
      refine (sz_any A _ c 1048576 (Nat.le_refl _) hx w).mono ?_
      rintro e w0 ⟨rfl, hw0⟩
      rw [hw0]
      clear hw0
      rw [if_neg hb]
      go_wp2_with fail
      go_ret
      exact ⟨rfl, Below.refl _ _⟩
  · have hrz : (1048576 : Int) < (rs.length : Int) := by omega
    go_enter Try.func6, Try.ntmps6
    go_wp2_with fail
    go_ret
    exact ⟨rfl, Below.refl _ _⟩
end Go.Proofs.Ytbloipnpgncjiaa
