/- The law of Residuals: it answers true for every list of points and list of readings. -/
import Derived.Test.YtbloipnpgncjiaaRes
import Derived.Test.YtbloipnpgncjiaaOwnP
namespace Go.Proofs.Ytbloipnpgncjiaa
open Go.RowKit

set_option maxRecDepth 20000 in
set_option maxHeartbeats 4000000 in
theorem law_res (A : Option Addr) (l c : Nat) (xs : List (Nat × Nat)) (hl : l = xs.length) (hx : l ≤ 9223372036854775807) (B : Option Addr) (l2 d : Nat) (rs : List (Nat × Nat)) (hl2 : l2 = rs.length) (hx2 : l2 ≤ 9223372036854775807) (w : World) (ha : Pts w w.heap.size A xs) (_ : ∀ x ∈ xs, x.1 < 4294967296 ∧ x.2 < 4294967296) (hr : Pts w w.heap.size B rs) (_ : ∀ x ∈ rs, x.1 < 4294967296 ∧ x.2 < 4294967296) :
    Calls Try.prog 15 #[.slice A l c, .slice B l2 d] w fun e w' => e = .returned (.bool true) ∧ Below w.heap.size w w' := by
  subst hl
  subst hl2
  have HA := hid ha
  have HB := hid hr
  clear ha hr
  by_cases hb : xs.length ≤ 1048576
  · obtain ⟨m, hm⟩ : ∃ m : Nat, ((1048576 : Nat) : Int) - (xs.length : Int) = (m : Int) := ⟨1048576 - xs.length, by omega⟩
    have hmz : ¬ ((m : Int) < 0) := by omega
    have HM := hid hm
    clear hm
    by_cases hb2 : rs.length ≤ m
    · have hm2 : m ≤ 1048576 := by have := HM.out; omega
      have hbr : rs.length ≤ 1048576 := by omega
      have hmz2 : ¬ ((m : Int) - (rs.length : Int) < 0) := by omega
      have hL := resR_len xs rs
      have CS := hid (fun A B c d w ha hr => res_spec A B c d xs rs w ha hr hb hbr)
      have CI := hid (fun A B c d w ha hr => res_impl A B c d xs rs w ha hr hb hbr)
      generalize resR xs rs = L at CS CI hL
      generalize resB xs rs = b at CS CI
      have hLn : L.length ≤ 1048576 := by omega
      go_enter Try.func15, Try.ntmps15
      go_wp2_with fail
      refine (sz_any A _ c 1048576 (Nat.le_refl _) hx w).mono ?_
      rintro e w0 ⟨rfl, hw0⟩
      rw [hw0, if_pos hb, HM.out]
      clear hw0
      go_wp2_with fail
      refine (sz_any B _ d m hm2 hx2 w).mono ?_
      rintro e w0 ⟨rfl, hw0⟩
      rw [hw0, if_pos hb2]
      clear hw0
      go_wp2_with fail
      refine (toP_any _ _ _ _ HA.out hb).mono ?_
      rintro e w1 ⟨g1, rfl, hg1, hs1, hb1⟩
      have H1 := hid hb1
      have S1 := hid hs1
      clear hb1 hs1
      go_wp2_with fail
      refine (toP_any _ _ _ _ ((HB.out.below H1.out).more H1.out.size) hbr).mono ?_
      rintro e w2 ⟨g2, rfl, hg2, hs2, hb2⟩
      have H2 := hid (bthen H1.out hb2)
      have S1 := hid ((S1.out.below hb2).more hb2.size)
      have S2 := hid hs2
      clear hb2 hs2
      go_wp2_with fail
      refine (CS.out _ _ _ _ _ S1.out S2.out).mono ?_
      rintro e w3 ⟨v5, zs5, rfl, eq5, own5, hb3⟩
      obtain ⟨A5, c5, g5, rfl, s5, hg5, hA5, _⟩ := own_open own5
      have H3 := hid (bthen H2.out hb3)
      have S5 := hid s5
      have K5 := hid hA5
      have E5 := hid eq5
      have l5 : zs5.length ≤ 1048576 := by rw [eq5.1]; exact hLn
      clear hb3 own5 s5 hA5 eq5 S1 S2 H1 H2
      go_wp2_with fail
      refine (toPW_any _ _ _ _ ((HA.out.below H3.out).more H3.out.size) hb).mono ?_
      rintro e w4 ⟨g7, rfl, hg7, hs7, hb4, f7, row7⟩
      have H4 := hid (bthen H3.out hb4)
      have S5 := hid ((S5.out.below hb4).more hb4.size)
      have R7 := hid row7
      have S7 := hid hs7
      have N57 : 0 < zs5.length → g5 ≠ g7 := fun h => by have := (K5.out h).2; omega
      have h7 : g7 < w4.heap.size := row7.1
      clear hb4 row7 hs7
      go_wp2_with fail
      refine (toPW_any _ _ _ _ ((HB.out.below H4.out).more H4.out.size) hbr).mono ?_
      rintro e w5 ⟨g9, rfl, hg9, hs9, hb5, f9, row9⟩
      have H5 := hid (bthen H4.out hb5)
      have S5 := hid ((S5.out.below hb5).more hb5.size)
      have S7 := hid ((S7.out.below hb5).more hb5.size)
      have R7 := hid (R7.out.next hb5)
      have R9 := hid row9
      have S9 := hid hs9
      have z4 := hb5.size
      have N59 : 0 < zs5.length → g5 ≠ g9 := fun h => by have := (K5.out h).2; have := H3.out.size; omega
      have N79 : g7 ≠ g9 := by omega
      have h9 : g9 < w5.heap.size := row9.1
      clear hb5 row9 hs9
      go_wp2_with fail
      refine (CI.out _ _ _ _ _ S7.out S9.out).mono ?_
      rintro e w6 ⟨v8, zs8, rfl, eq8, own8, hb6⟩
      obtain ⟨A8, c8, g8, rfl, s8, hg8, hA8, row8⟩ := own_open own8
      have H6 := hid (bthen H5.out hb6)
      have E85 := hid (eq8.trans E5.out.symm)
      have l8 : zs8.length ≤ 1048576 := by rw [eq8.1]; exact hLn
      have S5 := hid ((S5.out.below hb6).more hb6.size)
      have S7 := hid ((S7.out.below hb6).more hb6.size)
      have S9 := hid ((S9.out.below hb6).more hb6.size)
      have R7 := hid (R7.out.next hb6)
      have R9 := hid (R9.out.next hb6)
      have S8 := hid s8
      have K8 := hid hA8
      have R8 := hid row8
      have N78 : g8 ≠ g7 := by omega
      have N98 : g8 ≠ g9 := by omega
      have N58 : 0 < zs5.length → g5 ≠ g8 := fun h => by have := (K5.out h).2; omega
      have hw8 : w.heap.size ≤ g8 := by have := H5.out.size; omega
      have hw7 : w.heap.size ≤ g7 := by have := H3.out.size; omega
      have hw9 : w.heap.size ≤ g9 := by have := H4.out.size; omega
      clear hb6 own8 s8 hA8 row8 eq8
      go_wp2_with fail
      refine (eqE_any _ _ _ _ _ _ _ S8.out S5.out E85.out l8).mono ?_
      rintro e w7 ⟨rfl, hb7⟩
      have H7 := hid (bthen H6.out hb7)
      have S5 := hid ((S5.out.below hb7).more hb7.size)
      have S7 := hid ((S7.out.below hb7).more hb7.size)
      have S8 := hid ((S8.out.below hb7).more hb7.size)
      have S9 := hid ((S9.out.below hb7).more hb7.size)
      have R7 := hid (R7.out.next hb7)
      have R8 := hid (fun h => (R8.out h).next hb7)
      have R9 := hid (R9.out.next hb7)
      clear hb7
      go_wp2_with fail
      refine (toP_any _ _ _ _ ((HA.out.below H7.out).more H7.out.size) hb).mono ?_
      rintro e w8 ⟨g10, rfl, hg10, hs10, hb8⟩
      have H8 := hid (bthen H7.out hb8)
      have S5 := hid ((S5.out.below hb8).more hb8.size)
      have S7 := hid ((S7.out.below hb8).more hb8.size)
      have S8 := hid ((S8.out.below hb8).more hb8.size)
      have S9 := hid ((S9.out.below hb8).more hb8.size)
      have R7 := hid (R7.out.next hb8)
      have R8 := hid (fun h => (R8.out h).next hb8)
      have R9 := hid (R9.out.next hb8)
      clear hb8
      go_wp2_with fail
      refine (eqP_any _ _ _ _ _ _ S7.out hs10 hb).mono ?_
      rintro e w9 ⟨rfl, hb9⟩
      have H9 := hid (bthen H8.out hb9)
      have S5 := hid ((S5.out.below hb9).more hb9.size)
      have S8 := hid ((S8.out.below hb9).more hb9.size)
      have S9 := hid ((S9.out.below hb9).more hb9.size)
      have R7 := hid (R7.out.next hb9)
      have R8 := hid (fun h => (R8.out h).next hb9)
      have R9 := hid (R9.out.next hb9)
      clear hb9 hs10
      go_wp2_with fail
      refine (toP_any _ _ _ _ ((HB.out.below H9.out).more H9.out.size) hbr).mono ?_
      rintro e w10 ⟨g11, rfl, hg11, hs11, hb10⟩
      have H10 := hid (bthen H9.out hb10)
      have S5 := hid ((S5.out.below hb10).more hb10.size)
      have S8 := hid ((S8.out.below hb10).more hb10.size)
      have S9 := hid ((S9.out.below hb10).more hb10.size)
      have R7 := hid (R7.out.next hb10)
      have R8 := hid (fun h => (R8.out h).next hb10)
      have R9 := hid (R9.out.next hb10)
      clear hb10
      go_wp2_with fail
      refine (eqP_any _ _ _ _ _ _ S9.out hs11 hbr).mono ?_
      rintro e w11 ⟨rfl, hb11⟩
      have H11 := hid (bthen H10.out hb11)
      have S5 := hid ((S5.out.below hb11).more hb11.size)
      have S8 := hid ((S8.out.below hb11).more hb11.size)
      have R7 := hid (R7.out.next hb11)
      have R8 := hid (fun h => (R8.out h).next hb11)
      have R9 := hid (R9.out.next hb11)
      clear hb11 hs11
      go_wp2_with fail
      refine (markP_any _ g7 _ _ 1 _ _ (fun _ => rfl) (fun _ => R7.out) (by omega) (by omega) (by omega)).mono ?_
      rintro e w12 ⟨rfl, _, but7⟩
      have H12 := hid (H11.out.trans (but7.2.2 _ hw7))
      have S5 := hid ((S5.out.but (fun h => (K5.out h).1) but7 N57).more (B' := w12.heap.size) (by rw [but7.1]; exact Nat.le_refl _))
      have S8 := hid ((S8.out.but (fun h => (K8.out h).1) but7 (fun _ => N78)).more (B' := w12.heap.size) (by rw [but7.1]; exact Nat.le_refl _))
      have R8 := hid (fun h => (R8.out h).but but7 N78)
      have R9 := hid (R9.out.but but7 (fun h => N79 h.symm))
      clear but7
      obtain ⟨k1, hk1⟩ : ∃ k1 : Int, (1 : Int) + ((xs.length * 2 : Nat) : Int) = k1 := ⟨_, rfl⟩
      rw [hk1]
      have k1a : 0 ≤ k1 := by omega
      have k1b : k1 ≤ 4194304 := by omega
      clear hk1
      go_wp2_with fail
      refine (markP_any _ g9 _ _ k1 _ _ (fun _ => rfl) (fun _ => R9.out) (by omega) k1a (by omega)).mono ?_
      rintro e w13 ⟨rfl, _, but9⟩
      have H13 := hid (H12.out.trans (but9.2.2 _ hw9))
      have S5 := hid ((S5.out.but (fun h => (K5.out h).1) but9 N59).more (B' := w13.heap.size) (by rw [but9.1]; exact Nat.le_refl _))
      have S8 := hid ((S8.out.but (fun h => (K8.out h).1) but9 (fun _ => N98)).more (B' := w13.heap.size) (by rw [but9.1]; exact Nat.le_refl _))
      have R8 := hid (fun h => (R8.out h).but but9 N98)
      clear but9
      obtain ⟨k2, hk2⟩ : ∃ k2 : Int, k1 + ((rs.length * 2 : Nat) : Int) = k2 := ⟨_, rfl⟩
      rw [hk2]
      have k2a : ¬ (k2 < 0) := by omega
      clear hk2
      go_wp2_with fail
      refine (eqE_any _ _ _ _ _ _ _ S8.out S5.out E85.out l8).mono ?_
      rintro e w14 ⟨rfl, hb14⟩
      have H14 := hid (bthen H13.out hb14)
      have S5 := hid ((S5.out.below hb14).more hb14.size)
      have R8 := hid (fun h => (R8.out h).next hb14)
      clear hb14
      go_wp2_with fail
      refine (markS_any _ g8 _ _ 1 _ _ (fun h => (K8.out h).1) R8.out (by omega) (by omega) (by omega)).mono ?_
      rintro e w15 ⟨rfl, row8, but8⟩
      have H15 := hid (H14.out.trans (but8.2.2 _ hw8))
      have S5 := hid ((S5.out.but (fun h => (K5.out h).1) but8 N58).more (B' := w15.heap.size) (by rw [but8.1]; exact Nat.le_refl _))
      have R8 := hid row8
      clear but8 row8
      go_wp2_with fail
      refine (heldS_any _ g8 _ _ 1 _ (fun h => (K8.out h).1) R8.out (by omega) (by omega) (by omega)).mono ?_
      rintro e w16 ⟨rfl, rfl⟩
      have hq0 : ¬ ((1 : Int) + (zs8.length : Int) < 0) := by omega
      go_wp2_with fail
      refine (toP_any _ _ _ _ ((HA.out.below H15.out).more H15.out.size) hb).mono ?_
      rintro e w17 ⟨g12, rfl, hg12, hs12, hb17⟩
      have H17 := hid (bthen H15.out hb17)
      have S12 := hid hs12
      have S5 := hid ((S5.out.below hb17).more hb17.size)
      have R8 := hid (fun h => (R8.out h).next hb17)
      clear hb17 hs12
      go_wp2_with fail
      refine (toP_any _ _ _ _ ((HB.out.below H17.out).more H17.out.size) hbr).mono ?_
      rintro e w18 ⟨g13, rfl, hg13, hs13, hb18⟩
      have H18 := hid (bthen H17.out hb18)
      have S12 := hid ((S12.out.below hb18).more hb18.size)
      have S13 := hid hs13
      have S5 := hid ((S5.out.below hb18).more hb18.size)
      have R8 := hid (fun h => (R8.out h).next hb18)
      clear hb18 hs13
      go_wp2_with fail
      refine (CI.out _ _ _ _ _ S12.out S13.out).mono ?_
      rintro e w19 ⟨v14, zs14, rfl, eq14, own14, hb19⟩
      obtain ⟨A14, c14, g14, rfl, s14, _, _, _⟩ := own_open own14
      have H19 := hid (bthen H18.out hb19)
      have E145 := hid (eq14.trans E5.out.symm)
      have l14 : zs14.length ≤ 1048576 := by rw [eq14.1]; exact hLn
      have S5 := hid ((S5.out.below hb19).more hb19.size)
      have R8 := hid (fun h => (R8.out h).next hb19)
      have S14 := hid s14
      clear hb19 own14 s14 eq14
      go_wp2_with fail
      refine (eqE_any _ _ _ _ _ _ _ S14.out S5.out E145.out l14).mono ?_
      rintro e w20 ⟨rfl, hb20⟩
      have H20 := hid (bthen H19.out hb20)
      have R8 := hid (fun h => (R8.out h).next hb20)
      clear hb20
      go_wp2_with fail
      refine (heldS_any _ g8 _ _ 1 _ (fun h => (K8.out h).1) R8.out (by omega) (by omega) (by omega)).mono ?_
      rintro e w21 ⟨rfl, rfl⟩
      go_wp2_with fail
      go_ret
      exact ⟨rfl, H20.out⟩
    · have hmz2 : (m : Int) < (rs.length : Int) := by omega
      have hm2 : m ≤ 1048576 := by have := HM.out; omega
      go_enter Try.func15, Try.ntmps15
      go_wp2_with fail
      refine (sz_any A _ c 1048576 (Nat.le_refl _) hx w).mono ?_
      rintro e w0 ⟨rfl, hw0⟩
      rw [hw0, if_pos hb, HM.out]
      clear hw0
      go_wp2_with fail
      refine (sz_any B _ d m hm2 hx2 w).mono ?_
      rintro e w0 ⟨rfl, hw0⟩
      rw [hw0, if_neg hb2]
      clear hw0
      go_wp2_with fail
      go_ret
      exact ⟨rfl, Below.refl _ _⟩
  · have hbz : (1048576 : Int) < (xs.length : Int) := by omega
    go_enter Try.func15, Try.ntmps15
    go_wp2_with fail
    refine (sz_any A _ c 1048576 (Nat.le_refl _) hx w).mono ?_
    rintro e w0 ⟨rfl, hw0⟩
    rw [hw0, if_neg hb]
    clear hw0
    go_wp2_with fail
    go_ret
    exact ⟨rfl, Below.refl _ _⟩
end Go.Proofs.Ytbloipnpgncjiaa
