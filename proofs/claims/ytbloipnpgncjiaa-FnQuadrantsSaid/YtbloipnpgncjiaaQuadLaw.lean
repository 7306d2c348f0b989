/- The law of the quadrants: it answers true for every code. -/
import Derived.Test.YtbloipnpgncjiaaQuad
import Derived.Test.YtbloipnpgncjiaaDrawC
import Derived.Test.YtbloipnpgncjiaaOpenB
namespace Go.Proofs.Ytbloipnpgncjiaa
open Go.RowKit

theorem cls_zero (x : Nat) : (FloatKind.f32.format.order x 0 == some .eq) = decide (cls x = some 0) := by
  unfold cls
  rcases Bool.eq_false_or_eq_true (Fl.nan .f32 x) with h | h
  · rw [h, Fl.order_none .f32 (x := x) (y := 0) (.inl h)]; rfl
  · have o := Fl.order_ky .f32 h (show Fl.nan .f32 0 = false by decide +kernel)
    rw [show Fl.ky .f32 0 = 0 from by decide +kernel] at o
    rw [h, o]
    have : Fl.key Ieee.single x = Fl.ky .f32 x := rfl
    rw [this]
    rcases (show Fl.ky .f32 x < 0 ∨ Fl.ky .f32 x = 0 ∨ 0 < Fl.ky .f32 x by omega) with c | c | c
    · rw [Fl.cmp_lt c]; simp; omega
    · rw [c]; decide
    · rw [Fl.cmp_gt c]; simp; omega
theorem cls_self (x : Nat) : (FloatKind.f32.format.order x x == some .eq) = !decide (cls x = none) := by
  unfold cls
  rcases Bool.eq_false_or_eq_true (Fl.nan .f32 x) with h | h
  · rw [h, Fl.order_none .f32 (x := x) (y := x) (.inl h)]; rfl
  · rw [h, Fl.order_ky .f32 h h, show compare (Fl.ky .f32 x) (Fl.ky .f32 x) = .eq by simp]; simp
theorem quad_bool (x y : Nat) (K : Int) (h : K < 0 ↔ (cls x = none ∨ cls y = none ∨ (cls x = some 0 ∧ cls y = some 0))) (hk : -1 ≤ K ∧ K ≤ 3) :
    (K == -1) = (!(FloatKind.f32.format.order x x == some .eq) || !(FloatKind.f32.format.order y y == some .eq) || ((FloatKind.f32.format.order x 0 == some .eq) && (FloatKind.f32.format.order y 0 == some .eq))) := by
  rw [cls_zero, cls_zero, cls_self, cls_self]
  by_cases hK : K < 0
  · have e : K = -1 := by omega
    have := h.1 hK
    rw [e]
    rcases this with g | g | ⟨g1, g2⟩
    · rw [g]; simp
    · rw [g]; simp
    · rw [g1, g2]; decide
  · have e : (K == -1) = false := by simp; omega
    have hn := fun g => hK (h.2 g)
    rw [e]
    by_cases g1 : cls x = none
    · exact absurd (.inl g1) hn
    · by_cases g2 : cls y = none
      · exact absurd (.inr (.inl g2)) hn
      · by_cases g3 : cls x = some 0
        · by_cases g4 : cls y = some 0
          · exact absurd (.inr (.inr ⟨g3, g4⟩)) hn
          · simp [g1, g2, g4]
        · simp [g1, g2, g3]

set_option maxRecDepth 20000 in
set_option maxHeartbeats 4000000 in
theorem law_quad (A : Option Addr) (l c : Nat) (hx : l ≤ 9223372036854775807) (w : World) (ha : Byts w w.heap.size A l) :
    Calls Try.prog 14 #[.slice A l c] w fun e w' => e = .returned (.bool true) ∧ Below w.heap.size w w' := by
  have HA := hid ha
  clear ha
  by_cases hb : 1048576 < l
  · go_enter Try.func14, Try.ntmps14
    go_wp2_with fail
    refine (big_any A l c w hx).mono ?_
    rintro e w0 ⟨rfl, rfl⟩
    rw [decide_eq_true hb]
    go_wp2_with fail
    go_ret
    exact ⟨rfl, Below.refl _ _⟩
  · go_enter Try.func14, Try.ntmps14
    go_wp2_with fail
    refine (big_any A l c w hx).mono ?_
    rintro e w0 ⟨rfl, hw0⟩
    subst hw0
    rw [decide_eq_false hb]
    go_wp2_with fail
    refine (drawC_any A l c _ HA.out (by omega)).mono ?_
    rintro e w1 ⟨x, y, rfl, hb1⟩
    have HB1 := hid hb1
    clear hb1
    go_wp2_with fail
    refine upon_cwid some_c64 Try.underlying59 ?_
    intro r i n hr hi
    have HR := hid hr
    have HI := hid hi
    clear hr hi
    go_wp2_with fail
    refine (quad_any r i _ _ _ HR.out HI.out).mono ?_
    rintro e w2 ⟨rfl, rfl⟩
    have hk := quad_range (cls x) (cls y)
    have HK := hid (show ∀ q, q < 4 → quad (turnQ q (cls x) (cls y)).1 (turnQ q (cls x) (cls y)).2 = if quad (cls x) (cls y) < 0 then -1 else (quad (cls x) (cls y) + q) % 4 from fun q hq => quad_turn hq _ _)
    have HZ := hid (quad_neg (g := cls x) (h := cls y))
    revert HK HZ hk
    generalize quad (cls x) (cls y) = K
    intro hk HK HZ
    have HKR := hid hk
    clear hk
    go_wp2_with fail
    go_loopw [5, 6] (fun i _ wr => ∃ q : Nat, q ≤ 4 ∧ i = .int .i64 q ∧ Below w0.heap.size w0 wr) (fun i _ _ => 4 - (intOf i).toNat)
    case atStart => exact ⟨0, by omega, rfl, below_drewN HB1.out _⟩
    case round =>
      obtain ⟨q, hq, rfl, hb⟩ := hrel
      have HW := hid hb
      clear hb
      by_cases hlt : q < 4
      · have hqz : (q : Int) < 4 := by omega
        go_wp2_with fail
        refine (apply_any x y q hlt _).mono ?_
        rintro e w3 ⟨c1, d1, rfl, h1, h2, hb3⟩
        have HB3 := hid (bthen HW.out hb3)
        have HQ := hid (show quad (cls c1) (cls d1) = if K < 0 then -1 else (K + q) % 4 by rw [h1, h2]; exact HK.out q hlt)
        clear h1 h2 hb3
        go_wp2_with fail
        refine upon_cwid some_c64 Try.underlying59 ?_
        intro r1 i1 m hr hi
        have HR1 := hid hr
        have HI1 := hid hi
        clear hr hi
        go_wp2_with fail
        refine (quad_any r1 i1 _ _ _ HR1.out HI1.out).mono ?_
        rintro e w4 ⟨rfl, rfl⟩
        rw [HQ.out]
        have HB4 := hid (below_drewN HB3.out m)
        have hk := HKR.out
        have hK : K = -1 ∨ K = 0 ∨ K = 1 ∨ K = 2 ∨ K = 3 := by omega
        have hq4 : q = 0 ∨ q = 1 ∨ q = 2 ∨ q = 3 := by omega
        clear hk hqz hq
        rcases hK with rfl | rfl | rfl | rfl | rfl <;> rcases hq4 with rfl | rfl | rfl | rfl
        all_goals
          go_wp2
          go_roundw
          case rel => first | exact ⟨1, by decide, rfl, HB4.out⟩ | exact ⟨2, by decide, rfl, HB4.out⟩ | exact ⟨3, by decide, rfl, HB4.out⟩ | exact ⟨4, by decide, rfl, HB4.out⟩
          case measure => simp [intOf]
      · have : q = 4 := by omega
        subst this
        have HB := hid (quad_bool x y K HZ.out HKR.out)
        clear hq hlt
        have hb := HB.out
        revert hb
        generalize ho1 : (FloatKind.f32.format.order x x == some .eq) = o1
        generalize ho2 : (FloatKind.f32.format.order y y == some .eq) = o2
        generalize ho3 : (FloatKind.f32.format.order x 0 == some .eq) = o3
        generalize ho4 : (FloatKind.f32.format.order y 0 == some .eq) = o4
        intro hb
        cases o1 <;> cases o2 <;> cases o3 <;> cases o4 <;> simp at hb
        all_goals
          go_wp2
          go_ret
          first
          | exact ⟨rfl, HW.out⟩
          | (refine ⟨?_, HW.out⟩; simp_all; done)
end Go.Proofs.Ytbloipnpgncjiaa
