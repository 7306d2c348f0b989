/- QuadrantOf and the turns by quarters, of the program; the drawn complex number. -/
import Derived.Test.YtbloipnpgncjiaaQuadL
import Derived.Test.YtbloipnpgncjiaaMath
import Derived.Test.YtbloipnpgncjiaaSingle
import Derived.Laws.Cover3
namespace Go.Proofs.Ytbloipnpgncjiaa
open Go.RowKit

set_option maxRecDepth 20000 in
set_option maxHeartbeats 4000000 in
theorem quad_any (a b : Nat) (g h : Option Int) (w : World) (ha : Cl a g) (hb : Cl b h) :
    Calls Try.prog 53 #[.complex .f64 a b] w fun e w' => e = .returned (.int .i64 (quad g h)) ∧ w' = w := by
  rcases cl_zero ha with ⟨rfl, p1, p2, p3⟩ | ⟨v, rfl, hv, p1, p2, p3⟩ | ⟨rfl, p1, p2, p3⟩ | ⟨v, rfl, hv, p1, p2, p3⟩ <;>
  rcases cl_zero hb with ⟨rfl, q1, q2, q3⟩ | ⟨u, rfl, hu, q1, q2, q3⟩ | ⟨rfl, q1, q2, q3⟩ | ⟨u, rfl, hu, q1, q2, q3⟩
  all_goals
    clear ha hb
    go_enter Try.func53, Try.ntmps53
    go_wp2
    go_ret
    refine ⟨?_, rfl⟩
    simp only [quad]
    first | rfl | (repeat' split) <;> first | rfl | omega | (exfalso; simp_all; done) | (exfalso; simp_all; omega)

set_option maxHeartbeats 400000 in
theorem norm_one (w : World) : Calls Try.prog 136 #[.float .f64 oneW] w fun e w' => e = .returned (.tuple #[.float .f64 oneW, .int .i64 0]) ∧ w' = w := by
  have o2 : (FloatKind.f64.format.order (Fl.rung Ieee.double oneW) 4503599627370496 == some .lt) = false := by decide +kernel
  go_enter Try.func136, Try.ntmps136
  go_wp2_with fail
  refine (abs_any oneW w (by decide)).mono ?_
  rintro e w1 ⟨rfl, rfl⟩
  go_wp2_with fail
  go_ret2
  exact ⟨rfl, rfl⟩

set_option maxRecDepth 20000 in
set_option maxHeartbeats 1000000 in
theorem ldexp0_one (w : World) : Calls Try.prog 129 #[.float .f64 oneW, .int .i64 0] w fun e w' => e = .returned (.float .f64 oneW) ∧ w' = w := by
  have o1 : (FloatKind.f64.format.order oneW 0 == some .eq) = false := by decide +kernel
  have i1 : Fl.isI Ieee.double oneW = false := by decide +kernel
  have i2 : Fl.nan .f64 oneW = false := by decide +kernel
  have h1 := call_f64bits
  have h2 := call_f64from
  have b1 : bits .and .i64 1023 2047 = 1023 := by decide +kernel
  have b2 : bits .andNot .u64 4607182418800017408 9218868437227405312 = 0 := by decide +kernel
  have b3 : bits .or .u64 0 4607182418800017408 = 4607182418800017408 := by decide +kernel
  have M := hid (show floatBits .mul .f64 4607182418800017408 4607182418800017408 = some 4607182418800017408 by decide +kernel)
  go_enter Try.func129, Try.ntmps129
  go_wp2_with fail
  refine (isinf_any oneW w (by decide)).mono ?_
  rintro e w1 ⟨rfl, rfl⟩
  rw [i1]
  go_wp2_with fail
  refine (isnan_any oneW _).mono ?_
  rintro e w1 ⟨rfl, rfl⟩
  rw [i2]
  go_wp2_with fail
  refine (norm_one _).mono ?_
  rintro e w1 ⟨rfl, rfl⟩
  go_wp2_with fail
  refine upon_bits M.out ?_
  go_wp2_with fail
  go_ret
  exact ⟨rfl, rfl⟩

set_option maxRecDepth 20000 in
set_option maxHeartbeats 1000000 in
theorem ldexp_one (w : World) :
    Calls Try.prog 116 #[.float .f64 oneW, .int .i64 0] w fun e w' => e = .returned (.float .f64 oneW) ∧ w' = w := by
  go_enter Try.func116, Try.ntmps116
  go_wp2_with fail
  refine (ldexp0_one w).mono ?_
  rintro e w1 ⟨rfl, rfl⟩
  go_wp2_with fail
  go_ret
  exact ⟨rfl, rfl⟩

set_option maxHeartbeats 400000 in
theorem inI_impl (x l h : Int) (w : World) :
    Calls Try.prog 77 #[.int .i64 x, .int .i64 l, .int .i64 h] w fun e w' => e = .returned (.bool (decide (l ≤ x ∧ x ≤ h))) ∧ w' = w := by
  by_cases h1 : l ≤ x
  · go_enter Try.func77, Try.ntmps77
    go_wp2
    go_ret
    exact ⟨by simp [h1], rfl⟩
  · have h2 : x < l := by omega
    go_enter Try.func77, Try.ntmps77
    go_wp2
    go_ret
    exact ⟨by simp; omega, rfl⟩

set_option maxRecDepth 20000 in
set_option maxHeartbeats 1000000 in
theorem turnOk_any (q : Nat) (hq : q < 4) (w : World) :
    Calls Try.prog 93 #[.agg #[.int .i64 q, .int .i64 0]] w fun e w' => e = .returned (.bool true) ∧ Below w.heap.size w w' := by
  go_enter Try.func93, Try.ntmps93
  go_wp2_with fail
  refine (inI_impl _ _ _ _).mono ?_
  rintro e w1 ⟨rfl, rfl⟩
  rw [decide_eq_true (show (0 : Int) ≤ (q : Int) ∧ (q : Int) ≤ 3 by omega)]
  go_wp2_with fail
  refine (inI_impl _ _ _ _).mono ?_
  rintro e w1 ⟨rfl, rfl⟩
  rw [decide_eq_true (show (-60 : Int) ≤ 0 ∧ (0 : Int) ≤ 60 by decide)]
  go_wp2_with fail
  go_ret
  exact ⟨rfl, below_new _ _⟩

set_option maxRecDepth 20000 in
set_option maxHeartbeats 1000000 in
theorem quartered_any (a b q : Nat) (g h : Option Int) (hq : q < 4) (ha : Cl a g) (hb : Cl b h) (w : World) :
    Calls Try.prog 115 #[.float .f64 a, .float .f64 b, .int .i64 q] w fun e w' => ∃ c d, e = .returned (.tuple #[.float .f64 c, .float .f64 d]) ∧ Cl c (turnQ q g h).1 ∧ Cl d (turnQ q g h).2 ∧ w' = w := by
  have HA := hid ha
  have HB := hid hb
  clear ha hb
  have hq' : q = 0 ∨ q = 1 ∨ q = 2 ∨ q = 3 := by omega
  clear hq
  rcases hq' with rfl | rfl | rfl | rfl
  · go_enter Try.func115, Try.ntmps115
    go_wp2_with fail
    go_ret2
    exact ⟨_, _, rfl, HA.out, HB.out, rfl⟩
  · go_enter Try.func115, Try.ntmps115
    go_wp2_with fail
    go_ret2
    exact ⟨_, _, rfl, cl_neg HB.out, HA.out, rfl⟩
  · go_enter Try.func115, Try.ntmps115
    go_wp2_with fail
    go_ret2
    exact ⟨_, _, rfl, cl_neg HA.out, cl_neg HB.out, rfl⟩
  · go_enter Try.func115, Try.ntmps115
    go_wp2_with fail
    go_ret2
    exact ⟨_, _, rfl, HB.out, cl_neg HA.out, rfl⟩

set_option maxRecDepth 20000 in
set_option maxHeartbeats 1000000 in
theorem turned_any (a b q : Nat) (g h : Option Int) (hq : q < 4) (ha : Cl a g) (hb : Cl b h) (w : World) :
    Calls Try.prog 94 #[.agg #[.int .i64 q, .int .i64 0], .complex .f64 a b] w fun e w' => ∃ c d, e = .returned (.complex .f64 c d) ∧ Cl c (turnQ q g h).1 ∧ Cl d (turnQ q g h).2 ∧ Below w.heap.size w w' := by
  have HA := hid ha
  have HB := hid hb
  clear ha hb
  go_enter Try.func94, Try.ntmps94
  go_wp2_with fail
  refine (quartered_any a b q g h hq HA.out HB.out _).mono ?_
  rintro e w1 ⟨c, d, rfl, hc, hd, rfl⟩
  have HC := hid hc
  have HD := hid hd
  clear hc hd
  go_wp2_with fail
  refine (ldexp_one _).mono ?_
  rintro e w1 ⟨rfl, rfl⟩
  go_wp2_with fail
  refine upon_arith (.inr (.inr (.inl rfl))) ?_
  intro r1 n1 hr1
  have H1 := hid (cl_one HC.out hr1)
  clear hr1
  go_wp2_with fail
  refine upon_arith (.inr (.inr (.inl rfl))) ?_
  intro r2 n2 hr2
  have H2 := hid (cl_one HD.out hr2)
  clear hr2
  go_wp2_with fail
  go_ret
  exact ⟨r1, r2, rfl, H1.out, H2.out, below_drewN (below_new _ _) _⟩

theorem some_c64 : (Try.prog.underlying 57).isSome = true := by rw [Try.underlying57]; rfl
theorem some_c128 : (Try.prog.underlying 59).isSome = true := by rw [Try.underlying59]; rfl

set_option maxRecDepth 20000 in
set_option maxHeartbeats 1000000 in
theorem apply_any (x y q : Nat) (hq : q < 4) (w : World) :
    Calls Try.prog 54 #[.agg #[.int .i64 q, .int .i64 0], .complex .f32 x y] w fun e w' => ∃ c d, e = .returned (.complex .f32 c d) ∧ cls c = (turnQ q (cls x) (cls y)).1 ∧ cls d = (turnQ q (cls x) (cls y)).2 ∧ Below w.heap.size w w' := by
  go_enter Try.func54, Try.ntmps54
  go_wp2_with fail
  refine (turnOk_any q hq _).mono ?_
  rintro e w1 ⟨rfl, hb1⟩
  have HB1 := hid (bthen (below_new w (.cells #[.int .i64 (q : Int), .int .i64 0] 67)) hb1)
  have HX := hid (Box2.next (box2_new w (.int .i64 (q : Int)) (.int .i64 0) 67) hb1)
  clear hb1
  have hx0 := HX.out.2.1
  have hx1 := HX.out.2.2
  clear HX
  go_wp2_with fail
  refine upon_cwid some_c64 Try.underlying59 ?_
  intro r i n hr hi
  have HR := hid hr
  have HI := hid hi
  clear hr hi
  go_wp2_with fail
  refine (turned_any r i q _ _ hq HR.out HI.out _).mono ?_
  rintro e w2 ⟨c, d, rfl, hc, hd, hb2⟩
  have HC := hid hc
  have HD := hid hd
  have HB2 := hid (bthen (below_drewN HB1.out n) hb2)
  clear hc hd hb2
  go_wp2_with fail
  refine upon_cnar HC.out HD.out some_c128 Try.underlying57 ?_
  intro r1 i1 m h1 h2
  have H1 := hid h1
  have H2 := hid h2
  clear h1 h2
  go_wp2_with fail
  go_ret
  exact ⟨r1, i1, rfl, H1.out, H2.out, below_drewN HB2.out _⟩
end Go.Proofs.Ytbloipnpgncjiaa
