/- One step of a correction: CorrectOne of the program, as a plain function. -/
import Derived.Test.YtbloipnpgncjiaaStp
namespace Go.Proofs.Ytbloipnpgncjiaa
open Go.RowKit Ieee

abbrev neg64 (x : Nat) : Nat := Op.negFloat .f64 x
def quart (q x y : Nat) : Nat × Nat := if q = 1 then (neg64 y, x) else if q = 2 then (neg64 x, neg64 y) else if q = 3 then (y, neg64 x) else (x, y)
/-- what a step makes of a number (but for which NaN) -/
def stv (s : St) (z : Nat × Nat) : Nat × Nat :=
  let f := Fl.arith .f64
  if s.k = 1 then (f .add z.1 s.b, f .add z.2 s.c)
  else if s.k = 2 then (f .sub z.1 s.b, f .sub z.2 s.c)
  else if s.k = 3 then (f .sub (f .mul z.1 s.b) (f .mul z.2 s.c), f .add (f .mul z.1 s.c) (f .mul z.2 s.b))
  else if s.k = 4 then quoV z.1 z.2 s.b s.c
  else if s.k = 5 then (z.1, neg64 z.2)
  else if s.k = 6 then (neg64 z.1, neg64 z.2)
  else (f .mul (quart s.q z.1 z.2).1 (powW s.p), f .mul (quart s.q z.1 z.2).2 (powW s.p))
def cFin (z : Nat × Nat) : Bool := finB z.1 && finB z.2
/-- a number that is finite -/
def Num (z : Nat × Nat) : Prop := z.1 < 2 ^ 64 ∧ z.2 < 2 ^ 64 ∧ cFin z = true
theorem Num.f1 {z : Nat × Nat} (h : Num z) : Fl.fin double z.1 = true := by have := h.2.2; unfold cFin finB at this; simp at this; exact this.1
theorem Num.f2 {z : Nat × Nat} (h : Num z) : Fl.fin double z.2 = true := by have := h.2.2; unfold cFin finB at this; simp at this; exact this.2
theorem neg_wf {x : Nat} (h : x < 2 ^ 64) : neg64 x < 2 ^ 64 := Nat.xor_lt_two_pow h (by show 2 ^ 63 < 2 ^ 64; decide)

set_option maxHeartbeats 400000 in
theorem sum_any (a b c d : Nat) (w : World) :
    Calls Try.prog 119 #[.complex .f64 a b, .complex .f64 c d] w fun e w' => ∃ r i, e = .returned (.complex .f64 r i) ∧ r < 2 ^ 64 ∧ i < 2 ^ 64 ∧ Fl.Eqv .f64 r (Fl.arith .f64 .add a c) ∧ Fl.Eqv .f64 i (Fl.arith .f64 .add b d) ∧ Drew w w' := by
  go_enter Try.func119, Try.ntmps119
  go_wp2_with fail
  refine upon_arith (.inl rfl) ?_
  intro r n hr
  have HR := hid hr
  clear hr
  go_wp2_with fail
  refine upon_arith (.inl rfl) ?_
  intro i m hi
  have HI := hid hi
  clear hi
  go_wp2_with fail
  go_ret
  exact ⟨r, i, rfl, HR.out.1, HI.out.1, HR.out.arith .f64 (Fl.Eqv.refl _ _) (Fl.Eqv.refl _ _), HI.out.arith .f64 (Fl.Eqv.refl _ _) (Fl.Eqv.refl _ _), _, rfl⟩

set_option maxHeartbeats 400000 in
theorem diff_any (a b c d : Nat) (w : World) :
    Calls Try.prog 120 #[.complex .f64 a b, .complex .f64 c d] w fun e w' => ∃ r i, e = .returned (.complex .f64 r i) ∧ r < 2 ^ 64 ∧ i < 2 ^ 64 ∧ Fl.Eqv .f64 r (Fl.arith .f64 .sub a c) ∧ Fl.Eqv .f64 i (Fl.arith .f64 .sub b d) ∧ Drew w w' := by
  go_enter Try.func120, Try.ntmps120
  go_wp2_with fail
  refine upon_arith (.inr (.inl rfl)) ?_
  intro r n hr
  have HR := hid hr
  clear hr
  go_wp2_with fail
  refine upon_arith (.inr (.inl rfl)) ?_
  intro i m hi
  have HI := hid hi
  clear hi
  go_wp2_with fail
  go_ret
  exact ⟨r, i, rfl, HR.out.1, HI.out.1, HR.out.arith .f64 (Fl.Eqv.refl _ _) (Fl.Eqv.refl _ _), HI.out.arith .f64 (Fl.Eqv.refl _ _) (Fl.Eqv.refl _ _), _, rfl⟩

set_option maxRecDepth 20000 in
set_option maxHeartbeats 1000000 in
theorem prod_any (a b c d : Nat) (w : World) :
    Calls Try.prog 121 #[.complex .f64 a b, .complex .f64 c d] w fun e w' => ∃ r i, e = .returned (.complex .f64 r i) ∧ r < 2 ^ 64 ∧ i < 2 ^ 64 ∧ Fl.Eqv .f64 r (Fl.arith .f64 .sub (Fl.arith .f64 .mul a c) (Fl.arith .f64 .mul b d)) ∧ Fl.Eqv .f64 i (Fl.arith .f64 .add (Fl.arith .f64 .mul a d) (Fl.arith .f64 .mul b c)) ∧ Drew w w' := by
  go_enter Try.func121, Try.ntmps121
  go_wp2_with fail
  refine upon_arith (.inr (.inr (.inl rfl))) ?_
  intro r1 n1 h1
  have H1 := hid (h1.arith .f64 (Fl.Eqv.refl _ _) (Fl.Eqv.refl _ _))
  clear h1
  go_wp2_with fail
  refine upon_arith (.inr (.inr (.inl rfl))) ?_
  intro r2 n2 h2
  have H2 := hid (h2.arith .f64 (Fl.Eqv.refl _ _) (Fl.Eqv.refl _ _))
  clear h2
  go_wp2_with fail
  refine upon_arith (.inr (.inl rfl)) ?_
  intro r3 n3 h3
  have H3 := hid (h3.arith .f64 H1.out H2.out)
  have L3 := hid h3.1
  clear h3
  go_wp2_with fail
  refine upon_arith (.inr (.inr (.inl rfl))) ?_
  intro r4 n4 h4
  have H4 := hid (h4.arith .f64 (Fl.Eqv.refl _ _) (Fl.Eqv.refl _ _))
  clear h4
  go_wp2_with fail
  refine upon_arith (.inr (.inr (.inl rfl))) ?_
  intro r5 n5 h5
  have H5 := hid (h5.arith .f64 (Fl.Eqv.refl _ _) (Fl.Eqv.refl _ _))
  clear h5
  go_wp2_with fail
  refine upon_arith (.inl rfl) ?_
  intro r6 n6 h6
  have H6 := hid (h6.arith .f64 H4.out H5.out)
  have L6 := hid h6.1
  clear h6
  go_wp2_with fail
  go_ret
  exact ⟨r3, r6, rfl, L3.out, L6.out, H3.out, H6.out, _, rfl⟩

set_option maxHeartbeats 400000 in
theorem conj_any (a b : Nat) (w : World) :
    Calls Try.prog 101 #[.complex .f64 a b] w fun e w' => e = .returned (.complex .f64 a (neg64 b)) ∧ w' = w := by
  go_enter Try.func101, Try.ntmps101
  go_wp2_with fail
  go_ret
  exact ⟨rfl, rfl⟩

set_option maxHeartbeats 400000 in
theorem negz_any (a b : Nat) (w : World) :
    Calls Try.prog 122 #[.complex .f64 a b] w fun e w' => e = .returned (.complex .f64 (neg64 a) (neg64 b)) ∧ w' = w := by
  go_enter Try.func122, Try.ntmps122
  go_wp2_with fail
  go_ret
  exact ⟨rfl, rfl⟩

set_option maxRecDepth 20000 in
set_option maxHeartbeats 1000000 in
theorem quart_any (a b q : Nat) (hq : q < 4) (w : World) :
    Calls Try.prog 115 #[.float .f64 a, .float .f64 b, .int .i64 q] w fun e w' => e = .returned (.tuple #[.float .f64 (quart q a b).1, .float .f64 (quart q a b).2]) ∧ w' = w := by
  have hq' : q = 0 ∨ q = 1 ∨ q = 2 ∨ q = 3 := by omega
  clear hq
  rcases hq' with rfl | rfl | rfl | rfl
  all_goals
    go_enter Try.func115, Try.ntmps115
    go_wp2_with fail
    go_ret2
    exact ⟨rfl, rfl⟩

set_option maxRecDepth 20000 in
set_option maxHeartbeats 1000000 in
theorem turned2_any (a b q : Nat) (p : Int) (hq : q < 4) (hp : Pow p) (w : World) :
    Calls Try.prog 94 #[.agg #[.int .i64 q, .int .i64 p], .complex .f64 a b] w fun e w' => ∃ r i, e = .returned (.complex .f64 r i) ∧ r < 2 ^ 64 ∧ i < 2 ^ 64 ∧ Fl.Eqv .f64 r (Fl.arith .f64 .mul (quart q a b).1 (powW p)) ∧ Fl.Eqv .f64 i (Fl.arith .f64 .mul (quart q a b).2 (powW p)) ∧ Below w.heap.size w w' := by
  have HP := hid hp
  clear hp
  go_enter Try.func94, Try.ntmps94
  go_wp2_with fail
  refine (quart_any a b q hq _).mono ?_
  rintro e w1 ⟨rfl, rfl⟩
  generalize hu : (quart q a b).1 = u
  generalize hv : (quart q a b).2 = v
  have HU := hid hu
  have HV := hid hv
  clear hu hv
  go_wp2_with fail
  refine (ldexp_pow p HP.out _).mono ?_
  rintro e w1 ⟨rfl, rfl⟩
  go_wp2_with fail
  refine upon_arith (.inr (.inr (.inl rfl))) ?_
  intro r1 n1 hr1
  have H1 := hid hr1
  clear hr1
  go_wp2_with fail
  refine upon_arith (.inr (.inr (.inl rfl))) ?_
  intro r2 n2 hr2
  have H2 := hid hr2
  clear hr2
  go_wp2_with fail
  go_ret
  exact ⟨r1, r2, rfl, H1.out.1, H2.out.1, by rw [HU.out]; exact H1.out.arith .f64 (Fl.Eqv.refl _ _) (Fl.Eqv.refl _ _), by rw [HV.out]; exact H2.out.arith .f64 (Fl.Eqv.refl _ _) (Fl.Eqv.refl _ _), below_drewN (below_new _ _) _⟩

def oneZ (s : St) (z : Nat × Nat) : Nat × Nat := if cFin (stv s z) then stv s z else (0, 0)
/-- the number after the step, and whether it is finite -/
def RetO (s : St) (z : Nat × Nat) (w : World) (e : Ending) (w' : World) : Prop :=
  e = .returned (.tuple #[.complex .f64 (oneZ s z).1 (oneZ s z).2, .bool (cFin (stv s z))]) ∧ (oneZ s z).1 < 2 ^ 64 ∧ (oneZ s z).2 < 2 ^ 64 ∧ Below w.heap.size w w'
theorem retO_true {s : St} {z : Nat × Nat} {w w' : World} {r i : Nat} (hr : r < 2 ^ 64) (hi : i < 2 ^ 64) (h1 : Fl.Eqv .f64 r (stv s z).1) (h2 : Fl.Eqv .f64 i (stv s z).2) (hf : (finB r && finB i) = true) (hb : Below w.heap.size w w') :
    RetO s z w (.returned (.tuple #[.complex .f64 r i, .bool true])) w' := by
  rw [Bool.and_eq_true] at hf
  have e1 := h1.eq .f64 (Fl.fin_nan .f64 (show Fl.fin FloatKind.f64.format r = true from hf.1))
  have e2 := h2.eq .f64 (Fl.fin_nan .f64 (show Fl.fin FloatKind.f64.format i = true from hf.2))
  have hc : cFin (stv s z) = true := by unfold cFin; rw [← e1, ← e2, hf.1, hf.2]; rfl
  have ho : oneZ s z = stv s z := by unfold oneZ; rw [if_pos hc]
  refine ⟨?_, by rw [ho, ← e1]; exact hr, by rw [ho, ← e2]; exact hi, hb⟩
  rw [ho, hc, ← e1, ← e2]
theorem retO_false {s : St} {z : Nat × Nat} {w w' : World} {r i : Nat} (h1 : Fl.Eqv .f64 r (stv s z).1) (h2 : Fl.Eqv .f64 i (stv s z).2) (hf : (finB r && finB i) = false) (hb : Below w.heap.size w w') :
    RetO s z w (.returned (.tuple #[.complex .f64 0 0, .bool false])) w' := by
  have e1 : finB r = finB (stv s z).1 := h1.fin
  have e2 : finB i = finB (stv s z).2 := h2.fin
  have hc : cFin (stv s z) = false := by unfold cFin; rw [← e1, ← e2, hf]
  have ho : oneZ s z = (0, 0) := by unfold oneZ; rw [if_neg (by rw [hc]; decide)]
  refine ⟨?_, by rw [ho]; decide, by rw [ho]; decide, hb⟩
  rw [ho, hc]
end Go.Proofs.Ytbloipnpgncjiaa
