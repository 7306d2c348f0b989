/- The quotient of two complex numbers that are finite: as a plain function, but for which NaN. -/
import Derived.Test.YtbloipnpgncjiaaNegL
import Derived.Test.YtbloipnpgncjiaaNum
import Derived.Test.YtbloipnpgncjiaaFin
import Derived.Laws.ComplexQuo
namespace Go.Proofs.Ytbloipnpgncjiaa
open Go.RowKit Ieee

/-- the quotient's parts -/
def quoV (a b c d : Nat) : Nat × Nat :=
  let fb := Fl.arith .f64
  if absGe c d then
    let ratio := fb .quo d c
    let denom := fb .add c (fb .mul ratio d)
    (fb .quo (fb .add a (fb .mul b ratio)) denom, fb .quo (fb .sub b (fb .mul a ratio)) denom)
  else
    let ratio := fb .quo c d
    let denom := fb .add d (fb .mul ratio c)
    (fb .quo (fb .add (fb .mul a ratio) b) denom, fb .quo (fb .sub (fb .mul b ratio) a) denom)

section
variable {P : Program}
theorem run_carith_any {op : BinOp} (hop : op = .add ∨ op = .sub ∨ op = .mul ∨ op = .quo) (x y : Nat) (w : World) :
    ∃ r n, Fl.Res .f64 (floatBits op .f64 x y) r ∧ (Op.Complex.arith op .f64 x y).run P w = .ok r (w.drewN n) := by
  cases hb : floatBits op .f64 x y with
  | some v =>
    refine ⟨v, 0, ⟨?_, rfl⟩, ?_⟩
    · have := floatBits_wf hb
      show v < 2 ^ 64
      simpa [Lit.wf] using this
    · rw [run_carith w hb]; rfl
  | none =>
    refine ⟨(Question.nanBits .f64 x y).cut (w.tape w.drawn (.nanBits .f64 x y)), 1, ⟨(cut_nan .f64 x y _).1, (cut_nan .f64 x y _).2⟩, ?_⟩
    unfold floatBits at hb
    rcases hop with rfl | rfl | rfl | rfl <;> simp only at hb <;> simp [Op.Complex.arith, Op.floatArith, hb, choose, Sem.run, Question.forced] <;> rfl

theorem inf_false {x : Nat} (h : Fl.fin double x = true) : Op.Complex.isInf x = false := by
  obtain ⟨m, p, e, _⟩ := Fl.read_fin double h
  show (FloatKind.f64.decode x).isInfinity = false
  have : FloatKind.f64.decode x = .number (Fl.neg double x) m p := e
  rw [this]; rfl

section
variable {a b c d ratio rd den br u1 e ar u2 f : Nat} {w0 w1 w2 w3 w4 w5 w6 w7 w8 w9 : World}
theorem cmp_eql (x : Nat) (w : World) : (Op.Complex.cmp .eql .f64 x 0).run P w = .ok (FloatKind.f64.format.order x 0 == some .eq) w := by
  simp [Op.Complex.cmp, Op.floatCmp, asBool]
theorem quo_ge (hge : absGe c d = true)
    (r1 : (Op.Complex.arith .quo .f64 d c).run P w0 = .ok ratio w1) (r2 : (Op.Complex.arith .mul .f64 ratio d).run P w1 = .ok rd w2) (r3 : (Op.Complex.arith .add .f64 c rd).run P w2 = .ok den w3)
    (r4 : (Op.Complex.arith .mul .f64 b ratio).run P w3 = .ok br w4) (r5 : (Op.Complex.arith .add .f64 a br).run P w4 = .ok u1 w5) (r6 : (Op.Complex.arith .quo .f64 u1 den).run P w5 = .ok e w6)
    (r7 : (Op.Complex.arith .mul .f64 a ratio).run P w6 = .ok ar w7) (r8 : (Op.Complex.arith .sub .f64 b ar).run P w7 = .ok u2 w8) (r9 : (Op.Complex.arith .quo .f64 u2 den).run P w8 = .ok f w9)
    (h0 : (FloatKind.f64.format.order c 0 == some .eq && FloatKind.f64.format.order d 0 == some .eq) = false)
    (ia : Op.Complex.isInf a = false) (ib : Op.Complex.isInf b = false) (ic : Op.Complex.isInf c = false) (id' : Op.Complex.isInf d = false) :
    (Op.Complex.quotient a b c d).run P w0 = .ok (e, f) w9 := by
  unfold Op.Complex.quotient
  simp only [Sem.run_bind, run_ccmp_geq, hge, Result.andThen_ok, if_true, Op.Complex.mul, Op.Complex.sub, Op.Complex.add, Op.Complex.quo, r1, r2, r3, r4, r5, r6, r7, r8, r9, Sem.run_pure, cmp_eql, h0, ia, ib, ic, id', Bool.or_false, Bool.false_and, Bool.false_eq_true, if_false]
  split <;> simp only [Sem.run_pure]
theorem quo_lt (hge : absGe c d = false)
    (r1 : (Op.Complex.arith .quo .f64 c d).run P w0 = .ok ratio w1) (r2 : (Op.Complex.arith .mul .f64 ratio c).run P w1 = .ok rd w2) (r3 : (Op.Complex.arith .add .f64 d rd).run P w2 = .ok den w3)
    (r4 : (Op.Complex.arith .mul .f64 a ratio).run P w3 = .ok br w4) (r5 : (Op.Complex.arith .add .f64 br b).run P w4 = .ok u1 w5) (r6 : (Op.Complex.arith .quo .f64 u1 den).run P w5 = .ok e w6)
    (r7 : (Op.Complex.arith .mul .f64 b ratio).run P w6 = .ok ar w7) (r8 : (Op.Complex.arith .sub .f64 ar a).run P w7 = .ok u2 w8) (r9 : (Op.Complex.arith .quo .f64 u2 den).run P w8 = .ok f w9)
    (h0 : (FloatKind.f64.format.order c 0 == some .eq && FloatKind.f64.format.order d 0 == some .eq) = false)
    (ia : Op.Complex.isInf a = false) (ib : Op.Complex.isInf b = false) (ic : Op.Complex.isInf c = false) (id' : Op.Complex.isInf d = false) :
    (Op.Complex.quotient a b c d).run P w0 = .ok (e, f) w9 := by
  unfold Op.Complex.quotient
  simp only [Sem.run_bind, run_ccmp_geq, hge, Result.andThen_ok, Bool.false_eq_true, if_false, Op.Complex.mul, Op.Complex.sub, Op.Complex.add, Op.Complex.quo, r1, r2, r3, r4, r5, r6, r7, r8, r9, Sem.run_pure, cmp_eql, h0, ia, ib, ic, id', Bool.or_false, Bool.false_and]
  split <;> simp only [Sem.run_pure]
end

/-- one step: the result, and the world after it -/
theorem carith_next {op : BinOp} (hop : op = .add ∨ op = .sub ∨ op = .mul ∨ op = .quo) {x x' y y' : Nat} {w w1 : World} (hw : Drew w w1) (hx : Fl.Eqv .f64 x x') (hy : Fl.Eqv .f64 y y') :
    ∃ r w2, Drew w w2 ∧ Fl.Eqv .f64 r (Fl.arith .f64 op x' y') ∧ r < 2 ^ 64 ∧ (Op.Complex.arith op .f64 x y).run P w1 = .ok r w2 := by
  obtain ⟨r, n, q, hr⟩ := run_carith_any (P := P) hop x y w1
  obtain ⟨m, rfl⟩ := hw
  exact ⟨r, _, ⟨m + n, (World.drewN_drewN _ _ _)⟩, q.arith .f64 hx hy, q.1, hr⟩

theorem run_quotient_any {a b c d : Nat} (ha : Fl.fin double a = true) (hb : Fl.fin double b = true) (hc : Fl.fin double c = true) (hd : Fl.fin double d = true)
    (h0 : (FloatKind.f64.format.order c 0 == some .eq && FloatKind.f64.format.order d 0 == some .eq) = false) (w : World) :
    ∃ e f n, Fl.Eqv .f64 e (quoV a b c d).1 ∧ Fl.Eqv .f64 f (quoV a b c d).2 ∧ e < 2 ^ 64 ∧ f < 2 ^ 64 ∧ (Op.Complex.quotient a b c d).run P w = .ok (e, f) (w.drewN n) := by
  have R := fun {x : Nat} => Fl.Eqv.refl .f64 x
  rcases Bool.eq_false_or_eq_true (absGe c d) with hge | hge
  · obtain ⟨ratio, w1, d1, e1, _, r1⟩ := carith_next (P := P) (w := w) (.inr (.inr (.inr rfl))) ⟨0, rfl⟩ (R (x := d)) (R (x := c))
    obtain ⟨rd, w2, d2, e2, _, r2⟩ := carith_next (P := P) (.inr (.inr (.inl rfl))) d1 e1 (R (x := d))
    obtain ⟨den, w3, d3, e3, _, r3⟩ := carith_next (P := P) (.inl rfl) d2 (R (x := c)) e2
    obtain ⟨br, w4, d4, e4, _, r4⟩ := carith_next (P := P) (.inr (.inr (.inl rfl))) d3 (R (x := b)) e1
    obtain ⟨u1, w5, d5, e5, _, r5⟩ := carith_next (P := P) (.inl rfl) d4 (R (x := a)) e4
    obtain ⟨e, w6, d6, e6, l6, r6⟩ := carith_next (P := P) (.inr (.inr (.inr rfl))) d5 e5 e3
    obtain ⟨ar, w7, d7, e7, _, r7⟩ := carith_next (P := P) (.inr (.inr (.inl rfl))) d6 (R (x := a)) e1
    obtain ⟨u2, w8, d8, e8, _, r8⟩ := carith_next (P := P) (.inr (.inl rfl)) d7 (R (x := b)) e7
    obtain ⟨f, w9, ⟨n, rfl⟩, e9, l9, r9⟩ := carith_next (P := P) (.inr (.inr (.inr rfl))) d8 e8 e3
    refine ⟨e, f, n, ?_, ?_, l6, l9, quo_ge hge r1 r2 r3 r4 r5 r6 r7 r8 r9 h0 (inf_false ha) (inf_false hb) (inf_false hc) (inf_false hd)⟩
    · unfold quoV; rw [if_pos hge]; exact e6
    · unfold quoV; rw [if_pos hge]; exact e9
  · obtain ⟨ratio, w1, d1, e1, _, r1⟩ := carith_next (P := P) (w := w) (.inr (.inr (.inr rfl))) ⟨0, rfl⟩ (R (x := c)) (R (x := d))
    obtain ⟨rd, w2, d2, e2, _, r2⟩ := carith_next (P := P) (.inr (.inr (.inl rfl))) d1 e1 (R (x := c))
    obtain ⟨den, w3, d3, e3, _, r3⟩ := carith_next (P := P) (.inl rfl) d2 (R (x := d)) e2
    obtain ⟨br, w4, d4, e4, _, r4⟩ := carith_next (P := P) (.inr (.inr (.inl rfl))) d3 (R (x := a)) e1
    obtain ⟨u1, w5, d5, e5, _, r5⟩ := carith_next (P := P) (.inl rfl) d4 e4 (R (x := b))
    obtain ⟨e, w6, d6, e6, l6, r6⟩ := carith_next (P := P) (.inr (.inr (.inr rfl))) d5 e5 e3
    obtain ⟨ar, w7, d7, e7, _, r7⟩ := carith_next (P := P) (.inr (.inr (.inl rfl))) d6 (R (x := b)) e1
    obtain ⟨u2, w8, d8, e8, _, r8⟩ := carith_next (P := P) (.inr (.inl rfl)) d7 e7 (R (x := a))
    obtain ⟨f, w9, ⟨n, rfl⟩, e9, l9, r9⟩ := carith_next (P := P) (.inr (.inr (.inr rfl))) d8 e8 e3
    refine ⟨e, f, n, ?_, ?_, l6, l9, quo_lt hge r1 r2 r3 r4 r5 r6 r7 r8 r9 h0 (inf_false ha) (inf_false hb) (inf_false hc) (inf_false hd)⟩
    · unfold quoV; rw [if_neg (by rw [hge]; decide)]; exact e6
    · unfold quoV; rw [if_neg (by rw [hge]; decide)]; exact e9

theorem upon_cquo {o : Oper} {act : Act} {K : Act → World → Prop} {Q : Exit → Act → World → Prop} {w : World} {t : TypeId} {a b c d : Nat} (ha : Fl.fin double a = true) (hb : Fl.fin double b = true) (hc : Fl.fin double c = true) (hd : Fl.fin double d = true)
    (h0 : (FloatKind.f64.format.order c 0 == some .eq && FloatKind.f64.format.order d 0 == some .eq) = false)
    (h : ∀ e f n, Fl.Eqv .f64 e (quoV a b c d).1 → Fl.Eqv .f64 f (quoV a b c d).2 → e < 2 ^ 64 → f < 2 ^ 64 → o.upon P act K Q (.ok (.value (.complex .f64 e f)) (w.drewN n))) :
    o.upon P act K Q (((binOp .quo t (.complex .f64 a b) (.complex .f64 c d)).run P w).andThen fun v w' => .ok (.value v) w') := by
  obtain ⟨e, f, n, h1, h2, h3, h4, hr⟩ := run_quotient_any (P := P) ha hb hc hd h0 w
  have : (binOp .quo t (.complex .f64 a b) (.complex .f64 c d)).run P w = .ok (.complex .f64 e f) (w.drewN n) := by
    simp [binOp, Op.complexOp, Op.Complex.conv, hr]
  rw [this]
  exact h e f n h1 h2 h3 h4
end
end Go.Proofs.Ytbloipnpgncjiaa
