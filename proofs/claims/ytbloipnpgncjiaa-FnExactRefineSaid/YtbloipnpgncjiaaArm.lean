/- The steps of the walk at operations on floats whose bits the language leaves open where the result is a NaN: any NaN, and some draws of the tape. -/
import Derived.Test.YtbloipnpgncjiaaMath
namespace Go.Proofs.Ytbloipnpgncjiaa
open Go.RowKit

@[go_sem] theorem alloc_drewN (w : World) (n : Nat) (o : Obj) : (w.drewN n).alloc o = (w.alloc o).drewN n := rfl
@[go_sem] theorem setCell_drewN (w : World) (n : Nat) (a : Addr) (v : Value) : (w.drewN n).setCell a v = (w.setCell a v).drewN n := rfl
@[go_sem] theorem shape?_drewN (w : World) (n r : Nat) : (w.drewN n).shape? r = w.shape? r := rfl

section
variable (P : Program) (w : World) (a : Addr) (m : Mode)
@[go_sem] theorem run_store_float (k : FloatKind) (b : Nat) : (store a (.float k b) m).run P w = stored P w a (.float k b) m := run_store P w a _ m rfl
@[go_sem] theorem run_store_complex (k : FloatKind) (b c : Nat) : (store a (.complex k b c) m).run P w = stored P w a (.complex k b c) m := run_store P w a _ m rfl
end

@[go_sem] theorem unary_neg_float (k : FloatKind) (b : Nat) : Op.unary .neg (.float k b) = pure (.float k (Op.negFloat k b)) := rfl
@[go_sem] theorem unary_neg_complex (k : FloatKind) (b c : Nat) : Op.unary .neg (.complex k b c) = pure (.complex k (Op.negFloat k b) (Op.negFloat k c)) := rfl

section
variable {P : Program} {o : Oper} {a : Act} {K : Act → World → Prop} {Q : Exit → Act → World → Prop} {w : World}

theorem nan32 {s q : Nat} (hs2 : s < 2) (hq : q < 2 ^ 23 - 1) : s * 2 ^ 31 + 0x7f800000 + 1 + q < 2 ^ 32 ∧ Fl.isN Ieee.single (s * 2 ^ 31 + 0x7f800000 + 1 + q) = true := by
  have hs : Ieee.single.signWeight = 2 ^ 31 := by decide +kernel
  have hi : Ieee.single.infRung = 0x7f800000 := by decide +kernel
  unfold Fl.isN Fl.rung
  rw [hs, hi, decide_eq_true_eq]
  omega
theorem nan64 {s q : Nat} (hs2 : s < 2) (hq : q < 2 ^ 52 - 1) : s * 2 ^ 63 + 0x7ff0000000000000 + 1 + q < 2 ^ 64 ∧ Fl.isN Ieee.double (s * 2 ^ 63 + 0x7ff0000000000000 + 1 + q) = true := by
  have hs : Ieee.double.signWeight = 2 ^ 63 := by decide +kernel
  have hi : Ieee.double.infRung = 0x7ff0000000000000 := by decide +kernel
  unfold Fl.isN Fl.rung
  rw [hs, hi, decide_eq_true_eq]
  omega
theorem cut_nan (k : FloatKind) (x y t : Nat) : Fl.Wf k ((Question.nanBits k x y).cut t) ∧ Fl.nan k ((Question.nanBits k x y).cut t) = true := by
  cases k
  · exact nan32 (Nat.mod_lt t (by decide)) (Nat.mod_lt (t / 2) (by decide))
  · exact nan64 (Nat.mod_lt t (by decide)) (Nat.mod_lt (t / 2) (by decide))
theorem cut_conv (k : FloatKind) (x t : Nat) : Fl.Wf k ((Question.nanConv k x).cut t) ∧ Fl.nan k ((Question.nanConv k x).cut t) = true := by
  cases k
  · exact nan32 (Nat.mod_lt t (by decide)) (Nat.mod_lt (t / 2) (by decide))
  · exact nan64 (Nat.mod_lt t (by decide)) (Nat.mod_lt (t / 2) (by decide))

theorem run_arith {op : BinOp} (hop : op = .add ∨ op = .sub ∨ op = .mul ∨ op = .quo) (t : TypeId) (k : FloatKind) (x y : Nat) (w : World) :
    ∃ r n, Fl.Res k (floatBits op k x y) r ∧ (binOp op t (.float k x) (.float k y)).run P w = .ok (.float k r) (w.drewN n) := by
  cases hb : floatBits op k x y with
  | some v =>
    refine ⟨v, 0, ⟨?_, rfl⟩, ?_⟩
    · have := floatBits_wf hb
      cases k
      · show v < 2 ^ 32
        simpa [Lit.wf] using this
      · show v < 2 ^ 64
        simpa [Lit.wf] using this
    · rw [run_float_arith w op t k x y v hb]; rfl
  | none =>
    refine ⟨(Question.nanBits k x y).cut (w.tape w.drawn (.nanBits k x y)), 1, ⟨(cut_nan k x y _).1, (cut_nan k x y _).2⟩, ?_⟩
    unfold floatBits at hb
    rcases hop with rfl | rfl | rfl | rfl <;> simp only at hb <;> simp [binOp, Op.floatArith, hb, choose, Sem.run, Question.forced] <;> rfl

theorem upon_arith {op : BinOp} {t : TypeId} {k : FloatKind} {x y : Nat} (hop : op = .add ∨ op = .sub ∨ op = .mul ∨ op = .quo)
    (h : ∀ r n, Fl.Res k (floatBits op k x y) r → o.upon P a K Q (.ok (.value (.float k r)) (w.drewN n))) :
    o.upon P a K Q (((binOp op t (.float k x) (.float k y)).run P w).andThen fun v w' => .ok (.value v) w') := by
  obtain ⟨r, n, h1, h2⟩ := run_arith (P := P) hop t k x y w
  rw [h2]
  exact h r n h1

/-- a single, widened -/
theorem run_widen (src dst : TypeId) (x : Nat) (w : World) (hs : (P.underlying src).isSome = true) (hd : P.underlying dst = some (.float .f64)) :
    ∃ r n, Fl.Res .f64 (floatToFloatBits .f32 x .f64) r ∧ (convert src dst (.float .f32 x)).run P w = .ok (.float .f64 r) (w.drewN n) := by
  rcases Fl.kinds Ieee.single x with h | h | h
  · obtain ⟨r, e, _, _, _, hr⟩ := Fl.widen_fin h
    refine ⟨r, 0, ⟨hr, by rw [e]⟩, ?_⟩
    rw [run_convert_float_float w src dst .f32 .f64 x r hs hd e]; rfl
  · have e := Fl.widen_inf h
    refine ⟨_, 0, ⟨Ieee.double.word_lt _ Ieee.double.infRung_lt, by rw [e]⟩, ?_⟩
    rw [run_convert_float_float w src dst .f32 .f64 x _ hs hd e]; rfl
  · have e := Fl.widen_nan h
    refine ⟨(Question.nanConv .f64 x).cut (w.tape w.drawn (.nanConv .f64 x)), 1, ⟨(cut_conv .f64 x _).1, by rw [e]; exact (cut_conv .f64 x _).2⟩, ?_⟩
    obtain ⟨t, e2⟩ := Fl.read_nan Ieee.single (Fl.hb .f32) h
    have hd2 : FloatKind.f32.decode x = .nan (Fl.neg Ieee.single x) t := e2
    obtain ⟨u, hs'⟩ := Option.isSome_iff_exists.1 hs
    cases u <;> simp [convert, run_underlying hs', run_underlying hd, Conv.floatToFloat, hd2, choose, Sem.run, Question.forced] <;> rfl

theorem upon_widen {src dst : TypeId} {x : Nat} (hs : (P.underlying src).isSome = true) (hd : P.underlying dst = some (.float .f64))
    (h : ∀ r n, Fl.Res .f64 (floatToFloatBits .f32 x .f64) r → o.upon P a K Q (.ok (.value (.float .f64 r)) (w.drewN n))) :
    o.upon P a K Q (((convert src dst (.float .f32 x)).run P w).andThen fun v w' => .ok (.value v) w') := by
  obtain ⟨r, n, h1, h2⟩ := run_widen (P := P) src dst x w hs hd
  rw [h2]
  exact h r n h1
end
end Go.Proofs.Ytbloipnpgncjiaa
