/- Which side of 0 a float lies on: through widening, turning of the sign, a product with 1, narrowing; the quadrants. Plain laws, and the steps of the walk at complex conversions. -/
import Derived.Test.YtbloipnpgncjiaaNegL
import Derived.Test.YtbloipnpgncjiaaNum
import Derived.Laws.ComplexArith
namespace Go.Proofs.Ytbloipnpgncjiaa
open Go.RowKit Ieee

def cls (x : Nat) : Option Int := if Fl.nan .f32 x then none else some (Fl.key single x)
/-- a double of this class -/
def Cl (a : Nat) : Option Int → Prop
  | none => a < 2 ^ 64 ∧ Fl.nan .f64 a = true
  | some v => a < 2 ^ 64 ∧ Fl.nan .f64 a = false ∧ ((Fl.fin double a = true ∧ v.natAbs < single.infRung ∧ Fl.kv double (Fl.key double a) = Fl.kv single v) ∨ (Fl.isI double a = true ∧ v = if Fl.neg double a then -(single.infRung : Int) else (single.infRung : Int)))
theorem Cl.wf {a : Nat} {g : Option Int} (h : Cl a g) : a < 2 ^ 64 := by cases g <;> exact h.1
theorem inf_words {a : Nat} (hw : a < 2 ^ 64) (h : Fl.isI double a = true) : (a = 9218868437227405312 ∧ Fl.neg double a = false) ∨ (a = 18442240474082181120 ∧ Fl.neg double a = true) := by
  have hs : double.signWeight = 9223372036854775808 := by decide +kernel
  have hi : double.infRung = 9218868437227405312 := by decide +kernel
  have h' : a % 9223372036854775808 = 9218868437227405312 := by
    have : Fl.rung double a = double.infRung := by simpa [Fl.isI] using h
    unfold Fl.rung at this
    rwa [hs, hi] at this
  have : a = 9218868437227405312 ∨ a = 18442240474082181120 := by omega
  rcases this with rfl | rfl
  · exact .inl ⟨rfl, by decide +kernel⟩
  · exact .inr ⟨rfl, by decide +kernel⟩
theorem cl_widen {x r : Nat} (h : Fl.Res .f64 (floatToFloatBits .f32 x .f64) r) : Cl r (cls x) := by
  unfold cls
  rcases Fl.kinds single x with k | k | k
  · have hn : Fl.nan .f32 x = false := Fl.fin_nan .f32 (show Fl.fin single x = true from k)
    obtain ⟨t, e, f, v, _, w⟩ := Fl.widen_fin k
    rw [hn]
    have er : r = t := by have := h.2; rw [e] at this; exact this
    rw [er]
    exact ⟨w, Fl.fin_nan .f64 (show Fl.fin double t = true from f), .inl ⟨f, Fl.key_fin k, v⟩⟩
  · have hn : Fl.nan .f32 x = false := Fl.inf_nan .f32 (show Fl.isI single x = true from k)
    have e := Fl.widen_inf k
    rw [hn]
    have er : r = double.word (Fl.neg single x) double.infRung := by have := h.2; rw [e] at this; exact this
    rw [er]
    have hI := Fl.inf64 (Fl.neg single x)
    refine ⟨double.word_lt _ double.infRung_lt, Fl.inf_nan .f64 (show Fl.isI double _ = true from hI), .inr ⟨hI, ?_⟩⟩
    rw [Fl.neg_word double _ double.infRung_lt]
    have hr : Fl.rung single x = single.infRung := by simpa [Fl.isI] using k
    unfold Fl.key
    rw [hr]
  · have hn : Fl.nan .f32 x = true := k
    rw [hn]
    have e := Fl.widen_nan hn
    have := h.2
    rw [e] at this
    exact ⟨h.1, this⟩
theorem cl_neg {a : Nat} {g : Option Int} (h : Cl a g) : Cl (Op.negFloat .f64 a) (g.map (fun v => -v)) := by
  have hw : Op.negFloat .f64 a < 2 ^ 64 := Nat.xor_lt_two_pow h.wf (by show 2 ^ 63 < 2 ^ 64; decide)
  cases g with
  | none => exact ⟨hw, (nan_turn .f64 a).trans h.2⟩
  | some v =>
    obtain ⟨_, h1, h2⟩ := h
    refine ⟨hw, (nan_turn .f64 a).trans h1, ?_⟩
    rcases h2 with ⟨f, hv, e⟩ | ⟨i, e⟩
    · refine .inl ⟨(fin_turn .f64 a).trans f, by show (-v).natAbs < _; omega, ?_⟩
      have : Fl.key double (Op.negFloat .f64 a) = -Fl.key double a := key_turn .f64 a
      rw [this, Fl.kv_neg, e, Fl.kv_neg]
    · refine .inr ⟨?_, ?_⟩
      · have : Fl.rung double (Op.negFloat .f64 a) = Fl.rung double a := rung_turn .f64 a
        unfold Fl.isI at i ⊢
        rw [this]; exact i
      · have : Fl.neg double (Op.negFloat .f64 a) = !Fl.neg double a := sign_turn .f64 a
        rw [this]
        show -v = _
        rw [e]
        cases Fl.neg double a <;> simp
abbrev oneW : Nat := 4607182418800017408
theorem one_spec : Fl.fin double oneW = true ∧ Fl.kv double (Fl.key double oneW) = 1 := by
  have h := Fl.int_spec (n := 1) (by decide)
  rw [show floatOfInt .f64 1 = oneW from by decide +kernel] at h
  exact ⟨h.1, h.2.1⟩
theorem cl_one {a r : Nat} {g : Option Int} (h : Cl a g) (hr : Fl.Res .f64 (floatBits .mul .f64 a oneW) r) : Cl r g := by
  cases g with
  | none =>
    have e := Fl.floatBits_nan .f64 (op := .mul) (x := a) (y := oneW) (.inl h.2)
    have := hr.2
    rw [e] at this
    exact ⟨hr.1, this⟩
  | some v =>
    obtain ⟨hw, h1, h2⟩ := h
    rcases h2 with ⟨f, hv, e⟩ | ⟨i, e⟩
    · obtain ⟨t, et, vt, nt, wt⟩ := Fl.mul_spec double f one_spec.1
      have er : r = t := by
        have := hr.2
        rw [show floatBits .mul .f64 a oneW = some t from et] at this
        exact this
      have kt := vt.exact double (Fl.key_fin f) (by rw [one_spec.2, Rat.mul_one])
      rw [er]
      refine ⟨wt, nt, .inl ⟨Fl.fin_key (by rw [kt]; exact Fl.key_fin f), hv, by rw [kt]; exact e⟩⟩
    · have e2 : floatBits .mul .f64 a oneW = some a := by
        rcases inf_words hw i with ⟨rfl, _⟩ | ⟨rfl, _⟩ <;> decide +kernel
      have er : r = a := by
        have := hr.2
        rw [e2] at this
        exact this
      rw [er]
      exact ⟨hw, h1, .inr ⟨i, e⟩⟩
/-- narrowed -/
theorem run_nar {P : Program} {a : Nat} {g : Option Int} (h : Cl a g) (w : World) : ∃ x n, cls x = g ∧ (Conv.floatToFloat .f64 a .f32).run P w = .ok (.float .f32 x) (w.drewN n) := by
  cases g with
  | none =>
    obtain ⟨t, e2⟩ := Fl.read_nan double (Fl.hb .f64) h.2
    have hd2 : FloatKind.f64.decode a = .nan (Fl.neg double a) t := e2
    refine ⟨(Question.nanConv .f32 a).cut (w.tape w.drawn (.nanConv .f32 a)), 1, ?_, ?_⟩
    · unfold cls
      rw [(cut_conv .f32 a _).2]; rfl
    · simp [Conv.floatToFloat, hd2, choose, Sem.run, Question.forced]
      rfl
  | some v =>
    obtain ⟨hw, h1, h2⟩ := h
    rcases h2 with ⟨f, hv, e⟩ | ⟨i, e⟩
    · obtain ⟨x, ex, wx, fx, _, l1, l2⟩ := Fl.narrow_fin f hv hv (by rw [e]; exact Rat.le_refl) (by rw [e]; exact Rat.le_refl)
      refine ⟨x, 0, ?_, by rw [run_floatToFloat w ex]; rfl⟩
      unfold cls
      rw [Fl.fin_nan .f32 (show Fl.fin single x = true from fx)]
      exact congrArg some (Int.le_antisymm l1 l2)
    · rcases inf_words hw i with ⟨rfl, hn⟩ | ⟨rfl, hn⟩
      · refine ⟨2139095040, 0, ?_, by rw [run_floatToFloat w (show floatToFloatBits .f64 9218868437227405312 .f32 = some 2139095040 by decide +kernel)]; rfl⟩
        rw [e, hn]; decide +kernel
      · refine ⟨4286578688, 0, ?_, by rw [run_floatToFloat w (show floatToFloatBits .f64 18442240474082181120 .f32 = some 4286578688 by decide +kernel)]; rfl⟩
        rw [e, hn]; decide +kernel
/-- widened -/
theorem run_wid {P : Program} (x : Nat) (w : World) : ∃ a n, Cl a (cls x) ∧ (Conv.floatToFloat .f32 x .f64).run P w = .ok (.float .f64 a) (w.drewN n) := by
  cases hb : floatToFloatBits .f32 x .f64 with
  | some a =>
    have hw : Fl.Res .f64 (floatToFloatBits .f32 x .f64) a := by
      rcases Fl.kinds single x with k | k | k
      · obtain ⟨t, e, _, _, _, wt⟩ := Fl.widen_fin k
        rw [e] at hb; cases hb
        exact ⟨wt, by rw [e]⟩
      · have e := Fl.widen_inf k
        rw [e] at hb; cases hb
        exact ⟨double.word_lt _ double.infRung_lt, by rw [e]⟩
      · rw [Fl.widen_nan k] at hb; cases hb
    exact ⟨a, 0, cl_widen hw, by rw [run_floatToFloat w hb]; rfl⟩
  | none =>
    have hn : Fl.nan .f32 x = true := by
      rcases Fl.kinds single x with k | k | k
      · obtain ⟨t, e, _⟩ := Fl.widen_fin k
        rw [e] at hb; cases hb
      · rw [Fl.widen_inf k] at hb; cases hb
      · exact k
    obtain ⟨t, e2⟩ := Fl.read_nan single (Fl.hb .f32) hn
    have hd2 : FloatKind.f32.decode x = .nan (Fl.neg single x) t := e2
    refine ⟨(Question.nanConv .f64 x).cut (w.tape w.drawn (.nanConv .f64 x)), 1, ?_, ?_⟩
    · unfold cls
      rw [hn]
      exact ⟨(cut_conv .f64 x _).1, (cut_conv .f64 x _).2⟩
    · simp [Conv.floatToFloat, hd2, choose, Sem.run, Question.forced]
      rfl
section
variable {P : Program} {o : Oper} {a : Act} {K : Act → World → Prop} {Q : Exit → Act → World → Prop} {w : World}
theorem upon_cwid {src dst : TypeId} {x y : Nat} (hs : (P.underlying src).isSome = true) (hd : P.underlying dst = some (.complex .f64))
    (h : ∀ r i n, Cl r (cls x) → Cl i (cls y) → o.upon P a K Q (.ok (.value (.complex .f64 r i)) (w.drewN n))) :
    o.upon P a K Q (((convert src dst (.complex .f32 x y)).run P w).andThen fun v w' => .ok (.value v) w') := by
  obtain ⟨r, n, h1, e1⟩ := run_wid (P := P) x w
  obtain ⟨i, m, h2, e2⟩ := run_wid (P := P) y (w.drewN n)
  obtain ⟨u, hs'⟩ := Option.isSome_iff_exists.1 hs
  have e : (convert src dst (.complex .f32 x y)).run P w = .ok (.complex .f64 r i) (w.drewN (n + m)) := by
    rw [← World.drewN_drewN]
    cases u <;> simp [convert, run_underlying hs', run_underlying hd, Conv.complexToComplex, e1, e2]
  rw [e]
  exact h r i (n + m) h1 h2
theorem upon_cnar {src dst : TypeId} {x y : Nat} {g k : Option Int} (hx : Cl x g) (hy : Cl y k) (hs : (P.underlying src).isSome = true) (hd : P.underlying dst = some (.complex .f32))
    (h : ∀ r i n, cls r = g → cls i = k → o.upon P a K Q (.ok (.value (.complex .f32 r i)) (w.drewN n))) :
    o.upon P a K Q (((convert src dst (.complex .f64 x y)).run P w).andThen fun v w' => .ok (.value v) w') := by
  obtain ⟨r, n, h1, e1⟩ := run_nar (P := P) hx w
  obtain ⟨i, m, h2, e2⟩ := run_nar (P := P) hy (w.drewN n)
  obtain ⟨u, hs'⟩ := Option.isSome_iff_exists.1 hs
  have e : (convert src dst (.complex .f64 x y)).run P w = .ok (.complex .f32 r i) (w.drewN (n + m)) := by
    rw [← World.drewN_drewN]
    cases u <;> simp [convert, run_underlying hs', run_underlying hd, Conv.complexToComplex, e1, e2]
  rw [e]
  exact h r i (n + m) h1 h2
end

/-! the quadrants -/
def quad : Option Int → Option Int → Int
  | some a, some b => if 0 < a ∧ 0 ≤ b then 0 else if 0 < b ∧ a ≤ 0 then 1 else if a < 0 ∧ b ≤ 0 then 2 else if b < 0 ∧ 0 ≤ a then 3 else -1
  | _, _ => -1
/-- turned by quarters -/
def turnQ (q : Nat) (g h : Option Int) : Option Int × Option Int :=
  if q = 1 then (h.map (fun v => -v), g) else if q = 2 then (g.map (fun v => -v), h.map (fun v => -v)) else if q = 3 then (h, g.map (fun v => -v)) else (g, h)
theorem quad_turn {q : Nat} (hq : q < 4) (g h : Option Int) : quad (turnQ q g h).1 (turnQ q g h).2 = if quad g h < 0 then -1 else (quad g h + q) % 4 := by
  have hq' : q = 0 ∨ q = 1 ∨ q = 2 ∨ q = 3 := by omega
  cases g with
  | none => rcases hq' with rfl | rfl | rfl | rfl <;> cases h <;> simp [turnQ, quad]
  | some a =>
    cases h with
    | none => rcases hq' with rfl | rfl | rfl | rfl <;> simp [turnQ, quad]
    | some b =>
      have ha : a < 0 ∨ a = 0 ∨ 0 < a := by omega
      have hb : b < 0 ∨ b = 0 ∨ 0 < b := by omega
      rcases hq' with rfl | rfl | rfl | rfl <;> rcases ha with ha | rfl | ha <;> rcases hb with hb | rfl | hb <;> simp [turnQ, quad] <;> (repeat' split) <;> omega
theorem quad_neg {g h : Option Int} : quad g h < 0 ↔ (g = none ∨ h = none ∨ (g = some 0 ∧ h = some 0)) := by
  cases g with
  | none => cases h <;> simp [quad]
  | some a =>
    cases h with
    | none => simp [quad]
    | some b =>
      simp only [quad, Option.some.injEq, reduceCtorEq, false_or]
      constructor
      · intro h
        repeat' split at h
        all_goals omega
      · rintro ⟨rfl, rfl⟩; decide
theorem quad_range (g h : Option Int) : -1 ≤ quad g h ∧ quad g h ≤ 3 := by
  cases g <;> cases h <;> simp only [quad] <;> (repeat' split) <;> omega
/-- the three comparisons with 0 -/
theorem cl_zero {a : Nat} {g : Option Int} (h : Cl a g) :
    (g = none ∧ (FloatKind.f64.format.order a 0 == some .gt) = false ∧ (FloatKind.f64.format.order a 0 == some .eq) = false ∧ (FloatKind.f64.format.order a 0 == some .lt) = false) ∨
    (∃ v, g = some v ∧ v < 0 ∧ (FloatKind.f64.format.order a 0 == some .gt) = false ∧ (FloatKind.f64.format.order a 0 == some .eq) = false ∧ (FloatKind.f64.format.order a 0 == some .lt) = true) ∨
    (g = some 0 ∧ (FloatKind.f64.format.order a 0 == some .gt) = false ∧ (FloatKind.f64.format.order a 0 == some .eq) = true ∧ (FloatKind.f64.format.order a 0 == some .lt) = false) ∨
    (∃ v, g = some v ∧ 0 < v ∧ (FloatKind.f64.format.order a 0 == some .gt) = true ∧ (FloatKind.f64.format.order a 0 == some .eq) = false ∧ (FloatKind.f64.format.order a 0 == some .lt) = false) := by
  cases g with
  | none =>
    have o := Fl.order_none .f64 (x := a) (y := 0) (.inl h.2)
    rw [o]
    exact .inl ⟨rfl, rfl, rfl, rfl⟩
  | some v =>
    obtain ⟨hw, h1, h2⟩ := h
    have o := Fl.order_ky .f64 h1 (show Fl.nan .f64 0 = false by decide +kernel)
    rw [show Fl.ky .f64 0 = 0 from by decide +kernel] at o
    have hk : (Fl.ky .f64 a < 0 ↔ v < 0) ∧ (Fl.ky .f64 a = 0 ↔ v = 0) := by
      rcases h2 with ⟨f, hv, e⟩ | ⟨i, e⟩
      · have l1 : Fl.kv double (Fl.key double a) < Fl.kv double 0 ↔ Fl.key double a < 0 := Fl.kv_lt_iff double
        have l2 : Fl.kv single v < Fl.kv single 0 ↔ v < 0 := Fl.kv_lt_iff single
        rw [Fl.kv_zero, e] at l1
        rw [Fl.kv_zero] at l2
        refine ⟨l1.symm.trans l2, fun hz => ?_, fun hz => ?_⟩
        · have hz : Fl.key double a = 0 := hz
          rw [hz, Fl.kv_zero] at e
          exact Fl.kv_inj single (by rw [← e, Fl.kv_zero])
        · rw [hz, Fl.kv_zero] at e
          exact Fl.kv_inj double (by rw [Fl.kv_zero]; exact e)
      · have hi32 : single.infRung = 2139095040 := by decide +kernel
        rw [hi32] at e
        rcases inf_words hw i with ⟨rfl, hn⟩ | ⟨rfl, hn⟩
        · rw [hn] at e
          have : Fl.ky .f64 9218868437227405312 = 9218868437227405312 := by decide +kernel
          have e' : v = 2139095040 := by simpa using e
          rw [this, e']; constructor <;> constructor <;> intro hh <;> omega
        · rw [hn] at e
          have : Fl.ky .f64 18442240474082181120 = -9218868437227405312 := by decide +kernel
          have e' : v = -2139095040 := by simpa using e
          rw [this, e']; constructor <;> constructor <;> intro hh <;> omega
    rcases (show Fl.ky .f64 a < 0 ∨ Fl.ky .f64 a = 0 ∨ 0 < Fl.ky .f64 a by omega) with c | c | c
    · rw [Fl.cmp_lt c] at o
      rw [o]
      exact .inr (.inl ⟨v, rfl, hk.1.1 c, rfl, rfl, rfl⟩)
    · rw [c, show compare (0 : Int) 0 = .eq by decide] at o
      rw [o, hk.2.1 c]
      exact .inr (.inr (.inl ⟨rfl, rfl, rfl, rfl⟩))
    · rw [Fl.cmp_gt c] at o
      rw [o]
      have h1 : ¬ v < 0 := fun h => by have := hk.1.2 h; omega
      have h2 : ¬ v = 0 := fun h => by have := hk.2.2 h; omega
      exact .inr (.inr (.inr ⟨v, rfl, by omega, rfl, rfl, rfl⟩))
end Go.Proofs.Ytbloipnpgncjiaa
