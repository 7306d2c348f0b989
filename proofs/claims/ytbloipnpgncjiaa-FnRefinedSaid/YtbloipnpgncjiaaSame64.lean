/- Two floats that are the same but for which NaN they are, are told the same by the laws' same64, same32, samePoints. -/
import Derived.Test.YtbloipnpgncjiaaFin
import Derived.Test.YtbloipnpgncjiaaPts
import Derived.Deep.QuietTactic
namespace Go.Proofs.Ytbloipnpgncjiaa
open Go.RowKit

theorem upon_bitsQ {P : Program} {o : Oper} {a : Act} {K : Act → World → Prop} {Q : Exit → Act → World → Prop} {w : World} {op : BinOp} {t : TypeId} {k : FloatKind} {x y r : Nat} (e : floatBits op k x y = some r)
    (h : o.upon P a K Q (.ok (.value (.float k r)) w)) :
    o.upon P a K Q (((binOp op t (.float k x) (.float k y)).run P w).andThen fun v w' => .ok (.value v) w') := by
  rw [run_float_arith w op t k x y r e]
  exact h
theorem zero_word {a : Nat} (hw : a < 2 ^ 64) (hk : Fl.ky .f64 a = 0) : a = 0 ∨ a = 9223372036854775808 := by
  have e : Fl.ky .f64 a = if Fl.neg Ieee.double a then -(Fl.rung Ieee.double a : Int) else (Fl.rung Ieee.double a : Int) := rfl
  have hr : Fl.rung Ieee.double a = 0 := by
    rw [e] at hk
    split at hk <;> omega
  have hs : Ieee.double.signWeight = 9223372036854775808 := by decide +kernel
  unfold Fl.rung at hr
  rw [hs] at hr
  omega
theorem one_over {a : Nat} (hw : a < 2 ^ 64) (hk : Fl.ky .f64 a = 0) : ∃ r, floatBits .quo .f64 4607182418800017408 a = some r ∧ FloatKind.f64.format.order r r = some .eq := by
  rcases zero_word hw hk with rfl | rfl
  · exact ⟨9218868437227405312, by decide +kernel, by decide +kernel⟩
  · exact ⟨18442240474082181120, by decide +kernel, by decide +kernel⟩

set_option maxRecDepth 20000 in
set_option maxHeartbeats 1000000 in
theorem s64_any (a b : Nat) (w : World) (h : Fl.Eqv .f64 a b) (hw : a < 2 ^ 64) :
    Calls Try.prog 79 #[.float .f64 a, .float .f64 b] w fun e w' => e = .returned (.bool true) ∧ Drew w w' := by
  have NN : ∀ a b, Fl.nan .f64 a = true → Fl.nan .f64 b = true → Calls Try.prog 79 #[.float .f64 a, .float .f64 b] w fun e w' => e = .returned (.bool true) ∧ Drew w w' := by
    intro a b ha hb
    have o1 : FloatKind.f64.format.order a a = none := Fl.order_none .f64 (.inl ha)
    have o2 : FloatKind.f64.format.order b b = none := Fl.order_none .f64 (.inl hb)
    clear ha hb hw h
    go_enter Try.func79, Try.ntmps79
    go_wp2
    go_ret
    exact ⟨rfl, 0, rfl⟩
  rcases h with rfl | ⟨h1, h2⟩
  · cases ha : Fl.nan .f64 a
    · have o1 : FloatKind.f64.format.order a a = some .eq := by rw [Fl.order_self, ha]; rfl
      rcases Bool.eq_false_or_eq_true (FloatKind.f64.format.order a 0 != some .eq) with hz | hz
      · clear NN ha
        go_enter Try.func79, Try.ntmps79
        go_wp2
        go_ret
        exact ⟨rfl, 0, rfl⟩
      · have hk : Fl.ky .f64 a = 0 := by
          have e : Fl.eq .f64 a 0 = true := by simpa [Fl.eq] using hz
          rw [Fl.eq_ky] at e
          simp only [Bool.and_eq_true, decide_eq_true_eq] at e
          rw [e.2]; decide +kernel
        obtain ⟨r, hr, ho⟩ := one_over hw hk
        have HR := hid hr
        clear NN ha hk hr
        go_enter Try.func79, Try.ntmps79
        go_wp2_with fail
        refine upon_bitsQ HR.out ?_
        go_wp2_with fail
        refine upon_bitsQ HR.out ?_
        go_wp2_with fail
        go_ret
        exact ⟨rfl, 0, rfl⟩
    · exact NN a a ha ha
  · exact NN a b h1 h2

set_option maxRecDepth 20000 in
set_option maxHeartbeats 400000 in
theorem s32_any (a b : Nat) (w : World) (h : Fl.Eqv .f32 a b) :
    Calls Try.prog 25 #[.float .f32 a, .float .f32 b] w fun e w' => e = .returned (.bool true) ∧ Drew w w' := by
  go_enter Try.func25, Try.ntmps25
  go_wp2_with fail
  refine upon_widen some_f32 Try.underlying51 ?_
  intro r1 n1 hr1
  go_wp2_with fail
  refine upon_widen some_f32 Try.underlying51 ?_
  intro r2 n2 hr2
  have E := hid ((Fl.Res.wid hr1 h).trans _ hr2.w.symm)
  have W := hid (show r1 < 2 ^ 64 from hr1.1)
  clear hr1 hr2
  go_wp2_with fail
  refine (s64_any _ _ _ E.out W.out).mono ?_
  rintro e w' ⟨rfl, n3, rfl⟩
  go_wp2_with fail
  go_ret
  exact ⟨rfl, by first | exact ⟨_, rfl⟩ | (simp only [World.drewN_drewN]; exact ⟨_, rfl⟩)⟩
theorem s32_quiet (a : Nat) (w : World) (n t : Nat) : Calls Try.prog 25 #[.float .f32 a, .float .f32 a] (w.drewN (n + t)) fun e w' => e = .returned (.bool true) ∧ ∃ m, w' = w.drewN (n + m) := by
  refine (s32_any a a _ (Fl.Eqv.refl _ _)).mono ?_
  rintro e w' ⟨rfl, m, rfl⟩
  exact ⟨rfl, t + m, by rw [World.drewN_drewN, Nat.add_assoc]⟩

set_option maxRecDepth 20000 in
set_option maxHeartbeats 1000000 in
theorem sameP_any (A B : Option Addr) (c d : Nat) (ps : List (Nat × Nat)) (w : World) (ha : Pts w w.heap.size A ps) (hb : Pts w w.heap.size B ps) (hn : ps.length ≤ 1048576) :
    Calls Try.prog 58 #[.slice A ps.length c, .slice B ps.length d] w fun e w' => e = .returned (.bool true) ∧ Drew w w' := by
  have HA := hid ha
  have HB := hid hb
  clear ha hb
  go_enter Try.func58, Try.ntmps58
  go_wp2_with fail
  go_loopw [5] (fun i wr => ∃ k : Nat, k ≤ ps.length ∧ i = .int .i64 k ∧ Drew w wr) (fun i _ => ps.length - (intOf i).toNat)
  case atStart => exact ⟨0, Nat.zero_le _, rfl, 0, rfl⟩
  case round =>
    obtain ⟨k, hk, rfl, n, rfl⟩ := hrel
    by_cases hlt : k < ps.length
    · obtain ⟨ad, rfl, had, hca, hca'⟩ := HA.out.at_ hlt
      obtain ⟨bd, rfl, hbd, hcb, hcb'⟩ := HB.out.at_ hlt
      have hlz : (k : Int) < (ps.length : Int) := by omega
      generalize ps[k].1 = x at hca hcb
      generalize ps[k].2 = y at hca' hcb'
      go_wp2_with fail
      go_quiet (with_reducible exact s32_quiet _ _ _ _)
      go_wp2_with fail
      go_roundw
      case rel => exact ⟨k + 1, by omega, by go_num, by first | exact ⟨_, rfl⟩ | (simp only [World.drewN_drewN]; exact ⟨_, rfl⟩)⟩
      case measure => simp [intOf]; omega
    · have : k = ps.length := by omega
      subst this
      go_wp2_with fail
      go_ret
      exact ⟨rfl, n, rfl⟩
end Go.Proofs.Ytbloipnpgncjiaa
