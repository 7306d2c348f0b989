/- TableOk, of the program and of the reference. -/
import Derived.Test.YtbloipnpgncjiaaPts
import Derived.Test.YtbloipnpgncjiaaNum
import Derived.Deep.QuietTactic
import Derived.BigQuiet
namespace Go.Proofs.Ytbloipnpgncjiaa
open Go.RowKit

abbrev sub32 (x y : Nat) : Nat := Fl.arith .f32 .sub x y
def stepOk (ps : List (Nat × Nat)) (i : Nat) : Bool :=
  fin32 (ps.getD i (0, 0)).1 && fin32 (ps.getD i (0, 0)).2 && (i == 0 || (Fl.lt .f32 (ps.getD (i - 1) (0, 0)).1 (ps.getD i (0, 0)).1 && fin32 (sub32 (ps.getD i (0, 0)).1 (ps.getD (i - 1) (0, 0)).1) && fin32 (sub32 (ps.getD i (0, 0)).2 (ps.getD (i - 1) (0, 0)).2)))
def tabOk (ps : List (Nat × Nat)) : Bool := decide (2 ≤ ps.length ∧ ps.length ≤ 32) && (List.range ps.length).all (stepOk ps)
theorem tabOk_iff {ps : List (Nat × Nat)} : tabOk ps = true ↔ (2 ≤ ps.length ∧ ps.length ≤ 32) ∧ ∀ i, i < ps.length → stepOk ps i = true := by simp [tabOk]
theorem tabOk_not {ps : List (Nat × Nat)} {k : Nat} (hk : k < ps.length) (h : stepOk ps k = false) : tabOk ps = false := by
  cases ht : tabOk ps
  · rfl
  · rw [(tabOk_iff.1 ht).2 k hk] at h; cases h
theorem Pts.at2 {w : World} {B : Nat} {A : Option Addr} {ps : List (Nat × Nat)} (h : Pts w B A ps) {k : Nat} (hk : k < ps.length) : ∃ ad x y, A = some ad ∧ ad.block < B ∧ ps.getD k (0, 0) = (x, y) ∧ w.cell? (ad.add (k * 2)) = some (.float .f32 x) ∧ w.cell? ⟨(ad.add (k * 2)).block, (ad.add (k * 2)).off + 1, none⟩ = some (.float .f32 y) := by
  obtain ⟨ad, e, hb, h1, h2⟩ := h.at_ hk
  exact ⟨ad, ps[k].1, ps[k].2, e, hb, by simp [List.getD, hk], h1, h2⟩
theorem step_zero {ps : List (Nat × Nat)} {x y : Nat} (h : ps.getD 0 (0, 0) = (x, y)) : stepOk ps 0 = (fin32 x && fin32 y) := by unfold stepOk; rw [h]; simp
theorem step_next {ps : List (Nat × Nat)} {k x y x' y' : Nat} (h0 : k ≠ 0) (h : ps.getD k (0, 0) = (x, y)) (h' : ps.getD (k - 1) (0, 0) = (x', y')) :
    stepOk ps k = (fin32 x && fin32 y && (Fl.lt .f32 x' x && fin32 (sub32 x x') && fin32 (sub32 y y'))) := by
  unfold stepOk; rw [h, h', show (k == 0) = false by simpa using h0]; simp
theorem step_fin {ps : List (Nat × Nat)} {k x y : Nat} (h : ps.getD k (0, 0) = (x, y)) (hs : stepOk ps k = true) : fin32 x = true ∧ fin32 y = true := by
  unfold stepOk at hs; rw [h] at hs
  simp only [Bool.and_eq_true] at hs
  exact hs.1
theorem step_xy {ps : List (Nat × Nat)} {k x y : Nat} (h : ps.getD k (0, 0) = (x, y)) (hs : (fin32 x && fin32 y) = false) : stepOk ps k = false := by
  unfold stepOk; rw [h]; simp only []; rw [hs]; rfl
theorem getD_at {ps : List (Nat × Nat)} {k : Nat} (h : k < ps.length) : ps.getD k (0, 0) = ps[k] := by simp [List.getD, h]

/-- finite less finite: no NaN -/
theorem sub32_bits {x y : Nat} (hx : fin32 x = true) (hy : fin32 y = true) : floatBits .sub .f32 x y = some (sub32 x y) ∧ Fl.nan .f32 (sub32 x y) = false ∧ sub32 x y < 2 ^ 32 := by
  obtain ⟨r, e, _, n, w⟩ := Fl.sub_spec Ieee.single hx hy
  have e' : floatBits .sub .f32 x y = some r := e
  have : sub32 x y = r := Fl.arith_some e'
  rw [this]; exact ⟨e', n, w⟩
theorem wid_some {x : Nat} (h : Fl.nan .f32 x = false) : floatToFloatBits .f32 x .f64 = some (Fl.wid x) := by
  rcases Fl.kinds Ieee.single x with k | k | k
  · obtain ⟨r, e, _⟩ := Fl.widen_fin k
    unfold Fl.wid; rw [e]; rfl
  · have e := Fl.widen_inf k
    unfold Fl.wid; rw [e]; rfl
  · rw [show Fl.nan .f32 x = true from k] at h; cases h
theorem finB_wid (x : Nat) : finB (Fl.wid x) = fin32 x := Fl.wid_fin x
/-- of finite ones: not greater is at most -/
theorem le_lt {x y : Nat} (hx : fin32 x = true) (hy : fin32 y = true) : Fl.le .f32 x y = !Fl.lt .f32 y x := by
  have n1 := Fl.fin_nan .f32 hx
  have n2 := Fl.fin_nan .f32 hy
  rw [Fl.le_ky, Fl.lt_ky, n1, n2]
  by_cases h : Fl.ky .f32 x ≤ Fl.ky .f32 y
  · simp [h]
  · simp [h]; omega
theorem gt_lt (x y : Nat) : Fl.gt .f32 x y = Fl.lt .f32 y x := by
  rw [Fl.gt_ky, Fl.lt_ky]
  cases Fl.nan .f32 x <;> cases Fl.nan .f32 y <;> rfl

set_option maxHeartbeats 400000 in
theorem in_spec (n : Nat) (hn : n ≤ 9223372036854775807) (w : World) :
    Calls Try.prog 80 #[.int .i64 n, .int .i64 2, .int .i64 32] w fun e w' => e = .returned (.bool (decide (2 ≤ n ∧ n ≤ 32))) ∧ w' = w := by
  have hz : (n : Int) ≤ 9223372036854775807 := by omega
  by_cases h : 2 ≤ n
  · have h1 : (2 : Int) ≤ (n : Int) := by omega
    go_enter Try.func80, Try.ntmps80
    go_wp2
    go_ret
    exact ⟨by simp [h]; omega, rfl⟩
  · have h1 : (n : Int) < 2 := by omega
    go_enter Try.func80, Try.ntmps80
    go_wp2
    go_ret
    exact ⟨by simp, rfl⟩

set_option maxHeartbeats 400000 in
theorem in_impl (n : Nat) (hn : n ≤ 9223372036854775807) (w : World) :
    Calls Try.prog 77 #[.int .i64 n, .int .i64 2, .int .i64 32] w fun e w' => e = .returned (.bool (decide (2 ≤ n ∧ n ≤ 32))) ∧ w' = w := by
  have hz : (n : Int) ≤ 9223372036854775807 := by omega
  by_cases h : 2 ≤ n
  · have h1 : (2 : Int) ≤ (n : Int) := by omega
    go_enter Try.func77, Try.ntmps77
    go_wp2
    go_ret
    exact ⟨by simp [h]; omega, rfl⟩
  · have h1 : (n : Int) < 2 := by omega
    go_enter Try.func77, Try.ntmps77
    go_wp2
    go_ret
    exact ⟨by simp, rfl⟩

set_option maxRecDepth 20000 in
theorem fine_wid (x : Nat) (b : Bool) (h : fin32 x = b) (w : World) (n t : Nat) : Calls Try.prog 81 #[.float .f64 (Fl.wid x)] (w.drewN (n + t)) fun e w' => e = .returned (.bool b) ∧ ∃ m, w' = w.drewN (n + m) := by
  refine (fine_any _ _).mono ?_
  rintro e w' ⟨rfl, m, rfl⟩
  exact ⟨by rw [finB_wid, h], t + m, by rw [World.drewN_drewN, Nat.add_assoc]⟩

set_option maxRecDepth 20000 in
set_option maxHeartbeats 2000000 in
theorem tab_spec (A : Option Addr) (c : Nat) (ps : List (Nat × Nat)) (w : World) (ha : Pts w w.heap.size A ps) (hn : ps.length ≤ 1048576) :
    Calls Try.prog 27 #[.slice A ps.length c] w fun e w' => e = .returned (.bool (tabOk ps)) ∧ Drew w w' := by
  have HA := hid ha
  clear ha
  by_cases hl : 2 ≤ ps.length ∧ ps.length ≤ 32
  · have hlz : (ps.length : Int) ≤ 32 := by omega
    go_enter Try.func27, Try.ntmps27
    go_wp2_with fail
    refine (in_spec _ (by omega) _).mono ?_
    rintro e w' ⟨rfl, rfl⟩
    rw [decide_eq_true hl]
    go_wp2_with fail
    go_loopw [3, 4, 5] (fun i _ _ wr => ∃ k : Nat, k ≤ ps.length ∧ i = .int .i64 k ∧ (∀ i, i < k → stepOk ps i = true) ∧ Drew w' wr) (fun i _ _ _ => ps.length - (intOf i).toNat)
    case atStart => exact ⟨0, Nat.zero_le _, rfl, fun i h => absurd h (by omega), 0, rfl⟩
    case round =>
      obtain ⟨k, hk, rfl, hall, n, rfl⟩ := hrel
      have HL := hid hall
      clear hall
      by_cases hlt : k < ps.length
      · obtain ⟨ad, x, y, rfl, had, hxy, hca, hca'⟩ := HA.out.at2 hlt
        have hkz : (k : Int) < (ps.length : Int) := by omega
        have HXY := hid hxy
        clear hxy
        go_wp2_with fail
        refine upon_widen some_f32 Try.underlying51 ?_
        intro r m hr
        have E := hid hr.fin32
        clear hr
        go_wp2_with fail
        refine (fine_any _ _).mono ?_
        rintro e w2 ⟨rfl, m', rfl⟩
        rw [show finB r = fin32 x from E.out]
        rcases Bool.eq_false_or_eq_true (fin32 x) with hf | hf
        · rw [hf]
          have HF1 := hid hf
          clear hf E
          go_wp2_with fail
          refine upon_widen some_f32 Try.underlying51 ?_
          intro r m hr
          have E := hid hr.fin32
          clear hr
          go_wp2_with fail
          refine (fine_any _ _).mono ?_
          rintro e w2 ⟨rfl, m', rfl⟩
          rw [show finB r = fin32 y from E.out]
          rcases Bool.eq_false_or_eq_true (fin32 y) with hf | hf
          · rw [hf]
            have HF2 := hid hf
            clear hf E
            by_cases h0 : k = 0
            · subst h0
              go_wp2_with fail
              go_roundw
              case rel =>
                refine ⟨1, by omega, by go_num, fun i hi => ?_, _, rfl⟩
                have : i = 0 := by omega
                subst this
                rw [step_zero HXY.out, HF1.out, HF2.out]; rfl
              case measure => simp [intOf]; omega
            · obtain ⟨ad', x', y', had', _, hxy', hcb, hcb'⟩ := HA.out.at2 (k := k - 1) (by omega)
              cases had'
              have h0z : (0 : Int) < (k : Int) := by omega
              have HP := hid (step_fin hxy' (HL.out (k - 1) (by omega)))
              have HS := hid (step_next h0 HXY.out hxy')
              have HSX := hid (sub32_bits HF1.out HP.out.1)
              have HSY := hid (sub32_bits HF2.out HP.out.2)
              have HLE := hid (le_lt HF1.out HP.out.1)
              clear hxy'
              generalize sub32 x x' = dx at HS HSX
              generalize sub32 y y' = dy at HS HSY
              go_wp2_with fail
              go_quiet (first | (rw [run_float_arith _ _ _ _ _ _ _ HSX.out.1]; exact ⟨rfl, rfl⟩) | (rw [run_float_arith _ _ _ _ _ _ _ HSY.out.1]; exact ⟨rfl, rfl⟩))
              go_wp2_with fail
              go_quiet (first | (rw [run_float_arith _ _ _ _ _ _ _ HSX.out.1]; exact ⟨rfl, rfl⟩) | (rw [run_float_arith _ _ _ _ _ _ _ HSY.out.1]; exact ⟨rfl, rfl⟩))
              rcases Bool.eq_false_or_eq_true (Fl.lt .f32 x' x) with hlx | hlx
              · have HLX := hid hlx
                have hle : (FloatKind.f32.format.order x x' == some .lt || FloatKind.f32.format.order x x' == some .eq) = false := by
                  have := HLE.out
                  rw [hlx] at this; exact this
                rcases Bool.eq_false_or_eq_true (fin32 dx) with hfx | hfx
                · rcases Bool.eq_false_or_eq_true (fin32 dy) with hfy | hfy
                  · have HFX := hid hfx
                    have HFY := hid hfy
                    clear hlx hfx hfy
                    go_wp2_with fail
                    go_quiet (first | with_reducible exact fine_wid _ _ HFX.out _ _ _ | with_reducible exact fine_wid _ _ HFY.out _ _ _ | (rw [run_convert_float_float _ _ _ _ _ _ _ some_f32 Try.underlying51 (wid_some HSX.out.2.1)]; exact ⟨rfl, rfl⟩) | (rw [run_convert_float_float _ _ _ _ _ _ _ some_f32 Try.underlying51 (wid_some HSY.out.2.1)]; exact ⟨rfl, rfl⟩) | (trace_state; fail))
                    clear hle
                    go_wp2_with fail
                    go_roundw
                    case rel =>
                      refine ⟨k + 1, by omega, by go_num, fun i hi => ?_, by first | exact ⟨_, rfl⟩ | (simp only [World.drewN_drewN]; exact ⟨_, rfl⟩)⟩
                      by_cases e : i = k
                      · subst e
                        rw [HS.out, HF1.out, HF2.out, HLX.out, HFX.out, HFY.out]; rfl
                      · exact HL.out i (by omega)
                    case measure => simp [intOf]; omega
                  · have HFX := hid hfx
                    have HFY := hid hfy
                    clear hlx hfx hfy
                    go_wp2_with fail
                    go_quiet (first | with_reducible exact fine_wid _ _ HFX.out _ _ _ | with_reducible exact fine_wid _ _ HFY.out _ _ _ | (rw [run_convert_float_float _ _ _ _ _ _ _ some_f32 Try.underlying51 (wid_some HSX.out.2.1)]; exact ⟨rfl, rfl⟩) | (rw [run_convert_float_float _ _ _ _ _ _ _ some_f32 Try.underlying51 (wid_some HSY.out.2.1)]; exact ⟨rfl, rfl⟩) | (trace_state; fail))
                    clear hle
                    go_wp2_with fail
                    go_ret
                    exact ⟨by rw [tabOk_not hlt (by rw [HS.out, HF1.out, HF2.out, HLX.out, HFX.out, HFY.out]; rfl)]; rfl, by first | exact ⟨_, rfl⟩ | (simp only [World.drewN_drewN]; exact ⟨_, rfl⟩)⟩
                · have HFX := hid hfx
                  have HFY := HFX
                  clear hlx hfx
                  go_wp2_with fail
                  go_quiet (first | with_reducible exact fine_wid _ _ HFX.out _ _ _ | with_reducible exact fine_wid _ _ HFY.out _ _ _ | (rw [run_convert_float_float _ _ _ _ _ _ _ some_f32 Try.underlying51 (wid_some HSX.out.2.1)]; exact ⟨rfl, rfl⟩) | (rw [run_convert_float_float _ _ _ _ _ _ _ some_f32 Try.underlying51 (wid_some HSY.out.2.1)]; exact ⟨rfl, rfl⟩) | (trace_state; fail))
                  clear hle
                  go_wp2_with fail
                  go_ret
                  exact ⟨by rw [tabOk_not hlt (by rw [HS.out, HF1.out, HF2.out, HLX.out, HFX.out]; rfl)]; rfl, by first | exact ⟨_, rfl⟩ | (simp only [World.drewN_drewN]; exact ⟨_, rfl⟩)⟩
              · have HLX := hid hlx
                have hle : (FloatKind.f32.format.order x x' == some .lt || FloatKind.f32.format.order x x' == some .eq) = true := by
                  have := HLE.out
                  rw [hlx] at this; exact this
                have HFX := HLX
                have HFY := HFX
                clear hlx
                go_wp2_with fail
                go_quiet (first | with_reducible exact fine_wid _ _ HFX.out _ _ _ | with_reducible exact fine_wid _ _ HFY.out _ _ _ | (rw [run_convert_float_float _ _ _ _ _ _ _ some_f32 Try.underlying51 (wid_some HSX.out.2.1)]; exact ⟨rfl, rfl⟩) | (rw [run_convert_float_float _ _ _ _ _ _ _ some_f32 Try.underlying51 (wid_some HSY.out.2.1)]; exact ⟨rfl, rfl⟩) | (trace_state; fail))
                clear hle
                go_wp2_with fail
                go_ret
                exact ⟨by rw [tabOk_not hlt (by rw [HS.out, HF1.out, HF2.out, HLX.out]; rfl)]; rfl, by first | exact ⟨_, rfl⟩ | (simp only [World.drewN_drewN]; exact ⟨_, rfl⟩)⟩
          · rw [hf]
            have HF2 := hid hf
            clear hf E
            go_wp2_with fail
            go_ret
            exact ⟨by rw [tabOk_not hlt (step_xy HXY.out (by rw [HF1.out, HF2.out]; rfl))]; rfl, by first | exact ⟨_, rfl⟩ | (simp only [World.drewN_drewN]; exact ⟨_, rfl⟩)⟩
        · rw [hf]
          have HF1 := hid hf
          clear hf E
          go_wp2_with fail
          go_ret
          exact ⟨by rw [tabOk_not hlt (step_xy HXY.out (by rw [HF1.out]; rfl))]; rfl, by first | exact ⟨_, rfl⟩ | (simp only [World.drewN_drewN]; exact ⟨_, rfl⟩)⟩
      · have : k = ps.length := by omega
        subst this
        go_wp2_with fail
        go_ret
        exact ⟨by rw [tabOk_iff.2 ⟨hl, HL.out⟩]; rfl, by first | exact ⟨_, rfl⟩ | (simp only [World.drewN_drewN]; exact ⟨_, rfl⟩)⟩
  · have HT := hid (show tabOk ps = false by unfold tabOk; rw [decide_eq_false hl]; rfl)
    go_enter Try.func27, Try.ntmps27
    go_wp2_with fail
    refine (in_spec _ (by omega) _).mono ?_
    rintro e w' ⟨rfl, rfl⟩
    rw [decide_eq_false hl]
    go_wp2_with fail
    go_ret
    exact ⟨by rw [HT.out]; rfl, 0, rfl⟩
end Go.Proofs.Ytbloipnpgncjiaa
