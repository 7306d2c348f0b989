/- TableOk of the program. -/
import Derived.Test.YtbloipnpgncjiaaTab
namespace Go.Proofs.Ytbloipnpgncjiaa
open Go.RowKit

set_option maxRecDepth 20000 in
set_option maxHeartbeats 2000000 in
theorem tab_impl (A : Option Addr) (c : Nat) (ps : List (Nat × Nat)) (w : World) (ha : Pts w w.heap.size A ps) (hn : ps.length ≤ 1048576) :
    Calls Try.prog 24 #[.slice A ps.length c] w fun e w' => e = .returned (.bool (tabOk ps)) ∧ Below w.heap.size w w' := by
  have HA := hid ha
  clear ha
  by_cases hl : 2 ≤ ps.length ∧ ps.length ≤ 32
  · have hlz : (ps.length : Int) ≤ 32 := by omega
    go_enter Try.func24, Try.ntmps24
    go_wp2_with fail
    refine (in_impl _ (by omega) _).mono ?_
    rintro e w' ⟨rfl, rfl⟩
    rw [decide_eq_true hl]
    go_wp2_with fail
    go_loopw [3, 4, 5, 12] (fun _ _ _ i wr => ∃ k : Nat, k ≤ ps.length ∧ i = .int .i64 k ∧ (∀ i, i < k → stepOk ps i = true) ∧ Below w'.heap.size w' wr) (fun _ _ _ i _ => ps.length - (intOf i).toNat)
    case atStart => exact ⟨0, Nat.zero_le _, rfl, fun i h => absurd h (by omega), Below.refl _ _⟩
    case round =>
      obtain ⟨k, hk, rfl, hall, hb⟩ := hrel
      have HL := hid hall
      have HW := hid hb
      clear hall
      by_cases hlt : k < ps.length
      · obtain ⟨ad, x, y, rfl, had, hxy, hca, hca'⟩ := (HA.out.below hb).at2 hlt
        have hkz : (k : Int) < (ps.length : Int) := by omega
        have HXY := hid hxy
        clear hxy hb
        go_wp2_with fail
        refine (finiteSingle_any _ _).mono ?_
        rintro e w2 ⟨rfl, m1, rfl⟩
        rcases Bool.eq_false_or_eq_true (fin32 x) with hf | hf
        · rw [hf]
          have HF1 := hid hf
          clear hf
          go_wp2_with fail
          refine (finiteSingle_any _ _).mono ?_
          rintro e w2 ⟨rfl, m2, rfl⟩
          rcases Bool.eq_false_or_eq_true (fin32 y) with hf | hf
          · rw [hf]
            have HF2 := hid hf
            clear hf
            by_cases h0 : k = 0
            · subst h0
              go_wp2_with fail
              go_roundw
              case rel =>
                refine ⟨1, by omega, by go_num, fun i hi => ?_, ?_⟩
                · have : i = 0 := by omega
                  subst this
                  rw [step_zero HXY.out, HF1.out, HF2.out]; rfl
                · exact below_drewN (HW.out.alloc HW.out.size _) _
              case measure => simp [intOf]; omega
            · have hB3 := HW.out.alloc HW.out.size (.cells #[.float .f32 x, .float .f32 y] 36)
              obtain ⟨ad', x', y', had', _, hxy', hcb, hcb'⟩ := (HA.out.below hB3).at2 (k := k - 1) (by omega)
              cases had'
              have h0z : (0 : Int) < (k : Int) := by omega
              have HP := hid (step_fin hxy' (HL.out (k - 1) (by omega)))
              have HS := hid (step_next h0 HXY.out hxy')
              have HSX := hid (sub32_bits HF1.out HP.out.1)
              have HSY := hid (sub32_bits HF2.out HP.out.2)
              have HB3 := hid hB3
              clear hxy' hB3
              have HGT := hid (gt_lt x x')
              rcases Bool.eq_false_or_eq_true (Fl.lt .f32 x' x) with hlx | hlx
              · have HLX := hid hlx
                have hgt : (FloatKind.f32.format.order x x' == some .gt) = true := by
                  have := HGT.out
                  rw [hlx] at this; exact this
                clear hlx
                go_wp2_with fail
                refine upon_arith (.inr (.inl rfl)) ?_
                intro dx n3 hdx
                have EDX := hid (show dx = sub32 x x' from (hdx.eqv.symm.eq _ (by rw [HSX.out.1]; exact HSX.out.2.1)).symm.trans (by rw [HSX.out.1]; rfl))
                clear hdx
                go_wp2_with fail
                refine (finiteSingle_any _ _).mono ?_
                rintro e w2 ⟨rfl, m3, rfl⟩
                rcases Bool.eq_false_or_eq_true (fin32 dx) with hfx | hfx
                · rw [hfx]
                  have HFX := hid hfx
                  clear hfx
                  go_wp2_with fail
                  refine upon_arith (.inr (.inl rfl)) ?_
                  intro dy n4 hdy
                  have EDY := hid (show dy = sub32 y y' from (hdy.eqv.symm.eq _ (by rw [HSY.out.1]; exact HSY.out.2.1)).symm.trans (by rw [HSY.out.1]; rfl))
                  clear hdy
                  go_wp2_with fail
                  refine (finiteSingle_any _ _).mono ?_
                  rintro e w2 ⟨rfl, m4, rfl⟩
                  rcases Bool.eq_false_or_eq_true (fin32 dy) with hfy | hfy
                  · rw [hfy]
                    have HFY := hid hfy
                    clear hfy
                    go_wp2_with fail
                    go_roundw
                    case rel =>
                      refine ⟨k + 1, by omega, by go_num, fun i hi => ?_, below_drewN (HB3.out.alloc (by have := HB3.out.size; omega) _) _⟩
                      by_cases e : i = k
                      · subst e
                        rw [HS.out, HF1.out, HF2.out, HLX.out, ← EDX.out, ← EDY.out, HFX.out, HFY.out]; rfl
                      · exact HL.out i (by omega)
                    case measure => simp [intOf]; omega
                  · rw [hfy]
                    have HFY := hid hfy
                    clear hfy
                    go_wp2_with fail
                    go_ret
                    exact ⟨by rw [tabOk_not hlt (by rw [HS.out, HF1.out, HF2.out, HLX.out, ← EDX.out, ← EDY.out, HFX.out, HFY.out]; rfl)]; rfl, below_drewN (HB3.out.alloc (by have := HB3.out.size; omega) _) _⟩
                · rw [hfx]
                  have HFX := hid hfx
                  clear hfx
                  go_wp2_with fail
                  go_ret
                  exact ⟨by rw [tabOk_not hlt (by rw [HS.out, HF1.out, HF2.out, HLX.out, ← EDX.out, HFX.out]; rfl)]; rfl, below_drewN (HB3.out.alloc (by have := HB3.out.size; omega) _) _⟩
              · have HLX := hid hlx
                have hgt : (FloatKind.f32.format.order x x' == some .gt) = false := by
                  have := HGT.out
                  rw [hlx] at this; exact this
                clear hlx
                go_wp2_with fail
                go_ret
                exact ⟨by rw [tabOk_not hlt (by rw [HS.out, HF1.out, HF2.out, HLX.out]; rfl)]; rfl, below_drewN (HB3.out.alloc (by have := HB3.out.size; omega) _) _⟩
          · rw [hf]
            have HF2 := hid hf
            clear hf
            go_wp2_with fail
            go_ret
            exact ⟨by rw [tabOk_not hlt (step_xy HXY.out (by rw [HF1.out, HF2.out]; rfl))]; rfl, below_drewN (HW.out.alloc HW.out.size _) _⟩
        · rw [hf]
          have HF1 := hid hf
          clear hf
          go_wp2_with fail
          go_ret
          exact ⟨by rw [tabOk_not hlt (step_xy HXY.out (by rw [HF1.out]; rfl))]; rfl, below_drewN (HW.out.alloc HW.out.size _) _⟩
      · have : k = ps.length := by omega
        subst this
        clear hb
        go_wp2_with fail
        go_ret
        exact ⟨by rw [tabOk_iff.2 ⟨hl, HL.out⟩]; rfl, HW.out⟩
  · have HT := hid (show tabOk ps = false by unfold tabOk; rw [decide_eq_false hl]; rfl)
    go_enter Try.func24, Try.ntmps24
    go_wp2_with fail
    refine (in_impl _ (by omega) _).mono ?_
    rintro e w' ⟨rfl, rfl⟩
    rw [decide_eq_false hl]
    go_wp2_with fail
    go_ret
    exact ⟨by rw [HT.out]; rfl, Below.refl _ _⟩
end Go.Proofs.Ytbloipnpgncjiaa
