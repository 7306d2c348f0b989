/- ScaleTable of the program. -/
import Derived.Test.YtbloipnpgncjiaaClone
import Derived.Test.YtbloipnpgncjiaaOwnP
namespace Go.Proofs.Ytbloipnpgncjiaa
open Go.RowKit

/-- a cell of an owned list is set -/
theorem own_set {w : World} {base : Nat} {t : TypeId} {g c : Nat} {qs : List (Nat × Nat)} {k r : Nat} (h : w.ownsRow base t 2 (.slice (some ⟨g, 0, none⟩) qs.length c) qs.length (pcells qs)) :
    (w.setCell ⟨g, k * 2 + 1, none⟩ (.float .f32 r)).ownsRow base t 2 (.slice (some ⟨g, 0, none⟩) (qs.set k ((qs.getD k (0, 0)).1, r)).length c) (qs.set k ((qs.getD k (0, 0)).1, r)).length (pcells (qs.set k ((qs.getD k (0, 0)).1, r))) := by
  have := (World.ownsRow.stored h (k * 2 + 1) (.float .f32 r)).1
  rw [pcells_set qs k ((qs.getD k (0, 0)).1, r) rfl] at this
  rw [List.length_set]
  exact this

set_option maxRecDepth 20000 in
set_option maxHeartbeats 4000000 in
theorem scale_impl (A : Option Addr) (c : Nat) (ps : List (Nat × Nat)) (f : Nat) (w : World) (ha : Pts w w.heap.size A ps) (hn : ps.length ≤ 1048576) :
    Calls Try.prog 47 #[.slice A ps.length c, .float .f32 f] w (RetT (scR f ps) (scB f ps) w) := by
  have hlz : (ps.length : Int) ≤ 1048576 := by omega
  have HS0 := hid ha
  clear ha
  go_enter Try.func47, Try.ntmps47
  go_wp2_with fail
  refine (clone_pts _ _ _ _ HS0.out hn).mono ?_
  rintro e w1 ⟨v, rfl, hown, hb⟩
  obtain ⟨A1, c1, g1, rfl, s1, hg1, hA1, _⟩ := own_openP hown
  have HO1 := hid hown
  have H1 := hid hb
  have HK := hid hA1
  clear hown hb s1 hA1
  go_wp2_with fail
  go_loopw [7, 12] (fun _ i wr => ∃ (t : Nat) (qs : List (Nat × Nat)), t ≤ ps.length ∧ i = .int .i64 t ∧ qs.length = ps.length ∧ PE qs (mixL f ps t) ∧ wr.ownsRow w.heap.size 36 2 (.slice A1 ps.length c1) ps.length (pcells qs) ∧ Below w.heap.size w wr) (fun _ i _ => ps.length - (intOf i).toNat)
  case atStart => exact ⟨0, ps, by omega, rfl, rfl, by rw [mixL_zero]; exact PE.refl _, HO1.out, H1.out⟩
  case round =>
    obtain ⟨t, qs, htl, rfl, hql, hpe, hown, hb⟩ := hrel
    have HW := hid hown
    have HB := hid hb
    have HP := hid hpe
    clear hpe hown hb
    by_cases hlt : t < ps.length
    · obtain ⟨rfl, _⟩ := HK.out (by omega)
      have hg := HW.out.lt g1 rfl
      have hqx := hid (HP.out.2 t (by rw [mixL_len]; omega))
      have hmx := hid (mixL_at (f := f) hlt)
      have hc1 := World.ownsRow.cellAt HW.out (t * 2 + 1) (by omega)
      have hf1 := World.ownsRow.frozenAt HW.out (t * 2 + 1)
      have hq : qs.getD t (0, 0) = qs[t]'(by omega) := getD_at (by omega)
      rw [(pcells_get qs (k := t) (by omega)).2, ← hq] at hc1
      have HQ := hid hq
      clear hq
      generalize hxy : qs.getD t (0, 0) = xy at hc1
      obtain ⟨x, y⟩ := xy
      have HXY := hid hxy
      clear hxy
      have hkz : (t : Int) < (ps.length : Int) := by omega
      simp only [] at hc1
      clear hg
      go_wp2_with fail
      refine upon_arith (.inr (.inr (.inl rfl))) ?_
      intro r n hr
      have HR := hid (hr.arith _ (Fl.Eqv.refl _ _) (Fl.Eqv.refl _ _))
      clear hr
      go_wp2_with fail
      go_roundw
      case rel =>
        refine ⟨t + 1, qs.set t ((qs.getD t (0, 0)).1, r), by omega, by go_num, by rw [List.length_set]; exact hql, ?_, ?_, ?_⟩
        · have hpx := hqx.out
          rw [hmx.out, HXY.out] at hpx
          have e : ps.getD t (0, 0) = (x, (ps.getD t (0, 0)).2) := Prod.ext hpx.1.symm rfl
          rw [mixL_succ hlt e, HXY.out]
          exact HP.out.set (by rw [mixL_len]; omega) rfl (HR.out.trans _ (.inl (Fl.arith_eqv .f32 hpx.2 (Fl.Eqv.refl _ _))))
        · have := own_set (k := t) (r := r) (by rw [hql]; exact HW.out)
          rw [List.length_set, hql] at this
          exact this
        · first | exact (below_drewN HB.out _).setCell (HW.out.lt g1 rfl).1 _ | exact below_drewN (HB.out.setCell (HW.out.lt g1 rfl).1 _) _
      case measure => simp [intOf]; omega
    · have : t = ps.length := by omega
      subst this
      have HPE := hid (show PE qs (scL f ps) by have := HP.out; rwa [mixL_all] at this)
      obtain ⟨A2, c2, g2, e2, s2, _, _, _⟩ := own_openP (L := qs) (by rw [hql]; exact HW.out)
      have HS2 := hid s2
      have HTQ := hid (tabOk_pe HPE.out)
      injection e2 with e2 e3 e4
      subst e2
      clear e3 e4
      clear s2
      rcases Bool.eq_false_or_eq_true (tabOk ps) with ht | ht
      · have HT := hid ht
        go_wp2_with fail
        refine (tab_impl _ _ _ _ ((HS0.out.below HB.out).more HB.out.size) hn).mono ?_
        rintro e w2 ⟨rfl, hb2⟩
        rw [ht]
        have HB2 := hid (HB.out.trans (hb2.mono HB.out.size))
        have HS3 := hid (HS2.out.next hb2)
        have HO3 := hid (own_below HW.out hb2)
        clear hb2 ht
        go_wp2_with fail
        rw [← hql]
        refine (tab_impl _ _ qs _ HS3.out (by omega)).mono ?_
        rintro e w3 ⟨rfl, hb3⟩
        have HB3 := hid (HB2.out.trans (hb3.mono HB2.out.size))
        have HO4 := hid (own_below HO3.out hb3)
        clear hb3
        rcases Bool.eq_false_or_eq_true (tabOk qs) with hq | hq
        · rw [hq]
          have HQ := hid (pe_eq HPE.out hq)
          have HB1 := hid (show scB f ps = true by unfold scB; rw [HT.out, ← HTQ.out, hq]; rfl)
          have HL := hid (show scR f ps = qs by unfold scR; rw [HB1.out, HQ.out]; rfl)
          clear hq
          go_wp2_with fail
          go_ret2
          exact ⟨_, by rw [HB1.out]; rfl, by rw [HL.out, hql]; exact HO4.out, HB3.out⟩
        · rw [hq]
          have HB1 := hid (show scB f ps = false by unfold scB; rw [HT.out, ← HTQ.out, hq]; rfl)
          have HL := hid (show scR f ps = [] by unfold scR; rw [HB1.out]; rfl)
          clear hq
          go_wp2_with fail
          go_ret2
          exact ⟨_, by rw [HB1.out]; rfl, by rw [HL.out]; exact World.ownsRow_nil _ _ _ _, HB3.out⟩
      · have HB1 := hid (show scB f ps = false by unfold scB; rw [ht]; rfl)
        have HL := hid (show scR f ps = [] by unfold scR; rw [HB1.out]; rfl)
        go_wp2_with fail
        refine (tab_impl _ _ _ _ ((HS0.out.below HB.out).more HB.out.size) hn).mono ?_
        rintro e w2 ⟨rfl, hb2⟩
        rw [ht]
        have HB2 := hid (HB.out.trans (hb2.mono HB.out.size))
        clear hb2 ht
        go_wp2_with fail
        go_ret2
        exact ⟨_, by rw [HB1.out]; rfl, by rw [HL.out]; exact World.ownsRow_nil _ _ _ _, HB2.out⟩
end Go.Proofs.Ytbloipnpgncjiaa
