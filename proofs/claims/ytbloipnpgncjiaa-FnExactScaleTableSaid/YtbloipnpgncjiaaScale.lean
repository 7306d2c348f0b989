/- ScaleTable of the reference. -/
import Derived.Test.YtbloipnpgncjiaaScaleL
import Derived.Test.YtbloipnpgncjiaaOwnP
import Derived.Test.YtbloipnpgncjiaaStep
namespace Go.Proofs.Ytbloipnpgncjiaa
open Go.RowKit

set_option maxRecDepth 20000 in
set_option maxHeartbeats 4000000 in
theorem scale_spec (A : Option Addr) (c : Nat) (ps : List (Nat × Nat)) (f : Nat) (w : World) (ha : Pts w w.heap.size A ps) (hn : ps.length ≤ 1048576) :
    Calls Try.prog 46 #[.slice A ps.length c, .float .f32 f] w (RetT (scR f ps) (scB f ps) w) := by
  have hlz : (ps.length : Int) ≤ 1048576 := by omega
  have HS0 := hid ha
  have HS := hid ((ha.below (below_new _ _ : Below w.heap.size w (w.alloc (.cells #[] 36)))).more (B' := (w.alloc (.cells #[] 36)).heap.size) (by first | exact Nat.le_refl _ | (simp)))
  have HO := hid (World.ownsRow_lit w #[] 0 (Nat.le_refl _) (by unfold maxLen; omega) (by simp) : (w.alloc (.cells #[] 36)).ownsRow w.heap.size 36 2 (.slice (some ⟨w.heap.size, 0, none⟩) 0 0) 0 [])
  clear ha
  rcases Bool.eq_false_or_eq_true (tabOk ps) with ht | ht
  · have HT := hid ht
    have h2 := (tabOk_iff.1 ht).1
    go_enter Try.func46, Try.ntmps46
    go_wp2_with fail
    refine (tab_spec _ _ _ _ HS.out hn).mono ?_
    rintro e w1 ⟨rfl, hb⟩
    rw [ht]
    have H1 := hid (Drew.below hb w.heap.size)
    have H0 := hid (show Below w.heap.size w w1 from Below.trans (below_new _ _) (H1.out))
    have HO1 := hid (own_below HO.out (Drew.below hb _))
    clear hb ht
    go_wp2_with fail
    go_loopw [6, 7] (fun v i wr => ∃ (t : Nat) (qs : List (Nat × Nat)), t ≤ ps.length ∧ i = .int .i64 t ∧ PE qs ((scL f ps).take t) ∧ wr.ownsRow w.heap.size 36 2 v t (pcells qs) ∧ Below w.heap.size w wr) (fun _ i _ => ps.length - (intOf i).toNat)
    case atStart => exact ⟨0, [], by omega, rfl, PE.refl _, HO1.out, H0.out⟩
    case round =>
      obtain ⟨t, qs, htl, rfl, hpe, hown, hb⟩ := hrel
      have HW := hid hown
      have HB := hid hb
      have HP := hid hpe
      clear hpe
      by_cases hlt : t < ps.length
      · obtain ⟨ad, x, y, rfl, had, hxy, hca, hca'⟩ := (HS0.out.below hb).at2 hlt
        have hkz : (t : Int) < (ps.length : Int) := by omega
        have HXY := hid hxy
        clear hown hb hxy
        obtain ⟨i0, hi, hz0, hz1, hz2⟩ := info_parts Try.info_pt
        have HI := hid hi
        have HZ := hid (show i0.zero = some (.agg #[.float .f32 0, .float .f32 0]) ∧ i0.size = 2 ∧ i0.bytes = 8 from ⟨hz0, hz1, hz2⟩)
        have hszw := HB.out.size
        clear hi hz0 hz1 hz2
        obtain ⟨r, n, hr, hmul⟩ := run_arith (P := Try.prog) (op := .mul) (.inr (.inr (.inl rfl))) 25 .f32 y f wr.drew
        have HR := hid (hr.arith _ (Fl.Eqv.refl _ _) (Fl.Eqv.refl _ _))
        clear hr
        go_wp2_with fail
        · skip
          have HSN := hid (show PE (qs ++ [(x, r)]) ((scL f ps).take (t + 1)) by
            rw [sc_take hlt HXY.out]; exact HP.out.snoc rfl HR.out)
          have HSP := hid (show pcells (qs ++ [(x, r)]) = pcells qs ++ [.float .f32 x, .float .f32 r] from pcells_snoc _ _)
          go_region_law (refine step_append_own rfl (.tmp 19) (.tmp 33) 24 rfl w.heap.size 36 i0 _ 2 8 Try.underlying24 HI.out HZ.out.1 HZ.out.2.1 HZ.out.2.2 rfl (by decide) _ t _ (by first | rfl | simp [Act.eval, Act.put]) (World.ownsRow.alloc (w := wr.drew.drewN n) HW.out _) ⟨wr.heap.size, 0, none⟩ 1 1 [.float .f32 x, .float .f32 r] (by first | rfl | simp [Act.eval, Act.put]) rfl (fun j u hj => by match j, hj with | 0, hj => (simp at hj; subst hj; simp [Addr.add] <;> rfl) | 1, hj => (simp at hj; subst hj; simp [Addr.add] <;> rfl)) (fun u hu => by simp at hu; rcases hu with rfl | rfl <;> rfl) (by unfold maxLen; omega) (by omega) (by simp; omega) ?_; intro v' w' hown' hgrow)
          all_goals
            have HO2 := hid hown'
            have HB2 := hid (show Below w.heap.size w _ from Below.grown (below_drewN (HB.out.alloc HB.out.size _) _) hgrow (by simp; omega) (fun k' hk' => (HW.out.lt _ hk').1))
            clear hown' hgrow hmul
            go_wp2_with fail
            go_roundw
            case rel => exact ⟨t + 1, _, by omega, by go_num, HSN.out, by rw [HSP.out]; exact HO2.out, HB2.out⟩
            case measure => first | (simp [intOf]; done) | (simp [intOf]; omega)
      · have : t = ps.length := by omega
        subst this
        have HPE := hid (show PE qs (scL f ps) by have := HP.out; rwa [← scL_length f ps, List.take_length] at this)
        have hql : qs.length = ps.length := by rw [HPE.out.1, scL_length]
        obtain ⟨A2, c2, g2, rfl, s2, _, _, _⟩ := own_openP (L := qs) (by rw [hql]; exact HW.out)
        have HS2 := hid s2
        have HTQ := hid (tabOk_pe HPE.out)
        clear hown hb s2
        rw [hql] at HW
        go_wp2_with fail
        rw [← hql]
        refine (tab_spec _ _ qs _ HS2.out (by omega)).mono ?_
        rintro e w2 ⟨rfl, hb2⟩
        have HB2 := hid (Drew.below hb2 w.heap.size)
        have HB3 := hid (Drew.below hb2 wr.heap.size)
        clear hb2
        rcases Bool.eq_false_or_eq_true (tabOk qs) with hq | hq
        · rw [hq]
          have HQ := hid (pe_eq HPE.out hq)
          have HB1 := hid (show scB f ps = true by unfold scB; rw [HT.out, ← HTQ.out, hq]; rfl)
          have HL := hid (show scR f ps = qs by unfold scR; rw [HB1.out, HQ.out]; rfl)
          clear hq
          go_wp2_with fail
          go_ret2
          exact ⟨_, by rw [HB1.out]; rfl, by rw [HL.out]; exact own_below (by rw [hql]; exact HW.out) HB3.out, HB.out.trans HB2.out⟩
        · rw [hq]
          have HB1 := hid (show scB f ps = false by unfold scB; rw [HT.out, ← HTQ.out, hq]; rfl)
          have HL := hid (show scR f ps = [] by unfold scR; rw [HB1.out]; rfl)
          clear hq
          go_wp2_with fail
          go_ret2
          exact ⟨_, by rw [HB1.out]; rfl, by rw [HL.out]; exact (World.ownsRow_lit w2 #[] 0 (by have := (HB.out.trans HB2.out).size; exact this) (by unfold maxLen; omega) (by simp)), (HB.out.trans HB2.out).alloc (HB.out.trans HB2.out).size _⟩
  · have HT := hid ht
    have HB1 := hid (show scB f ps = false by unfold scB; rw [ht]; rfl)
    have HL := hid (show scR f ps = [] by unfold scR; rw [HB1.out]; rfl)
    go_enter Try.func46, Try.ntmps46
    go_wp2_with fail
    refine (tab_spec _ _ _ _ HS.out hn).mono ?_
    rintro e w1 ⟨rfl, hb⟩
    rw [ht]
    have H1 := hid (Drew.below hb w.heap.size)
    have H0 := hid (show Below w.heap.size w w1 from Below.trans (below_new _ _) H1.out)
    have HO1 := hid (own_below HO.out (Drew.below hb _))
    clear hb ht
    go_wp2_with fail
    go_ret2
    exact ⟨_, by rw [HB1.out]; rfl, by rw [HL.out]; exact HO1.out, H0.out⟩
end Go.Proofs.Ytbloipnpgncjiaa
