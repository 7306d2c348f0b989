/- Refine of the reference: tables that are not valid; the whole. -/
import Derived.Test.YtbloipnpgncjiaaRefSp
set_option linter.unusedSimpArgs false
namespace Go.Proofs.Ytbloipnpgncjiaa
open Go.RowKit

set_option maxRecDepth 20000 in
set_option maxHeartbeats 8000000 in
theorem refine_spec2 (A B : Option Addr) (c d : Nat) (ps : List (Nat × Nat)) (xs : List Nat) (w : World) (ha : Pts w w.heap.size A ps) (hb : Sing w w.heap.size B xs) (ht : tabOk ps = false) (hpn : ps.length ≤ 1048576) (hxn : xs.length ≤ 1048576) :
    Calls Try.prog 32 #[.slice A ps.length c, .slice B xs.length d] w (RetO (refL ps xs) (refB ps xs) w) := by
  have HA0 := hid ha
  have HX0 := hid hb
  have HT := hid ht
  have HF := hid (refB_tab (xs := xs) ht)
  have hpz : (ps.length : Int) ≤ 1048576 := by omega
  have hxz : (xs.length : Int) ≤ 1048576 := by omega
  clear ha hb ht
  obtain ⟨i0, hi, hz0, hz1, hz2⟩ := info_parts Try.info_pt
  have HI := hid hi
  have HZI := hid (show i0.zero = some (.agg #[.float .f32 0, .float .f32 0]) ∧ i0.size = 2 ∧ i0.bytes = 8 from ⟨hz0, hz1, hz2⟩)
  clear hz0 hz1 hz2
  have HNZ := hid (below_new w (.cells #[] 36))
  have HLIT := hid (World.ownsRow_lit w #[] 0 (Nat.le_refl _) (by unfold maxLen; omega) (by simp) : (w.alloc (.cells #[] 36)).ownsRow w.heap.size 36 2 (.slice (some ⟨w.heap.size, 0, none⟩) 0 0) 0 [])
  have HA1 := hid (HA0.out.next HNZ.out)
  cases A with
  | none =>
    have h0 : ps = [] := by
      cases ps with
      | nil => rfl
      | cons p ps => obtain ⟨ad, e, _⟩ := HA0.out.2 (by simp); cases e
    subst h0
    have HB1 := HNZ
    have HP1 := HA1
    have hz : (0 : Nat) ≤ 0 := Nat.le_refl _
    have HSF := hid (fun x => show segIn [] x = false by unfold segIn; rw [HT.out]; rfl)
    have HEM := hid (show Pts (w.alloc (.cells #[] 36)) (w.alloc (.cells #[] 36)).heap.size (some ⟨w.heap.size, 0, none⟩) [] from ⟨rfl, fun h => absurd h (by simp)⟩)
    clear hz
    by_cases hx0 : xs.length = 0
    · have hx0z : ¬ ((0 : Int) < (xs.length : Int)) := by omega
      clear hx0
      go_enter Try.func32, Try.ntmps32
      go_wp2_with fail
      go_loopw [6, 7, 8, 9, 10, 11] (fun v i _ _ _ _ wr => i = .int .i64 0 ∧ v = .slice (some ⟨w.heap.size, 0, none⟩) 0 0 ∧ wr = w.alloc (.cells #[] 36)) (fun _ _ _ _ _ _ _ => 0)
      case atStart => exact ⟨rfl, rfl, rfl⟩
      case round =>
        obtain ⟨rfl, rfl, rfl⟩ := hrel
        go_wp2_with fail
        refine (tab_spec (some ⟨w.heap.size, 0, none⟩) 0 [] _ HEM.out (by simp)).mono ?_
        rintro e w3 ⟨rfl, hd3⟩
        have HB3 := hid (bthen HB1.out (Drew.below hd3 _))
        clear hd3
        rw [HT.out]
        go_wp2_with fail
        go_ret2
        exact ⟨_, by rw [HF.out]; rfl, by rw [refL_false HF.out]; exact OpenP.nil HB3.out.size, HB3.out.alloc HB3.out.size _⟩
    · have hx0z : (0 : Int) < (xs.length : Int) := by omega
      obtain ⟨bd, rfl, hbd, hca⟩ := (HX0.out.below HB1.out).at_ (k := 0) (by omega)
      obtain ⟨x, hxe⟩ : ∃ x, xs[0]'(by omega) = x := ⟨_, rfl⟩
      rw [hxe, show bd.add 0 = bd by simp [Addr.add]] at hca
      clear hx0 hxe
      go_enter Try.func32, Try.ntmps32
      go_wp2_with fail
      go_loopw [6, 7, 8, 9, 10, 11] (fun v i _ _ _ _ wr => i = .int .i64 0 ∧ v = .slice (some ⟨w.heap.size, 0, none⟩) 0 0 ∧ wr = w.alloc (.cells #[] 36)) (fun _ _ _ _ _ _ _ => 0)
      case atStart => exact ⟨rfl, rfl, rfl⟩
      case round =>
        obtain ⟨rfl, rfl, rfl⟩ := hrel
        go_wp2_with fail
        refine (inter_spec none c [] x _ HP1.out (by simp)).mono ?_
        rintro e w3 ⟨y, rfl, _, hb3⟩
        have HB3 := hid (bthen HB1.out hb3)
        clear hb3
        rw [HSF.out x]
        go_wp2_with fail
        go_ret2
        exact ⟨_, by rw [HF.out]; rfl, by rw [refL_false HF.out]; exact OpenP.nil HB3.out.size, HB3.out.alloc HB3.out.size _⟩
  | some ad =>
    go_enter Try.func32, Try.ntmps32
    go_wp2_with (at_builtin; refine wpList_append_own _ rfl _ _ 24 rfl w.heap.size 36 i0 (.agg #[.float .f32 0, .float .f32 0]) 2 8 Try.underlying24 hi HZI.out.1 HZI.out.2.1 HZI.out.2.2 rfl (by decide) _ _ _ rfl HLIT.out ad ps.length c (pcells ps) rfl (pcells_length ps) ?a2 pcells_one ?a4 ?a5 (by simp) ?_)
    case a2 =>
      intro j u hj
      have h0 : 0 < ps.length := by
        by_cases h : 0 < ps.length
        · exact h
        · rw [List.getElem?_eq_none (by rw [pcells_length]; omega)] at hj; cases hj
      obtain ⟨_, e, _, hcell⟩ := HA1.out.2 h0
      cases e
      exact hcell j u hj
    case a4 => unfold maxLen; omega
    case a5 => omega
    intro v1 w1 hown1 hgrow1 _
    have hB1 : Below w.heap.size w w1 := Below.grown HNZ.out hgrow1 (by simp) (by intro k' hk'; simp [Value.ownBlock] at hk'; omega)
    have hown1' : w1.ownsRow w.heap.size 36 2 v1 ps.length (pcells ps) := by simpa using hown1
    obtain ⟨A1, c1, g1, rfl, hp1, _, _, _⟩ := own_openP hown1'
    have HP1 := hid hp1
    have HB1 := hid hB1
    clear hown1 hown1' hgrow1 hB1 hp1 hi
    by_cases hx0 : xs.length = 0
    · have hx0z : ¬ ((0 : Int) < (xs.length : Int)) := by omega
      clear hx0
      go_wp2_with fail
      go_loopw [6, 7, 8, 9, 10, 11] (fun v i _ _ _ _ wr => i = .int .i64 0 ∧ v = .slice A1 ps.length c1 ∧ wr = w1) (fun _ _ _ _ _ _ _ => 0)
      case atStart => exact ⟨rfl, rfl, rfl⟩
      case round =>
        obtain ⟨rfl, rfl, rfl⟩ := hrel
        go_wp2_with fail
        refine (tab_spec A1 c1 ps _ HP1.out hpn).mono ?_
        rintro e w3 ⟨rfl, hd3⟩
        have HB3 := hid (bthen HB1.out (Drew.below hd3 wr.heap.size))
        clear hd3
        rw [HT.out]
        go_wp2_with fail
        go_ret2
        exact ⟨_, by rw [HF.out]; rfl, by rw [refL_false HF.out]; exact OpenP.nil HB3.out.size, HB3.out.alloc HB3.out.size _⟩
    · have hx0z : (0 : Int) < (xs.length : Int) := by omega
      obtain ⟨bd, rfl, hbd, hca⟩ := (HX0.out.below HB1.out).at_ (k := 0) (by omega)
      obtain ⟨x, hxe⟩ : ∃ x, xs[0]'(by omega) = x := ⟨_, rfl⟩
      rw [hxe, show bd.add 0 = bd by simp [Addr.add]] at hca
      have HP2 := hid ((HA0.out.below HB1.out).more HB1.out.size)
      have hsf : segIn ps x = false := by unfold segIn; rw [HT.out]; rfl
      have HSF := hid hsf
      clear hx0 hxe hsf
      go_wp2_with fail
      go_loopw [6, 7, 8, 9, 10, 11] (fun v i _ _ _ _ wr => i = .int .i64 0 ∧ v = .slice A1 ps.length c1 ∧ wr = w1) (fun _ _ _ _ _ _ _ => 0)
      case atStart => exact ⟨rfl, rfl, rfl⟩
      case round =>
        obtain ⟨rfl, rfl, rfl⟩ := hrel
        go_wp2_with fail
        refine (inter_spec _ c ps x _ HP2.out hpn).mono ?_
        rintro e w3 ⟨y, rfl, _, hb3⟩
        have HB3 := hid (bthen HB1.out hb3)
        clear hb3
        rw [HSF.out]
        go_wp2_with fail
        go_ret2
        exact ⟨_, by rw [HF.out]; rfl, by rw [refL_false HF.out]; exact OpenP.nil HB3.out.size, HB3.out.alloc HB3.out.size _⟩

theorem refine_spec (A B : Option Addr) (c d : Nat) (ps : List (Nat × Nat)) (xs : List Nat) (w : World) (ha : Pts w w.heap.size A ps) (hb : Sing w w.heap.size B xs) (hpn : ps.length ≤ 1048576) (hxn : xs.length ≤ 1048576) :
    Calls Try.prog 32 #[.slice A ps.length c, .slice B xs.length d] w (RetO (refL ps xs) (refB ps xs) w) := by
  rcases Bool.eq_false_or_eq_true (tabOk ps) with h | h
  · exact refine_spec1 A B c d ps xs w ha hb h hxn
  · exact refine_spec2 A B c d ps xs w ha hb h hpn hxn
end Go.Proofs.Ytbloipnpgncjiaa
