/- The law of the series: the ratios of numbers and ones equal the numbers, up to the first one that is not finite. It answers true for every code. -/
import Derived.Test.YtbloipnpgncjiaaSerW
import Derived.Test.YtbloipnpgncjiaaOpenB
namespace Go.Proofs.Ytbloipnpgncjiaa
open Go.RowKit Ieee

theorem Cs.take {w : World} {B : Nat} {A : Option Addr} {zs : List (Nat × Nat)} (h : Cs w B A zs) {k : Nat} (hk : k ≤ zs.length) : Cs w B A (zs.take k) := by
  refine ⟨by rw [ccells_len]; omega, fun hn => ?_⟩
  rw [List.length_take] at hn
  obtain ⟨ad, e, hb, hc⟩ := h.2 (by omega)
  refine ⟨ad, e, hb, fun j u hu => hc j u ?_⟩
  have e2 : ccells (zs.take k) = (ccells zs).take k := by unfold ccells; rw [List.map_take]
  rw [e2, List.getElem?_take] at hu
  split at hu
  · exact hu
  · cases hu
theorem ser_eq {zs : List (Nat × Nat)} {m k : Nat} (hm : m ≤ zs.length) (hk : k ≤ zs.length) (m1 : ∀ j (h : j < zs.length), j < m → zf zs[j] = true) (m2 : ∀ h : m < zs.length, zf zs[m] = false)
    (k1 : ∀ j (h : j < zs.length), j < k → zf zs[j] = true) (k2 : ∀ h : k < zs.length, zf zs[k] = false) : k = m := by
  rcases Nat.lt_trichotomy k m with h | h | h
  · have := m1 k (by omega) h
    rw [k2 (by omega)] at this; cases this
  · exact h
  · have := k1 m (by omega) h
    rw [m2 (by omega)] at this; cases this
theorem own_ones {w : World} {base n : Nat} {t : TypeId} {v : Value} (h : w.ownsRow base t 1 v n (ccells (ones n))) : ∃ A c, v = .slice A n c ∧ Cs w w.heap.size A (ones n) := by
  obtain ⟨A, c, e, h, _⟩ := own_openC h (ones_len n)
  exact ⟨A, c, e, h⟩

set_option maxRecDepth 20000 in
set_option maxHeartbeats 8000000 in
theorem law_ser (A : Option Addr) (l c : Nat) (hx : l ≤ 9223372036854775807) (w : World) (ha : Byts w w.heap.size A l) :
    Calls Try.prog 12 #[.slice A l c] w fun e w' => e = .returned (.bool true) ∧ Below w.heap.size w w' := by
  have HA := hid ha
  clear ha
  by_cases hb : 1048576 < l
  · go_enter Try.func12, Try.ntmps12
    go_wp2_with fail
    refine (big_any A l c w hx).mono ?_
    rintro e w0 ⟨rfl, rfl⟩
    rw [decide_eq_true hb]
    go_wp2_with fail
    go_ret
    exact ⟨rfl, Below.refl _ _⟩
  · obtain ⟨i0, hi, hz0, hz1, hz2⟩ := info_parts Try.info_c64
    have HI := hid hi
    have HZ := hid (show i0.zero = some (.complex .f32 0 0) ∧ i0.size = 1 ∧ i0.bytes = 8 from ⟨hz0, hz1, hz2⟩)
    clear hi hz0 hz1 hz2
    go_enter Try.func12, Try.ntmps12
    go_wp2_with fail
    refine (big_any A l c w hx).mono ?_
    rintro e w0 ⟨rfl, hw0⟩
    subst hw0
    rw [decide_eq_false hb]
    go_wp2_with fail
    refine (drawFU_any A l c _ HA.out (by omega)).mono ?_
    rintro e w1 ⟨A1, c1, v2, zs, rfl, hz5, hzc, hcs, hb1⟩
    have HB1 := hid hb1
    have HCN := hid (below_new w1 (.cells #[] 57))
    have HC1 := hid hcs
    have HO1 := hid (World.ownsRow_lit w1 #[] 0 (Nat.le_refl _) (by unfold maxLen; omega) (by simp) : (w1.alloc (.cells #[] 57)).ownsRow w1.heap.size 57 1 (.slice (some ⟨w1.heap.size, 0, none⟩) 0 0) 0 [])
    have hzz : (zs.length : Int) ≤ 5 := by omega
    clear hb1 hcs
    go_wp2_with fail
    go_loopw [5, 6, 7] (fun v n i wr => ∃ k m : Nat, k ≤ zs.length ∧ i = .int .i64 k ∧ n = .int .i64 m ∧ m ≤ k ∧ (∀ j (h : j < zs.length), j < m → zf zs[j] = true) ∧ (∀ h : m < zs.length, m < k → zf zs[m] = false) ∧ wr.ownsRow w1.heap.size 57 1 v k (ccells (ones k)) ∧ Below w1.heap.size w1 wr) (fun _ _ i _ => zs.length - (intOf i).toNat)
    case atStart => exact ⟨0, 0, Nat.zero_le _, rfl, rfl, Nat.le_refl _, fun _ _ h => absurd h (by omega), fun _ h => absurd h (by omega), HO1.out, HCN.out⟩
    case round =>
      obtain ⟨k, m, hk, rfl, rfl, hmk, hm1, hm2, hown, hb⟩ := hrel
      have HM1 := hid hm1
      have HM2 := hid hm2
      have HB := hid hb
      have HW := hid hown
      have hsz := hb.size
      by_cases hlt : k < zs.length
      · have hkz : (k : Int) < (zs.length : Int) := by omega
        have hi := HI.out
        clear hm1 hm2 hown
        go_wp2_with (at_builtin; refine wpList_append_own _ rfl _ _ 54 rfl w1.heap.size 57 i0 (.complex .f32 0 0) 1 8 Try.underlying54 hi HZ.out.1 HZ.out.2.1 HZ.out.2.2 rfl (by decide) _ _ _ rfl (HW.out.alloc _) ⟨wr.heap.size, 0, none⟩ 1 1 [.complex .f32 1065353216 0] rfl rfl ?c1 ?c2 ?c3 ?c4 ?c5 ?_)
        case c1 =>
          intro j u hj
          match j, hj with
          | 0, hj => simp at hj; subst hj; simp [Addr.add]
        case c2 => intro u hu; simp at hu; rcases hu with rfl; rfl
        case c3 => unfold maxLen; omega
        case c4 => omega
        case c5 => simp; omega
        intro v' w4 hown' hgrow _
        have hB4 : Below w1.heap.size w1 w4 := Below.grown (HB.out.alloc hsz _) hgrow (by simp; omega) (fun k' hk' => (HW.out.lt _ hk').1)
        have HB4 := hid hB4
        have HO4 := hid (show w4.ownsRow w1.heap.size 57 1 v' (k + 1) (ccells (ones (k + 1))) by rw [ones_snoc, ccells_snoc]; exact hown')
        obtain ⟨ad, rfl, had, hca⟩ := (HC1.out.below hB4).at_ hlt
        obtain ⟨z, hz⟩ : ∃ z, zs[k] = z := ⟨_, rfl⟩
        rw [hz] at hca
        have HZK := hid hz
        clear hown' hgrow hi hB4 hb hz
        by_cases hmk2 : m = k
        · subst hmk2
          go_wp2_with fail
          refine upon_cwid some_c64 Try.underlying59 ?_
          intro r i n hr hi
          have HR := hid hr
          have HI2 := hid hi
          clear hr hi
          go_wp2_with fail
          refine (isfin_any r i HR.out.wf HI2.out.wf _).mono ?_
          rintro e w5 ⟨rfl, rfl⟩
          rw [cl_fin HR.out, cl_fin HI2.out]
          rcases Bool.eq_false_or_eq_true (Fl.fin single z.1 && Fl.fin single z.2) with hq | hq
          · rw [hq]
            have HQ := hid (show zf z = true from hq)
            clear hq
            go_wp2_with fail
            go_roundw
            case rel =>
              refine ⟨m + 1, m + 1, by omega, by go_num, by go_num, Nat.le_refl _, fun j h hj => ?_, fun _ h => absurd h (by omega), HO4.out, below_drewN HB4.out _⟩
              by_cases e : j = m
              · subst e; rw [HZK.out]; exact HQ.out
              · exact HM1.out j h (by omega)
            case measure => simp [intOf]; omega
          · rw [hq]
            have HQ := hid (show zf z = false from hq)
            clear hq
            go_wp2_with fail
            go_roundw
            case rel => exact ⟨m + 1, m, by omega, by go_num, by first | rfl | go_num, by omega, HM1.out, (fun _ _ => by rw [HZK.out]; exact HQ.out), HO4.out, below_drewN HB4.out _⟩
            case measure => simp [intOf]; omega
        · have hne : ¬ ((m : Int) = (k : Int)) := by omega
          have hne2 : ((m : Int) == (k : Int)) = false := by simpa using hne
          go_wp2_with fail
          go_roundw
          case rel => exact ⟨k + 1, m, by omega, by go_num, by first | rfl | go_num, by omega, HM1.out, (fun h _ => HM2.out h (by omega)), HO4.out, HB4.out⟩
          case measure => simp [intOf]; omega
      · have : k = zs.length := by omega
        subst this
        obtain ⟨A2, c2, rfl, hcs2⟩ := own_ones hown
        have HC2 := hid hcs2
        have HCA := hid ((HC1.out.below hb).more hsz)
        clear hm1 hm2 hown hcs2 hb
        go_wp2_with fail
        refine (ratser_any A1 A2 c1 c2 zs _ HCA.out HC2.out hz5).mono ?_
        rintro e w5 ⟨A3, c3, k3, rfl, hk3, k31, k32, hcs3, hb5⟩
        have hkm : k3 = m := ser_eq hmk hk3 HM1.out (fun h => HM2.out h h) k31 k32
        subst hkm
        have HB5 := hid (bthen HB1.out (HB.out.trans (hb5.mono hsz)))
        have HC5 := hid (HCA.out.next hb5)
        have HC3 := hid hcs3
        have hmc : (k3 : Int) ≤ (c1 : Int) := by omega
        have hmz : (k3 : Int) ≤ 5 := by omega
        clear hb5 hcs3 k31 k32
        go_wp2_with fail
        refine (firstun_any A3 A1 c3 c1 k3 (rats zs k3) (zs.take k3) _ (rats_len hk3) (by rw [List.length_take]; omega) HC3.out (HC5.out.take hk3) (by omega) ?_).mono ?_
        · intro j h1 h2
          rw [rats_len hk3] at h1
          have e1 : (rats zs k3)[j]'(by rw [rats_len hk3]; exact h1) = rat1 zs[j] := by unfold rats; simp
          have e2 : (zs.take k3)[j] = zs[j] := List.getElem_take
          rw [e1, e2]
          exact rat1_same (HM1.out j (by omega) h1)
        · rintro e w6 ⟨rfl, n6, rfl⟩
          go_wp2_with fail
          go_ret
          exact ⟨rfl, below_drewN HB5.out _⟩
end Go.Proofs.Ytbloipnpgncjiaa
