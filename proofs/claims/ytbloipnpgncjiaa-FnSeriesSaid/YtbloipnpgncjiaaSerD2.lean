/- DrawFirstUnequal of the reference: its first list is a series of at most five numbers. -/
import Derived.Test.YtbloipnpgncjiaaSerD
import Derived.Laws.OwnMore
namespace Go.Proofs.Ytbloipnpgncjiaa
open Go.RowKit Ieee

/-- a drawn list, and another one -/
def RetFU (w : World) (e : Ending) (w' : World) : Prop :=
  ∃ A c v2 zs, e = .returned (.tuple #[.slice A zs.length c, v2]) ∧ zs.length ≤ 5 ∧ zs.length ≤ c ∧ Cs w' w'.heap.size A zs ∧ Below w.heap.size w w'
theorem ccells_set (zs : List (Nat × Nat)) (j x y : Nat) : (ccells zs).set j (.complex .f32 x y) = ccells (zs.set j (x, y)) := by
  unfold ccells
  rw [List.map_set]
theorem own_cs {w : World} {base : Nat} {t : TypeId} {g c : Nat} {L : List (Nat × Nat)} (h : w.ownsRow base t 1 (.slice (some ⟨g, 0, none⟩) L.length c) L.length (ccells L)) : Cs w w.heap.size (some ⟨g, 0, none⟩) L := Reads.of_own h

theorem own_keep {w w' : World} {b B size n : Nat} {t : TypeId} {v : Value} {xs : List Value} (h : w.ownsRow b t size v n xs) (hg : ∀ k, v.ownBlock = some k → k < B) (hb : Below B w w') : w'.ownsRow b t size v n xs := by
  obtain ⟨h1, h2⟩ := h
  refine ⟨h1, ?_⟩
  rcases h2 with h2 | ⟨g, cap, cur, rfl, b, c, d⟩
  · exact .inl h2
  · exact .inr ⟨g, cap, cur, rfl, b, (hb.block g (hg g rfl)).trans c, d⟩

set_option maxRecDepth 20000 in
set_option maxHeartbeats 8000000 in
theorem drawFU_any (A : Option Addr) (n c : Nat) (w : World) (hb : Byts w w.heap.size A n) (hn : n ≤ 1048576) :
    Calls Try.prog 48 #[.slice A n c] w (RetFU w) := by
  have HB := hid hb
  clear hb
  obtain ⟨i0, hi, hz0, hz1, hz2⟩ := info_parts Try.info_c64
  have HI := hid hi
  have HZ := hid (show i0.zero = some (.complex .f32 0 0) ∧ i0.size = 1 ∧ i0.bytes = 8 from ⟨hz0, hz1, hz2⟩)
  clear hi hz0 hz1 hz2
  go_enter Try.func48, Try.ntmps48
  go_wp2_with fail
  refine (new_any _ _ _ _ HB.out hn).mono ?_
  rintro e w1 ⟨p, rfl, hp, hc1, hb1⟩
  have HC1 := hid hc1
  have HB1 := hid hb1
  have HP := hid (show p < w1.heap.size from hc1.lt)
  clear hc1 hb1
  go_wp2_with fail
  refine (series_any _ _ HC1.out).mono ?_
  rintro e w2 ⟨g, ca, zs, rfl, hz5, hzc, hown, hc2, hu2⟩
  have HC2 := hid hc2
  have HO2 := hid hown
  have HB2 := hid (HB1.out.trans (hu2.1.mono hp))
  clear hown hc2 hu2
  go_wp2_with fail
  refine (once_any _ _ _ HC2.out (by decide) (by decide)).mono ?_
  rintro e w3 ⟨b, rfl, hc3, hu3⟩
  have HC3 := hid hc3
  have HO3 := hid (hu3.own HO2.out HP.out)
  have HB3 := hid (HB2.out.trans (hu3.1.mono hp))
  clear hc3 hu3
  cases b
  case' true =>
    go_wp2_with fail
    refine (series_any _ _ HC3.out).mono ?_
    rintro e w4 ⟨g2, c2, z2, rfl, _, _, _, hc4, hu4⟩
    have HO4 := hid (hu4.own HO3.out HP.out)
    have HB4 := hid (HB3.out.trans (hu4.1.mono hp))
    clear hc4 hu4
    go_wp2_with fail
    go_ret2
    exact ⟨_, ca, _, zs, rfl, hz5, hzc, own_cs HO4.out, HB4.out⟩
  have HS := hid (own_cs HO3.out)
  have hlen := ccells_len zs
  have hcn := below_new w3 (.cells #[] 57)
  have HCN := hid hcn
  have hlit := (World.ownsRow_lit w3 #[] 0 (Nat.le_refl _) (by unfold maxLen; omega) (by simp) : (w3.alloc (.cells #[] 57)).ownsRow w3.heap.size 57 1 (.slice (some ⟨w3.heap.size, 0, none⟩) 0 0) 0 [])
  have HL := hid hlit
  have HSN := hid (HS.out.next hcn)
  have hp3 : p < w3.heap.size := HC3.out.lt
  have HP3 := hid hp3
  have hi := HI.out
  have hzz : (zs.length : Int) ≤ 5 := by omega
  clear hcn hlit
  go_wp2_with (at_builtin; refine wpList_append_own _ rfl _ _ 54 rfl w3.heap.size 57 i0 (.complex .f32 0 0) 1 8 Try.underlying54 hi HZ.out.1 HZ.out.2.1 HZ.out.2.2 rfl (by decide) _ _ _ rfl HL.out ⟨g, 0, none⟩ zs.length ca (ccells zs) rfl ?c1 ?c2 ?c3 ?c4 ?c5 ?c6 ?_)
  case c1 => rw [hlen]; omega
  case c2 =>
    intro j u hj
    have hn : 0 < zs.length := by
      cases zs with
      | nil => simp [ccells] at hj
      | cons z zs => simp
    obtain ⟨ad, e, _, hcell⟩ := HSN.out.2 hn
    cases e
    exact hcell j u hj
  case c3 =>
    intro u hu
    simp only [ccells, List.mem_map] at hu
    obtain ⟨z, _, rfl⟩ := hu
    rfl
  case c4 => unfold maxLen; omega
  case c5 => omega
  case c6 => simp
  intro v4 w4 hown' hgrow _
  have hB4 : Below w3.heap.size w3 w4 := Below.grown (HCN.out) hgrow (by simp) (by intro k hk; simp [Value.ownBlock] at hk; omega)
  have hown2 : w4.ownsRow w3.heap.size 57 1 v4 zs.length (ccells zs) := by simpa using hown'
  obtain ⟨A4, c4, rfl, _, hcap4, hg4⟩ := own_openC hown2 rfl
  have HV4 := hid hown2
  have HS4 := hid hB4.size
  have HGA := hid (fun k hk => (HO3.out.lt k hk).2)
  have HG4 := hid hg4
  have HC4 := hid (HC3.out.keep hB4 hp3)
  have HO4 := hid (own_below HO3.out hB4)
  have HB4 := hid (bthen HB3.out hB4)
  clear hown' hown2 hgrow hB4 hi hlen hg4
  by_cases h0 : zs.length = 0
  case' pos =>
    have h0z : ¬ ((0 : Int) < (zs.length : Int)) := by omega
    clear h0
    obtain ⟨zb, hzb⟩ : ∃ zb, zs = zb := ⟨_, rfl⟩
    have HV5 := hid (show w4.ownsRow w3.heap.size 57 1 (.slice A4 zs.length c4) zs.length (ccells zb) from hzb ▸ HV4.out)
    have HC5 := HC4
    have HS5 := HS4
    have HO5 := HO4
    have HB5 := HB4
    clear hzb HV4 HC4 HO4 HB4
    go_wp2_with fail
  case' neg =>
    have h0z : (0 : Int) < (zs.length : Int) := by omega
    obtain ⟨g4, rfl, hgb, hgs⟩ := HG4.out (by omega)
    go_wp2_with fail
    refine (once_any _ _ _ HC4.out (by decide) (by decide)).mono ?_
    rintro e w41 ⟨b2, rfl, hc41, hu41⟩
    have HC41 := hid hc41
    have HO41 := hid (hu41.own HO4.out HP.out)
    have HV41 := hid (hu41.own HV4.out HP3.out)
    have HB41 := hid (HB4.out.trans (hu41.1.mono hp))
    have HS41 := hid (Nat.le_trans HS4.out hu41.1.size)
    clear hc41 hu41
    cases b2
    case' false =>
      obtain ⟨zb, hzb⟩ : ∃ zb, zs = zb := ⟨_, rfl⟩
      have HV5 := hid (show w41.ownsRow w3.heap.size 57 1 (.slice (some ⟨g4, 0, none⟩) zs.length c4) zs.length (ccells zb) from hzb ▸ HV41.out)
      have HC5 := HC41
      have HS5 := HS41
      have HO5 := HO41
      have HB5 := HB41
      clear hzb HV41 HC41 HO41 HB41
      go_wp2_with fail
    case' true =>
      go_wp2_with fail
      refine (below_any _ _ _ HC41.out (by omega) (by omega)).mono ?_
      rintro e w42 ⟨ix, rfl, x0, x1, hc42, hu42⟩
      obtain ⟨j, rfl⟩ := Int.eq_ofNat_of_zero_le x0
      have hjn : j < zs.length := by omega
      have HC42 := hid hc42
      have HO42 := hid (hu42.own HO41.out HP.out)
      have HV42 := hid (hu42.own HV41.out HP3.out)
      have HB42 := hid (HB41.out.trans (hu42.1.mono hp))
      have HS42 := hid hu42.1.size
      clear hc42 hu42 x0
      go_wp2_with fail
      refine (narrow_any _ _ HC42.out).mono ?_
      rintro e w43 ⟨x, y, rfl, hc43, hu43⟩
      have HC43 := hid hc43
      have HO43 := hid (hu43.own HO42.out HP.out)
      have HV43 := hid (hu43.own HV42.out HP3.out)
      have HB43 := hid (HB42.out.trans (hu43.1.mono hp))
      have HS5 := hid (Nat.le_trans (Nat.le_trans HS41.out HS42.out) (Nat.le_trans hu43.1.size (Nat.le_of_eq (show w43.heap.size = (w43.setCell ⟨g4, j, none⟩ (.complex .f32 x y)).heap.size by simp [World.setCell]))))
      clear hc43 hu43
      obtain ⟨zb, hzb⟩ : ∃ zb, zs.set j (x, y) = zb := ⟨_, rfl⟩
      have hst := (HV43.out.stored j (.complex .f32 x y)).1
      rw [ccells_set, hzb] at hst
      have hcj : w43.cell? ⟨g4, j, none⟩ = some (.complex .f32 zs[j].1 zs[j].2) := by rw [World.ownsRow.cellAt HV43.out j (by omega)]; simp [ccells, hjn]
      have hfj := World.ownsRow.frozenAt HV43.out j
      have HV5 := hid hst
      have HC5 := hid (HC43.out.keep (B := w3.heap.size) ((Below.refl _ _).setCell (p := ⟨g4, j, none⟩) hgb (.complex .f32 x y)) HP3.out)
      have HO5 := hid (own_keep HO43.out HGA.out ((Below.refl w3.heap.size w43).setCell (p := ⟨g4, j, none⟩) hgb (.complex .f32 x y)))
      have HB5 := hid (HB43.out.setCell (p := ⟨g4, j, none⟩) (Nat.le_trans (Nat.le_trans hp (Nat.le_of_lt HP3.out)) hgb) (.complex .f32 x y))
      have hjz : (j : Int) < (zs.length : Int) := by omega
      clear hst hzb
      go_wp2_with fail
  all_goals
      refine (once_any p 4 _ HC5.out (by decide) (by decide)).mono ?_
      rintro e w6 ⟨b4, rfl, hc6, hu6⟩
      have HC6 := hid hc6
      have HO6 := hid (hu6.own HO5.out HP.out)
      have HV6 := hid (hu6.own HV5.out HP3.out)
      have HB6 := hid (HB5.out.trans (hu6.1.mono hp))
      have HS6 := hid (Nat.le_trans HS5.out hu6.1.size)
      clear hc6 hu6
      cases b4
      · go_wp2_with fail
        go_ret2
        exact ⟨_, ca, _, zs, rfl, hz5, hzc, own_cs HO6.out, HB6.out⟩
      · have hi := HI.out
        have hs36 : w3.heap.size ≤ w6.heap.size := HS6.out
        go_wp2_with (at_builtin; refine wpList_append_own _ rfl _ _ 54 rfl w3.heap.size 57 i0 (.complex .f32 0 0) 1 8 Try.underlying54 hi HZ.out.1 HZ.out.2.1 HZ.out.2.2 rfl (by decide) _ _ _ rfl (HV6.out.alloc _) ⟨w6.heap.size, 0, none⟩ 1 1 [.complex .f32 1065353216 0] rfl rfl ?d1 ?d2 ?d3 ?d4 ?d5 ?_)
        case d1 =>
          intro j u hj
          match j, hj with
          | 0, hj => simp at hj; subst hj; simp [Addr.add]
        case d2 => intro u hu; simp at hu; rcases hu with rfl; rfl
        case d3 => unfold maxLen; omega
        case d4 => omega
        case d5 => simp; omega
        intro v7 w7 hown7 hgrow7 _
        have hB7 : Below w3.heap.size w6 w7 := Below.grown ((Below.refl _ _).alloc hs36 _) hgrow7 (by simp; omega) (fun k' hk' => (HV6.out.lt _ hk').1)
        have HO7 := hid (own_keep HO6.out HGA.out hB7)
        have HB7 := hid (HB6.out.trans (hB7.mono (Nat.le_trans hp (Nat.le_of_lt HP3.out))))
        clear hown7 hgrow7 hB7 hi
        go_wp2_with fail
        go_ret2
        exact ⟨_, ca, _, zs, rfl, hz5, hzc, own_cs HO7.out, HB7.out⟩
end Go.Proofs.Ytbloipnpgncjiaa
