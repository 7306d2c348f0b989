/- Residuals, of the program and of the reference: a new list of singles. -/
import Derived.Test.YtbloipnpgncjiaaInter
import Derived.Test.YtbloipnpgncjiaaEqE
import Derived.Test.YtbloipnpgncjiaaOwnW
import Derived.Test.YtbloipnpgncjiaaOwnP
import Derived.Test.YtbloipnpgncjiaaMirror
import Derived.OwnWalk
namespace Go.Proofs.Ytbloipnpgncjiaa
open Go.RowKit

theorem EqvL.snoc {zs L : List Nat} {z l : Nat} (h : EqvL zs L) (he : Fl.Eqv .f32 z l) : EqvL (zs ++ [z]) (L ++ [l]) := by
  obtain ⟨a, b⟩ := h
  refine ⟨by simp [a], fun k h1 h2 => ?_⟩
  simp only [List.length_append, List.length_cons, List.length_nil] at h1 h2
  by_cases c : k < zs.length
  · rw [List.getElem_append_left c, List.getElem_append_left (by omega)]; exact b k c (by omega)
  · have e : k = zs.length := by omega
    subst e
    simp only [a, List.getElem_append_right (Nat.le_refl _)]
    simpa [a] using he
def resT (ps rs : List (Nat × Nat)) : List Nat := rs.map fun r => ar .sub r.2 (interV ps r.1)
theorem resT_length (ps rs : List (Nat × Nat)) : (resT ps rs).length = rs.length := by simp [resT]
theorem res_take {ps rs : List (Nat × Nat)} {k x y : Nat} (hk : k < rs.length) (h : rs.getD k (0, 0) = (x, y)) : (resT ps rs).take (k + 1) = (resT ps rs).take k ++ [ar .sub y (interV ps x)] := by
  rw [List.take_succ_eq_append_getElem (by rw [resT_length]; exact hk)]
  congr 1
  have : rs[k] = (x, y) := by rw [← getD_at hk]; exact h
  simp [resT, this]
def resB (ps rs : List (Nat × Nat)) : Bool := decide (rs.length ≤ 100) && (List.range rs.length).all fun i => segIn ps (rs.getD i (0, 0)).1
def resR (ps rs : List (Nat × Nat)) : List Nat := if resB ps rs then resT ps rs else []
theorem resB_iff {ps rs : List (Nat × Nat)} : resB ps rs = true ↔ rs.length ≤ 100 ∧ ∀ i, i < rs.length → segIn ps (rs.getD i (0, 0)).1 = true := by simp [resB]
theorem resB_not {ps rs : List (Nat × Nat)} {k : Nat} (hk : k < rs.length) (h : segIn ps (rs.getD k (0, 0)).1 = false) : resB ps rs = false := by
  cases ht : resB ps rs
  · rfl
  · rw [(resB_iff.1 ht).2 k hk] at h; cases h
theorem resR_len (ps rs : List (Nat × Nat)) : (resR ps rs).length ≤ rs.length := by
  unfold resR
  split
  · rw [resT_length]; exact Nat.le_refl _
  · simp
theorem fcells_snoc (xs : List Nat) (x : Nat) : fcells (xs ++ [x]) = fcells xs ++ [.float .f32 x] := by simp [fcells]
/-- a new list of singles that are these (but for which NaN), or nil, and a yes or no -/
def RetR (L : List Nat) (b : Bool) (w : World) (e : Ending) (w' : World) : Prop := ∃ v zs, e = .returned (.tuple #[v, .bool b]) ∧ EqvL zs L ∧ w'.ownsRow w.heap.size 25 1 v zs.length (fcells zs) ∧ Below w.heap.size w w'

set_option maxRecDepth 20000 in
set_option maxHeartbeats 4000000 in
theorem res_spec (A B : Option Addr) (c d : Nat) (ps rs : List (Nat × Nat)) (w : World) (ha : Pts w w.heap.size A ps) (hr : Pts w w.heap.size B rs) (hn : ps.length ≤ 1048576) (hm : rs.length ≤ 1048576) :
    Calls Try.prog 55 #[.slice A ps.length c, .slice B rs.length d] w (RetR (resR ps rs) (resB ps rs) w) := by
  have hlz : (rs.length : Int) ≤ 1048576 := by omega
  have HS0 := hid ha
  have HR0 := hid hr
  have H0 := hid (below_new _ _ : Below w.heap.size w (w.alloc (.cells #[] 25)))
  have HO := hid (World.ownsRow_lit w #[] 0 (Nat.le_refl _) (by unfold maxLen; omega) (by simp) : (w.alloc (.cells #[] 25)).ownsRow w.heap.size 25 1 (.slice (some ⟨w.heap.size, 0, none⟩) 0 0) 0 [])
  clear ha hr
  by_cases hl : rs.length ≤ 100
  · have hlt100 : (rs.length : Int) ≤ 100 := by omega
    have HL := hid hl
    go_enter Try.func55, Try.ntmps55
    go_wp2_with fail
    obtain ⟨i0, hi, hz0, hz1, hz2⟩ := info_parts Try.info_f32
    have HI := hid hi
    have HZ := hid (show i0.zero = some (.float .f32 0) ∧ i0.size = 1 ∧ i0.bytes = 4 from ⟨hz0, hz1, hz2⟩)
    clear hi hz0 hz1 hz2
    go_loopw [6, 7, 8, 9] (fun v i _ _ wr => ∃ (t : Nat) (zs : List Nat), t ≤ rs.length ∧ i = .int .i64 t ∧ (∀ j, j < t → segIn ps (rs.getD j (0, 0)).1 = true) ∧ zs.length = t ∧ EqvL zs ((resT ps rs).take t) ∧ wr.ownsRow w.heap.size 25 1 v t (fcells zs) ∧ Below w.heap.size w wr) (fun _ i _ _ _ => rs.length - (intOf i).toNat)
    case atStart => exact ⟨0, [], by omega, rfl, fun j h => absurd h (by omega), rfl, EqvL.refl _, HO.out, H0.out⟩
    case round =>
      obtain ⟨t, zs, htl, rfl, hall, hzl, heq, hown, hb⟩ := hrel
      have HA := hid hall
      have HW := hid hown
      have HE := hid heq
      have HBW := hid hb
      have HZL := hid hzl
      clear hall hown heq hzl
      by_cases hlt : t < rs.length
      · obtain ⟨ad, x, y, rfl, had, hxy, hca, hca'⟩ := (HR0.out.below hb).at2 hlt
        have hkz : (t : Int) < (rs.length : Int) := by omega
        have HXY := hid hxy
        clear hb hxy
        have hszw := HBW.out.size
        go_wp2_with fail
        refine (inter_spec _ _ ps x _ ((HS0.out.below (HBW.out)).more (by first | exact HBW.out.size | (have := HBW.out.size; simp; omega))) hn).mono ?_
        rintro e w2 ⟨q, rfl, hq, hb2⟩
        have HQ := hid hq
        have HBW2 := hid (show Below w.heap.size w w2 from HBW.out.trans (hb2.mono HBW.out.size))
        have hown := own_below (HW.out) hb2
        have HO2 := hid hown
        have hcb : w2.cell? ⟨(ad.add (t * 2)).block, (ad.add (t * 2)).off + 1, none⟩ = some (.float .f32 y) := (hb2.cell (p := ⟨(ad.add (t * 2)).block, (ad.add (t * 2)).off + 1, none⟩) (by show (ad.add _).block < _; rw [block_of_add]; omega)).trans hca'
        clear hb2 hown hq
        rcases Bool.eq_false_or_eq_true (segIn ps x) with hs | hs
        · rw [hs]
          have HSN := hid (show ∀ j, j < t + 1 → segIn ps (rs.getD j (0, 0)).1 = true from fun j hj => by
            by_cases e : j = t
            · subst e; rw [HXY.out]; exact hs
            · exact HA.out j (by omega))
          clear hs
          go_wp2_with fail
          refine upon_arith (.inr (.inl rfl)) ?_
          intro r n hr
          have HRS := hid (show EqvL (zs ++ [r]) ((resT ps rs).take (t + 1)) by
            rw [res_take hlt HXY.out]
            exact HE.out.snoc (hr.arith _ (Fl.Eqv.refl _ _) HQ.out))
          clear hr
          have hsz : w.heap.size ≤ w2.heap.size := HBW2.out.size
          have hi := HI.out
          go_wp2_with (at_builtin; refine wpList_append_own _ rfl _ _ 32 rfl w.heap.size 25 i0 (.float .f32 0) 1 4 Try.underlying32 hi HZ.out.1 HZ.out.2.1 HZ.out.2.2 rfl (by decide) _ _ _ rfl (show World.ownsRow (World.drewN (World.alloc w2 _) _) _ _ _ _ _ _ from HO2.out.alloc _) ⟨w2.heap.size, 0, none⟩ 1 1 [.float .f32 r] rfl rfl ?c1 ?c2 ?c3 ?c4 ?c5 ?_)
          case c1 =>
            intro j u hj
            match j, hj with
            | 0, hj => simp at hj; subst hj; simp [Addr.add]
          case c2 => intro u hu; simp at hu; subst hu; rfl
          case c3 => unfold maxLen; omega
          case c4 => omega
          case c5 => simp; omega
          · intro v' w3 hown' hgrow _
            have HO3 := hid hown'
            have HB3 := hid (show Below w.heap.size w w3 from Below.grown (below_drewN (HBW2.out.alloc HBW2.out.size _) _) hgrow (by simp; omega) (fun k' hk' => (HO2.out.lt _ hk').1))
            clear hown' hgrow
            go_wp2_with fail
            go_roundw
            case rel => exact ⟨t + 1, zs ++ [r], by omega, by go_num, HSN.out, by rw [List.length_append, HZL.out]; rfl, HRS.out, by rw [fcells_snoc]; exact HO3.out, HB3.out⟩
            case measure => simp [intOf]; omega
        · rw [hs]
          have HN := hid (resB_not hlt (by rw [HXY.out]; exact hs))
          have HL := hid (show resR ps rs = [] by unfold resR; rw [HN.out]; rfl)
          clear hs
          go_wp2_with fail
          go_ret2
          exact ⟨_, [], by rw [HN.out]; rfl, by rw [HL.out]; exact EqvL.refl _, by exact (World.ownsRow_lit w2 #[] 0 HBW2.out.size (by unfold maxLen; omega) (by simp)), HBW2.out.alloc HBW2.out.size _⟩
      · have : t = rs.length := by omega
        subst this
        have HT := hid (resB_iff.2 ⟨HL.out, HA.out⟩)
        have HRR := hid (show EqvL zs (resR ps rs) by
          have := HE.out
          rw [← resT_length ps rs, List.take_length] at this
          unfold resR; rw [HT.out]; exact this)
        clear hb
        go_wp2_with fail
        go_ret2
        exact ⟨_, zs, by rw [HT.out]; rfl, HRR.out, by rw [HZL.out]; exact HW.out, HBW.out⟩
  · have hlz2 : (100 : Int) < (rs.length : Int) := by omega
    have HN := hid (show resB ps rs = false by unfold resB; rw [decide_eq_false hl]; rfl)
    have HL := hid (show resR ps rs = [] by unfold resR; rw [HN.out]; rfl)
    go_enter Try.func55, Try.ntmps55
    go_wp2_with fail
    go_ret2
    exact ⟨_, [], by rw [HN.out]; rfl, by rw [HL.out]; exact EqvL.refl _, HO.out, H0.out⟩

set_option maxRecDepth 20000 in
set_option maxHeartbeats 4000000 in
theorem res_impl (A B : Option Addr) (c d : Nat) (ps rs : List (Nat × Nat)) (w : World) (ha : Pts w w.heap.size A ps) (hr : Pts w w.heap.size B rs) (hn : ps.length ≤ 1048576) (hm : rs.length ≤ 1048576) :
    Calls Try.prog 56 #[.slice A ps.length c, .slice B rs.length d] w (RetR (resR ps rs) (resB ps rs) w) := by
  have hlz : (rs.length : Int) ≤ 1048576 := by omega
  have HS0 := hid ha
  have HR0 := hid hr
  have H0 := hid (Below.refl _ _ : Below w.heap.size w w)
  have HO := hid (World.ownsRow_nil _ _ _ _ : w.ownsRow w.heap.size 25 1 (.slice none 0 0) 0 [])
  clear ha hr
  by_cases hl : rs.length ≤ 100
  · have hlt100 : (rs.length : Int) ≤ 100 := by omega
    have HL := hid hl
    go_enter Try.func56, Try.ntmps56
    go_wp2_with fail
    obtain ⟨i0, hi, hz0, hz1, hz2⟩ := info_parts Try.info_f32
    have HI := hid hi
    have HZ := hid (show i0.zero = some (.float .f32 0) ∧ i0.size = 1 ∧ i0.bytes = 4 from ⟨hz0, hz1, hz2⟩)
    clear hi hz0 hz1 hz2
    go_loopw [6, 8, 9, 10, 16] (fun v _ _ _ i wr => ∃ (t : Nat) (zs : List Nat), t ≤ rs.length ∧ i = .int .i64 t ∧ (∀ j, j < t → segIn ps (rs.getD j (0, 0)).1 = true) ∧ zs.length = t ∧ EqvL zs ((resT ps rs).take t) ∧ wr.ownsRow w.heap.size 25 1 v t (fcells zs) ∧ Below w.heap.size w wr) (fun _ _ _ _ i _ => rs.length - (intOf i).toNat)
    case atStart => exact ⟨0, [], by omega, rfl, fun j h => absurd h (by omega), rfl, EqvL.refl _, HO.out, H0.out⟩
    case round =>
      obtain ⟨t, zs, htl, rfl, hall, hzl, heq, hown, hb⟩ := hrel
      have HA := hid hall
      have HW := hid hown
      have HE := hid heq
      have HBW := hid hb
      have HZL := hid hzl
      clear hall hown heq hzl
      by_cases hlt : t < rs.length
      · obtain ⟨ad, x, y, rfl, had, hxy, hca, hca'⟩ := (HR0.out.below hb).at2 hlt
        have hkz : (t : Int) < (rs.length : Int) := by omega
        have HXY := hid hxy
        clear hb hxy
        have hszw := HBW.out.size
        go_wp2_with fail
        refine (inter_impl _ _ ps x _ ((HS0.out.below (HBW.out.alloc HBW.out.size (.cells #[.float .f32 x, .float .f32 y] 36))).more (by first | exact HBW.out.size | (have := HBW.out.size; simp; omega))) hn).mono ?_
        rintro e w2 ⟨q, rfl, hq, hb2⟩
        have HQ := hid hq
        have HBW2 := hid (show Below w.heap.size w w2 from (HBW.out.alloc HBW.out.size _).trans (hb2.mono (by have := HBW.out.size; simp; omega)))
        have hown := own_below (HW.out.alloc _) hb2
        have HO2 := hid hown
        have hcb : w2.cell? ⟨wr.heap.size, 1, none⟩ = some (.float .f32 y) := (hb2.cell (p := ⟨wr.heap.size, 1, none⟩) (by simp)).trans (by simp)
        clear hb2 hown hq
        rcases Bool.eq_false_or_eq_true (segIn ps x) with hs | hs
        · rw [hs]
          have HSN := hid (show ∀ j, j < t + 1 → segIn ps (rs.getD j (0, 0)).1 = true from fun j hj => by
            by_cases e : j = t
            · subst e; rw [HXY.out]; exact hs
            · exact HA.out j (by omega))
          clear hs
          go_wp2_with fail
          refine upon_arith (.inr (.inl rfl)) ?_
          intro r n hr
          have HRS := hid (show EqvL (zs ++ [r]) ((resT ps rs).take (t + 1)) by
            rw [res_take hlt HXY.out]
            exact HE.out.snoc (hr.arith _ (Fl.Eqv.refl _ _) HQ.out))
          clear hr
          have hsz : w.heap.size ≤ w2.heap.size := HBW2.out.size
          have hi := HI.out
          go_wp2_with (at_builtin; refine wpList_append_own _ rfl _ _ 32 rfl w.heap.size 25 i0 (.float .f32 0) 1 4 Try.underlying32 hi HZ.out.1 HZ.out.2.1 HZ.out.2.2 rfl (by decide) _ _ _ rfl (show World.ownsRow (World.drewN (World.alloc w2 _) _) _ _ _ _ _ _ from HO2.out.alloc _) ⟨w2.heap.size, 0, none⟩ 1 1 [.float .f32 r] rfl rfl ?c1 ?c2 ?c3 ?c4 ?c5 ?_)
          case c1 =>
            intro j u hj
            match j, hj with
            | 0, hj => simp at hj; subst hj; simp [Addr.add]
          case c2 => intro u hu; simp at hu; subst hu; rfl
          case c3 => unfold maxLen; omega
          case c4 => omega
          case c5 => simp; omega
          · intro v' w3 hown' hgrow _
            have HO3 := hid hown'
            have HB3 := hid (show Below w.heap.size w w3 from Below.grown (below_drewN (HBW2.out.alloc HBW2.out.size _) _) hgrow (by simp; omega) (fun k' hk' => (HO2.out.lt _ hk').1))
            clear hown' hgrow
            go_wp2_with fail
            go_roundw
            case rel => exact ⟨t + 1, zs ++ [r], by omega, by go_num, HSN.out, by rw [List.length_append, HZL.out]; rfl, HRS.out, by rw [fcells_snoc]; exact HO3.out, HB3.out⟩
            case measure => simp [intOf]; omega
        · rw [hs]
          have HN := hid (resB_not hlt (by rw [HXY.out]; exact hs))
          have HL := hid (show resR ps rs = [] by unfold resR; rw [HN.out]; rfl)
          clear hs
          go_wp2_with fail
          go_ret2
          exact ⟨_, [], by rw [HN.out]; rfl, by rw [HL.out]; exact EqvL.refl _, by exact World.ownsRow_nil _ _ _ _, HBW2.out⟩
      · have : t = rs.length := by omega
        subst this
        have HT := hid (resB_iff.2 ⟨HL.out, HA.out⟩)
        have HRR := hid (show EqvL zs (resR ps rs) by
          have := HE.out
          rw [← resT_length ps rs, List.take_length] at this
          unfold resR; rw [HT.out]; exact this)
        clear hb
        go_wp2_with fail
        go_ret2
        exact ⟨_, zs, by rw [HT.out]; rfl, HRR.out, by rw [HZL.out]; exact HW.out, HBW.out⟩
  · have hlz2 : (100 : Int) < (rs.length : Int) := by omega
    have HN := hid (show resB ps rs = false by unfold resB; rw [decide_eq_false hl]; rfl)
    have HL := hid (show resR ps rs = [] by unfold resR; rw [HN.out]; rfl)
    go_enter Try.func56, Try.ntmps56
    go_wp2_with fail
    go_ret2
    exact ⟨_, [], by rw [HN.out]; rfl, by rw [HL.out]; exact EqvL.refl _, HO.out, H0.out⟩
end Go.Proofs.Ytbloipnpgncjiaa
