/- The drawn table: l04Table, l04At, DrawTable of the reference. -/
import Derived.Test.YtbloipnpgncjiaaSingle
import Derived.Test.YtbloipnpgncjiaaMirror
import Derived.OwnWalk
import Derived.Deep.RegionWith
namespace Go.Proofs.Ytbloipnpgncjiaa
open Go.RowKit

/-- bounded points, by rising X -/
def DT (ps : List (Nat × Nat)) : Prop := (∀ i, i < ps.length → bnd 14 (ps.getD i (0, 0)).1 = true ∧ bnd 14 (ps.getD i (0, 0)).2 = true) ∧ ∀ i, i + 1 < ps.length → Fl.ky .f32 (ps.getD i (0, 0)).1 < Fl.ky .f32 (ps.getD (i + 1) (0, 0)).1
def DTab (ps : List (Nat × Nat)) : Prop := 2 ≤ ps.length ∧ ps.length ≤ 6 ∧ DT ps
theorem getD_append {α : Type} {xs ys : List α} {i : Nat} {d : α} : (xs ++ ys).getD i d = if i < xs.length then xs.getD i d else ys.getD (i - xs.length) d := by
  simp only [List.getD]
  rw [List.getElem?_append]
  split <;> rfl
theorem DT.nil : DT [] := ⟨fun i h => absurd h (by simp), fun i h => absurd h (by simp)⟩
theorem DT.snoc {ps : List (Nat × Nat)} {x y : Nat} (h : DT ps) (hl : 0 < ps.length → Fl.ky .f32 (ps.getD (ps.length - 1) (0, 0)).1 < Fl.ky .f32 x) (hx : bnd 14 x = true) (hy : bnd 14 y = true) : DT (ps ++ [(x, y)]) := by
  refine ⟨fun i hi => ?_, fun i hi => ?_⟩
  · simp only [List.length_append, List.length_cons, List.length_nil] at hi
    rw [getD_append]
    by_cases c : i < ps.length
    · rw [if_pos c]; exact h.1 i c
    · rw [if_neg c, show i - ps.length = 0 by omega]; exact ⟨hx, hy⟩
  · simp only [List.length_append, List.length_cons, List.length_nil] at hi
    rw [getD_append, getD_append, if_pos (by omega)]
    by_cases c : i + 1 < ps.length
    · rw [if_pos c]; exact h.2 i c
    · rw [if_neg c, show i + 1 - ps.length = 0 by omega]
      have := hl (by omega)
      rw [show ps.length - 1 = i by omega] at this
      exact this
theorem snoc_last {ps : List (Nat × Nat)} {p : Nat × Nat} : (ps ++ [p]).getD ((ps ++ [p]).length - 1) (0, 0) = p := by
  rw [getD_append]
  simp
theorem dtab_ok {ps : List (Nat × Nat)} (h : DTab ps) : tabOk ps = true := by
  obtain ⟨h1, h2, h3, h4⟩ := h
  refine tabOk_iff.2 ⟨⟨h1, by omega⟩, fun i hi => ?_⟩
  obtain ⟨a1, a2⟩ := h3 i hi
  have f1 := bnd_fin (by decide) a1
  have f2 := bnd_fin (by decide) a2
  by_cases h0 : i = 0
  · subst h0
    generalize hp : ps.getD 0 (0, 0) = p at f1 f2
    rw [step_zero (x := p.1) (y := p.2) hp, f1, f2]; rfl
  · obtain ⟨b1, b2⟩ := h3 (i - 1) (by omega)
    have hlt := h4 (i - 1) (by omega)
    rw [show i - 1 + 1 = i by omega] at hlt
    have g1 := bnd_fin (by decide) b1
    have g2 := bnd_fin (by decide) b2
    have s1 := bnd_fin (by decide) (sub_bnd (by decide) a1 b1)
    have s2 := bnd_fin (by decide) (sub_bnd (by decide) a2 b2)
    generalize hp : ps.getD i (0, 0) = p at *
    generalize hq : ps.getD (i - 1) (0, 0) = q at *
    have hl : Fl.lt .f32 q.1 p.1 = true := by
      rw [Fl.lt_ky, Fl.fin_nan .f32 (show Fl.fin Ieee.single q.1 = true from g1), Fl.fin_nan .f32 (show Fl.fin Ieee.single p.1 = true from f1)]
      simpa using hlt
    rw [step_next (x := p.1) (y := p.2) (x' := q.1) (y' := q.2) h0 hp hq, f1, f2, hl]
    show (true && true && (true && fin32 (sub32 p.1 q.1) && fin32 (sub32 p.2 q.2))) = true
    rw [s1, s2]; rfl
theorem Cur.keep {w w' : World} {p B : Nat} (h : Cur w p) (hb : Below B w w') (hB : p < B) : Cur w' p := by
  obtain ⟨A, n, c, i, v, h1, h2, h3, h4, h5, h6, h7, h8, h9⟩ := h
  exact ⟨A, n, c, i, v, Nat.lt_of_lt_of_le h1 hb.size, h2, h3, h4.below (hb.mono (Nat.le_of_lt hB)), (hb.cell (p := ⟨p, 0, none⟩) hB).trans h5, (hb.cell (p := ⟨p, 1, none⟩) hB).trans h6, (hb.cell (p := ⟨p, 2, none⟩) hB).trans h7, (hb.frozen (p := ⟨p, 1, none⟩) hB).trans h8, (hb.frozen (p := ⟨p, 2, none⟩) hB).trans h9⟩
theorem Upd.after {w w1 w2 : World} {p : Nat} (h : Upd p w w1) (hb : Below w.heap.size w1 w2) (hp : p < w.heap.size) : Upd p w w2 :=
  ⟨h.1.trans (hb.mono (Nat.le_of_lt hp)), fun k a b => (hb.block k b).trans (h.2 k a b)⟩

set_option maxRecDepth 20000 in
set_option maxHeartbeats 4000000 in
theorem dtable_any (p : Nat) (w : World) (hc : Cur w p) :
    Calls Try.prog 69 #[.pointer (some ⟨p, 0, none⟩)] w fun e w' => ∃ v ps, e = .returned v ∧ DTab ps ∧ w'.ownsRow w.heap.size 36 2 v ps.length (pcells ps) ∧ Cur w' p ∧ Upd p w w' := by
  have hp := hc.lt
  have HP := hid hp
  have HC := hid (hc.next (below_new w (.cells #[] 36)))
  have HU := hid (Upd.of_below (below_new w (.cells #[] 36)) hp)
  have HO := hid (World.ownsRow_lit w #[] 0 (Nat.le_refl _) (by unfold maxLen; omega) (by simp) : (w.alloc (.cells #[] 36)).ownsRow w.heap.size 36 2 (.slice (some ⟨w.heap.size, 0, none⟩) 0 0) 0 [])
  clear hc hp
  go_enter Try.func69, Try.ntmps69
  go_wp2_with fail
  refine (mild_any _ _ HC.out).mono ?_
  rintro e w1 ⟨x0, rfl, hx0, hc1, hu1⟩
  have HX0 := hid hx0
  have HC1 := hid hc1
  have HO1 := hid (hu1.own HO.out HP.out)
  have HU1 := hid (HU.out.trans hu1)
  clear hx0 hc1 hu1
  go_wp2_with fail
  refine (below_any _ _ _ HC1.out (by decide) (by decide)).mono ?_
  rintro e w2 ⟨a, rfl, a0, a1, hc2, hu2⟩
  have HC2 := hid hc2
  have HO2 := hid (hu2.own HO1.out HP.out)
  have HU2 := hid (HU1.out.trans hu2)
  clear hc2 hu2
  obtain ⟨i0, hi, hz0, hz1, hz2⟩ := info_parts Try.info_pt
  have HI := hid hi
  have HZ := hid (show i0.zero = some (.agg #[.float .f32 0, .float .f32 0]) ∧ i0.size = 2 ∧ i0.bytes = 8 from ⟨hz0, hz1, hz2⟩)
  clear hi hz0 hz1 hz2
  go_wp2_with fail
  go_loopw [3, 4, 5, 6] (fun v x n _ wr => ∃ (ps : List (Nat × Nat)) (xx r : Nat), x = .float .f32 xx ∧ n = .int .i64 r ∧ r + ps.length ≤ 6 ∧ 2 ≤ r + ps.length ∧ DT ps ∧ bnd (8 + ps.length) xx = true ∧ (0 < ps.length → Fl.ky .f32 (ps.getD (ps.length - 1) (0, 0)).1 < Fl.ky .f32 xx) ∧ wr.ownsRow w.heap.size 36 2 v ps.length (pcells ps) ∧ Cur wr p ∧ Upd p w wr) (fun _ _ n _ _ => (intOf n).toNat)
  case atStart =>
    obtain ⟨q, rfl⟩ := Int.eq_ofNat_of_zero_le a0
    exact ⟨[], x0, q + 2, rfl, by first | rfl | (congr 1; omega), by simp; omega, by simp, DT.nil, HX0.out, fun h => absurd h (by simp), HO2.out, HC2.out, HU2.out⟩
  case round =>
    obtain ⟨ps, xx, r, rfl, rfl, hr6, hr2, hd, hbx, hl, hown, hc, hu⟩ := hrel
    have HD := hid hd
    have HBX := hid hbx
    have HL := hid hl
    have HW := hid hown
    have HC := hid hc
    have HUW := hid hu
    clear hd hbx hl hown hc hu
    by_cases hr : 0 < r
    · have hrz : (0 : Int) < (r : Int) := by omega
      go_wp2_with fail
      refine (mild_any _ _ HC.out).mono ?_
      rintro e w3 ⟨y, rfl, hy, hc3, hu3⟩
      have HY := hid hy
      have HC3 := hid hc3
      have HO3 := hid (hu3.own HW.out HP.out)
      have HU3 := hid (HUW.out.trans hu3)
      clear hy hc3 hu3
      have hi := HI.out
      have hsz := HU3.out.size
      go_wp2_with (at_builtin; refine wpList_append_own _ rfl _ _ 24 rfl w.heap.size 36 i0 (.agg #[.float .f32 0, .float .f32 0]) 2 8 Try.underlying24 hi HZ.out.1 HZ.out.2.1 HZ.out.2.2 rfl (by decide) _ _ _ rfl (HO3.out.alloc _) ⟨w3.heap.size, 0, none⟩ 1 1 [.float .f32 xx, .float .f32 y] rfl rfl ?c1 ?c2 ?c3 ?c4 ?c5 ?_)
      case c1 =>
        intro j u hj
        match j, hj with
        | 0, hj => simp at hj; subst hj; simp [Addr.add]
        | 1, hj => simp at hj; subst hj; simp [Addr.add]
      case c2 => intro u hu; simp at hu; rcases hu with rfl | rfl <;> rfl
      case c3 => unfold maxLen; omega
      case c4 => omega
      case c5 => simp; omega
      · intro v' w4 hown' hgrow _
        have hB4 : Below w.heap.size w3 w4 := Below.grown ((Below.refl _ _).alloc hsz _) hgrow (by simp; omega) (fun k' hk' => (HO3.out.lt _ hk').1)
        have HO4 := hid hown'
        have HC4 := hid (HC3.out.keep hB4 HP.out)
        have HU4 := hid (HU3.out.after hB4 HP.out)
        clear hown' hgrow hB4 hi hsz
        go_wp2_with fail
        refine (below_any _ _ _ HC4.out (by decide) (by decide)).mono ?_
        rintro e w5 ⟨b, rfl, b0, b1, hc5, hu5⟩
        obtain ⟨q, rfl⟩ := Int.eq_ofNat_of_zero_le b0
        have HC5 := hid hc5
        have HO5 := hid (hu5.own HO4.out HP.out)
        have HU5 := hid (HU4.out.trans hu5)
        have hp5 := hc5.lt
        clear hc5 hu5
        go_wp2_with fail
        refine (pick_any p w5.heap.size 3 _ (fun b => ∃ k : Nat, k ∈ ([1, 3, 8] : List Nat) ∧ b = (k : Int)) _ (HC5.out.next (below_new _ _)) (by decide) (by decide) (by omega) (by simp) ?_).mono ?_
        · intro j hj
          match j, hj with
          | 0, _ => exact ⟨1, by simp, 1, by simp, rfl⟩
          | 1, _ => exact ⟨3, by simp, 3, by simp, rfl⟩
          | 2, _ => exact ⟨8, by simp, 8, by simp, rfl⟩
        · rintro e w6 ⟨d, rfl, ⟨k, hk, rfl⟩, hc6, hu6⟩
          have HC6 := hid hc6
          have HO6 := hid (hu6.own (HO5.out.alloc _) HP.out)
          have HU6 := hid ((HU5.out.alloc HP.out _).trans hu6)
          have HS := hid (step_bnd (a := q) (b := k) (by omega) hk)
          clear hc6 hu6 hk hp5
          go_wp2_with fail
          refine upon_arith (.inr (.inr (.inr rfl))) ?_
          intro r1 n1 hr1
          have ER := hid (show r1 = mildV ((q : Int) + 1) k from quo_mild (j := 6) (by decide) (bnd_iff.2 ⟨by have := HS.out.1; have := K_pos 6; omega, HS.out.2⟩) (by first | exact hr1 | (rw [Int.add_comm]; exact hr1)))
          clear hr1
          have HA := hid (add_above (s := r1) (by omega) (by omega) HBX.out (by rw [ER.out]; exact (kv_step HS.out.1 HS.out.2).1) (by rw [ER.out]; exact (kv_step HS.out.1 HS.out.2).2.1) (by rw [ER.out]; exact (kv_step HS.out.1 HS.out.2).2.2))
          go_wp2_with fail
          refine upon_bits HA.out.1 ?_
          have HAB := hid HA.out.2
          generalize Fl.arith .f32 .add xx r1 = x2 at HAB
          go_wp2_with fail
          go_roundw
          case rel =>
            exact ⟨ps ++ [(xx, y)], x2, r - 1, rfl, by congr 1; omega, by simp; omega, by simp; omega, HD.out.snoc HL.out (bnd_mono (by omega) HBX.out) (bnd_mono (by decide) HY.out), by rw [List.length_append]; exact HAB.out.1, fun _ => by rw [snoc_last]; exact HAB.out.2, by rw [pcells_snoc, List.length_append]; exact HO6.out, HC6.out.drewN _, HU6.out.drewN _⟩
          case measure => simp [intOf]; omega
    · have : r = 0 := by omega
      subst this
      go_wp2_with fail
      go_ret
      exact ⟨_, ps, rfl, ⟨by omega, by omega, HD.out⟩, HW.out, HC.out, HUW.out⟩
end Go.Proofs.Ytbloipnpgncjiaa
