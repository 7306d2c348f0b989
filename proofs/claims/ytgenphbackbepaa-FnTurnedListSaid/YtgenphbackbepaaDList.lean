/- The drawn list: l06List, DrawList of the reference. -/
import Derived.Test.YtgenphbackbepaaMake
import Derived.Test.YtgenphbackbepaaOwnW
import Derived.OwnWalk
import Derived.Deep.Onto
namespace Go.Proofs.Ytgenphbackbepaa
open Go.RowKit

theorem Cur.keep {w w' : World} {p B : Nat} (h : Cur w p) (hb : Below B w w') (hB : p < B) : Cur w' p := by
  obtain ⟨A, n, c, i, v, h1, h2, h3, h4, h5, h6, h7, h8, h9⟩ := h
  exact ⟨A, n, c, i, v, Nat.lt_of_lt_of_le h1 hb.size, h2, h3, h4.below (hb.mono (Nat.le_of_lt hB)), (hb.cell (p := ⟨p, 0, none⟩) hB).trans h5, (hb.cell (p := ⟨p, 1, none⟩) hB).trans h6, (hb.cell (p := ⟨p, 2, none⟩) hB).trans h7, (hb.frozen (p := ⟨p, 1, none⟩) hB).trans h8, (hb.frozen (p := ⟨p, 2, none⟩) hB).trans h9⟩
theorem Upd.after {w w1 w2 : World} {p : Nat} (h : Upd p w w1) (hb : Below w.heap.size w1 w2) (hp : p < w.heap.size) : Upd p w w2 :=
  ⟨h.1.trans (hb.mono (Nat.le_of_lt hp)), fun k a b => (hb.block k b).trans (h.2 k a b)⟩
theorem fcells_app (xs : List Nat) (x : Nat) : fcells (xs ++ [x]) = fcells xs ++ [.float .f32 x] := by simp [fcells]

/-- what a round keeps -/
def Rnd (w : World) (p : Nat) (wr : World) (v : Value) (xs : List Nat) (r : Nat) : Prop := r + xs.length ≤ 9 ∧ (∀ x ∈ xs, fin32 x = true) ∧ wr.ownsRow w.heap.size 23 1 v xs.length (fcells xs) ∧ Cur wr p ∧ Upd p w wr
theorem rnd_tail {w : World} {p : Nat} {v : Value} {xs : List Nat} {r : Nat} (hr : 0 < r) (hr9 : r + xs.length ≤ 9) (hp : p < w.heap.size) (hall : ∀ x ∈ xs, fin32 x = true) {z : Nat} (hz : fin32 z = true) {wq : World} (hcq : Cur wq p)
    (hoq : wq.ownsRow w.heap.size 23 1 v xs.length (fcells xs)) (huq : Upd p w wq) {v' : Value} {w5 : World} {o : Obj} (hown' : w5.ownsRow w.heap.size 23 1 v' (xs.length + 1) (fcells xs ++ [.float .f32 z])) (hgrow : (wq.alloc o).grownBy w5 v.ownBlock) : Rnd w p w5 v' (xs ++ [z]) (r - 1) := by
  have hsz := huq.size
  have hB5 : Below w.heap.size wq w5 := Below.grown ((Below.refl _ _).alloc hsz _) hgrow (by simp; omega) (fun k' hk' => (hoq.lt _ hk').1)
  refine ⟨by simp; omega, ?_, by rw [fcells_app, List.length_append]; exact hown', hcq.keep hB5 hp, huq.after hB5 hp⟩
  intro x hx
  rcases List.mem_append.1 hx with hx | hx
  · exact hall x hx
  · rw [List.mem_singleton.1 hx]; exact hz

set_option maxRecDepth 20000 in
set_option maxHeartbeats 8000000 in
theorem dlist_any (p : Nat) (w : World) (hc : Cur w p) :
    Calls Try.prog 45 #[.pointer (some ⟨p, 0, none⟩)] w fun e w' => ∃ v xs, e = .returned v ∧ xs.length ≤ 9 ∧ (∀ x ∈ xs, fin32 x = true) ∧ w'.ownsRow w.heap.size 23 1 v xs.length (fcells xs) ∧ Cur w' p ∧ Upd p w w' := by
  have hp := hc.lt
  have HP := hid hp
  have HC := hid (hc.next (below_new w (.cells #[] 23)))
  have HU := hid (Upd.of_below (below_new w (.cells #[] 23)) hp)
  have HO := hid (World.ownsRow_lit w #[] 0 (Nat.le_refl _) (by unfold maxLen; omega) (by simp) : (w.alloc (.cells #[] 23)).ownsRow w.heap.size 23 1 (.slice (some ⟨w.heap.size, 0, none⟩) 0 0) 0 [])
  clear hc hp
  go_enter Try.func45, Try.ntmps45
  go_wp2_with fail
  refine (below_any _ _ _ HC.out (by decide) (by decide)).mono ?_
  rintro e w1 ⟨kd, rfl, kd0, kd1, hc1, hu1⟩
  have HC1 := hid hc1
  have HO1 := hid (hu1.own HO.out HP.out)
  have HU1 := hid (HU.out.trans hu1)
  clear hc1 hu1
  go_wp2_with fail
  refine (mild_any _ _ HC1.out).mono ?_
  rintro e w2 ⟨x0, rfl, hx0, hc2, hu2⟩
  have HX0 := hid (bnd_fin (by decide) hx0)
  have HC2 := hid hc2
  have HO2 := hid (hu2.own HO1.out HP.out)
  have HU2 := hid (HU1.out.trans hu2)
  clear hx0 hc2 hu2
  go_wp2_with fail
  refine (below_any _ _ _ HC2.out (by decide) (by decide)).mono ?_
  rintro e w3 ⟨a, rfl, a0, a1, hc3, hu3⟩
  have HC3 := hid hc3
  have HO3 := hid (hu3.own HO2.out HP.out)
  have HU3 := hid (HU2.out.trans hu3)
  clear hc3 hu3
  obtain ⟨i0, hi, hz0, hz1, hz2⟩ := info_parts Try.info_f32
  have HI := hid hi
  have HZ := hid (show i0.zero = some (.float .f32 0) ∧ i0.size = 1 ∧ i0.bytes = 4 from ⟨hz0, hz1, hz2⟩)
  clear hi hz0 hz1 hz2
  have hkd : kd = 0 ∨ kd = 1 ∨ (¬ (kd = 0) ∧ ¬ (kd = 1)) := by omega
  clear kd0 kd1
  go_wp2_with fail
  go_loopw [3, 6, 7, 8, 9] (fun v n _ _ _ wr => ∃ (xs : List Nat) (r : Nat), n = .int .i64 r ∧ Rnd w p wr v xs r) (fun _ n _ _ _ _ => (intOf n).toNat)
  case atStart =>
    obtain ⟨q, rfl⟩ := Int.eq_ofNat_of_zero_le a0
    exact ⟨[], q, rfl, by simp; omega, (fun x h => by cases h), HO3.out, HC3.out, HU3.out⟩
  case round =>
    obtain ⟨xs, r, rfl, hr9, hall, hown, hc, hu⟩ := hrel
    have HALL := hid hall
    have HW := hid hown
    have HC := hid hc
    have HUW := hid hu
    clear hall hown hc hu
    by_cases hr : 0 < r
    · have hrz : (0 : Int) < (r : Int) := by omega
      go_wp2_with fail
      refine (mild_any _ _ HC.out).mono ?_
      rintro e w4 ⟨y, rfl, hy, hc4, hu4⟩
      have HY := hid (bnd_fin (by decide) hy)
      have HC4 := hid hc4
      have HO4 := hid (hu4.own HW.out HP.out)
      have HU4 := hid (HUW.out.trans hu4)
      clear hy hc4 hu4
      rcases hkd with rfl | rfl | ⟨g1, g2⟩
      · skip
        have hi := HI.out
        have hsz := HU4.out.size
        go_wp2_with (at_builtin; refine wpList_append_own _ rfl _ _ 22 rfl w.heap.size 23 i0 (.float .f32 0) 1 4 Try.underlying22 hi HZ.out.1 HZ.out.2.1 HZ.out.2.2 rfl (by decide) _ _ _ rfl (HO4.out.alloc _) ⟨w4.heap.size, 0, none⟩ 1 1 [.float .f32 x0] rfl rfl ?c1 ?c2 ?c3 ?c4 ?c5 ?_)
        case c1 =>
          intro j u hj
          match j, hj with
          | 0, hj => simp at hj; subst hj; simp [Addr.add]
        case c2 => intro u hu; simp at hu; subst hu; rfl
        case c3 => unfold maxLen; omega
        case c4 => omega
        case c5 => simp; omega
        · intro v' w9 hown' hgrow _
          have HR := hid (rnd_tail hr hr9 HP.out HALL.out HX0.out HC4.out HO4.out HU4.out hown' hgrow)
          clear hown' hgrow hi hsz
          go_wp2_with fail
          go_roundw
          case rel => exact ⟨xs ++ [x0], r - 1, by congr 1; omega, HR.out⟩
          case measure => simp [intOf]; omega
      · go_wp2_with fail
        refine (below_any _ _ _ HC4.out (by decide) (by decide)).mono ?_
        rintro e w5 ⟨b, rfl, b0, b1, hc5, hu5⟩
        obtain ⟨m, rfl⟩ := Int.eq_ofNat_of_zero_le b0
        have HC5 := hid hc5
        have HO5 := hid (hu5.own HO4.out HP.out)
        have HU5 := hid (HU4.out.trans hu5)
        clear hc5 hu5
        go_wp2_with fail
        refine (below_any _ _ _ HC5.out (by decide) (by decide)).mono ?_
        rintro e w6 ⟨c, rfl, c0, c1, hc6, hu6⟩
        have HC6 := hid hc6
        have HO6 := hid (hu6.own HO5.out HP.out)
        have HU6 := hid (HU5.out.trans hu6)
        clear hc6 hu6
        go_wp2_with fail
        have ey : (1 : Int) + (m : Int) = ((m + 1 : Nat) : Int) := by omega
        have ey' : (m : Int) + 1 = ((m + 1 : Nat) : Int) := by omega
        first | rw [ey] | rw [ey'] | skip
        refine (make_any _ (.inl rfl) (m + 1) (by omega) (c - 40) (by omega) (by omega) _).mono ?_
        rintro e w7 ⟨z, bb, rfl, hz, n, rfl⟩
        have HZN := hid hz
        clear hz ey ey'
        go_wp2_with fail
        refine (once_any _ _ _ (HC6.out.drewN _) (by decide) (by decide)).mono ?_
        rintro e w8 ⟨b2, rfl, hc8, hu8⟩
        have HC8 := hid hc8
        have HO8 := hid (hu8.own (show (w6.drewN n).ownsRow _ _ _ _ _ _ from HO6.out) HP.out)
        have HU8 := hid ((HU6.out.drewN n).trans hu8)
        clear hc8 hu8
        cases b2
        · skip
          have hi := HI.out
          have hsz := HU8.out.size
          go_wp2_with (at_builtin; refine wpList_append_own _ rfl _ _ 22 rfl w.heap.size 23 i0 (.float .f32 0) 1 4 Try.underlying22 hi HZ.out.1 HZ.out.2.1 HZ.out.2.2 rfl (by decide) _ _ _ rfl (HO8.out.alloc _) ⟨w8.heap.size, 0, none⟩ 1 1 [.float .f32 z] rfl rfl ?c1 ?c2 ?c3 ?c4 ?c5 ?_)
          case c1 =>
            intro j u hj
            match j, hj with
            | 0, hj => simp at hj; subst hj; simp [Addr.add]
          case c2 => intro u hu; simp at hu; subst hu; rfl
          case c3 => unfold maxLen; omega
          case c4 => omega
          case c5 => simp; omega
          · intro v' w9 hown' hgrow _
            have HR := hid (rnd_tail hr hr9 HP.out HALL.out HZN.out HC8.out HO8.out HU8.out hown' hgrow)
            clear hown' hgrow hi hsz
            go_wp2_with fail
            go_roundw
            case rel => exact ⟨xs ++ [z], r - 1, by congr 1; omega, HR.out⟩
            case measure => simp [intOf]; omega
        · skip
          have hi := HI.out
          have hsz := HU8.out.size
          go_wp2_with (at_builtin; refine wpList_append_own _ rfl _ _ 22 rfl w.heap.size 23 i0 (.float .f32 0) 1 4 Try.underlying22 hi HZ.out.1 HZ.out.2.1 HZ.out.2.2 rfl (by decide) _ _ _ rfl (HO8.out.alloc _) ⟨w8.heap.size, 0, none⟩ 1 1 [.float .f32 (Op.negFloat .f32 z)] rfl rfl ?c1 ?c2 ?c3 ?c4 ?c5 ?_)
          case c1 =>
            intro j u hj
            match j, hj with
            | 0, hj => simp at hj; subst hj; simp [Addr.add]
          case c2 => intro u hu; simp at hu; subst hu; rfl
          case c3 => unfold maxLen; omega
          case c4 => omega
          case c5 => simp; omega
          · intro v' w9 hown' hgrow _
            have HR := hid (rnd_tail hr hr9 HP.out HALL.out (neg_fin HZN.out) HC8.out HO8.out HU8.out hown' hgrow)
            clear hown' hgrow hi hsz
            go_wp2_with fail
            go_roundw
            case rel => exact ⟨xs ++ [(Op.negFloat .f32 z)], r - 1, by congr 1; omega, HR.out⟩
            case measure => simp [intOf]; omega
      · skip
        have hi := HI.out
        have hsz := HU4.out.size
        go_wp2_with (at_builtin; refine wpList_append_own _ rfl _ _ 22 rfl w.heap.size 23 i0 (.float .f32 0) 1 4 Try.underlying22 hi HZ.out.1 HZ.out.2.1 HZ.out.2.2 rfl (by decide) _ _ _ rfl (HO4.out.alloc _) ⟨w4.heap.size, 0, none⟩ 1 1 [.float .f32 y] rfl rfl ?c1 ?c2 ?c3 ?c4 ?c5 ?_)
        case c1 =>
          intro j u hj
          match j, hj with
          | 0, hj => simp at hj; subst hj; simp [Addr.add]
        case c2 => intro u hu; simp at hu; subst hu; rfl
        case c3 => unfold maxLen; omega
        case c4 => omega
        case c5 => simp; omega
        · intro v' w9 hown' hgrow _
          have HR := hid (rnd_tail hr hr9 HP.out HALL.out HY.out HC4.out HO4.out HU4.out hown' hgrow)
          clear hown' hgrow hi hsz
          go_wp2_with fail
          go_roundw
          case rel => exact ⟨xs ++ [y], r - 1, by congr 1; omega, HR.out⟩
          case measure => simp [intOf]; omega
    · have : r = 0 := by omega
      subst this
      go_wp2_with fail
      go_ret
      exact ⟨_, xs, rfl, by omega, HALL.out, HW.out, HC.out, HUW.out⟩

/-- a new list of at most nine finite singles, and a number of them -/
def RetDL (w : World) (e : Ending) (w' : World) : Prop := ∃ v xs n, e = .returned (.tuple #[v, .int .i64 (n : Nat)]) ∧ xs.length ≤ 9 ∧ (∀ x ∈ xs, fin32 x = true) ∧ n ≤ xs.length ∧ w'.ownsRow w.heap.size 23 1 v xs.length (fcells xs) ∧ Below w.heap.size w w'

set_option maxRecDepth 20000 in
set_option maxHeartbeats 1000000 in
theorem drawL_any (A : Option Addr) (n c : Nat) (w : World) (hb : Byts w w.heap.size A n) (hn : n ≤ 1048576) :
    Calls Try.prog 33 #[.slice A n c] w (RetDL w) := by
  have HB := hid hb
  clear hb
  go_enter Try.func33, Try.ntmps33
  go_wp2_with fail
  refine (new_any _ _ _ _ HB.out hn).mono ?_
  rintro e w1 ⟨p, rfl, hp, hc1, hb1⟩
  have HC1 := hid hc1
  have HB1 := hid hb1
  clear hc1 hb1
  go_wp2_with fail
  refine (dlist_any _ _ HC1.out).mono ?_
  rintro e w2 ⟨v, xs, rfl, hl9, hall, hown, hc2, hu2⟩
  obtain ⟨A2, c2, g2, rfl, s2, hg2, hA2, _⟩ := own_open hown
  have HALL := hid hall
  have HO2 := hid hown
  have HC2 := hid hc2
  have HB2 := hid (HB1.out.trans (hu2.1.mono hp))
  have hp1 := HC1.out.lt
  have h9z : (xs.length : Int) ≤ 9 := by omega
  clear hown hc2 hu2 s2 hA2 hall
  go_wp2_with fail
  refine (below_any _ _ _ HC2.out (by omega) (by omega)).mono ?_
  rintro e w3 ⟨a, rfl, a0, a1, hc3, hu3⟩
  obtain ⟨q, rfl⟩ := Int.eq_ofNat_of_zero_le a0
  have HO3 := hid (hu3.own HO2.out hp1)
  have HB3 := hid (HB2.out.trans (hu3.1.mono hp))
  have hq : q ≤ xs.length := by omega
  clear hc3 hu3
  go_wp2_with fail
  go_ret2
  exact ⟨_, xs, q, rfl, hl9, HALL.out, hq, HO3.out.mono (by have := HB1.out.size; exact this), HB3.out⟩
end Go.Proofs.Ytgenphbackbepaa
