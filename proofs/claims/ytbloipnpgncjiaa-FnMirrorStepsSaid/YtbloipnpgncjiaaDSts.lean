/- Lists of steps that are drawn: l05Steps, l05Exact, DrawSteps, DrawExact of the reference. -/
import Derived.Test.YtbloipnpgncjiaaDStp
import Derived.Deep.Onto
set_option linter.unusedSimpArgs false
namespace Go.Proofs.Ytbloipnpgncjiaa
open Go.RowKit Ieee

theorem Try.info_step : (Try.prog.info? 111).map (fun i => (i.zero, i.size, i.bytes)) = some (some (.agg #[.int .i64 0, .complex .f64 0 0, .int .i64 0, .int .i64 0]), 4, 40) := by kernel_rfl
/-- a step that only turns signs and places -/
def StEx (s : St) : Prop := StOk s ∧ 5 ≤ s.k ∧ s.p = 0

set_option maxRecDepth 20000 in
set_option maxHeartbeats 4000000 in
theorem steps5_any (p : Nat) (w : World) (hc : Cur w p) :
    Calls Try.prog 95 #[.pointer (some ⟨p, 0, none⟩)] w fun e w' => ∃ v ss, e = .returned v ∧ ss.length ≤ 5 ∧ (∀ s ∈ ss, StOk s) ∧ w'.ownsRow w.heap.size 111 4 v ss.length (scells ss) ∧ Cur w' p ∧ Upd p w w' := by
  have hp := hc.lt
  have HP := hid hp
  have HC := hid (hc.next (below_new w (.cells #[] 111)))
  have HU := hid (Upd.of_below (below_new w (.cells #[] 111)) hp)
  have HO := hid (World.ownsRow_lit w #[] 0 (Nat.le_refl _) (by unfold maxLen; omega) (by simp) : (w.alloc (.cells #[] 111)).ownsRow w.heap.size 111 4 (.slice (some ⟨w.heap.size, 0, none⟩) 0 0) 0 [])
  clear hc hp
  go_enter Try.func95, Try.ntmps95
  go_wp2_with fail
  refine (below_any _ _ _ HC.out (by decide) (by decide)).mono ?_
  rintro e w2 ⟨a, rfl, a0, a1, hc2, hu2⟩
  have HC2 := hid hc2
  have HO2 := hid (hu2.own HO.out HP.out)
  have HU2 := hid (HU.out.trans hu2)
  clear hc2 hu2
  obtain ⟨i0, hi, hz0, hz1, hz2⟩ := info_parts Try.info_step
  have HI := hid hi
  have HZ := hid (show i0.zero = some (.agg #[.int .i64 0, .complex .f64 0 0, .int .i64 0, .int .i64 0]) ∧ i0.size = 4 ∧ i0.bytes = 40 from ⟨hz0, hz1, hz2⟩)
  clear hi hz0 hz1 hz2
  go_wp2_with fail
  go_loopw [3, 4] (fun v n wr => ∃ (ss : List St) (r : Nat), n = .int .i64 r ∧ r + ss.length ≤ 5 ∧ (∀ s ∈ ss, StOk s) ∧ wr.ownsRow w.heap.size 111 4 v ss.length (scells ss) ∧ Cur wr p ∧ Upd p w wr) (fun _ n _ => (intOf n).toNat)
  case atStart =>
    obtain ⟨q, rfl⟩ := Int.eq_ofNat_of_zero_le a0
    exact ⟨[], q, rfl, by simp; omega, (fun _ h => by cases h), HO2.out, HC2.out, HU2.out⟩
  case round =>
    obtain ⟨ss, r, rfl, hr5, hd, hown, hc, hu⟩ := hrel
    have HD := hid hd
    have HW := hid hown
    have HC := hid hc
    have HUW := hid hu
    clear hd hown hc hu
    by_cases hr : 0 < r
    · have hrz : (0 : Int) < (r : Int) := by omega
      go_wp2_with fail
      refine (step5_any _ _ HC.out).mono ?_
      rintro e w3 ⟨s, rfl, hs, hc3, hu3⟩
      have HS := hid hs
      have HC3 := hid hc3
      have HO3 := hid (hu3.own HW.out HP.out)
      have HU3 := hid (HUW.out.trans hu3)
      clear hs hc3 hu3
      obtain ⟨k, b, c, q, pp⟩ := s
      have hi := HI.out
      have hsz := HU3.out.size
      go_wp2_with (at_builtin; refine wpList_append_own _ rfl _ _ 71 rfl w.heap.size 111 i0 (.agg #[.int .i64 0, .complex .f64 0 0, .int .i64 0, .int .i64 0]) 4 40 Try.underlying71 hi HZ.out.1 HZ.out.2.1 HZ.out.2.2 rfl (by decide) _ _ _ rfl (HO3.out.alloc _) ⟨w3.heap.size, 0, none⟩ 1 1 [.int .i64 (k : Int), .complex .f64 b c, .int .i64 (q : Int), .int .i64 pp] rfl rfl ?c1 ?c2 ?c3 ?c4 ?c5 ?_)
      case c1 =>
        intro j u hj
        match j, hj with
        | 0, hj => simp at hj; subst hj; simp [Addr.add]
        | 1, hj => simp at hj; subst hj; simp [Addr.add]
        | 2, hj => simp at hj; subst hj; simp [Addr.add]
        | 3, hj => simp at hj; subst hj; simp [Addr.add]
      case c2 => intro u hu; simp at hu; rcases hu with rfl | rfl | rfl | rfl <;> rfl
      case c3 => unfold maxLen; omega
      case c4 => omega
      case c5 => simp; omega
      intro v' w4 hown' hgrow _
      have hB4 : Below w.heap.size w3 w4 := Below.grown ((Below.refl _ _).alloc hsz _) hgrow (by simp; omega) (fun k' hk' => (HO3.out.lt _ hk').1)
      have HO4 := hid hown'
      have HC4 := hid (HC3.out.keep hB4 HP.out)
      have HU4 := hid (HU3.out.after hB4 HP.out)
      clear hown' hgrow hB4 hi hsz
      go_wp2_with fail
      go_roundw
      case rel =>
        exact ⟨ss ++ [⟨k, b, c, q, pp⟩], r - 1, by congr 1; omega, by simp; omega, (fun s hs => by
          rcases List.mem_append.1 hs with h | h
          · exact HD.out s h
          · simp at h; subst h; exact HS.out), by rw [scells_snoc, List.length_append]; exact HO4.out, HC4.out, HU4.out⟩
      case measure => simp [intOf]; omega
    · have : r = 0 := by omega
      subst this
      go_wp2_with fail
      go_ret
      exact ⟨_, ss, rfl, by omega, HD.out, HW.out, HC.out, HUW.out⟩

set_option maxRecDepth 20000 in
set_option maxHeartbeats 4000000 in
theorem exact5_any (p : Nat) (w : World) (hc : Cur w p) :
    Calls Try.prog 102 #[.pointer (some ⟨p, 0, none⟩)] w fun e w' => ∃ v ss, e = .returned v ∧ ss.length ≤ 5 ∧ (∀ s ∈ ss, StEx s) ∧ w'.ownsRow w.heap.size 111 4 v ss.length (scells ss) ∧ Cur w' p ∧ Upd p w w' := by
  have hp := hc.lt
  have HP := hid hp
  have HC := hid (hc.next (below_new w (.cells #[] 111)))
  have HU := hid (Upd.of_below (below_new w (.cells #[] 111)) hp)
  have HO := hid (World.ownsRow_lit w #[] 0 (Nat.le_refl _) (by unfold maxLen; omega) (by simp) : (w.alloc (.cells #[] 111)).ownsRow w.heap.size 111 4 (.slice (some ⟨w.heap.size, 0, none⟩) 0 0) 0 [])
  clear hc hp
  go_enter Try.func102, Try.ntmps102
  go_wp2_with fail
  refine (below_any _ _ _ HC.out (by decide) (by decide)).mono ?_
  rintro e w2 ⟨a, rfl, a0, a1, hc2, hu2⟩
  have HC2 := hid hc2
  have HO2 := hid (hu2.own HO.out HP.out)
  have HU2 := hid (HU.out.trans hu2)
  clear hc2 hu2
  obtain ⟨i0, hi, hz0, hz1, hz2⟩ := info_parts Try.info_step
  have HI := hid hi
  have HZ := hid (show i0.zero = some (.agg #[.int .i64 0, .complex .f64 0 0, .int .i64 0, .int .i64 0]) ∧ i0.size = 4 ∧ i0.bytes = 40 from ⟨hz0, hz1, hz2⟩)
  clear hi hz0 hz1 hz2
  go_wp2_with fail
  go_loopw [3, 4] (fun v n wr => ∃ (ss : List St) (r : Nat), n = .int .i64 r ∧ r + ss.length ≤ 5 ∧ (∀ s ∈ ss, StEx s) ∧ wr.ownsRow w.heap.size 111 4 v ss.length (scells ss) ∧ Cur wr p ∧ Upd p w wr) (fun _ n _ => (intOf n).toNat)
  case atStart =>
    obtain ⟨q, rfl⟩ := Int.eq_ofNat_of_zero_le a0
    exact ⟨[], q, rfl, by simp; omega, (fun _ h => by cases h), HO2.out, HC2.out, HU2.out⟩
  case round =>
    obtain ⟨ss, r, rfl, hr5, hd, hown, hc, hu⟩ := hrel
    have HD := hid hd
    have HW := hid hown
    have HC := hid hc
    have HUW := hid hu
    clear hd hown hc hu
    by_cases hr : 0 < r
    · have hrz : (0 : Int) < (r : Int) := by omega
      go_wp2_with fail
      refine (below_any _ _ _ HC.out (by decide) (by decide)).mono ?_
      rintro e w3 ⟨d, rfl, d0, d1, hc3, hu3⟩
      have HC3 := hid hc3
      have HO3 := hid (hu3.own HW.out HP.out)
      have HU3 := hid (HUW.out.trans hu3)
      clear hc3 hu3
      have hd : d = 0 ∨ d = 1 ∨ d = 2 := by omega
      clear d0 d1
      rcases hd with rfl | rfl | rfl
      · skip
        have hi := HI.out
        have hsz := HU3.out.size
        go_wp2_with (at_builtin; refine wpList_append_own _ rfl _ _ 71 rfl w.heap.size 111 i0 (.agg #[.int .i64 0, .complex .f64 0 0, .int .i64 0, .int .i64 0]) 4 40 Try.underlying71 hi HZ.out.1 HZ.out.2.1 HZ.out.2.2 rfl (by decide) _ _ _ rfl (HO3.out.alloc _) ⟨w3.heap.size, 0, none⟩ 1 1 [.int .i64 5, .complex .f64 0 0, .int .i64 0, .int .i64 0] rfl rfl ?c1 ?c2 ?c3 ?c4 ?c5 ?_)
        case c1 =>
          intro j u hj
          match j, hj with
          | 0, hj => simp at hj; subst hj; simp [Addr.add]
          | 1, hj => simp at hj; subst hj; simp [Addr.add]
          | 2, hj => simp at hj; subst hj; simp [Addr.add]
          | 3, hj => simp at hj; subst hj; simp [Addr.add]
        case c2 => intro u hu; simp at hu; rcases hu with rfl | rfl | rfl | rfl <;> rfl
        case c3 => unfold maxLen; omega
        case c4 => omega
        case c5 => simp; omega
        intro v' w4 hown' hgrow _
        have hB4 : Below w.heap.size w3 w4 := Below.grown ((Below.refl _ _).alloc hsz _) hgrow (by simp; omega) (fun k' hk' => (HO3.out.lt _ hk').1)
        have HO4 := hid hown'
        have HC4 := hid (HC3.out.keep hB4 HP.out)
        have HU4 := hid (HU3.out.after hB4 HP.out)
        clear hown' hgrow hB4 hi hsz
        go_wp2_with fail
        go_roundw
        case rel =>
          exact ⟨ss ++ [⟨5, 0, 0, 0, 0⟩], r - 1, by congr 1; omega, by simp; omega, (fun s hs => by
            rcases List.mem_append.1 hs with h | h
            · exact HD.out s h
            · simp at h; subst h; exact ⟨⟨by dsimp only; omega, by dsimp only; omega, prt_key (by dsimp only; decide) (by dsimp only; decide +kernel), prt_key (by dsimp only; decide) (by dsimp only; decide +kernel), (fun h => by cases h), (fun _ => by dsimp only; decide +kernel), (fun h => by cases h), (fun _ => ⟨rfl, rfl⟩)⟩, by dsimp only; omega, rfl⟩), by rw [scells_snoc, List.length_append]; exact HO4.out, HC4.out, HU4.out⟩
        case measure => simp [intOf]; omega
      · skip
        have hi := HI.out
        have hsz := HU3.out.size
        go_wp2_with (at_builtin; refine wpList_append_own _ rfl _ _ 71 rfl w.heap.size 111 i0 (.agg #[.int .i64 0, .complex .f64 0 0, .int .i64 0, .int .i64 0]) 4 40 Try.underlying71 hi HZ.out.1 HZ.out.2.1 HZ.out.2.2 rfl (by decide) _ _ _ rfl (HO3.out.alloc _) ⟨w3.heap.size, 0, none⟩ 1 1 [.int .i64 6, .complex .f64 0 0, .int .i64 0, .int .i64 0] rfl rfl ?c1 ?c2 ?c3 ?c4 ?c5 ?_)
        case c1 =>
          intro j u hj
          match j, hj with
          | 0, hj => simp at hj; subst hj; simp [Addr.add]
          | 1, hj => simp at hj; subst hj; simp [Addr.add]
          | 2, hj => simp at hj; subst hj; simp [Addr.add]
          | 3, hj => simp at hj; subst hj; simp [Addr.add]
        case c2 => intro u hu; simp at hu; rcases hu with rfl | rfl | rfl | rfl <;> rfl
        case c3 => unfold maxLen; omega
        case c4 => omega
        case c5 => simp; omega
        intro v' w4 hown' hgrow _
        have hB4 : Below w.heap.size w3 w4 := Below.grown ((Below.refl _ _).alloc hsz _) hgrow (by simp; omega) (fun k' hk' => (HO3.out.lt _ hk').1)
        have HO4 := hid hown'
        have HC4 := hid (HC3.out.keep hB4 HP.out)
        have HU4 := hid (HU3.out.after hB4 HP.out)
        clear hown' hgrow hB4 hi hsz
        go_wp2_with fail
        go_roundw
        case rel =>
          exact ⟨ss ++ [⟨6, 0, 0, 0, 0⟩], r - 1, by congr 1; omega, by simp; omega, (fun s hs => by
            rcases List.mem_append.1 hs with h | h
            · exact HD.out s h
            · simp at h; subst h; exact ⟨⟨by dsimp only; omega, by dsimp only; omega, prt_key (by dsimp only; decide) (by dsimp only; decide +kernel), prt_key (by dsimp only; decide) (by dsimp only; decide +kernel), (fun h => by cases h), (fun _ => by dsimp only; decide +kernel), (fun h => by cases h), (fun _ => ⟨rfl, rfl⟩)⟩, by dsimp only; omega, rfl⟩), by rw [scells_snoc, List.length_append]; exact HO4.out, HC4.out, HU4.out⟩
        case measure => simp [intOf]; omega
      · go_wp2_with fail
        refine (below_any _ _ _ HC3.out (by decide) (by decide)).mono ?_
        rintro e w5 ⟨x, rfl, x0, x1, hc5, hu5⟩
        obtain ⟨q, rfl⟩ := Int.eq_ofNat_of_zero_le x0
        have HC5 := hid hc5
        have HO5 := hid (hu5.own HO3.out HP.out)
        have HU5 := hid (HU3.out.trans hu5)
        clear hc5 hu5
        have hi := HI.out
        have hsz := HU5.out.size
        go_wp2_with (at_builtin; refine wpList_append_own _ rfl _ _ 71 rfl w.heap.size 111 i0 (.agg #[.int .i64 0, .complex .f64 0 0, .int .i64 0, .int .i64 0]) 4 40 Try.underlying71 hi HZ.out.1 HZ.out.2.1 HZ.out.2.2 rfl (by decide) _ _ _ rfl (HO5.out.alloc _) ⟨w5.heap.size, 0, none⟩ 1 1 [.int .i64 7, .complex .f64 0 0, .int .i64 (q : Int), .int .i64 0] rfl rfl ?c1 ?c2 ?c3 ?c4 ?c5 ?_)
        case c1 =>
          intro j u hj
          match j, hj with
          | 0, hj => simp at hj; subst hj; simp [Addr.add]
          | 1, hj => simp at hj; subst hj; simp [Addr.add]
          | 2, hj => simp at hj; subst hj; simp [Addr.add]
          | 3, hj => simp at hj; subst hj; simp [Addr.add]
        case c2 => intro u hu; simp at hu; rcases hu with rfl | rfl | rfl | rfl <;> rfl
        case c3 => unfold maxLen; omega
        case c4 => omega
        case c5 => simp; omega
        intro v' w4 hown' hgrow _
        have hB4 : Below w.heap.size w5 w4 := Below.grown ((Below.refl _ _).alloc hsz _) hgrow (by simp; omega) (fun k' hk' => (HO5.out.lt _ hk').1)
        have HO4 := hid hown'
        have HC4 := hid (HC5.out.keep hB4 HP.out)
        have HU4 := hid (HU5.out.after hB4 HP.out)
        clear hown' hgrow hB4 hi hsz
        go_wp2_with fail
        go_roundw
        case rel =>
          exact ⟨ss ++ [⟨7, 0, 0, q, 0⟩], r - 1, by congr 1; omega, by simp; omega, (fun s hs => by
            rcases List.mem_append.1 hs with h | h
            · exact HD.out s h
            · simp at h; subst h; exact ⟨⟨by dsimp only; omega, by dsimp only; omega, prt_key (by dsimp only; decide) (by dsimp only; decide +kernel), prt_key (by dsimp only; decide) (by dsimp only; decide +kernel), (fun h => by cases h), (fun _ => by dsimp only; decide +kernel), (fun _ => ⟨by dsimp only; omega, .inl rfl⟩), (fun h => absurd rfl h)⟩, by dsimp only; omega, rfl⟩), by rw [scells_snoc, List.length_append]; exact HO4.out, HC4.out, HU4.out⟩
        case measure => simp [intOf]; omega
    · have : r = 0 := by omega
      subst this
      go_wp2_with fail
      go_ret
      exact ⟨_, ss, rfl, by omega, HD.out, HW.out, HC.out, HUW.out⟩

/-- a new list of steps, and a number -/
def RetDS (w : World) (e : Ending) (w' : World) : Prop := ∃ v ss x y, e = .returned (.tuple #[v, .complex .f64 x y]) ∧ x < 2 ^ 64 ∧ y < 2 ^ 64 ∧ ss.length ≤ 5 ∧ (∀ s ∈ ss, StOk s) ∧ w'.ownsRow w.heap.size 111 4 v ss.length (scells ss) ∧ Below w.heap.size w w'

set_option maxRecDepth 20000 in
set_option maxHeartbeats 1000000 in
theorem drawS_any (A : Option Addr) (n c : Nat) (w : World) (hb : Byts w w.heap.size A n) (hn : n ≤ 1048576) :
    Calls Try.prog 59 #[.slice A n c] w (RetDS w) := by
  have HB := hid hb
  clear hb
  go_enter Try.func59, Try.ntmps59
  go_wp2_with fail
  refine (new_any _ _ _ _ HB.out hn).mono ?_
  rintro e w1 ⟨p, rfl, hp, hc1, hb1⟩
  have HC1 := hid hc1
  have HB1 := hid hb1
  have hp1 := hc1.lt
  clear hc1 hb1
  go_wp2_with fail
  refine (steps5_any _ _ HC1.out).mono ?_
  rintro e w2 ⟨v, ss, rfl, hl, hd, hown, hc2, hu2⟩
  have HL := hid hl
  have HD := hid hd
  have HO2 := hid hown
  have HC2 := hid hc2
  have HB2 := hid (HB1.out.trans (hu2.1.mono hp))
  clear hl hd hown hc2 hu2
  go_wp2_with fail
  refine (num_any _ _ HC2.out).mono ?_
  rintro e w3 ⟨x, y, rfl, hx, hy, hc3, hu3⟩
  have HX := hid hx
  have HY := hid hy
  have HO3 := hid (hu3.own HO2.out hp1)
  have HB3 := hid (HB2.out.trans (hu3.1.mono hp))
  clear hx hy hc3 hu3
  go_wp2_with fail
  go_ret2
  exact ⟨_, ss, x, y, rfl, HX.out, HY.out, HL.out, HD.out, HO3.out.mono (by have := HB1.out.size; exact this), HB3.out⟩

/-- a new list of steps, and a number -/
def RetDE (w : World) (e : Ending) (w' : World) : Prop := ∃ v ss x y, e = .returned (.tuple #[v, .complex .f64 x y]) ∧ x < 2 ^ 64 ∧ y < 2 ^ 64 ∧ ss.length ≤ 5 ∧ (∀ s ∈ ss, StEx s) ∧ w'.ownsRow w.heap.size 111 4 v ss.length (scells ss) ∧ Below w.heap.size w w'

set_option maxRecDepth 20000 in
set_option maxHeartbeats 1000000 in
theorem drawE_any (A : Option Addr) (n c : Nat) (w : World) (hb : Byts w w.heap.size A n) (hn : n ≤ 1048576) :
    Calls Try.prog 65 #[.slice A n c] w (RetDE w) := by
  have HB := hid hb
  clear hb
  go_enter Try.func65, Try.ntmps65
  go_wp2_with fail
  refine (new_any _ _ _ _ HB.out hn).mono ?_
  rintro e w1 ⟨p, rfl, hp, hc1, hb1⟩
  have HC1 := hid hc1
  have HB1 := hid hb1
  have hp1 := hc1.lt
  clear hc1 hb1
  go_wp2_with fail
  refine (exact5_any _ _ HC1.out).mono ?_
  rintro e w2 ⟨v, ss, rfl, hl, hd, hown, hc2, hu2⟩
  have HL := hid hl
  have HD := hid hd
  have HO2 := hid hown
  have HC2 := hid hc2
  have HB2 := hid (HB1.out.trans (hu2.1.mono hp))
  clear hl hd hown hc2 hu2
  go_wp2_with fail
  refine (num_any _ _ HC2.out).mono ?_
  rintro e w3 ⟨x, y, rfl, hx, hy, hc3, hu3⟩
  have HX := hid hx
  have HY := hid hy
  have HO3 := hid (hu3.own HO2.out hp1)
  have HB3 := hid (HB2.out.trans (hu3.1.mono hp))
  clear hx hy hc3 hu3
  go_wp2_with fail
  go_ret2
  exact ⟨_, ss, x, y, rfl, HX.out, HY.out, HL.out, HD.out, HO3.out.mono (by have := HB1.out.size; exact this), HB3.out⟩
end Go.Proofs.Ytbloipnpgncjiaa
