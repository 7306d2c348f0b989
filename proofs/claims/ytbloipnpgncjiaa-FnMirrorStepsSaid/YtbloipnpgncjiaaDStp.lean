/- Steps that are drawn: l03Turn, l05Step of the reference. -/
import Derived.Test.YtbloipnpgncjiaaDNum
import Derived.Test.YtbloipnpgncjiaaSts
set_option linter.unusedSimpArgs false
namespace Go.Proofs.Ytbloipnpgncjiaa
open Go.RowKit Ieee

theorem below_set {w w' : World} {B b : Nat} (h : Below B w w') (hb : B ≤ b) (o : Nat) (u : Value) : Below B w (w'.setCell ⟨b, o, none⟩ u) := Below.setCell h (p := ⟨b, o, none⟩) hb u

/-- a box of four cells that may be written -/
def Box4 (w : World) (B : Nat) (a b c d : Value) : Prop := B < w.heap.size ∧ w.cell? ⟨B, 0, none⟩ = some a ∧ w.cell? ⟨B, 1, none⟩ = some b ∧ w.cell? ⟨B, 2, none⟩ = some c ∧ w.cell? ⟨B, 3, none⟩ = some d ∧
  w.frozen? ⟨B, 0, none⟩ = false ∧ w.frozen? ⟨B, 1, none⟩ = false ∧ w.frozen? ⟨B, 2, none⟩ = false ∧ w.frozen? ⟨B, 3, none⟩ = false
theorem box4_new (w : World) (a b c d : Value) (t : TypeId) : Box4 (w.alloc (.cells #[a, b, c, d] t)) w.heap.size a b c d := ⟨by simp, by simp, by simp, by simp, by simp, by simp [go_sem], by simp [go_sem], by simp [go_sem], by simp [go_sem]⟩
theorem Box4.upd {w w' : World} {p B : Nat} {a b c d : Value} (h : Box4 w B a b c d) (hu : Upd p w w') (hne : B ≠ p) : Box4 w' B a b c d :=
  ⟨Nat.lt_of_lt_of_le h.1 hu.size, (hu.cell (a := ⟨B, 0, none⟩) hne h.1).trans h.2.1, (hu.cell (a := ⟨B, 1, none⟩) hne h.1).trans h.2.2.1, (hu.cell (a := ⟨B, 2, none⟩) hne h.1).trans h.2.2.2.1, (hu.cell (a := ⟨B, 3, none⟩) hne h.1).trans h.2.2.2.2.1,
   (hu.frozen (a := ⟨B, 0, none⟩) hne h.1).trans h.2.2.2.2.2.1, (hu.frozen (a := ⟨B, 1, none⟩) hne h.1).trans h.2.2.2.2.2.2.1, (hu.frozen (a := ⟨B, 2, none⟩) hne h.1).trans h.2.2.2.2.2.2.2.1, (hu.frozen (a := ⟨B, 3, none⟩) hne h.1).trans h.2.2.2.2.2.2.2.2⟩
theorem Box4.next {W w1 : World} {B : Nat} {a b c d : Value} (h : Box4 W B a b c d) (hb : Below W.heap.size W w1) : Box4 w1 B a b c d :=
  ⟨Nat.lt_of_lt_of_le h.1 hb.size, (hb.cell (p := ⟨B, 0, none⟩) h.1).trans h.2.1, (hb.cell (p := ⟨B, 1, none⟩) h.1).trans h.2.2.1, (hb.cell (p := ⟨B, 2, none⟩) h.1).trans h.2.2.2.1, (hb.cell (p := ⟨B, 3, none⟩) h.1).trans h.2.2.2.2.1,
   (hb.frozen (p := ⟨B, 0, none⟩) h.1).trans h.2.2.2.2.2.1, (hb.frozen (p := ⟨B, 1, none⟩) h.1).trans h.2.2.2.2.2.2.1, (hb.frozen (p := ⟨B, 2, none⟩) h.1).trans h.2.2.2.2.2.2.2.1, (hb.frozen (p := ⟨B, 3, none⟩) h.1).trans h.2.2.2.2.2.2.2.2⟩
theorem Box4.keep {W w1 : World} {B B' : Nat} {a b c d : Value} (h : Box4 W B a b c d) (hb : Below B' W w1) (hlt : B < B') : Box4 w1 B a b c d :=
  ⟨Nat.lt_of_lt_of_le h.1 hb.size, (hb.cell (p := ⟨B, 0, none⟩) hlt).trans h.2.1, (hb.cell (p := ⟨B, 1, none⟩) hlt).trans h.2.2.1, (hb.cell (p := ⟨B, 2, none⟩) hlt).trans h.2.2.2.1, (hb.cell (p := ⟨B, 3, none⟩) hlt).trans h.2.2.2.2.1,
   (hb.frozen (p := ⟨B, 0, none⟩) hlt).trans h.2.2.2.2.2.1, (hb.frozen (p := ⟨B, 1, none⟩) hlt).trans h.2.2.2.2.2.2.1, (hb.frozen (p := ⟨B, 2, none⟩) hlt).trans h.2.2.2.2.2.2.2.1, (hb.frozen (p := ⟨B, 3, none⟩) hlt).trans h.2.2.2.2.2.2.2.2⟩
theorem Box4.set1 {w : World} {B : Nat} {a b c d : Value} (h : Box4 w B a b c d) (u : Value) : Box4 (w.setCell ⟨B, 1, none⟩ u) B a u c d :=
  ⟨by simpa [World.setCell] using h.1, (World.cell?_setCell_other w _ ⟨B, 0, none⟩ u (by intro e; cases e)).trans h.2.1, World.cell?_setCell_same w _ u h.2.2.1, (World.cell?_setCell_other w _ ⟨B, 2, none⟩ u (by intro e; cases e)).trans h.2.2.2.1, (World.cell?_setCell_other w _ ⟨B, 3, none⟩ u (by intro e; cases e)).trans h.2.2.2.2.1, by simpa using h.2.2.2.2.2.1, by simpa using h.2.2.2.2.2.2.1, by simpa using h.2.2.2.2.2.2.2.1, by simpa using h.2.2.2.2.2.2.2.2⟩

theorem Boxf.upd {w w' : World} {p B : Nat} {a b : Value} (h : Boxf w B a b) (hu : Upd p w w') (hne : B ≠ p) : Boxf w' B a b :=
  ⟨Nat.lt_of_lt_of_le h.1 hu.size, (hu.cell (a := ⟨B, 0, none⟩) hne h.1).trans h.2.1, (hu.cell (a := ⟨B, 1, none⟩) hne h.1).trans h.2.2.1,
   (hu.frozen (a := ⟨B, 0, none⟩) hne h.1).trans h.2.2.2.1, (hu.frozen (a := ⟨B, 1, none⟩) hne h.1).trans h.2.2.2.2⟩

set_option maxRecDepth 20000 in
set_option maxHeartbeats 2000000 in
theorem turn3_any (p : Nat) (w : World) (hc : Cur w p) :
    Calls Try.prog 130 #[.pointer (some ⟨p, 0, none⟩)] w fun e w' => ∃ (q : Nat) (b : Int), e = .returned (.agg #[.int .i64 q, .int .i64 b]) ∧ q < 4 ∧ Pow b ∧ Cur w' p ∧ Upd p w w' := by
  have hp := hc.lt
  have HC := hid (hc.next (below_new w (.cells #[.int .i64 0, .int .i64 0] 67)))
  have HU := hid (Upd.of_below (below_new w (.cells #[.int .i64 0, .int .i64 0] 67)) hp)
  have HX := hid (boxf_new w (.int .i64 0) (.int .i64 0) 67)
  clear hc
  go_enter Try.func130, Try.ntmps130
  go_wp2_with fail
  refine (below_any _ _ _ HC.out (by decide) (by decide)).mono ?_
  rintro e w1 ⟨a, rfl, a0, a1, hc1, hu1⟩
  obtain ⟨q, rfl⟩ := Int.eq_ofNat_of_zero_le a0
  have HC1 := hid hc1
  have HU1 := hid (HU.out.trans hu1)
  have HX1 := hid (HX.out.upd hu1 (by omega))
  have hp1 := hc1.lt
  clear hc1 hu1
  go_wp2_with fail
  refine (pick_any p w1.heap.size 9 _ Pow _ (HC1.out.next (below_new _ _)) (by decide) (by decide) (by omega) (by simp) ?_).mono ?_
  · intro j hj
    match j, hj with
    | 0, _ => exact ⟨0, by simp, by unfold Pow; omega⟩
    | 1, _ => exact ⟨0, by simp, by unfold Pow; omega⟩
    | 2, _ => exact ⟨1, by simp, by unfold Pow; omega⟩
    | 3, _ => exact ⟨-1, by simp, by unfold Pow; omega⟩
    | 4, _ => exact ⟨3, by simp, by unfold Pow; omega⟩
    | 5, _ => exact ⟨-10, by simp, by unfold Pow; omega⟩
    | 6, _ => exact ⟨30, by simp, by unfold Pow; omega⟩
    | 7, _ => exact ⟨60, by simp, by unfold Pow; omega⟩
    | 8, _ => exact ⟨-60, by simp, by unfold Pow; omega⟩
  · rintro e w2 ⟨b, rfl, hb, hc2, hu2⟩
    have HBP := hid hb
    have HC2 := hid hc2
    have HU2 := hid ((HU1.out.alloc hp _).trans hu2)
    have hx := (HX1.out.alloc _).upd hu2 (by omega)
    obtain ⟨x0, x1, x2, x3, x4⟩ := hx
    clear hc2 hu2 hb
    go_wp2_with fail
    refine bodyPost_ret (v := .agg #[.int .i64 (q : Int), .int .i64 b]) (by simp [results, Try.results130, go_sem, x1, x2]) rfl ?_
    have hb2 : Below w.heap.size w2 ((w2.setCell ⟨w.heap.size, 0, none⟩ (.int .i64 (q : Int))).setCell ⟨w.heap.size, 1, none⟩ (.int .i64 b)) := by
      refine below_set ?_ (Nat.le_refl _) _ _
      refine below_set ?_ (Nat.le_refl _) _ _
      exact Below.refl _ _
    exact ⟨q, b, rfl, by omega, HBP.out, HC2.out.keep hb2 hp, HU2.out.after hb2 hp⟩

set_option maxRecDepth 20000 in
set_option maxHeartbeats 8000000 in
theorem step5_any (p : Nat) (w : World) (hc : Cur w p) :
    Calls Try.prog 117 #[.pointer (some ⟨p, 0, none⟩)] w fun e w' => ∃ s : St, e = .returned (stV s) ∧ StOk s ∧ Cur w' p ∧ Upd p w w' := by
  have hp := hc.lt
  have HC := hid (hc.next (below_new w (.cells #[.int .i64 0, .complex .f64 0 0, .int .i64 0, .int .i64 0] 111)))
  have HU := hid (Upd.of_below (below_new w (.cells #[.int .i64 0, .complex .f64 0 0, .int .i64 0, .int .i64 0] 111)) hp)
  have HX := hid (box4_new w (.int .i64 0) (.complex .f64 0 0) (.int .i64 0) (.int .i64 0) 111)
  clear hc
  go_enter Try.func117, Try.ntmps117
  go_wp2_with fail
  refine (below_any _ _ _ HC.out (by decide) (by decide)).mono ?_
  rintro e w1 ⟨a, rfl, a0, a1, hc1, hu1⟩
  have hp1 := hc1.lt
  have ha : a = 0 ∨ a = 1 ∨ a = 2 ∨ a = 3 ∨ a = 4 ∨ a = 5 ∨ a = 6 := by omega
  clear a0 a1
  rcases ha with rfl | rfl | rfl | rfl | rfl | rfl | rfl
  · go_wp2_with fail
    have HS1 := hid (box4_new w1 (.int .i64 1) (.complex .f64 0 0) (.int .i64 0) (.int .i64 0) 111)
    have HR1 := hid ((HX.out.upd hu1 (by omega)).keep (below_new w1 (.cells #[.int .i64 1, .complex .f64 0 0, .int .i64 0, .int .i64 0] 111)) (by have := hu1.size; simp at this; omega))
    have HC1 := hid (hc1.next (below_new w1 (.cells #[.int .i64 1, .complex .f64 0 0, .int .i64 0, .int .i64 0] 111)))
    have HU1 := hid ((HU.out.trans hu1).alloc hp (.cells #[.int .i64 1, .complex .f64 0 0, .int .i64 0, .int .i64 0] 111))
    have hsz : w.heap.size < w1.heap.size := by have := hu1.size; simp at this; omega
    clear hc1 hu1
    refine (mildC_any _ _ HC1.out).mono ?_
    rintro e w2 ⟨x, y, rfl, hx, hy, hc2, hu2⟩
    have HPX := hid hx
    have HPY := hid hy
    have HS2 := hid (HS1.out.upd hu2 (by omega))
    have HR2 := hid (HR1.out.upd hu2 (by omega))
    have HC2 := hid hc2
    have HU2 := hid (HU1.out.trans hu2)
    clear hx hy hc2 hu2
    obtain ⟨s0, s1, s2, s3, s4, s5, s6, s7, s8⟩ := HS2.out
    obtain ⟨r0, r1, r2, r3, r4, r5, r6, r7, r8⟩ := HR2.out
    have hbs : Below w1.heap.size w2 (w2.setCell ⟨w1.heap.size, 1, none⟩ (.complex .f64 x y)) := by
      refine below_set ?_ (Nat.le_refl _) _ _
      exact Below.refl _ _
    have HBS := hid hbs
    have HBW := hid (hbs.mono (Nat.le_of_lt hsz))
    clear hbs
    go_wp2_with fail
    refine (once_any _ _ _ (HC2.out.keep HBS.out hp1) (by decide) (by decide)).mono ?_
    rintro e w3 ⟨b, rfl, hc3, hu3⟩
    have HS3 := hid ((HS2.out.set1 (.complex .f64 x y)).upd hu3 (by omega))
    have HR3 := hid ((HR2.out.keep HBS.out hsz).upd hu3 (by omega))
    have HC3 := hid hc3
    have HU3 := hid ((HU2.out.after HBW.out hp).trans hu3)
    clear s0 s1 s2 s3 s4 s5 s6 s7 s8 r0 r1 r2 r3 r4 r5 r6 r7 r8 hc3 hu3
    obtain ⟨s0, s1, s2, s3, s4, s5, s6, s7, s8⟩ := HS3.out
    obtain ⟨r0, r1, r2, r3, r4, r5, r6, r7, r8⟩ := HR3.out
    cases b
    · go_wp2_with fail
      refine bodyPost_ret (v := stV ⟨1, x, y, 0, 0⟩) (by simp [results, Try.results117, go_sem, r1, r2, r3, r4, s1, s2, s3, s4]) rfl ?_
      refine ⟨⟨1, x, y, 0, 0⟩, rfl, ⟨by dsimp only; omega, by dsimp only; omega, HPX.out, HPY.out, (fun h => by cases h), (fun h => by simp at h), (fun h => by cases h), (fun _ => ⟨rfl, rfl⟩)⟩, HC3.out.keep (B := w.heap.size) ?_ hp, HU3.out.after ?_ hp⟩
      all_goals
        repeat (refine below_set ?_ (by first | exact Nat.le_refl _ | omega) _ _)
        exact Below.refl _ _
    · go_wp2_with fail
      refine bodyPost_ret (v := stV ⟨1, 7598952565167317594, 16822324602022093402, 0, 0⟩) (by simp [results, Try.results117, go_sem, r1, r2, r3, r4, s1, s2, s3, s4]) rfl ?_
      refine ⟨⟨1, 7598952565167317594, 16822324602022093402, 0, 0⟩, rfl, ⟨by dsimp only; omega, by dsimp only; omega, prt_key (by dsimp only; decide) (by dsimp only; decide +kernel), prt_key (by dsimp only; decide) (by dsimp only; decide +kernel), (fun h => by cases h), (fun h => by simp at h), (fun h => by cases h), (fun _ => ⟨rfl, rfl⟩)⟩, HC3.out.keep (B := w.heap.size) ?_ hp, HU3.out.after ?_ hp⟩
      all_goals
        repeat (refine below_set ?_ (by first | exact Nat.le_refl _ | omega) _ _)
        exact Below.refl _ _
  · go_wp2_with fail
    have HS1 := hid (box4_new w1 (.int .i64 2) (.complex .f64 0 0) (.int .i64 0) (.int .i64 0) 111)
    have HR1 := hid ((HX.out.upd hu1 (by omega)).keep (below_new w1 (.cells #[.int .i64 2, .complex .f64 0 0, .int .i64 0, .int .i64 0] 111)) (by have := hu1.size; simp at this; omega))
    have HC1 := hid (hc1.next (below_new w1 (.cells #[.int .i64 2, .complex .f64 0 0, .int .i64 0, .int .i64 0] 111)))
    have HU1 := hid ((HU.out.trans hu1).alloc hp (.cells #[.int .i64 2, .complex .f64 0 0, .int .i64 0, .int .i64 0] 111))
    have hsz : w.heap.size < w1.heap.size := by have := hu1.size; simp at this; omega
    clear hc1 hu1
    refine (mildC_any _ _ HC1.out).mono ?_
    rintro e w2 ⟨x, y, rfl, hx, hy, hc2, hu2⟩
    have HPX := hid hx
    have HPY := hid hy
    have HS2 := hid (HS1.out.upd hu2 (by omega))
    have HR2 := hid (HR1.out.upd hu2 (by omega))
    have HC2 := hid hc2
    have HU2 := hid (HU1.out.trans hu2)
    clear hx hy hc2 hu2
    obtain ⟨s0, s1, s2, s3, s4, s5, s6, s7, s8⟩ := HS2.out
    obtain ⟨r0, r1, r2, r3, r4, r5, r6, r7, r8⟩ := HR2.out
    have hbs : Below w1.heap.size w2 (w2.setCell ⟨w1.heap.size, 1, none⟩ (.complex .f64 x y)) := by
      refine below_set ?_ (Nat.le_refl _) _ _
      exact Below.refl _ _
    have HBS := hid hbs
    have HBW := hid (hbs.mono (Nat.le_of_lt hsz))
    clear hbs
    go_wp2_with fail
    refine (once_any _ _ _ (HC2.out.keep HBS.out hp1) (by decide) (by decide)).mono ?_
    rintro e w3 ⟨b, rfl, hc3, hu3⟩
    have HS3 := hid ((HS2.out.set1 (.complex .f64 x y)).upd hu3 (by omega))
    have HR3 := hid ((HR2.out.keep HBS.out hsz).upd hu3 (by omega))
    have HC3 := hid hc3
    have HU3 := hid ((HU2.out.after HBW.out hp).trans hu3)
    clear s0 s1 s2 s3 s4 s5 s6 s7 s8 r0 r1 r2 r3 r4 r5 r6 r7 r8 hc3 hu3
    obtain ⟨s0, s1, s2, s3, s4, s5, s6, s7, s8⟩ := HS3.out
    obtain ⟨r0, r1, r2, r3, r4, r5, r6, r7, r8⟩ := HR3.out
    cases b
    · go_wp2_with fail
      refine bodyPost_ret (v := stV ⟨2, x, y, 0, 0⟩) (by simp [results, Try.results117, go_sem, r1, r2, r3, r4, s1, s2, s3, s4]) rfl ?_
      refine ⟨⟨2, x, y, 0, 0⟩, rfl, ⟨by dsimp only; omega, by dsimp only; omega, HPX.out, HPY.out, (fun h => by cases h), (fun h => by simp at h), (fun h => by cases h), (fun _ => ⟨rfl, rfl⟩)⟩, HC3.out.keep (B := w.heap.size) ?_ hp, HU3.out.after ?_ hp⟩
      all_goals
        repeat (refine below_set ?_ (by first | exact Nat.le_refl _ | omega) _ _)
        exact Below.refl _ _
    · go_wp2_with fail
      refine bodyPost_ret (v := stV ⟨2, 7598952565167317594, 16822324602022093402, 0, 0⟩) (by simp [results, Try.results117, go_sem, r1, r2, r3, r4, s1, s2, s3, s4]) rfl ?_
      refine ⟨⟨2, 7598952565167317594, 16822324602022093402, 0, 0⟩, rfl, ⟨by dsimp only; omega, by dsimp only; omega, prt_key (by dsimp only; decide) (by dsimp only; decide +kernel), prt_key (by dsimp only; decide) (by dsimp only; decide +kernel), (fun h => by cases h), (fun h => by simp at h), (fun h => by cases h), (fun _ => ⟨rfl, rfl⟩)⟩, HC3.out.keep (B := w.heap.size) ?_ hp, HU3.out.after ?_ hp⟩
      all_goals
        repeat (refine below_set ?_ (by first | exact Nat.le_refl _ | omega) _ _)
        exact Below.refl _ _
  · go_wp2_with fail
    have HS1 := hid (box4_new w1 (.int .i64 3) (.complex .f64 0 0) (.int .i64 0) (.int .i64 0) 111)
    have HR1 := hid ((HX.out.upd hu1 (by omega)).keep (below_new w1 (.cells #[.int .i64 3, .complex .f64 0 0, .int .i64 0, .int .i64 0] 111)) (by have := hu1.size; simp at this; omega))
    have HC1 := hid (hc1.next (below_new w1 (.cells #[.int .i64 3, .complex .f64 0 0, .int .i64 0, .int .i64 0] 111)))
    have HU1 := hid ((HU.out.trans hu1).alloc hp (.cells #[.int .i64 3, .complex .f64 0 0, .int .i64 0, .int .i64 0] 111))
    have hsz : w.heap.size < w1.heap.size := by have := hu1.size; simp at this; omega
    clear hc1 hu1
    refine (mildC_any _ _ HC1.out).mono ?_
    rintro e w2 ⟨x, y, rfl, hx, hy, hc2, hu2⟩
    have HPX := hid hx
    have HPY := hid hy
    have HS2 := hid (HS1.out.upd hu2 (by omega))
    have HR2 := hid (HR1.out.upd hu2 (by omega))
    have HC2 := hid hc2
    have HU2 := hid (HU1.out.trans hu2)
    clear hx hy hc2 hu2
    obtain ⟨s0, s1, s2, s3, s4, s5, s6, s7, s8⟩ := HS2.out
    obtain ⟨r0, r1, r2, r3, r4, r5, r6, r7, r8⟩ := HR2.out
    have hbs : Below w1.heap.size w2 (w2.setCell ⟨w1.heap.size, 1, none⟩ (.complex .f64 x y)) := by
      refine below_set ?_ (Nat.le_refl _) _ _
      exact Below.refl _ _
    have HBS := hid hbs
    have HBW := hid (hbs.mono (Nat.le_of_lt hsz))
    clear hbs
    go_wp2_with fail
    refine (once_any _ _ _ (HC2.out.keep HBS.out hp1) (by decide) (by decide)).mono ?_
    rintro e w3 ⟨b, rfl, hc3, hu3⟩
    have HS3 := hid ((HS2.out.set1 (.complex .f64 x y)).upd hu3 (by omega))
    have HR3 := hid ((HR2.out.keep HBS.out hsz).upd hu3 (by omega))
    have HC3 := hid hc3
    have HU3 := hid ((HU2.out.after HBW.out hp).trans hu3)
    clear s0 s1 s2 s3 s4 s5 s6 s7 s8 r0 r1 r2 r3 r4 r5 r6 r7 r8 hc3 hu3
    obtain ⟨s0, s1, s2, s3, s4, s5, s6, s7, s8⟩ := HS3.out
    obtain ⟨r0, r1, r2, r3, r4, r5, r6, r7, r8⟩ := HR3.out
    cases b
    · go_wp2_with fail
      refine bodyPost_ret (v := stV ⟨3, x, y, 0, 0⟩) (by simp [results, Try.results117, go_sem, r1, r2, r3, r4, s1, s2, s3, s4]) rfl ?_
      refine ⟨⟨3, x, y, 0, 0⟩, rfl, ⟨by dsimp only; omega, by dsimp only; omega, HPX.out, HPY.out, (fun h => by cases h), (fun h => by simp at h), (fun h => by cases h), (fun _ => ⟨rfl, rfl⟩)⟩, HC3.out.keep (B := w.heap.size) ?_ hp, HU3.out.after ?_ hp⟩
      all_goals
        repeat (refine below_set ?_ (by first | exact Nat.le_refl _ | omega) _ _)
        exact Below.refl _ _
    · go_wp2_with fail
      refine bodyPost_ret (v := stV ⟨3, 7598952565167317594, 16822324602022093402, 0, 0⟩) (by simp [results, Try.results117, go_sem, r1, r2, r3, r4, s1, s2, s3, s4]) rfl ?_
      refine ⟨⟨3, 7598952565167317594, 16822324602022093402, 0, 0⟩, rfl, ⟨by dsimp only; omega, by dsimp only; omega, prt_key (by dsimp only; decide) (by dsimp only; decide +kernel), prt_key (by dsimp only; decide) (by dsimp only; decide +kernel), (fun h => by cases h), (fun h => by simp at h), (fun h => by cases h), (fun _ => ⟨rfl, rfl⟩)⟩, HC3.out.keep (B := w.heap.size) ?_ hp, HU3.out.after ?_ hp⟩
      all_goals
        repeat (refine below_set ?_ (by first | exact Nat.le_refl _ | omega) _ _)
        exact Below.refl _ _
  · go_wp2_with fail
    have HS1 := hid (box4_new w1 (.int .i64 4) (.complex .f64 0 0) (.int .i64 0) (.int .i64 0) 111)
    have HR1 := hid ((HX.out.upd hu1 (by omega)).keep (below_new w1 (.cells #[.int .i64 4, .complex .f64 0 0, .int .i64 0, .int .i64 0] 111)) (by have := hu1.size; simp at this; omega))
    have HC1 := hid (hc1.next (below_new w1 (.cells #[.int .i64 4, .complex .f64 0 0, .int .i64 0, .int .i64 0] 111)))
    have HU1 := hid ((HU.out.trans hu1).alloc hp (.cells #[.int .i64 4, .complex .f64 0 0, .int .i64 0, .int .i64 0] 111))
    have hsz : w.heap.size < w1.heap.size := by have := hu1.size; simp at this; omega
    clear hc1 hu1
    refine (mildC_any _ _ HC1.out).mono ?_
    rintro e w2 ⟨x, y, rfl, hx, hy, hc2, hu2⟩
    have HPX := hid hx
    have HPY := hid hy
    have HS2 := hid (HS1.out.upd hu2 (by omega))
    have HR2 := hid (HR1.out.upd hu2 (by omega))
    have HC2 := hid hc2
    have HU2 := hid (HU1.out.trans hu2)
    clear hx hy hc2 hu2
    obtain ⟨s0, s1, s2, s3, s4, s5, s6, s7, s8⟩ := HS2.out
    obtain ⟨r0, r1, r2, r3, r4, r5, r6, r7, r8⟩ := HR2.out
    have hbs : Below w1.heap.size w2 (w2.setCell ⟨w1.heap.size, 1, none⟩ (.complex .f64 x y)) := by
      refine below_set ?_ (Nat.le_refl _) _ _
      exact Below.refl _ _
    have HBS := hid hbs
    have HBW := hid (hbs.mono (Nat.le_of_lt hsz))
    clear hbs
    go_wp2_with fail
    refine (once_any _ _ _ (HC2.out.keep HBS.out hp1) (by decide) (by decide)).mono ?_
    rintro e w3 ⟨b, rfl, hc3, hu3⟩
    have HS3 := hid ((HS2.out.set1 (.complex .f64 x y)).upd hu3 (by omega))
    have HR3 := hid ((HR2.out.keep HBS.out hsz).upd hu3 (by omega))
    have HC3 := hid hc3
    have HU3 := hid ((HU2.out.after HBW.out hp).trans hu3)
    clear s0 s1 s2 s3 s4 s5 s6 s7 s8 r0 r1 r2 r3 r4 r5 r6 r7 r8 hc3 hu3
    obtain ⟨s0, s1, s2, s3, s4, s5, s6, s7, s8⟩ := HS3.out
    obtain ⟨r0, r1, r2, r3, r4, r5, r6, r7, r8⟩ := HR3.out
    cases b
    · have e1 := eq_zero HPX.out.2.1
      have e2 := eq_zero HPY.out.2.1
      by_cases hz : ky64 x = 0 ∧ ky64 y = 0
      · rw [decide_eq_true hz.1] at e1
        rw [decide_eq_true hz.2] at e2
        clear hz
        go_wp2_with fail
        refine bodyPost_ret (v := stV ⟨4, 4611686018427387904, 0, 0, 0⟩) (by simp [results, Try.results117, go_sem, r1, r2, r3, r4, s1, s2, s3, s4]) rfl ?_
        refine ⟨⟨4, 4611686018427387904, 0, 0, 0⟩, rfl, ⟨by dsimp only; omega, by dsimp only; omega, prt_key (by dsimp only; decide) (by dsimp only; decide +kernel), prt_key (by dsimp only; decide) (by dsimp only; decide +kernel), (fun _ => by dsimp only; decide +kernel), (fun h => by simp at h), (fun h => by cases h), (fun _ => ⟨rfl, rfl⟩)⟩, HC3.out.keep (B := w.heap.size) ?_ hp, HU3.out.after ?_ hp⟩
        all_goals
          repeat (refine below_set ?_ (by first | exact Nat.le_refl _ | omega) _ _)
          exact Below.refl _ _
      · have HNZ := hid hz
        have e3 : (FloatKind.f64.format.order x 0 == some .eq && FloatKind.f64.format.order y 0 == some .eq) = false := by
          rw [e1, e2]
          by_cases z1 : ky64 x = 0
          · by_cases z2 : ky64 y = 0
            · exact absurd ⟨z1, z2⟩ hz
            · simp [z2]
          · simp [z1]
        clear hz e1 e2
        go_wp2_with fail
        refine bodyPost_ret (v := stV ⟨4, x, y, 0, 0⟩) (by simp [results, Try.results117, go_sem, r1, r2, r3, r4, s1, s2, s3, s4]) rfl ?_
        refine ⟨⟨4, x, y, 0, 0⟩, rfl, ⟨by dsimp only; omega, by dsimp only; omega, HPX.out, HPY.out, (fun _ => HNZ.out), (fun h => by simp at h), (fun h => by cases h), (fun _ => ⟨rfl, rfl⟩)⟩, HC3.out.keep (B := w.heap.size) ?_ hp, HU3.out.after ?_ hp⟩
        all_goals
          repeat (refine below_set ?_ (by first | exact Nat.le_refl _ | omega) _ _)
          exact Below.refl _ _
    · have e1 : (FloatKind.f64.format.order 7598952565167317594 0 == some .eq && FloatKind.f64.format.order 16822324602022093402 0 == some .eq) = false := by decide +kernel
      go_wp2_with fail
      refine bodyPost_ret (v := stV ⟨4, 7598952565167317594, 16822324602022093402, 0, 0⟩) (by simp [results, Try.results117, go_sem, r1, r2, r3, r4, s1, s2, s3, s4]) rfl ?_
      refine ⟨⟨4, 7598952565167317594, 16822324602022093402, 0, 0⟩, rfl, ⟨by dsimp only; omega, by dsimp only; omega, prt_key (by dsimp only; decide) (by dsimp only; decide +kernel), prt_key (by dsimp only; decide) (by dsimp only; decide +kernel), (fun _ => by dsimp only; decide +kernel), (fun h => by simp at h), (fun h => by cases h), (fun _ => ⟨rfl, rfl⟩)⟩, HC3.out.keep (B := w.heap.size) ?_ hp, HU3.out.after ?_ hp⟩
      all_goals
        repeat (refine below_set ?_ (by first | exact Nat.le_refl _ | omega) _ _)
        exact Below.refl _ _
  · have HS1 := hid (box4_new w1 (.int .i64 5) (.complex .f64 0 0) (.int .i64 0) (.int .i64 0) 111)
    obtain ⟨t0, t1, t2, t3, t4, t5, t6, t7, t8⟩ := HX.out.upd hu1 (by omega)
    have HR1 := hid ((HX.out.upd hu1 (by omega)).keep (below_new w1 (.cells #[.int .i64 5, .complex .f64 0 0, .int .i64 0, .int .i64 0] 111)) (by have := hu1.size; simp at this; omega))
    have HC1 := hid (hc1.next (below_new w1 (.cells #[.int .i64 5, .complex .f64 0 0, .int .i64 0, .int .i64 0] 111)))
    have HU1 := hid ((HU.out.trans hu1).alloc hp (.cells #[.int .i64 5, .complex .f64 0 0, .int .i64 0, .int .i64 0] 111))
    have hsz : w.heap.size < w1.heap.size := by have := hu1.size; simp at this; omega
    have HC0 := hid hc1
    have HU0 := hid (HU.out.trans hu1)
    clear hc1 hu1
    obtain ⟨s0, s1, s2, s3, s4, s5, s6, s7, s8⟩ := HS1.out
    obtain ⟨r0, r1, r2, r3, r4, r5, r6, r7, r8⟩ := HR1.out
    go_wp2_with fail
    refine bodyPost_ret (v := stV ⟨5, 0, 0, 0, 0⟩) (by simp [results, Try.results117, go_sem, r1, r2, r3, r4, s1, s2, s3, s4, t1, t2, t3, t4, hsz]) rfl ?_
    refine ⟨⟨5, 0, 0, 0, 0⟩, rfl, ⟨by dsimp only; omega, by dsimp only; omega, prt_key (by dsimp only; decide) (by dsimp only; decide +kernel), prt_key (by dsimp only; decide) (by dsimp only; decide +kernel), (fun h => by cases h), (fun _ => by dsimp only; decide +kernel), (fun h => by cases h), (fun _ => ⟨rfl, rfl⟩)⟩, HC0.out.keep (B := w.heap.size) ?_ hp, HU0.out.after ?_ hp⟩
    all_goals
      refine Below.alloc ?_ (by simpa [World.setCell] using Nat.le_of_lt hsz) _
      repeat (refine below_set ?_ (by first | exact Nat.le_refl _ | omega) _ _)
      exact Below.refl _ _
  · have HS1 := hid (box4_new w1 (.int .i64 6) (.complex .f64 0 0) (.int .i64 0) (.int .i64 0) 111)
    obtain ⟨t0, t1, t2, t3, t4, t5, t6, t7, t8⟩ := HX.out.upd hu1 (by omega)
    have HR1 := hid ((HX.out.upd hu1 (by omega)).keep (below_new w1 (.cells #[.int .i64 6, .complex .f64 0 0, .int .i64 0, .int .i64 0] 111)) (by have := hu1.size; simp at this; omega))
    have HC1 := hid (hc1.next (below_new w1 (.cells #[.int .i64 6, .complex .f64 0 0, .int .i64 0, .int .i64 0] 111)))
    have HU1 := hid ((HU.out.trans hu1).alloc hp (.cells #[.int .i64 6, .complex .f64 0 0, .int .i64 0, .int .i64 0] 111))
    have hsz : w.heap.size < w1.heap.size := by have := hu1.size; simp at this; omega
    have HC0 := hid hc1
    have HU0 := hid (HU.out.trans hu1)
    clear hc1 hu1
    obtain ⟨s0, s1, s2, s3, s4, s5, s6, s7, s8⟩ := HS1.out
    obtain ⟨r0, r1, r2, r3, r4, r5, r6, r7, r8⟩ := HR1.out
    go_wp2_with fail
    refine bodyPost_ret (v := stV ⟨6, 0, 0, 0, 0⟩) (by simp [results, Try.results117, go_sem, r1, r2, r3, r4, s1, s2, s3, s4, t1, t2, t3, t4, hsz]) rfl ?_
    refine ⟨⟨6, 0, 0, 0, 0⟩, rfl, ⟨by dsimp only; omega, by dsimp only; omega, prt_key (by dsimp only; decide) (by dsimp only; decide +kernel), prt_key (by dsimp only; decide) (by dsimp only; decide +kernel), (fun h => by cases h), (fun _ => by dsimp only; decide +kernel), (fun h => by cases h), (fun _ => ⟨rfl, rfl⟩)⟩, HC0.out.keep (B := w.heap.size) ?_ hp, HU0.out.after ?_ hp⟩
    all_goals
      refine Below.alloc ?_ (by simpa [World.setCell] using Nat.le_of_lt hsz) _
      repeat (refine below_set ?_ (by first | exact Nat.le_refl _ | omega) _ _)
      exact Below.refl _ _
  · have HS1 := hid (box4_new w1 (.int .i64 7) (.complex .f64 0 0) (.int .i64 0) (.int .i64 0) 111)
    have HR1 := hid ((HX.out.upd hu1 (by omega)).keep (below_new w1 (.cells #[.int .i64 7, .complex .f64 0 0, .int .i64 0, .int .i64 0] 111)) (by have := hu1.size; simp at this; omega))
    have HC1 := hid (hc1.next (below_new w1 (.cells #[.int .i64 7, .complex .f64 0 0, .int .i64 0, .int .i64 0] 111)))
    have HU1 := hid ((HU.out.trans hu1).alloc hp (.cells #[.int .i64 7, .complex .f64 0 0, .int .i64 0, .int .i64 0] 111))
    have hsz : w.heap.size < w1.heap.size := by have := hu1.size; simp at this; omega
    clear hc1 hu1
    go_wp2_with fail
    refine (turn3_any _ _ HC1.out).mono ?_
    rintro e w2 ⟨q, b, rfl, hq, hb, hc2, hu2⟩
    have HQ := hid hq
    have HPP := hid hb
    have HS2 := hid (HS1.out.upd hu2 (by omega))
    have HR2 := hid (HR1.out.upd hu2 (by omega))
    have HC2 := hid hc2
    have HU2 := hid (HU1.out.trans hu2)
    clear hq hb hc2 hu2
    obtain ⟨s0, s1, s2, s3, s4, s5, s6, s7, s8⟩ := HS2.out
    obtain ⟨r0, r1, r2, r3, r4, r5, r6, r7, r8⟩ := HR2.out
    go_wp2_with fail
    refine bodyPost_ret (v := stV ⟨7, 0, 0, q, b⟩) (by simp [results, Try.results117, go_sem, r1, r2, r3, r4, s1, s2, s3, s4]) rfl ?_
    refine ⟨⟨7, 0, 0, q, b⟩, rfl, ⟨by dsimp only; omega, by dsimp only; omega, prt_key (by dsimp only; decide) (by dsimp only; decide +kernel), prt_key (by dsimp only; decide) (by dsimp only; decide +kernel), (fun h => by cases h), (fun _ => by dsimp only; decide +kernel), (fun _ => ⟨HQ.out, HPP.out⟩), (fun h => absurd rfl h)⟩, HC2.out.keep (B := w.heap.size) ?_ hp, HU2.out.after ?_ hp⟩
    all_goals
      repeat (refine below_set ?_ (by first | exact Nat.le_refl _ | omega) _ _)
      exact Below.refl _ _
end Go.Proofs.Ytbloipnpgncjiaa
