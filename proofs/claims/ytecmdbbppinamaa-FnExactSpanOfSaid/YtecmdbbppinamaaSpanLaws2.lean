/- The laws on two spans: HullSpans, MeetSpans answer true. -/
import Derived.Test.YtecmdbbppinamaaHull
import Derived.Deep.RegionHeld3
import Derived.Deep.DeepCutAuto
namespace Go.Proofs.Ytecmdbbppinamaa
open Go.RowKit

/-- what is known of the two boxes and of what was there -/
def Two (w : World) (a b c d : Value) (W : World) : Prop := Below w.heap.size w W ∧ Boxf W w.heap.size a b ∧ Boxf W (w.heap.size + 1) c d
theorem Two.next {w W w1 : World} {a b c d : Value} (h : Two w a b c d W) (hb : Below W.heap.size W w1) : Two w a b c d w1 := ⟨bthen h.1 hb, h.2.1.next hb, h.2.2.next hb⟩
theorem Two.nextd {w W w1 : World} {a b c d : Value} (h : Two w a b c d W) (hb : Below W.drew.heap.size W.drew w1) : Two w a b c d w1 :=
  Two.next (W := W.drew) ⟨h.1.drew, h.2.1, h.2.2⟩ hb
theorem Two.nexta {w W w1 : World} {a b c d : Value} {o : Obj} (h : Two w a b c d W) (hb : Below (W.alloc o).heap.size (W.alloc o) w1) : Two w a b c d w1 := (h.next (below_new W o)).next hb
theorem Two.nextda {w W w1 : World} {a b c d : Value} {o : Obj} (h : Two w a b c d W) (hb : Below (W.alloc o).drew.heap.size (W.alloc o).drew w1) : Two w a b c d w1 := (h.next (below_new W o)).nextd hb
theorem Two.alloc {w W : World} {a b c d : Value} (h : Two w a b c d W) (o : Obj) : Two w a b c d (W.alloc o) := h.next (below_new W o)
theorem Two.set {w W : World} {a b c d : Value} (h : Two w a b c d W) {p : Addr} (hp : w.heap.size + 1 < p.block) (u : Value) : Two w a b c d (W.setCell p u) :=
  ⟨h.1.setCell (by omega) u, h.2.1.set (by omega) u, h.2.2.set (by omega) u⟩
theorem two_new (w : World) (a b c d : Value) (t t' : TypeId) : Two w a b c d ((w.alloc (.cells #[a, b] t)).alloc (.cells #[c, d] t')) := ⟨below2 _ _ _, (boxf2 w a b c d t t').1, (boxf2 w a b c d t t').2⟩
/-- the new span's box: apart from the two, and younger than block 'z' -/
def New (w : World) (z : Nat) (W : World) (B : Nat) (a b : Value) : Prop := Boxf W B a b ∧ w.heap.size + 1 < B ∧ z < B
section
variable {w W w1 : World} {z B : Nat} {x y c d a b : Value} {t : TypeId} {o : Obj}
theorem New.next (h : New w z W B a b) (hb : Below W.heap.size W w1) : New w z w1 B a b := ⟨h.1.next hb, h.2⟩
theorem New.nextd (h : New w z W B a b) (hb : Below W.drew.heap.size W.drew w1) : New w z w1 B a b := New.next (W := W.drew) ⟨h.1, h.2⟩ hb
theorem New.nexta (h : New w z W B a b) (hb : Below (W.alloc o).heap.size (W.alloc o) w1) : New w z w1 B a b := (h.next (below_new W o)).next hb
theorem New.nextda (h : New w z W B a b) (hb : Below (W.alloc o).drew.heap.size (W.alloc o).drew w1) : New w z w1 B a b := (h.next (below_new W o)).nextd hb
theorem New.alloc (h : New w z W B a b) (o : Obj) : New w z (W.alloc o) B a b := h.next (below_new W o)
theorem New.far (h : New w z W B a b) {p : Addr} (hp : p.block ≠ B) (u : Value) : New w z (W.setCell p u) B a b := ⟨h.1.set hp u, h.2⟩
theorem newa (h : Two w x y c d W) (hz : z < W.heap.size) (hb : Below (W.alloc (.cells #[a, b] t)).heap.size (W.alloc (.cells #[a, b] t)) w1) : New w z w1 W.heap.size a b :=
  ⟨Boxf.next (boxf_new W a b t) hb, h.2.2.1, hz⟩
theorem newn (h : Two w x y c d W) (hz : z < W.heap.size) (a b : Value) (t : TypeId) : New w z (W.alloc (.cells #[a, b] t)) W.heap.size a b := ⟨boxf_new W a b t, h.2.2.1, hz⟩
theorem newd (h : Two w x y c d W) (hz : z < W.heap.size) (hb : Below (W.alloc (.cells #[a, b] t)).drew.heap.size (W.alloc (.cells #[a, b] t)).drew w1) : New w z w1 W.heap.size a b :=
  ⟨Boxf.next (W := (W.alloc (.cells #[a, b] t)).drew) (boxf_new W a b t) hb, h.2.2.1, hz⟩
theorem newd0 {t1 t2 : TypeId}
    (hb : Below (((w.alloc (.cells #[x, y] t1)).alloc (.cells #[c, d] t2)).alloc (.cells #[a, b] t)).drew.heap.size (((w.alloc (.cells #[x, y] t1)).alloc (.cells #[c, d] t2)).alloc (.cells #[a, b] t)).drew w1) : New w w.heap.size w1 (w.heap.size + 1 + 1) a b := by
  have h1 : Boxf w1 ((w.alloc (.cells #[x, y] t1)).alloc (.cells #[c, d] t2)).heap.size a b := Boxf.next (W := (((w.alloc (.cells #[x, y] t1)).alloc (.cells #[c, d] t2)).alloc (.cells #[a, b] t)).drew) (boxf_new _ a b t) hb
  have e : ((w.alloc (.cells #[x, y] t1)).alloc (.cells #[c, d] t2)).heap.size = w.heap.size + 1 + 1 := by simp
  rw [e] at h1
  exact ⟨h1, by omega, by omega⟩
theorem New.ne (h : New w z W B a b) : B ≠ w.heap.size ∧ B ≠ w.heap.size + 1 ∧ w.heap.size ≠ B ∧ w.heap.size + 1 ≠ B ∧ z ≠ B ∧ B ≠ z := by
  have := h.2; omega
theorem New.set (h : New w z W B a b) (c d : Value) : New w z ((W.setCell ⟨B, 0, none⟩ c).setCell ⟨B, 1, none⟩ d) B c d := by
  obtain ⟨⟨h1, h2, h3, h4, h5⟩, h6⟩ := h
  refine ⟨⟨by simpa [World.setCell] using h1, ?_, ?_, by simpa using h4, by simpa using h5⟩, h6⟩
  · rw [World.cell?_setCell_other _ _ _ _ (by simp), World.cell?_setCell_same _ _ _ h2]
  · exact World.cell?_setCell_same _ _ _ ((World.cell?_setCell_other _ _ _ _ (by simp)).trans h3)
end

/-- a span and a yes or no -/
theorem hullV_form (a b c d : Nat) : ∃ l h k, hullV a b c d = .tuple #[.agg #[.float .f32 l, .float .f32 h], .bool k] := by
  unfold hullV
  by_cases hc : (Fl.le .f32 a b && Fl.le .f32 c d) = true
  · rw [if_pos hc]; exact ⟨_, _, _, rfl⟩
  · rw [if_neg hc]; exact ⟨_, _, _, rfl⟩
theorem meetV_form (a b c d : Nat) : ∃ l h k, meetV a b c d = .tuple #[.agg #[.float .f32 l, .float .f32 h], .bool k] := by
  unfold meetV
  by_cases hc : (Fl.le .f32 a b && Fl.le .f32 c d) = true
  · rw [if_pos hc]
    by_cases hd : Fl.le .f32 (if Fl.gt .f32 c a then c else a) (if Fl.lt .f32 d b then d else b) = true
    · rw [if_pos hd]; exact ⟨_, _, _, rfl⟩
    · rw [if_neg hd]; exact ⟨_, _, _, rfl⟩
  · rw [if_neg hc]; exact ⟨_, _, _, rfl⟩

theorem hull_spec (a b c d : Nat) (w : World) : Calls Try.prog 34 #[.agg #[.float .f32 a, .float .f32 b], .agg #[.float .f32 c, .float .f32 d]] w fun e w' => e = .returned (hullV a b c d) ∧ Below w.heap.size w w' := by
  rcases Bool.eq_false_or_eq_true (Fl.le .f32 a b) with h0 | h0
  · rcases Bool.eq_false_or_eq_true (Fl.le .f32 c d) with h1 | h1
    · exact hull_spec_1 a b c d w h0 h1
    · have : hullV a b c d = noSpan := by unfold hullV; rw [h0, h1]; rfl
      rw [this]; exact hull_spec_01 a b c d w h0 h1
  · have : hullV a b c d = noSpan := by unfold hullV; rw [h0]; rfl
    rw [this]; exact hull_spec_00 a b c d w h0

theorem hull_impl (a b c d : Nat) (w : World) : Calls Try.prog 35 #[.agg #[.float .f32 a, .float .f32 b], .agg #[.float .f32 c, .float .f32 d]] w fun e w' => e = .returned (hullV a b c d) ∧ Below w.heap.size w w' := by
  rcases Bool.eq_false_or_eq_true (Fl.le .f32 a b) with h0 | h0
  · rcases Bool.eq_false_or_eq_true (Fl.le .f32 c d) with h1 | h1
    · exact hull_impl_1 a b c d w h0 h1
    · have : hullV a b c d = noSpan := by unfold hullV; rw [h0, h1]; rfl
      rw [this]; exact hull_impl_01 a b c d w h0 h1
  · have : hullV a b c d = noSpan := by unfold hullV; rw [h0]; rfl
    rw [this]; exact hull_impl_00 a b c d w h0

set_option maxHeartbeats 4000000 in
theorem law_hull (a b c d : Nat) (w : World) :
    Calls Try.prog 7 #[.agg #[.float .f32 a, .float .f32 b], .agg #[.float .f32 c, .float .f32 d]] w fun e w' => e = .returned (.bool true) ∧ Below w.heap.size w w' := by
  obtain ⟨l, h, k, hv⟩ := hullV_form a b c d
  have CS := hid (fun W => hv ▸ hull_spec a b c d W)
  have CI := hid (fun W => hv ▸ hull_impl a b c d W)
  clear hv
  have T := hid (two_new w (.float .f32 a) (.float .f32 b) (.float .f32 c) (.float .f32 d) 24 24)
  go_enter Try.func7, Try.ntmps7
  go_upto_region 1 with fail
  go_cut [5, 6] (fun p q wx => ∃ B, p = .pointer (some ⟨B, 0, none⟩) ∧ q = .bool k ∧ Two w (.float .f32 a) (.float .f32 b) (.float .f32 c) (.float .f32 d) wx ∧ New w w.heap.size wx B (.float .f32 l) (.float .f32 h))
  case first =>
    go_region_held3 (fun w' => w'.cell? ⟨w.heap.size, 0, none⟩ = some (.float .f32 a) ∧ w'.cell? ⟨w.heap.size, 1, none⟩ = some (.float .f32 b) ∧ w'.cell? ⟨w.heap.size + 1, 0, none⟩ = some (.float .f32 c) ∧ w'.cell? ⟨w.heap.size + 1, 1, none⟩ = some (.float .f32 d)) (go_keep)
      (first | (go_at_call 23; refine (toSpan_any _ _ _).mono ?_; rintro e w1 ⟨rfl, hb⟩; (first | (have BN := hid (BN.out.next hb)) | (have BN := hid (newd0 hb)) | (have BN := hid (newa (z := w.heap.size) T.out (Nat.lt_trans (Nat.lt_succ_self _) T.out.2.2.1) hb)) | skip); (first | (have T := hid (T.out.next hb)) | (have T := hid (T.out.nextd hb)) | (have T := hid (T.out.nexta hb)) | (have T := hid (T.out.nextda hb))); clear hb; obtain ⟨_, ⟨za, ka, ka', _, _⟩, ⟨zb, kb, kb', _, _⟩⟩ := T.out; (first | (obtain ⟨⟨zn, kn, kn', fn, fn'⟩, _⟩ := BN.out; obtain ⟨q1, q2, q3, q4, q5, q6⟩ := BN.out.ne) | skip))
             | (go_at_call 34; refine (CS.out _).mono ?_; rintro e w1 ⟨rfl, hb⟩; (first | (have BN := hid (BN.out.next hb)) | (have BN := hid (newd0 hb)) | (have BN := hid (newa (z := w.heap.size) T.out (Nat.lt_trans (Nat.lt_succ_self _) T.out.2.2.1) hb)) | skip); (first | (have T := hid (T.out.next hb)) | (have T := hid (T.out.nextd hb)) | (have T := hid (T.out.nexta hb)) | (have T := hid (T.out.nextda hb))); clear hb; obtain ⟨_, ⟨za, ka, ka', _, _⟩, ⟨zb, kb, kb', _, _⟩⟩ := T.out; (first | (obtain ⟨⟨zn, kn, kn', fn, fn'⟩, _⟩ := BN.out; obtain ⟨q1, q2, q3, q4, q5, q6⟩ := BN.out.ne) | skip)))
    all_goals (go_wp2_with fail; go_meet; first | exact ⟨_, rfl, rfl, T.out.alloc _, newn T.out (Nat.lt_trans (Nat.lt_succ_self _) T.out.2.2.1) _ _ _⟩ | exact ⟨_, rfl, rfl, (T.out.set BN.out.2.1 _).set BN.out.2.1 _, BN.out.set _ _⟩)
  case rest =>
    obtain ⟨B, rfl, rfl, T2, N2⟩ := hcut
    clear T
    have T := hid T2
    have N1 := hid N2
    clear T2 N2
    obtain ⟨_, ⟨za, ka, ka', _, _⟩, ⟨zb, kb, kb', _, _⟩⟩ := T.out
    go_upto_region 2 with fail
    go_cut [7, 8] (fun p q wx => ∃ B2, p = .pointer (some ⟨B2, 0, none⟩) ∧ q = .bool k ∧ Two w (.float .f32 a) (.float .f32 b) (.float .f32 c) (.float .f32 d) wx ∧ New w w.heap.size wx B (.float .f32 l) (.float .f32 h) ∧ New w B wx B2 (.float .f32 l) (.float .f32 h))
    case first =>
      go_region_held3 (fun w' => w'.cell? ⟨w.heap.size, 0, none⟩ = some (.float .f32 a) ∧ w'.cell? ⟨w.heap.size, 1, none⟩ = some (.float .f32 b) ∧ w'.cell? ⟨w.heap.size + 1, 0, none⟩ = some (.float .f32 c) ∧ w'.cell? ⟨w.heap.size + 1, 1, none⟩ = some (.float .f32 d)) (go_keep)
        (first | (go_at_call 23; refine (toSpan_any _ _ _).mono ?_; rintro e w1 ⟨rfl, hb⟩; (first | (have BN := hid (BN.out.next hb)) | (have BN := hid (newd (z := B) T.out N1.out.1.1 hb)) | (have BN := hid (newa (z := B) T.out N1.out.1.1 hb)) | skip); (first | (have N1 := hid (N1.out.next hb)) | (have N1 := hid (N1.out.nextd hb)) | (have N1 := hid (N1.out.nexta hb)) | (have N1 := hid (N1.out.nextda hb))); (first | (have T := hid (T.out.next hb)) | (have T := hid (T.out.nextd hb)) | (have T := hid (T.out.nexta hb)) | (have T := hid (T.out.nextda hb))); clear hb; obtain ⟨_, ⟨za, ka, ka', _, _⟩, ⟨zb, kb, kb', _, _⟩⟩ := T.out; (first | (obtain ⟨⟨zn, kn, kn', fn, fn'⟩, _⟩ := BN.out; obtain ⟨q1, q2, q3, q4, q5, q6⟩ := BN.out.ne) | skip))
               | (go_at_call 35; refine (CI.out _).mono ?_; rintro e w1 ⟨rfl, hb⟩; (first | (have BN := hid (BN.out.next hb)) | (have BN := hid (newd (z := B) T.out N1.out.1.1 hb)) | (have BN := hid (newa (z := B) T.out N1.out.1.1 hb)) | skip); (first | (have N1 := hid (N1.out.next hb)) | (have N1 := hid (N1.out.nextd hb)) | (have N1 := hid (N1.out.nexta hb)) | (have N1 := hid (N1.out.nextda hb))); (first | (have T := hid (T.out.next hb)) | (have T := hid (T.out.nextd hb)) | (have T := hid (T.out.nexta hb)) | (have T := hid (T.out.nextda hb))); clear hb; obtain ⟨_, ⟨za, ka, ka', _, _⟩, ⟨zb, kb, kb', _, _⟩⟩ := T.out; (first | (obtain ⟨⟨zn, kn, kn', fn, fn'⟩, _⟩ := BN.out; obtain ⟨q1, q2, q3, q4, q5, q6⟩ := BN.out.ne) | skip)))
      all_goals (go_wp2_with fail; go_meet; first | exact ⟨_, rfl, rfl, T.out.alloc _, N1.out.alloc _, newn T.out N1.out.1.1 _ _ _⟩ | exact ⟨_, rfl, rfl, (T.out.set BN.out.2.1 _).set BN.out.2.1 _, (N1.out.far BN.out.ne.2.2.2.2.2 _).far BN.out.ne.2.2.2.2.2 _, BN.out.set _ _⟩)
    case rest =>
      obtain ⟨B2, rfl, rfl, T2, N2, N3⟩ := hcut
      clear T N1
      have HT := hid T2.1
      obtain ⟨⟨z1, k1, k1', _, _⟩, _⟩ := N2
      obtain ⟨⟨z2, k2, k2', _, _⟩, _⟩ := N3
      clear T2
      go_wp2_with fail
      refine (eqSpan_any _ _ _).mono ?_
      rintro e w5 ⟨rfl, hb⟩
      have H5 := hid (bthen HT.out hb)
      clear hb HT
      go_wp2
      go_ret
      exact ⟨rfl, H5.out⟩

theorem meet_spec (a b c d : Nat) (w : World) : Calls Try.prog 39 #[.agg #[.float .f32 a, .float .f32 b], .agg #[.float .f32 c, .float .f32 d]] w fun e w' => e = .returned (meetV a b c d) ∧ Below w.heap.size w w' := by
  rcases Bool.eq_false_or_eq_true (Fl.le .f32 a b) with h0 | h0
  · rcases Bool.eq_false_or_eq_true (Fl.le .f32 c d) with h1 | h1
    · exact meet_spec_1 a b c d w h0 h1
    · have : meetV a b c d = noSpan := by unfold meetV; rw [h0, h1]; rfl
      rw [this]; exact meet_spec_01 a b c d w h0 h1
  · have : meetV a b c d = noSpan := by unfold meetV; rw [h0]; rfl
    rw [this]; exact meet_spec_00 a b c d w h0

theorem meet_impl (a b c d : Nat) (w : World) : Calls Try.prog 40 #[.agg #[.float .f32 a, .float .f32 b], .agg #[.float .f32 c, .float .f32 d]] w fun e w' => e = .returned (meetV a b c d) ∧ Below w.heap.size w w' := by
  rcases Bool.eq_false_or_eq_true (Fl.le .f32 a b) with h0 | h0
  · rcases Bool.eq_false_or_eq_true (Fl.le .f32 c d) with h1 | h1
    · exact meet_impl_1 a b c d w h0 h1
    · have : meetV a b c d = noSpan := by unfold meetV; rw [h0, h1]; rfl
      rw [this]; exact meet_impl_01 a b c d w h0 h1
  · have : meetV a b c d = noSpan := by unfold meetV; rw [h0]; rfl
    rw [this]; exact meet_impl_00 a b c d w h0

set_option maxHeartbeats 4000000 in
theorem law_meet (a b c d : Nat) (w : World) :
    Calls Try.prog 9 #[.agg #[.float .f32 a, .float .f32 b], .agg #[.float .f32 c, .float .f32 d]] w fun e w' => e = .returned (.bool true) ∧ Below w.heap.size w w' := by
  obtain ⟨l, h, k, hv⟩ := meetV_form a b c d
  have CS := hid (fun W => hv ▸ meet_spec a b c d W)
  have CI := hid (fun W => hv ▸ meet_impl a b c d W)
  clear hv
  have T := hid (two_new w (.float .f32 a) (.float .f32 b) (.float .f32 c) (.float .f32 d) 24 24)
  go_enter Try.func9, Try.ntmps9
  go_upto_region 1 with fail
  go_cut [5, 6] (fun p q wx => ∃ B, p = .pointer (some ⟨B, 0, none⟩) ∧ q = .bool k ∧ Two w (.float .f32 a) (.float .f32 b) (.float .f32 c) (.float .f32 d) wx ∧ New w w.heap.size wx B (.float .f32 l) (.float .f32 h))
  case first =>
    go_region_held3 (fun w' => w'.cell? ⟨w.heap.size, 0, none⟩ = some (.float .f32 a) ∧ w'.cell? ⟨w.heap.size, 1, none⟩ = some (.float .f32 b) ∧ w'.cell? ⟨w.heap.size + 1, 0, none⟩ = some (.float .f32 c) ∧ w'.cell? ⟨w.heap.size + 1, 1, none⟩ = some (.float .f32 d)) (go_keep)
      (first | (go_at_call 23; refine (toSpan_any _ _ _).mono ?_; rintro e w1 ⟨rfl, hb⟩; (first | (have BN := hid (BN.out.next hb)) | (have BN := hid (newd0 hb)) | (have BN := hid (newa (z := w.heap.size) T.out (Nat.lt_trans (Nat.lt_succ_self _) T.out.2.2.1) hb)) | skip); (first | (have T := hid (T.out.next hb)) | (have T := hid (T.out.nextd hb)) | (have T := hid (T.out.nexta hb)) | (have T := hid (T.out.nextda hb))); clear hb; obtain ⟨_, ⟨za, ka, ka', _, _⟩, ⟨zb, kb, kb', _, _⟩⟩ := T.out; (first | (obtain ⟨⟨zn, kn, kn', fn, fn'⟩, _⟩ := BN.out; obtain ⟨q1, q2, q3, q4, q5, q6⟩ := BN.out.ne) | skip))
             | (go_at_call 39; refine (CS.out _).mono ?_; rintro e w1 ⟨rfl, hb⟩; (first | (have BN := hid (BN.out.next hb)) | (have BN := hid (newd0 hb)) | (have BN := hid (newa (z := w.heap.size) T.out (Nat.lt_trans (Nat.lt_succ_self _) T.out.2.2.1) hb)) | skip); (first | (have T := hid (T.out.next hb)) | (have T := hid (T.out.nextd hb)) | (have T := hid (T.out.nexta hb)) | (have T := hid (T.out.nextda hb))); clear hb; obtain ⟨_, ⟨za, ka, ka', _, _⟩, ⟨zb, kb, kb', _, _⟩⟩ := T.out; (first | (obtain ⟨⟨zn, kn, kn', fn, fn'⟩, _⟩ := BN.out; obtain ⟨q1, q2, q3, q4, q5, q6⟩ := BN.out.ne) | skip)))
    all_goals (go_wp2_with fail; go_meet; first | exact ⟨_, rfl, rfl, T.out.alloc _, newn T.out (Nat.lt_trans (Nat.lt_succ_self _) T.out.2.2.1) _ _ _⟩ | exact ⟨_, rfl, rfl, (T.out.set BN.out.2.1 _).set BN.out.2.1 _, BN.out.set _ _⟩)
  case rest =>
    obtain ⟨B, rfl, rfl, T2, N2⟩ := hcut
    clear T
    have T := hid T2
    have N1 := hid N2
    clear T2 N2
    obtain ⟨_, ⟨za, ka, ka', _, _⟩, ⟨zb, kb, kb', _, _⟩⟩ := T.out
    go_upto_region 2 with fail
    go_cut [7, 8] (fun p q wx => ∃ B2, p = .pointer (some ⟨B2, 0, none⟩) ∧ q = .bool k ∧ Two w (.float .f32 a) (.float .f32 b) (.float .f32 c) (.float .f32 d) wx ∧ New w w.heap.size wx B (.float .f32 l) (.float .f32 h) ∧ New w B wx B2 (.float .f32 l) (.float .f32 h))
    case first =>
      go_region_held3 (fun w' => w'.cell? ⟨w.heap.size, 0, none⟩ = some (.float .f32 a) ∧ w'.cell? ⟨w.heap.size, 1, none⟩ = some (.float .f32 b) ∧ w'.cell? ⟨w.heap.size + 1, 0, none⟩ = some (.float .f32 c) ∧ w'.cell? ⟨w.heap.size + 1, 1, none⟩ = some (.float .f32 d)) (go_keep)
        (first | (go_at_call 23; refine (toSpan_any _ _ _).mono ?_; rintro e w1 ⟨rfl, hb⟩; (first | (have BN := hid (BN.out.next hb)) | (have BN := hid (newd (z := B) T.out N1.out.1.1 hb)) | (have BN := hid (newa (z := B) T.out N1.out.1.1 hb)) | skip); (first | (have N1 := hid (N1.out.next hb)) | (have N1 := hid (N1.out.nextd hb)) | (have N1 := hid (N1.out.nexta hb)) | (have N1 := hid (N1.out.nextda hb))); (first | (have T := hid (T.out.next hb)) | (have T := hid (T.out.nextd hb)) | (have T := hid (T.out.nexta hb)) | (have T := hid (T.out.nextda hb))); clear hb; obtain ⟨_, ⟨za, ka, ka', _, _⟩, ⟨zb, kb, kb', _, _⟩⟩ := T.out; (first | (obtain ⟨⟨zn, kn, kn', fn, fn'⟩, _⟩ := BN.out; obtain ⟨q1, q2, q3, q4, q5, q6⟩ := BN.out.ne) | skip))
               | (go_at_call 40; refine (CI.out _).mono ?_; rintro e w1 ⟨rfl, hb⟩; (first | (have BN := hid (BN.out.next hb)) | (have BN := hid (newd (z := B) T.out N1.out.1.1 hb)) | (have BN := hid (newa (z := B) T.out N1.out.1.1 hb)) | skip); (first | (have N1 := hid (N1.out.next hb)) | (have N1 := hid (N1.out.nextd hb)) | (have N1 := hid (N1.out.nexta hb)) | (have N1 := hid (N1.out.nextda hb))); (first | (have T := hid (T.out.next hb)) | (have T := hid (T.out.nextd hb)) | (have T := hid (T.out.nexta hb)) | (have T := hid (T.out.nextda hb))); clear hb; obtain ⟨_, ⟨za, ka, ka', _, _⟩, ⟨zb, kb, kb', _, _⟩⟩ := T.out; (first | (obtain ⟨⟨zn, kn, kn', fn, fn'⟩, _⟩ := BN.out; obtain ⟨q1, q2, q3, q4, q5, q6⟩ := BN.out.ne) | skip)))
      all_goals (go_wp2_with fail; go_meet; first | exact ⟨_, rfl, rfl, T.out.alloc _, N1.out.alloc _, newn T.out N1.out.1.1 _ _ _⟩ | exact ⟨_, rfl, rfl, (T.out.set BN.out.2.1 _).set BN.out.2.1 _, (N1.out.far BN.out.ne.2.2.2.2.2 _).far BN.out.ne.2.2.2.2.2 _, BN.out.set _ _⟩)
    case rest =>
      obtain ⟨B2, rfl, rfl, T2, N2, N3⟩ := hcut
      clear T N1
      have HT := hid T2.1
      obtain ⟨⟨z1, k1, k1', _, _⟩, _⟩ := N2
      obtain ⟨⟨z2, k2, k2', _, _⟩, _⟩ := N3
      clear T2
      go_wp2_with fail
      refine (eqSpan_any _ _ _).mono ?_
      rintro e w5 ⟨rfl, hb⟩
      have H5 := hid (bthen HT.out hb)
      clear hb HT
      go_wp2
      go_ret
      exact ⟨rfl, H5.out⟩
end Go.Proofs.Ytecmdbbppinamaa
