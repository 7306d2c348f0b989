/- One step of a correction: the walk. -/
import Derived.Test.YtbloipnpgncjiaaOne
namespace Go.Proofs.Ytbloipnpgncjiaa
open Go.RowKit Ieee

set_option maxRecDepth 20000 in
set_option maxHeartbeats 8000000 in
theorem one_any (s : St) (z : Nat × Nat) (hs : StOk s) (hz : Num z) (w : World) :
    Calls Try.prog 97 #[stV s, .complex .f64 z.1 z.2] w (RetO s z w) := by
  have HS := hid hs
  have HZ := hid hz
  obtain ⟨k, b, c, q, p⟩ := s
  obtain ⟨x, y⟩ := z
  have hk : k = 1 ∨ k = 2 ∨ k = 3 ∨ k = 4 ∨ k = 5 ∨ k = 6 ∨ k = 7 := by obtain ⟨h1, h7, _⟩ := hs; simp only at h1 h7; omega
  clear hs hz
  go_enter Try.func97, Try.ntmps97
  go_wp2_with fail
  refine (stepOk_any ⟨k, b, c, q, p⟩ HS.out _).mono ?_
  rintro e w1 ⟨rfl, hb1⟩
  have HB1 := hid (bthen (below_new w (.cells #[.int .i64 (k : Int), .complex .f64 b c, .int .i64 (q : Int), .int .i64 p] 111)) hb1)
  have hx0 : w1.cell? ⟨w.heap.size, 0, none⟩ = some (.int .i64 (k : Int)) := (hb1.cell (p := ⟨w.heap.size, 0, none⟩) (by simp)).trans (by simp)
  have hx1 : w1.cell? ⟨w.heap.size, 1, none⟩ = some (.complex .f64 b c) := (hb1.cell (p := ⟨w.heap.size, 1, none⟩) (by simp)).trans (by simp)
  have hx2 : w1.cell? ⟨w.heap.size, 2, none⟩ = some (.int .i64 (q : Int)) := (hb1.cell (p := ⟨w.heap.size, 2, none⟩) (by simp)).trans (by simp)
  have hx3 : w1.cell? ⟨w.heap.size, 3, none⟩ = some (.int .i64 p) := (hb1.cell (p := ⟨w.heap.size, 3, none⟩) (by simp)).trans (by simp)
  clear hb1
  go_wp2_with fail
  refine (isfin_any x y HZ.out.1 HZ.out.2.1 _).mono ?_
  rintro e w2 ⟨rfl, rfl⟩
  rw [show (finB x && finB y) = true from HZ.out.2.2]
  rcases hk with rfl | rfl | rfl | rfl | rfl | rfl | rfl
  · go_wp2_with fail
    refine (sum_any x y b c _).mono ?_
    rintro e w2 ⟨r, i, rfl, hr, hi, h1, h2, m, rfl⟩
    have HB2 := hid (below_drewN HB1.out m)
    have HE1 := hid (show Fl.Eqv .f64 r (stv ⟨1, b, c, q, p⟩ (x, y)).1 from h1)
    have HE2 := hid (show Fl.Eqv .f64 i (stv ⟨1, b, c, q, p⟩ (x, y)).2 from h2)
    have HR := hid hr
    have HI := hid hi
    clear hr hi h1 h2
    go_wp2_with fail
    refine (isfin_any r i HR.out HI.out _).mono ?_
    rintro e w3 ⟨rfl, rfl⟩
    rcases Bool.eq_false_or_eq_true (finB r && finB i) with hf | hf
    · rw [hf]
      have HF := hid hf
      clear hf
      go_wp2_with fail
      go_ret2
      exact retO_true HR.out HI.out HE1.out HE2.out HF.out HB2.out
    · rw [hf]
      have HF := hid hf
      clear hf
      go_wp2_with fail
      go_ret2
      exact retO_false HE1.out HE2.out HF.out HB2.out
  · go_wp2_with fail
    refine (diff_any x y b c _).mono ?_
    rintro e w2 ⟨r, i, rfl, hr, hi, h1, h2, m, rfl⟩
    have HB2 := hid (below_drewN HB1.out m)
    have HE1 := hid (show Fl.Eqv .f64 r (stv ⟨2, b, c, q, p⟩ (x, y)).1 from h1)
    have HE2 := hid (show Fl.Eqv .f64 i (stv ⟨2, b, c, q, p⟩ (x, y)).2 from h2)
    have HR := hid hr
    have HI := hid hi
    clear hr hi h1 h2
    go_wp2_with fail
    refine (isfin_any r i HR.out HI.out _).mono ?_
    rintro e w3 ⟨rfl, rfl⟩
    rcases Bool.eq_false_or_eq_true (finB r && finB i) with hf | hf
    · rw [hf]
      have HF := hid hf
      clear hf
      go_wp2_with fail
      go_ret2
      exact retO_true HR.out HI.out HE1.out HE2.out HF.out HB2.out
    · rw [hf]
      have HF := hid hf
      clear hf
      go_wp2_with fail
      go_ret2
      exact retO_false HE1.out HE2.out HF.out HB2.out
  · go_wp2_with fail
    refine (prod_any x y b c _).mono ?_
    rintro e w2 ⟨r, i, rfl, hr, hi, h1, h2, m, rfl⟩
    have HB2 := hid (below_drewN HB1.out m)
    have HE1 := hid (show Fl.Eqv .f64 r (stv ⟨3, b, c, q, p⟩ (x, y)).1 from h1)
    have HE2 := hid (show Fl.Eqv .f64 i (stv ⟨3, b, c, q, p⟩ (x, y)).2 from h2)
    have HR := hid hr
    have HI := hid hi
    clear hr hi h1 h2
    go_wp2_with fail
    refine (isfin_any r i HR.out HI.out _).mono ?_
    rintro e w3 ⟨rfl, rfl⟩
    rcases Bool.eq_false_or_eq_true (finB r && finB i) with hf | hf
    · rw [hf]
      have HF := hid hf
      clear hf
      go_wp2_with fail
      go_ret2
      exact retO_true HR.out HI.out HE1.out HE2.out HF.out HB2.out
    · rw [hf]
      have HF := hid hf
      clear hf
      go_wp2_with fail
      go_ret2
      exact retO_false HE1.out HE2.out HF.out HB2.out
  · have HO := hid (show (FloatKind.f64.format.order b 0 == some .eq && FloatKind.f64.format.order c 0 == some .eq) = false by
      obtain ⟨_, _, hb, hc, h4, _⟩ := HS.out
      simp only at hb hc h4
      rw [eq_zero hb.2.1, eq_zero hc.2.1]
      have := h4 (by first | rfl | trivial)
      by_cases z1 : ky64 b = 0
      · by_cases z2 : ky64 c = 0
        · exact absurd ⟨z1, z2⟩ this
        · simp [z2]
      · simp [z1])
    go_wp2_with fail
    refine upon_cquo HZ.out.f1 HZ.out.f2 HS.out.2.2.1.2.1 HS.out.2.2.2.1.2.1 HO.out ?_
    intro r i m h1 h2 hr hi
    have HB2 := hid (below_drewN HB1.out m)
    have HE1 := hid (show Fl.Eqv .f64 r (stv ⟨4, b, c, q, p⟩ (x, y)).1 from h1)
    have HE2 := hid (show Fl.Eqv .f64 i (stv ⟨4, b, c, q, p⟩ (x, y)).2 from h2)
    have HR := hid hr
    have HI := hid hi
    clear hr hi h1 h2
    go_wp2_with fail
    refine (isfin_any r i HR.out HI.out _).mono ?_
    rintro e w3 ⟨rfl, rfl⟩
    rcases Bool.eq_false_or_eq_true (finB r && finB i) with hf | hf
    · rw [hf]
      have HF := hid hf
      clear hf
      go_wp2_with fail
      go_ret2
      exact retO_true HR.out HI.out HE1.out HE2.out HF.out HB2.out
    · rw [hf]
      have HF := hid hf
      clear hf
      go_wp2_with fail
      go_ret2
      exact retO_false HE1.out HE2.out HF.out HB2.out
  · go_wp2_with fail
    refine (conj_any x y _).mono ?_
    rintro e w2 ⟨rfl, rfl⟩
    have HB2 := hid HB1.out
    obtain ⟨r, hg1⟩ : ∃ r, r = x := ⟨_, rfl⟩
    obtain ⟨i, hg2⟩ : ∃ i, i = neg64 y := ⟨_, rfl⟩
    have hr : r < 2 ^ 64 := by rw [hg1]; exact HZ.out.1
    have hi : i < 2 ^ 64 := by rw [hg2]; exact neg_wf HZ.out.2.1
    have HG1 := hid (show (stv ⟨5, b, c, q, p⟩ (x, y)).1 = r from hg1.symm)
    have HG2 := hid (show (stv ⟨5, b, c, q, p⟩ (x, y)).2 = i from hg2.symm)
    rw [← hg2]
    try rw [← hg1]
    clear hg2
    subst hg1
    have HE1 := hid (show Fl.Eqv .f64 r (stv ⟨5, b, c, q, p⟩ (r, y)).1 from HG1.out ▸ Fl.Eqv.refl _ _)
    have HE2 := hid (show Fl.Eqv .f64 i (stv ⟨5, b, c, q, p⟩ (r, y)).2 from HG2.out ▸ Fl.Eqv.refl _ _)
    have HR := hid hr
    have HI := hid hi
    clear hr hi
    go_wp2_with fail
    refine (isfin_any r i HR.out HI.out _).mono ?_
    rintro e w3 ⟨rfl, rfl⟩
    rcases Bool.eq_false_or_eq_true (finB r && finB i) with hf | hf
    · rw [hf]
      have HF := hid hf
      clear hf
      go_wp2_with fail
      go_ret2
      exact retO_true HR.out HI.out HE1.out HE2.out HF.out HB2.out
    · rw [hf]
      have HF := hid hf
      clear hf
      go_wp2_with fail
      go_ret2
      exact retO_false HE1.out HE2.out HF.out HB2.out
  · go_wp2_with fail
    refine (negz_any x y _).mono ?_
    rintro e w2 ⟨rfl, rfl⟩
    have HB2 := hid HB1.out
    obtain ⟨r, hg1⟩ : ∃ r, r = neg64 x := ⟨_, rfl⟩
    obtain ⟨i, hg2⟩ : ∃ i, i = neg64 y := ⟨_, rfl⟩
    have hr : r < 2 ^ 64 := by rw [hg1]; exact neg_wf HZ.out.1
    have hi : i < 2 ^ 64 := by rw [hg2]; exact neg_wf HZ.out.2.1
    have HG1 := hid (show (stv ⟨6, b, c, q, p⟩ (x, y)).1 = r from hg1.symm)
    have HG2 := hid (show (stv ⟨6, b, c, q, p⟩ (x, y)).2 = i from hg2.symm)
    rw [← hg2]
    try rw [← hg1]
    clear hg2
    clear hg1
    have HE1 := hid (show Fl.Eqv .f64 r (stv ⟨6, b, c, q, p⟩ (x, y)).1 from HG1.out ▸ Fl.Eqv.refl _ _)
    have HE2 := hid (show Fl.Eqv .f64 i (stv ⟨6, b, c, q, p⟩ (x, y)).2 from HG2.out ▸ Fl.Eqv.refl _ _)
    have HR := hid hr
    have HI := hid hi
    clear hr hi
    go_wp2_with fail
    refine (isfin_any r i HR.out HI.out _).mono ?_
    rintro e w3 ⟨rfl, rfl⟩
    rcases Bool.eq_false_or_eq_true (finB r && finB i) with hf | hf
    · rw [hf]
      have HF := hid hf
      clear hf
      go_wp2_with fail
      go_ret2
      exact retO_true HR.out HI.out HE1.out HE2.out HF.out HB2.out
    · rw [hf]
      have HF := hid hf
      clear hf
      go_wp2_with fail
      go_ret2
      exact retO_false HE1.out HE2.out HF.out HB2.out
  · go_wp2_with fail
    refine (turned2_any x y q p (HS.out.2.2.2.2.2.2.1 rfl).1 (HS.out.2.2.2.2.2.2.1 rfl).2 _).mono ?_
    rintro e w2 ⟨r, i, rfl, hr, hi, h1, h2, hb2⟩
    have HB2 := hid (bthen HB1.out hb2)
    clear hb2
    have HE1 := hid (show Fl.Eqv .f64 r (stv ⟨7, b, c, q, p⟩ (x, y)).1 from h1)
    have HE2 := hid (show Fl.Eqv .f64 i (stv ⟨7, b, c, q, p⟩ (x, y)).2 from h2)
    have HR := hid hr
    have HI := hid hi
    clear hr hi h1 h2
    go_wp2_with fail
    refine (isfin_any r i HR.out HI.out _).mono ?_
    rintro e w3 ⟨rfl, rfl⟩
    rcases Bool.eq_false_or_eq_true (finB r && finB i) with hf | hf
    · rw [hf]
      have HF := hid hf
      clear hf
      go_wp2_with fail
      go_ret2
      exact retO_true HR.out HI.out HE1.out HE2.out HF.out HB2.out
    · rw [hf]
      have HF := hid hf
      clear hf
      go_wp2_with fail
      go_ret2
      exact retO_false HE1.out HE2.out HF.out HB2.out
end Go.Proofs.Ytbloipnpgncjiaa
