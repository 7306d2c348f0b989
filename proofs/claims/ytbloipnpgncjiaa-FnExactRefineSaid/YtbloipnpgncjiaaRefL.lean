/- What a valid table tells at the X of its points; a table with the points of another one. Plain laws. -/
import Derived.Test.YtbloipnpgncjiaaNodeL
namespace Go.Proofs.Ytbloipnpgncjiaa
open Go.RowKit

theorem tab_nan {ps : List (Nat × Nat)} (h : tabOk ps = true) {i : Nat} (hi : i < ps.length) : Fl.nan .f32 (ps.getD i (0, 0)).1 = false := by
  have h2 := (step_fin (x := (ps.getD i (0, 0)).1) (y := (ps.getD i (0, 0)).2) rfl ((tabOk_iff.1 h).2 i hi)).1
  exact Fl.fin_nan .f32 (show Fl.fin Ieee.single _ = true from h2)
theorem tab_lt {ps : List (Nat × Nat)} (h : tabOk ps = true) {i : Nat} (hi : i + 1 < ps.length) : Fl.ky .f32 (ps.getD i (0, 0)).1 < Fl.ky .f32 (ps.getD (i + 1) (0, 0)).1 := by
  have hs := (tabOk_iff.1 h).2 (i + 1) hi
  rw [step_next (x := (ps.getD (i + 1) (0, 0)).1) (y := (ps.getD (i + 1) (0, 0)).2) (x' := (ps.getD i (0, 0)).1) (y' := (ps.getD i (0, 0)).2) (by omega) rfl rfl] at hs
  simp only [Bool.and_eq_true] at hs
  have hl := hs.2.1.1
  rw [Fl.lt_ky, tab_nan h (show i < ps.length by omega), tab_nan h hi] at hl
  simpa using hl
theorem tab_rise {ps : List (Nat × Nat)} (h : tabOk ps = true) : ∀ {d i : Nat}, i + d < ps.length → 0 < d → Fl.ky .f32 (ps.getD i (0, 0)).1 < Fl.ky .f32 (ps.getD (i + d) (0, 0)).1
  | 0, _, _, h0 => absurd h0 (by decide)
  | 1, i, hi, _ => tab_lt h hi
  | d + 2, i, hi, _ => by
    have h1 := tab_rise h (d := d + 1) (i := i) (by omega) (by omega)
    have h2 := tab_lt h (i := i + (d + 1)) (by omega)
    rw [show i + (d + 1) + 1 = i + (d + 2) by omega] at h2
    omega
theorem tab_rise' {ps : List (Nat × Nat)} (h : tabOk ps = true) {i j : Nat} (hij : i < j) (hj : j < ps.length) : Fl.ky .f32 (ps.getD i (0, 0)).1 < Fl.ky .f32 (ps.getD j (0, 0)).1 := by
  have := tab_rise h (d := j - i) (i := i) (by omega) (by omega)
  rwa [show i + (j - i) = j by omega] at this
theorem eq_ky32 {x y : Nat} (h : Fl.eq .f32 x y = true) : Fl.nan .f32 x = false ∧ Fl.nan .f32 y = false ∧ Fl.ky .f32 x = Fl.ky .f32 y := by
  rw [Fl.eq_ky] at h
  simp only [Bool.and_eq_true, Bool.not_eq_true', decide_eq_true_eq] at h
  exact ⟨h.1.1, h.1.2, h.2⟩
/-- a table tells the Y of its points -/
theorem tab_node {ps : List (Nat × Nat)} {x : Nat} (ht : tabOk ps = true) {k : Nat} (hk : k < ps.length) (he : Fl.eq .f32 (ps.getD k (0, 0)).1 x = true) : segIn ps x = true ∧ interV ps x = (ps.getD k (0, 0)).2 := by
  obtain ⟨n1, n2, kk⟩ := eq_ky32 he
  have hnan : ∀ i, i < ps.length → Fl.nan .f32 (ps.getD i (0, 0)).1 = false := fun i hi => tab_nan ht hi
  have hs : segIn ps x = true := by
    unfold segIn
    rw [ht, Fl.ge_ky, Fl.le_ky, n2, hnan 0 (by omega), hnan (ps.length - 1) (by omega), ← kk]
    simp only [Bool.not_false, Bool.true_and, Bool.and_eq_true, decide_eq_true_eq]
    refine ⟨?_, ?_⟩
    · by_cases h0 : k = 0
      · subst h0; exact Int.le_refl _
      · exact Int.le_of_lt (tab_rise' ht (by omega) hk)
    · by_cases h0 : k = ps.length - 1
      · rw [h0]; exact Int.le_refl _
      · exact Int.le_of_lt (tab_rise' ht (by omega) (by omega))
  refine ⟨hs, ?_⟩
  unfold interV interN
  rw [hs]
  have hf : ps.find? (fun p => Fl.eq .f32 p.1 x) = some (ps.getD k (0, 0)) := by
    refine find_at hk he ?_
    intro i hi
    show Fl.eq .f32 _ _ = false
    rw [Fl.eq_ky, n2, hnan i (by omega)]
    have := tab_rise' ht hi hk
    rw [decide_eq_false (show ¬ (Fl.ky .f32 (ps.getD i (0, 0)).1 = Fl.ky .f32 x) by omega)]; rfl
  rw [hf]; rfl
theorem tab_mem {ps : List (Nat × Nat)} {x : Nat} {p : Nat × Nat} (ht : tabOk ps = true) (hp : p ∈ ps) (he : Fl.eq .f32 p.1 x = true) : segIn ps x = true ∧ interV ps x = p.2 := by
  obtain ⟨k, hk, rfl⟩ := List.getElem_of_mem hp
  rw [← getD_at hk] at he ⊢
  exact tab_node ht hk he
theorem eq_self32 {x : Nat} (h : Fl.nan .f32 x = false) : Fl.eq .f32 x x = true := by rw [Fl.eq_ky, h]; simp
end Go.Proofs.Ytbloipnpgncjiaa
