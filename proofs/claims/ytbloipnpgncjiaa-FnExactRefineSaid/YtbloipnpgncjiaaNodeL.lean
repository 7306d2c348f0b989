/- Tables that rise and are bounded: what they tell at their points; mirrored. Plain laws. -/
import Derived.Test.YtbloipnpgncjiaaDTab
import Derived.Test.YtbloipnpgncjiaaInter
import Derived.Test.YtbloipnpgncjiaaLargestN
namespace Go.Proofs.Ytbloipnpgncjiaa
open Go.RowKit

theorem bnd_nan {j x : Nat} (hj : j ≤ 127) (h : bnd j x = true) : Fl.nan .f32 x = false := Fl.fin_nan .f32 (show Fl.fin Ieee.single x = true from bnd_fin hj h)
theorem DT.rise {ps : List (Nat × Nat)} (h : DT ps) : ∀ {d i : Nat}, i + d < ps.length → 0 < d → Fl.ky .f32 (ps.getD i (0, 0)).1 < Fl.ky .f32 (ps.getD (i + d) (0, 0)).1
  | 0, _, _, h0 => absurd h0 (by decide)
  | 1, i, hi, _ => h.2 i hi
  | d + 2, i, hi, _ => by
    have h1 := DT.rise h (d := d + 1) (i := i) (by omega) (by omega)
    have h2 := h.2 (i + (d + 1)) (by omega)
    rw [show i + (d + 1) + 1 = i + (d + 2) by omega] at h2
    omega
theorem DT.rise' {ps : List (Nat × Nat)} (h : DT ps) {i j : Nat} (hij : i < j) (hj : j < ps.length) : Fl.ky .f32 (ps.getD i (0, 0)).1 < Fl.ky .f32 (ps.getD j (0, 0)).1 := by
  have := h.rise (d := j - i) (i := i) (by omega) (by omega)
  rwa [show i + (j - i) = j by omega] at this
theorem find_at {ps : List (Nat × Nat)} {q : Nat × Nat → Bool} : ∀ {k : Nat}, k < ps.length → q (ps.getD k (0, 0)) = true → (∀ i, i < k → q (ps.getD i (0, 0)) = false) → ps.find? q = some (ps.getD k (0, 0)) := by
  induction ps with
  | nil => intro k hk; exact absurd hk (by simp)
  | cons p ps ih =>
    intro k hk h1 h2
    cases k with
    | zero =>
      have : q p = true := h1
      rw [List.find?_cons_of_pos this]; rfl
    | succ k =>
      have h0 : q p = false := h2 0 (by omega)
      rw [List.find?_cons_of_neg (by simp [h0])]
      exact ih (k := k) (by simpa using hk) h1 (fun i hi => h2 (i + 1) (by omega))
/-- a table tells the Y of its points -/
theorem inter_node {ps : List (Nat × Nat)} (h : DTab ps) {k : Nat} (hk : k < ps.length) : segIn ps (ps.getD k (0, 0)).1 = true ∧ interV ps (ps.getD k (0, 0)).1 = (ps.getD k (0, 0)).2 := by
  have ht := dtab_ok h
  have hd := h.2.2
  have hnan : ∀ i, i < ps.length → Fl.nan .f32 (ps.getD i (0, 0)).1 = false := fun i hi => bnd_nan (by decide) (hd.1 i hi).1
  have hs : segIn ps (ps.getD k (0, 0)).1 = true := by
    unfold segIn
    rw [ht, Fl.ge_ky, Fl.le_ky, hnan k hk, hnan 0 (by omega), hnan (ps.length - 1) (by omega)]
    simp only [Bool.not_false, Bool.true_and, Bool.and_eq_true, decide_eq_true_eq]
    refine ⟨?_, ?_⟩
    · by_cases h0 : k = 0
      · subst h0; exact Int.le_refl _
      · exact Int.le_of_lt (hd.rise' (by omega) hk)
    · by_cases h0 : k = ps.length - 1
      · rw [h0]; exact Int.le_refl _
      · exact Int.le_of_lt (hd.rise' (by omega) (by omega))
  refine ⟨hs, ?_⟩
  unfold interV interN
  rw [hs]
  have hf : ps.find? (fun p => Fl.eq .f32 p.1 (ps.getD k (0, 0)).1) = some (ps.getD k (0, 0)) := by
    refine find_at hk ?_ ?_
    · show Fl.eq .f32 _ _ = true
      rw [Fl.eq_ky, hnan k hk]; simp
    · intro i hi
      show Fl.eq .f32 _ _ = false
      rw [Fl.eq_ky, hnan k hk, hnan i (by omega)]
      have := hd.rise' hi hk
      rw [decide_eq_false (show ¬ (Fl.ky .f32 (ps.getD i (0, 0)).1 = Fl.ky .f32 (ps.getD k (0, 0)).1) by omega)]; rfl
  rw [hf]; rfl

/-! mirrored -/
theorem negB_negB (x : Nat) : negB (negB x) = x := by
  show (x ^^^ 2 ^ 31) ^^^ 2 ^ 31 = x
  rw [Nat.xor_assoc, Nat.xor_self, Nat.xor_zero]
theorem ky_negB (x : Nat) : Fl.ky .f32 (negB x) = -Fl.ky .f32 x := key_turn .f32 x
theorem bnd_negB {j x : Nat} (h : bnd j x = true) : bnd j (negB x) = true := by
  have h1 := bnd_iff.1 h
  exact bnd_iff.2 (by rw [ky_negB]; omega)
theorem mir_at {ps : List (Nat × Nat)} {j : Nat} (hj : j < ps.length) : (mirT ps ps.length).getD j (0, 0) = mirP (ps.getD (ps.length - 1 - j) (0, 0)) := by
  unfold mirT
  simp [List.getD, hj]
theorem dtab_mir {ps : List (Nat × Nat)} (h : DTab ps) : DTab (mirT ps ps.length) := by
  obtain ⟨h1, h2, h3, h4⟩ := h
  refine ⟨by rw [mirT_length]; exact h1, by rw [mirT_length]; exact h2, fun i hi => ?_, fun i hi => ?_⟩
  · rw [mirT_length] at hi
    rw [mir_at hi]
    have := h3 (ps.length - 1 - i) (by omega)
    exact ⟨bnd_negB this.1, bnd_negB this.2⟩
  · rw [mirT_length] at hi
    rw [mir_at (by omega), mir_at hi]
    have := h4 (ps.length - 1 - (i + 1)) (by omega)
    rw [show ps.length - 1 - (i + 1) + 1 = ps.length - 1 - i by omega] at this
    show Fl.ky .f32 (negB _) < Fl.ky .f32 (negB _)
    rw [ky_negB, ky_negB]; omega
theorem mir_mir (ps : List (Nat × Nat)) : mirT (mirT ps ps.length) (mirT ps ps.length).length = ps := by
  refine List.ext_getElem (by rw [mirT_length, mirT_length]) fun i h1 h2 => ?_
  have e1 := mir_at (ps := mirT ps ps.length) (j := i) (by rw [mirT_length]; exact h2)
  rw [← getD_at h1, ← getD_at h2, e1, mirT_length, mir_at (by omega), show ps.length - 1 - (ps.length - 1 - i) = i by omega]
  show (negB (negB _), negB (negB _)) = _
  rw [negB_negB, negB_negB]
/-- the greatest amount, by keys -/
def absK (y : Nat) : Int := ((Fl.ky .f32 y).natAbs : Int)
theorem ky_zero : Fl.ky .f32 0 = 0 := by decide +kernel
theorem ky_amount {y : Nat} (h : Fl.nan .f32 y = false) : Fl.ky .f32 (amountN y) = absK y := by
  unfold amountN absK
  rw [Fl.lt_ky, h, show Fl.nan .f32 0 = false from by decide +kernel, ky_zero]
  simp only [Bool.not_false, Bool.true_and]
  by_cases c : Fl.ky .f32 y < 0
  · rw [if_pos (by simpa using c), ky_negB]; omega
  · rw [if_neg (by simpa using c)]; omega
theorem ky_maxN {m a : Nat} (h1 : Fl.nan .f32 m = false) (h2 : Fl.nan .f32 a = false) : Fl.ky .f32 (maxN m a) = max (Fl.ky .f32 m) (Fl.ky .f32 a) ∧ Fl.nan .f32 (maxN m a) = false := by
  unfold maxN
  rw [Fl.lt_ky, h1, h2]
  simp only [Bool.not_false, Bool.true_and]
  by_cases c : Fl.ky .f32 m < Fl.ky .f32 a
  · rw [if_pos (by simpa using c)]; exact ⟨by omega, h2⟩
  · rw [if_neg (by simpa using c)]; exact ⟨by omega, h1⟩
theorem nan_amount {y : Nat} (h : Fl.nan .f32 y = false) : Fl.nan .f32 (amountN y) = false := by
  unfold amountN
  split
  · exact (nan_turn .f32 y).trans h
  · exact h
theorem largest_keys : ∀ (ps : List (Nat × Nat)) (m : Nat), Fl.nan .f32 m = false → (∀ p ∈ ps, Fl.nan .f32 p.2 = false) →
    Fl.nan .f32 (ps.foldl (fun m p => maxN m (amountN p.2)) m) = false ∧ ∀ b : Int, Fl.ky .f32 (ps.foldl (fun m p => maxN m (amountN p.2)) m) ≤ b ↔ Fl.ky .f32 m ≤ b ∧ ∀ p ∈ ps, absK p.2 ≤ b
  | [], m, hm, _ => ⟨hm, fun b => by simp⟩
  | p :: ps, m, hm, hp => by
    have hpn := hp p (List.mem_cons_self)
    have hx := ky_maxN hm (nan_amount hpn)
    obtain ⟨h1, h2⟩ := largest_keys ps (maxN m (amountN p.2)) hx.2 (fun q hq => hp q (List.mem_cons_of_mem _ hq))
    refine ⟨h1, fun b => ?_⟩
    rw [List.foldl_cons, h2 b, hx.1, ky_amount hpn]
    simp only [List.mem_cons, forall_eq_or_imp]
    constructor
    · rintro ⟨a, c⟩; exact ⟨by omega, by omega, c⟩
    · rintro ⟨a, c, d⟩; exact ⟨by omega, d⟩
theorem largest_mir {ps : List (Nat × Nat)} (h : DTab ps) : Fl.nan .f32 (largestV ps) = false ∧ Fl.nan .f32 (largestV (mirT ps ps.length)) = false ∧ Fl.ky .f32 (largestV (mirT ps ps.length)) = Fl.ky .f32 (largestV ps) := by
  have ht := dtab_ok h
  have ht' := dtab_ok (dtab_mir h)
  have hz : Fl.nan .f32 0 = false := by decide +kernel
  have nn : ∀ qs, DTab qs → ∀ p ∈ qs, Fl.nan .f32 p.2 = false := fun qs hq p hp => by
    obtain ⟨i, hi, rfl⟩ := List.getElem_of_mem hp
    have := (hq.2.2.1 i hi).2
    rw [getD_at hi] at this
    exact bnd_nan (by decide) this
  obtain ⟨a1, a2⟩ := largest_keys ps 0 hz (nn ps h)
  obtain ⟨b1, b2⟩ := largest_keys (mirT ps ps.length) 0 hz (nn _ (dtab_mir h))
  have sub : ∀ b : Int, (∀ p ∈ ps, absK p.2 ≤ b) ↔ ∀ p ∈ mirT ps ps.length, absK p.2 ≤ b := fun b => by
    constructor
    · intro hb p hp
      obtain ⟨i, hi, rfl⟩ := List.getElem_of_mem hp
      rw [mirT_length] at hi
      have e := mir_at hi
      rw [getD_at (by rw [mirT_length]; exact hi)] at e
      rw [e]
      have hj : ps.length - 1 - i < ps.length := by omega
      have := hb (ps.getD (ps.length - 1 - i) (0, 0)) (by rw [getD_at hj]; exact List.getElem_mem hj)
      show absK (negB _) ≤ b
      unfold absK at this ⊢
      rw [ky_negB]; omega
    · intro hb p hp
      obtain ⟨i, hi, rfl⟩ := List.getElem_of_mem hp
      have hj : ps.length - 1 - i < ps.length := by omega
      have e := mir_at hj
      have hj' : ps.length - 1 - i < (mirT ps ps.length).length := by rw [mirT_length]; exact hj
      have := hb ((mirT ps ps.length).getD (ps.length - 1 - i) (0, 0)) (by rw [getD_at hj']; exact List.getElem_mem hj')
      rw [e, show ps.length - 1 - (ps.length - 1 - i) = i by omega, getD_at hi] at this
      have this : absK (negB ps[i].2) ≤ b := this
      unfold absK at this ⊢
      rw [ky_negB] at this; omega
  unfold largestV
  rw [ht, ht']
  show Fl.nan .f32 (largestN ps) = false ∧ Fl.nan .f32 (largestN (mirT ps ps.length)) = false ∧ Fl.ky .f32 (largestN (mirT ps ps.length)) = Fl.ky .f32 (largestN ps)
  unfold largestN
  refine ⟨a1, b1, Int.le_antisymm ?_ ?_⟩
  · rw [b2, ← sub, ← a2]; exact Int.le_refl _
  · rw [a2, sub, ← b2]; exact Int.le_refl _
end Go.Proofs.Ytbloipnpgncjiaa
