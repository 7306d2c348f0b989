/- The stable sort by insertion of a list of points, by X. Plain laws. -/
import Derived.Test.YtbloipnpgncjiaaPts
namespace Go.Proofs.Ytbloipnpgncjiaa
open Go.RowKit

/-- where x is put: behind all that are not greater, from place k downwards -/
def posP (x : Nat × Nat) (S : List (Nat × Nat)) : Nat → Nat
  | 0 => 0
  | k + 1 => if Fl.lt .f32 x.1 (S.getD k (0, 0)).1 then posP x S k else k + 1
theorem posP_le (x : Nat × Nat) (S : List (Nat × Nat)) : ∀ k, posP x S k ≤ k
  | 0 => Nat.le_refl _
  | k + 1 => by
    unfold posP
    split
    · exact Nat.le_succ_of_le (posP_le x S k)
    · exact Nat.le_refl _
def insP (S : List (Nat × Nat)) (x : Nat × Nat) : List (Nat × Nat) := S.take (posP x S S.length) ++ x :: S.drop (posP x S S.length)
def isortP (xs : List (Nat × Nat)) : List (Nat × Nat) := xs.foldl insP []
theorem insP_perm (S : List (Nat × Nat)) (x : Nat × Nat) : List.Perm (insP S x) (x :: S) := by
  unfold insP
  refine List.perm_middle.trans ?_
  rw [List.take_append_drop]
theorem insP_len (S : List (Nat × Nat)) (x : Nat × Nat) : (insP S x).length = S.length + 1 := (insP_perm S x).length_eq
theorem isortP_snoc (xs : List (Nat × Nat)) (x : Nat × Nat) : isortP (xs ++ [x]) = insP (isortP xs) x := by unfold isortP; rw [List.foldl_append]; rfl
theorem isortP_perm (xs : List (Nat × Nat)) : List.Perm (isortP xs) xs := by
  have h : ∀ (ys S : List (Nat × Nat)), List.Perm (ys.foldl insP S) (S ++ ys) := by
    intro ys
    induction ys with
    | nil => intro S; simp
    | cons y ys ih =>
      intro S
      show List.Perm (ys.foldl insP (insP S y)) (S ++ y :: ys)
      refine (ih _).trans ?_
      refine ((insP_perm S y).append_right ys).trans ?_
      exact List.perm_middle.symm
  have h2 := h xs []
  show List.Perm (xs.foldl insP []) xs
  simpa using h2
theorem isortP_len (xs : List (Nat × Nat)) : (isortP xs).length = xs.length := (isortP_perm xs).length_eq
theorem isortP_mem {xs : List (Nat × Nat)} {x : Nat × Nat} : x ∈ isortP xs ↔ x ∈ xs := (isortP_perm xs).mem_iff

/-- by rising keys -/
def RisingP (S : List (Nat × Nat)) : Prop := ∀ i j, i ≤ j → j < S.length → Fl.ky .f32 (S.getD i (0, 0)).1 ≤ Fl.ky .f32 (S.getD j (0, 0)).1
theorem posP_spec {x : Nat × Nat} {S : List (Nat × Nat)} (hx : Fl.nan .f32 x.1 = false) (hS : ∀ y ∈ S, Fl.nan .f32 y.1 = false) : ∀ k, k ≤ S.length → (∀ i, posP x S k ≤ i → i < k → Fl.ky .f32 x.1 < Fl.ky .f32 (S.getD i (0, 0)).1) ∧ (0 < posP x S k → Fl.ky .f32 (S.getD (posP x S k - 1) (0, 0)).1 ≤ Fl.ky .f32 x.1)
  | 0, _ => ⟨fun i _ h => absurd h (by omega), fun h => absurd h (by simp [posP])⟩
  | k + 1, hk => by
    have hn : Fl.nan .f32 (S.getD k (0, 0)).1 = false := by
      have : S.getD k (0, 0) = S[k] := by simp [List.getD, show k < S.length by omega]
      rw [this]
      exact hS _ (List.getElem_mem _)
    have hl : Fl.lt .f32 x.1 (S.getD k (0, 0)).1 = decide (Fl.ky .f32 x.1 < Fl.ky .f32 (S.getD k (0, 0)).1) := by rw [Fl.lt_ky, hx, hn]; simp
    unfold posP
    rw [hl]
    by_cases c : Fl.ky .f32 x.1 < Fl.ky .f32 (S.getD k (0, 0)).1
    · rw [if_pos (by simpa using c)]
      obtain ⟨a, b⟩ := posP_spec hx hS k (by omega)
      refine ⟨fun i h1 h2 => ?_, b⟩
      by_cases e : i = k
      · subst e; exact c
      · exact a i h1 (by omega)
    · rw [if_neg (by simpa using c)]
      exact ⟨fun i h1 h2 => absurd h1 (by omega), fun _ => by rw [Nat.add_sub_cancel]; omega⟩
theorem getD_midP {α : Type} {R T : List α} {x d : α} {i : Nat} : (R ++ x :: T).getD i d = if i < R.length then R.getD i d else if i = R.length then x else T.getD (i - R.length - 1) d := by
  simp only [List.getD]
  rw [List.getElem?_append]
  split
  · rfl
  · rename_i h
    split
    · rename_i e; subst e; simp
    · rename_i e
      rw [show i - R.length = (i - R.length - 1) + 1 by omega]; simp
theorem insP_rising {S : List (Nat × Nat)} {x : Nat × Nat} (hx : Fl.nan .f32 x.1 = false) (hS : ∀ y ∈ S, Fl.nan .f32 y.1 = false) (h : RisingP S) : RisingP (insP S x) := by
  obtain ⟨a, b⟩ := posP_spec hx hS S.length (Nat.le_refl _)
  have hp := posP_le x S S.length
  unfold insP
  generalize posP x S S.length = p at a b hp
  have l1 : (S.take p).length = p := by rw [List.length_take]; omega
  have t1 : ∀ i, i < p → (S.take p).getD i (0, 0) = S.getD i (0, 0) := fun i hi => by simp [List.getD, hi]
  have t2 : ∀ i, (S.drop p).getD i (0, 0) = S.getD (p + i) (0, 0) := fun i => by simp [List.getD, List.getElem?_drop]
  intro i j hij hj
  simp only [List.length_append, List.length_cons, List.length_drop, l1] at hj
  rw [getD_midP, getD_midP, l1]
  by_cases c1 : j < p
  · rw [if_pos c1, if_pos (by omega), t1 i (by omega), t1 j c1]; exact h i j hij (by omega)
  · rw [if_neg c1]
    by_cases c2 : j = p
    · rw [if_pos c2]
      by_cases c3 : i < p
      · rw [if_pos c3, t1 i c3]
        have := h i (p - 1) (by omega) (by omega)
        have := b (by omega)
        omega
      · rw [if_neg c3, if_pos (by omega)]; exact Int.le_refl _
    · rw [if_neg c2, t2 (j - p - 1)]
      by_cases c3 : i < p
      · rw [if_pos c3, t1 i c3]
        exact h i (p + (j - p - 1)) (by omega) (by omega)
      · rw [if_neg c3]
        by_cases c4 : i = p
        · rw [if_pos c4]
          have := a (p + (j - p - 1)) (by omega) (by omega)
          omega
        · rw [if_neg c4, t2 (i - p - 1)]
          exact h (p + (i - p - 1)) (p + (j - p - 1)) (by omega) (by omega)
theorem isortP_rising {xs : List (Nat × Nat)} (h : ∀ x ∈ xs, Fl.nan .f32 x.1 = false) : RisingP (isortP xs) := by
  have H : ∀ (ys S : List (Nat × Nat)), (∀ y ∈ S, Fl.nan .f32 y.1 = false) → (∀ y ∈ ys, Fl.nan .f32 y.1 = false) → RisingP S → RisingP (ys.foldl insP S) := by
    intro ys
    induction ys with
    | nil => intro S _ _ h; exact h
    | cons y ys ih =>
      intro S hS hy hr
      refine ih _ ?_ (fun z hz => hy z (List.mem_cons_of_mem _ hz)) (insP_rising (hy y List.mem_cons_self) hS hr)
      intro z hz
      rcases List.mem_cons.1 ((insP_perm S y).mem_iff.1 hz) with rfl | hz
      · exact hy _ List.mem_cons_self
      · exact hS z hz
  exact H xs [] (fun y hy => by cases hy) h (fun i j _ hj => absurd hj (by simp))

/-- in the midst of an insertion: x stands at place j of S -/
def midP (P S : List (Nat × Nat)) (x : Nat × Nat) (j : Nat) (Q : List (Nat × Nat)) : List (Nat × Nat) := (P ++ S.take j) ++ x :: (S.drop j ++ Q)
theorem midP_len {P S Q : List (Nat × Nat)} {x : Nat × Nat} {j : Nat} (hj : j ≤ S.length) : (midP P S x j Q).length = P.length + S.length + 1 + Q.length := by
  unfold midP
  simp only [List.length_append, List.length_cons, List.length_take, List.length_drop]; omega
theorem midP_top {P S Q : List (Nat × Nat)} {x : Nat × Nat} : midP P S x S.length Q = P ++ S ++ x :: Q := by
  unfold midP
  rw [List.take_length, List.drop_length]; rfl
theorem midP_at {P S Q : List (Nat × Nat)} {x : Nat × Nat} {j : Nat} (hj : j ≤ S.length) : (midP P S x j Q).getD (P.length + j) (0, 0) = x := by
  unfold midP
  rw [getD_midP]
  have l1 : (P ++ S.take j).length = P.length + j := by simp; omega
  rw [l1, if_neg (by omega), if_pos rfl]
theorem midP_before {P S Q : List (Nat × Nat)} {x : Nat × Nat} {k : Nat} (hj : k + 1 ≤ S.length) : (midP P S x (k + 1) Q).getD (P.length + k) (0, 0) = S.getD k (0, 0) := by
  unfold midP
  have l1 : (P ++ S.take (k + 1)).length = P.length + (k + 1) := by simp; omega
  rw [getD_midP, l1, if_pos (by omega)]
  simp only [List.getD]
  rw [List.getElem?_append_right (by omega), Nat.add_sub_cancel_left, List.getElem?_take, if_pos (by omega)]
theorem midP_swap {P S Q : List (Nat × Nat)} {x : Nat × Nat} {k i : Nat} (hj : k + 1 ≤ S.length) :
    (midP P S x k Q).getD i (0, 0) = if i = P.length + k then x else if i = P.length + (k + 1) then S.getD k (0, 0) else (midP P S x (k + 1) Q).getD i (0, 0) := by
  have l1 : (P ++ S.take k).length = P.length + k := by simp; omega
  have l2 : (P ++ S.take (k + 1)).length = P.length + (k + 1) := by simp; omega
  have hk : S.drop k = S.getD k (0, 0) :: S.drop (k + 1) := by rw [List.drop_eq_getElem_cons (by omega)]; simp [List.getD, show k < S.length by omega]
  have ht : S.take (k + 1) = S.take k ++ [S.getD k (0, 0)] := by rw [List.take_succ_eq_append_getElem (by omega)]; simp [List.getD, show k < S.length by omega]
  unfold midP
  rw [getD_midP, getD_midP, l1, l2, hk]
  by_cases c1 : i < P.length + k
  · rw [if_pos c1, if_neg (by omega), if_neg (by omega), if_pos (by omega), ht]
    rw [← List.append_assoc, getD_midP (T := []), l1, if_pos c1]
  · rw [if_neg c1]
    by_cases c2 : i = P.length + k
    · rw [if_pos c2, if_pos c2]
    · rw [if_neg c2, if_neg c2]
      by_cases c3 : i = P.length + (k + 1)
      · subst c3
        rw [if_pos rfl, show P.length + (k + 1) - (P.length + k) - 1 = 0 by omega]; rfl
      · rw [if_neg c3, if_neg (by omega), if_neg c3, show i - (P.length + k) - 1 = (i - (P.length + (k + 1)) - 1) + 1 by omega]
        rfl
end Go.Proofs.Ytbloipnpgncjiaa
