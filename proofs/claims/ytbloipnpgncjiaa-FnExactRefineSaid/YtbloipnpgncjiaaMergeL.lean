/- The stable merge of two lists by a key, the stable sort by it, exchanges of two places. Plain laws. -/
import Derived.Test.YtbloipnpgncjiaaRowW
namespace Go.Proofs.Ytbloipnpgncjiaa
section
variable {α : Type} (key : α → Int)

def smgo (x : α) (f : List α → List α) : List α → List α
  | [] => x :: f []
  | y :: Y => if key y < key x then y :: smgo x f Y else x :: f (y :: Y)
/-- the stable merge -/
def smerge : List α → List α → List α
  | [] => fun Y => Y
  | x :: X => smgo key x (smerge X)
theorem sm_left (Y : List α) : smerge key [] Y = Y := rfl
theorem sm_right : ∀ X : List α, smerge key X [] = X
  | [] => rfl
  | x :: X => by
    show x :: smerge key X [] = x :: X
    rw [sm_right X]
theorem sm_split : ∀ (X1 Y1 X2 Y2 : List α), (∀ x ∈ X2, ∀ y ∈ Y1, key y < key x) → (∀ x ∈ X1, ∀ y ∈ Y2, key x ≤ key y) →
    smerge key (X1 ++ X2) (Y1 ++ Y2) = smerge key X1 Y1 ++ smerge key X2 Y2
  | [], [], X2, Y2, _, _ => rfl
  | [], y :: Y1, [], Y2, _, _ => rfl
  | [], y :: Y1, x :: X2, Y2, h1, h2 => by
    have c : key y < key x := h1 x (List.mem_cons_self ..) y (List.mem_cons_self ..)
    have ih := sm_split [] Y1 (x :: X2) Y2 (fun a ha b hb => h1 a ha b (List.mem_cons_of_mem _ hb)) h2
    show (if key y < key x then y :: smerge key (x :: X2) (Y1 ++ Y2) else _) = _
    rw [if_pos c]
    simp only [List.nil_append] at ih
    rw [ih]; rfl
  | x :: X1, [], X2, [], h1, h2 => by
    simp only [List.append_nil, sm_right]
  | x :: X1, [], X2, y :: Y2, h1, h2 => by
    have c : ¬ key y < key x := by have := h2 x (List.mem_cons_self ..) y (List.mem_cons_self ..); omega
    have ih := sm_split X1 [] X2 (y :: Y2) (fun a _ b hb => by cases hb) (fun a ha => h2 a (List.mem_cons_of_mem _ ha))
    show (if key y < key x then _ else x :: smerge key (X1 ++ X2) (y :: Y2)) = _
    rw [if_neg c]
    simp only [List.nil_append] at ih
    rw [ih]; rfl
  | x :: X1, y :: Y1, X2, Y2, h1, h2 => by
    show (if key y < key x then y :: smerge key (x :: (X1 ++ X2)) (Y1 ++ Y2) else x :: smerge key (X1 ++ X2) (y :: (Y1 ++ Y2))) = (if key y < key x then y :: smerge key (x :: X1) Y1 else x :: smerge key X1 (y :: Y1)) ++ _
    split
    · have ih := sm_split (x :: X1) Y1 X2 Y2 (fun a ha b hb => h1 a ha b (List.mem_cons_of_mem _ hb)) h2
      simp only [List.cons_append] at ih ⊢
      rw [ih]
    · have ih := sm_split X1 (y :: Y1) X2 Y2 h1 (fun a ha => h2 a (List.mem_cons_of_mem _ ha))
      simp only [List.cons_append] at ih ⊢
      rw [ih]
termination_by X1 Y1 => X1.length + Y1.length
theorem sm_perm : ∀ X Y : List α, List.Perm (smerge key X Y) (X ++ Y)
  | [], Y => List.Perm.refl _
  | x :: X, [] => by rw [sm_right, List.append_nil]
  | x :: X, y :: Y => by
    show List.Perm (if key y < key x then y :: smerge key (x :: X) Y else x :: smerge key X (y :: Y)) _
    split
    · exact ((sm_perm (x :: X) Y).cons y).trans (List.perm_middle.symm)
    · exact (sm_perm X (y :: Y)).cons x
termination_by X Y => X.length + Y.length
theorem sm_len (X Y : List α) : (smerge key X Y).length = X.length + Y.length := by rw [(sm_perm key X Y).length_eq, List.length_append]
theorem sm_mem {X Y : List α} {a : α} : a ∈ smerge key X Y ↔ a ∈ X ∨ a ∈ Y := by rw [(sm_perm key X Y).mem_iff, List.mem_append]
/-- by rising keys -/
def Srt (S : List α) : Prop := S.Pairwise (fun a b => key a ≤ key b)
variable {key}
theorem srt_sm : ∀ {X Y : List α}, Srt key X → Srt key Y → Srt key (smerge key X Y)
  | [], Y, _, h => h
  | x :: X, [], h, _ => by rw [sm_right]; exact h
  | x :: X, y :: Y, hx, hy => by
    obtain ⟨x1, x2⟩ := List.pairwise_cons.1 hx
    obtain ⟨y1, y2⟩ := List.pairwise_cons.1 hy
    show Srt key (if key y < key x then y :: smerge key (x :: X) Y else x :: smerge key X (y :: Y))
    split
    · rename_i c
      refine List.pairwise_cons.2 ⟨fun a ha => ?_, srt_sm hx y2⟩
      rcases (sm_mem key).1 ha with h | h
      · rcases List.mem_cons.1 h with rfl | h
        · omega
        · have := x1 a h; omega
      · exact y1 a h
    · rename_i c
      refine List.pairwise_cons.2 ⟨fun a ha => ?_, srt_sm x2 hy⟩
      rcases (sm_mem key).1 ha with h | h
      · exact x1 a h
      · rcases List.mem_cons.1 h with rfl | h
        · omega
        · have := y1 a h; omega
termination_by X Y => X.length + Y.length
theorem srt_app {S T : List α} (h : Srt key (S ++ T)) : Srt key S ∧ Srt key T := by
  obtain ⟨h1, h2, _⟩ := List.pairwise_append.1 h
  exact ⟨h1, h2⟩
theorem srt_cut : ∀ {S : List α} (k : Int), Srt key S → ∃ S1 S2, S = S1 ++ S2 ∧ (∀ a ∈ S1, key a ≤ k) ∧ ∀ a ∈ S2, k < key a
  | [], k, _ => ⟨[], [], rfl, (fun _ h => by cases h), (fun _ h => by cases h)⟩
  | x :: S, k, h => by
    obtain ⟨x1, x2⟩ := List.pairwise_cons.1 h
    by_cases c : key x ≤ k
    · obtain ⟨S1, S2, e, h1, h2⟩ := srt_cut k x2
      refine ⟨x :: S1, S2, by rw [e]; rfl, fun a ha => ?_, h2⟩
      rcases List.mem_cons.1 ha with rfl | ha
      · exact c
      · exact h1 a ha
    · refine ⟨[], x :: S, rfl, (fun _ h => by cases h), fun a ha => ?_⟩
      rcases List.mem_cons.1 ha with rfl | ha
      · omega
      · have := x1 a ha; omega
theorem sm_ins {S1 S2 : List α} {y : α} (h1 : ∀ a ∈ S1, key a ≤ key y) (h2 : ∀ a ∈ S2, key y < key a) : smerge key (S1 ++ S2) [y] = S1 ++ y :: S2 := by
  have e := sm_split key S1 [y] S2 [] (fun x hx b hb => by rw [List.mem_singleton.1 hb]; exact h2 x hx) (fun x hx b hb => by cases hb)
  rw [List.append_nil, sm_right] at e
  rw [e]
  have e2 := sm_split key S1 [] [] [y] (fun x hx => by cases hx) (fun x hx b hb => by rw [List.mem_singleton.1 hb]; exact h1 x hx)
  rw [List.append_nil, List.nil_append, sm_right, sm_left] at e2
  rw [e2, List.append_assoc]; rfl
theorem sm_one {y : α} {S1 S2 : List α} (h1 : ∀ a ∈ S1, key a < key y) (h2 : ∀ a ∈ S2, key y ≤ key a) : smerge key [y] (S1 ++ S2) = S1 ++ y :: S2 := by
  have e := sm_split key [] S1 [y] S2 (fun x hx b hb => by rw [List.mem_singleton.1 hx]; exact h1 b hb) (fun x hx => by cases hx)
  rw [List.nil_append, sm_left] at e
  rw [e]
  have e2 := sm_split key [y] [] [] S2 (fun x hx => by cases hx) (fun x hx b hb => by rw [List.mem_singleton.1 hx]; exact h2 b hb)
  rw [List.append_nil, List.nil_append, sm_right, sm_left] at e2
  rw [e2]; rfl
theorem sm_snoc {S T : List α} (y : α) (hS : Srt key S) (hT : Srt key T) : smerge key (smerge key S T) [y] = smerge key S (smerge key T [y]) := by
  obtain ⟨S1, S2, rfl, s1, s2⟩ := srt_cut (key y) hS
  obtain ⟨T1, T2, rfl, t1, t2⟩ := srt_cut (key y) hT
  rw [sm_split key S1 T1 S2 T2 (fun x hx b hb => by have := s2 x hx; have := t1 b hb; omega) (fun x hx b hb => by have := s1 x hx; have := t2 b hb; omega)]
  rw [sm_ins (S1 := smerge key S1 T1) (S2 := smerge key S2 T2) (fun a ha => by rcases (sm_mem key).1 ha with h | h; exact s1 a h; exact t1 a h) (fun a ha => by rcases (sm_mem key).1 ha with h | h; exact s2 a h; exact t2 a h)]
  rw [sm_ins t1 t2]
  rw [sm_split key S1 T1 S2 (y :: T2) (fun x hx b hb => by have := s2 x hx; have := t1 b hb; omega) (fun x hx b hb => by
    have := s1 x hx
    rcases List.mem_cons.1 hb with rfl | hb
    · exact this
    · have := t2 b hb; omega)]
  congr 1
  cases S2 with
  | nil => rfl
  | cons x S2 =>
    have c := s2 x (List.mem_cons_self ..)
    show _ = (if key y < key x then y :: smerge key (x :: S2) T2 else _)
    rw [if_pos c]
variable (key)
/-- the stable sort -/
def msort (xs : List α) : List α := xs.foldl (fun S x => smerge key S [x]) []
variable {key}
theorem msort_snoc (xs : List α) (x : α) : msort key (xs ++ [x]) = smerge key (msort key xs) [x] := by unfold msort; rw [List.foldl_append]; rfl
theorem srt_single (x : α) : Srt key [x] := List.pairwise_singleton ..
theorem srt_foldl : ∀ (xs S : List α), Srt key S → Srt key (xs.foldl (fun S x => smerge key S [x]) S)
  | [], _, h => h
  | x :: xs, _, h => srt_foldl xs _ (srt_sm h (srt_single x))
theorem srt_msort (xs : List α) : Srt key (msort key xs) := srt_foldl xs [] List.Pairwise.nil
theorem foldl_perm : ∀ (xs S : List α), List.Perm (xs.foldl (fun S x => smerge key S [x]) S) (S ++ xs)
  | [], S => by simp
  | x :: xs, S => by
    refine (foldl_perm xs _).trans ?_
    refine ((sm_perm key S [x]).append_right xs).trans ?_
    rw [List.append_assoc]; exact List.Perm.refl _
theorem msort_perm (xs : List α) : List.Perm (msort key xs) xs := foldl_perm xs []
theorem msort_len (xs : List α) : (msort key xs).length = xs.length := (msort_perm xs).length_eq
theorem msort_mem {xs : List α} {a : α} : a ∈ msort key xs ↔ a ∈ xs := (msort_perm xs).mem_iff
theorem foldl_app (S : List α) (hS : Srt key S) : ∀ (ys T : List α), Srt key T → ys.foldl (fun S x => smerge key S [x]) (smerge key S T) = smerge key S (ys.foldl (fun S x => smerge key S [x]) T)
  | [], T, _ => rfl
  | y :: ys, T, hT => by
    show ys.foldl _ (smerge key (smerge key S T) [y]) = _
    rw [sm_snoc y hS hT]
    exact foldl_app S hS ys (smerge key T [y]) (srt_sm hT (srt_single y))
theorem msort_app (xs ys : List α) : msort key (xs ++ ys) = smerge key (msort key xs) (msort key ys) := by
  unfold msort
  rw [List.foldl_append]
  have h := foldl_app (xs.foldl (fun S x => smerge key S [x]) []) (srt_msort xs) ys [] List.Pairwise.nil
  rw [sm_right] at h
  exact h

/-! by places -/
theorem srt_get {S : List α} (h : Srt key S) (d : α) {i j : Nat} (hij : i ≤ j) (hj : j < S.length) : key (S.getD i d) ≤ key (S.getD j d) := by
  have e1 : S.getD i d = S[i] := by simp [List.getD, show i < S.length by omega]
  have e2 : S.getD j d = S[j] := by simp [List.getD, hj]
  rw [e1, e2]
  by_cases c : i = j
  · subst c; exact Int.le_refl _
  · exact List.pairwise_iff_getElem.1 h i j (by omega) hj (by omega)
theorem mem_take_get {S : List α} (d : α) {i : Nat} {a : α} (h : a ∈ S.take i) : ∃ k, k < i ∧ k < S.length ∧ a = S.getD k d := by
  obtain ⟨k, hk, rfl⟩ := List.getElem_of_mem h
  rw [List.length_take] at hk
  refine ⟨k, by omega, by omega, ?_⟩
  rw [List.getElem_take]; simp [List.getD, show k < S.length by omega]
theorem mem_drop_get {S : List α} (d : α) {i : Nat} {a : α} (h : a ∈ S.drop i) : ∃ k, i ≤ k ∧ k < S.length ∧ a = S.getD k d := by
  obtain ⟨k, hk, rfl⟩ := List.getElem_of_mem h
  rw [List.length_drop] at hk
  refine ⟨i + k, by omega, by omega, ?_⟩
  rw [List.getElem_drop]; simp [List.getD, show i + k < S.length by omega]
/-- where both lists may be cut -/
theorem sym_split {X Y : List α} (hX : Srt key X) (hY : Srt key Y) (d : α) {i j : Nat} (hi : i ≤ X.length) (hj : j ≤ Y.length)
    (h1 : i = 0 ∨ j = Y.length ∨ key (X.getD (i - 1) d) ≤ key (Y.getD j d)) (h2 : i = X.length ∨ j = 0 ∨ key (Y.getD (j - 1) d) < key (X.getD i d)) :
    smerge key X Y = smerge key (X.take i) (Y.take j) ++ smerge key (X.drop i) (Y.drop j) := by
  have e := sm_split key (X.take i) (Y.take j) (X.drop i) (Y.drop j) (fun x hx y hy => by
    obtain ⟨k, k1, k2, rfl⟩ := mem_drop_get d hx
    obtain ⟨l, l1, l2, rfl⟩ := mem_take_get d hy
    rcases h2 with h | h | h
    · omega
    · omega
    · have := srt_get hX d k1 k2
      have := srt_get hY d (show l ≤ j - 1 by omega) (show j - 1 < Y.length by omega)
      omega) (fun x hx y hy => by
    obtain ⟨k, k1, k2, rfl⟩ := mem_take_get d hx
    obtain ⟨l, l1, l2, rfl⟩ := mem_drop_get d hy
    rcases h1 with h | h | h
    · omega
    · omega
    · have := srt_get hX d (show k ≤ i - 1 by omega) (show i - 1 < X.length by omega)
      have := srt_get hY d l1 l2
      omega)
  rw [List.take_append_drop, List.take_append_drop] at e
  exact e

/-! two places exchanged -/
def swapL (d : α) (L : List α) (u v : Nat) : List α := (L.set u (L.getD v d)).set v (L.getD u d)
theorem swapL_len (d : α) (L : List α) (u v : Nat) : (swapL d L u v).length = L.length := by simp [swapL]
theorem swapL_get (d : α) (L : List α) {u v i : Nat} (hu : u < L.length) (hv : v < L.length) : (swapL d L u v).getD i d = if i = v then L.getD u d else if i = u then L.getD v d else L.getD i d := by
  unfold swapL
  simp only [List.getD, List.getElem?_set, List.length_set]
  by_cases c : v = i
  · subst c; simp [hv]
  · rw [if_neg c, if_neg (show ¬ (i = v) from fun h => c h.symm)]
    by_cases c2 : u = i
    · subst c2; simp [hu]
    · rw [if_neg c2, if_neg (show ¬ (i = u) from fun h => c2 h.symm)]
theorem swapL_mid (d : α) (P M Q : List α) (x y : α) : swapL d (P ++ x :: (M ++ y :: Q)) P.length (P.length + 1 + M.length) = P ++ y :: (M ++ x :: Q) := by
  have e1 : (P ++ x :: (M ++ y :: Q)).getD P.length d = x := by simp [List.getD]
  have e2 : (P ++ x :: (M ++ y :: Q)).getD (P.length + 1 + M.length) d = y := by
    simp only [List.getD]
    rw [List.getElem?_append_right (by omega), show P.length + 1 + M.length - P.length = M.length + 1 by omega, List.getElem?_cons_succ, List.getElem?_append_right (Nat.le_refl _)]
    simp
  unfold swapL
  rw [e1, e2, List.set_append_right _ _ (Nat.le_refl _), Nat.sub_self, List.set_cons_zero, List.set_append_right _ _ (by omega), show P.length + 1 + M.length - P.length = M.length + 1 by omega, List.set_cons_succ, List.set_append_right _ _ (Nat.le_refl _), Nat.sub_self, List.set_cons_zero]
end
end Go.Proofs.Ytbloipnpgncjiaa
