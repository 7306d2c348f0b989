/- Stretches of a list, and lists that are sorted block by block. Plain laws. -/
import Derived.Test.YtbloipnpgncjiaaMergeL
namespace Go.Proofs.Ytbloipnpgncjiaa
section
variable {α : Type}
/-- the stretch of k elements from place i on -/
def seg (L : List α) (i k : Nat) : List α := (L.drop i).take k
theorem seg_len {L : List α} {i k : Nat} (h : i + k ≤ L.length) : (seg L i k).length = k := by
  unfold seg
  rw [List.length_take, List.length_drop]; omega
theorem seg_cut (L : List α) (i k : Nat) : L.take i ++ seg L i k ++ L.drop (i + k) = L := by
  unfold seg
  rw [List.append_assoc, show L.drop (i + k) = (L.drop i).drop k by rw [List.drop_drop], List.take_append_drop, List.take_append_drop]
theorem seg_two (L : List α) (i k l : Nat) : seg L i (k + l) = seg L i k ++ seg L (i + k) l := by
  unfold seg
  rw [List.take_add, List.drop_drop]
theorem seg_end {L : List α} {i k : Nat} (h : L.length ≤ i + k) : seg L i k = L.drop i := by
  unfold seg
  rw [List.take_of_length_le (by rw [List.length_drop]; omega)]
theorem seg_out {L : List α} {i k : Nat} (h : L.length ≤ i) : seg L i k = [] := by
  unfold seg
  rw [List.drop_of_length_le h]; simp
theorem seg_mem {L : List α} {i k : Nat} {z : α} (h : z ∈ seg L i k) : z ∈ L := List.mem_of_mem_drop (List.mem_of_mem_take h)
/-- a stretch replaced -/
theorem repl_len {L S : List α} {a k : Nat} (hS : S.length = k) (h : a + k ≤ L.length) : (L.take a ++ S ++ L.drop (a + k)).length = L.length := by
  simp only [List.length_append, List.length_take, List.length_drop]; omega
theorem repl_at {L S : List α} {a k : Nat} (hS : S.length = k) (h : a + k ≤ L.length) : seg (L.take a ++ S ++ L.drop (a + k)) a k = S := by
  have l1 : (L.take a).length = a := by rw [List.length_take]; omega
  unfold seg
  rw [List.append_assoc, List.drop_append, l1, Nat.sub_self, List.drop_zero, List.drop_of_length_le (by omega), List.nil_append, List.take_append, hS, Nat.sub_self, List.take_zero, List.append_nil, List.take_of_length_le (by omega)]
theorem repl_before {L S : List α} {a k i l : Nat} (hS : S.length = k) (h : a + k ≤ L.length) (hi : i + l ≤ a) : seg (L.take a ++ S ++ L.drop (a + k)) i l = seg L i l := by
  have l1 : (L.take a).length = a := by rw [List.length_take]; omega
  unfold seg
  rw [List.append_assoc, List.drop_append, l1, show i - a = 0 by omega, List.drop_zero, List.take_append, List.length_drop, l1, show l - (a - i) = 0 by omega, List.take_zero, List.append_nil]
  rw [List.drop_take, List.take_take, show min l (a - i) = l by omega]
theorem repl_after {L S : List α} {a k i : Nat} (hS : S.length = k) (h : a + k ≤ L.length) (hi : a + k ≤ i) : (L.take a ++ S ++ L.drop (a + k)).drop i = L.drop i := by
  have l1 : (L.take a).length = a := by rw [List.length_take]; omega
  rw [List.drop_append, List.drop_of_length_le (by simp only [List.length_append, l1]; omega), List.nil_append, List.length_append, l1, hS, List.drop_drop, show a + k + (i - (a + k)) = i by omega]
theorem repl_seg_after {L S : List α} {a k i l : Nat} (hS : S.length = k) (h : a + k ≤ L.length) (hi : a + k ≤ i) : seg (L.take a ++ S ++ L.drop (a + k)) i l = seg L i l := by
  unfold seg
  rw [repl_after hS h hi]

/-! places that are multiples of a block's length -/
def Al (k i : Nat) : Prop := ∃ s, i = s * k
theorem Al.zero (k : Nat) : Al k 0 := ⟨0, (Nat.zero_mul k).symm⟩
theorem Al.next {k i : Nat} (h : Al k i) : Al k (i + k) := by
  obtain ⟨s, rfl⟩ := h
  exact ⟨s + 1, (Nat.succ_mul s k).symm⟩
theorem Al.half {k i : Nat} (h : Al (2 * k) i) : Al k i := by
  obtain ⟨s, rfl⟩ := h
  exact ⟨s * 2, by rw [Nat.mul_assoc]⟩
theorem Al.eq {k i a : Nat} (hi : Al k i) (ha : Al k a) (h1 : a ≤ i) (h2 : i < a + k) : i = a := by
  obtain ⟨s, rfl⟩ := hi
  obtain ⟨t, rfl⟩ := ha
  have hk : 0 < k := by omega
  have h3 := Nat.le_of_mul_le_mul_right h1 hk
  have h4 : s * k < (t + 1) * k := by rw [Nat.succ_mul]; exact h2
  have h5 := Nat.lt_of_mul_lt_mul_right h4
  have : s = t := by omega
  rw [this]
theorem Al.far {k i a : Nat} (hi : Al k i) (ha : Al k a) (h1 : i < a) : i + k ≤ a := by
  obtain ⟨s, rfl⟩ := hi
  obtain ⟨t, rfl⟩ := ha
  have h3 : s < t := Nat.lt_of_mul_lt_mul_right h1
  have h4 := Nat.mul_le_mul_right k (show s + 1 ≤ t from h3)
  rw [Nat.succ_mul] at h4
  exact h4
variable (key : α → Int)
/-- sorted in blocks of this length -/
def Blk (xs : List α) (bs : Nat) (L : List α) : Prop := L.length = xs.length ∧ ∀ i, Al bs i → seg L i bs = msort key (seg xs i bs)
/-- in the midst of the first sweep -/
def Blk0 (xs : List α) (bs a : Nat) (L : List α) : Prop := L.length = xs.length ∧ Al bs a ∧ (∀ i, Al bs i → i < a → seg L i bs = msort key (seg xs i bs)) ∧ L.drop a = xs.drop a
/-- in the midst of a sweep that merges -/
def Blk2 (xs : List α) (bs a : Nat) (L : List α) : Prop := L.length = xs.length ∧ Al (2 * bs) a ∧ (∀ i, Al (2 * bs) i → i < a → seg L i (2 * bs) = msort key (seg xs i (2 * bs))) ∧ ∀ i, Al bs i → a ≤ i → seg L i bs = msort key (seg xs i bs)
variable {key}
theorem msort_nil : msort key ([] : List α) = [] := rfl
theorem Blk0.start (xs : List α) (bs : Nat) : Blk0 key xs bs 0 xs := ⟨rfl, Al.zero _, fun _ _ h => absurd h (by omega), rfl⟩
theorem Blk0.step {xs L : List α} {bs a : Nat} (h : Blk0 key xs bs a L) (hb : a + bs ≤ xs.length) : Blk0 key xs bs (a + bs) (L.take a ++ msort key (seg L a bs) ++ L.drop (a + bs)) := by
  obtain ⟨h1, h2, h3, h4⟩ := h
  have hS : (msort key (seg L a bs)).length = bs := by rw [msort_len, seg_len (by omega)]
  refine ⟨by rw [repl_len hS (by omega)]; exact h1, h2.next, fun i hi hia => ?_, ?_⟩
  · by_cases c : i < a
    · rw [repl_before hS (by omega) (hi.far h2 c)]; exact h3 i hi c
    · have : i = a := hi.eq h2 (by omega) hia
      subst this
      rw [repl_at hS (by omega)]
      unfold seg
      rw [h4]
  · rw [repl_after hS (by omega) (Nat.le_refl _), ← List.drop_drop, h4, List.drop_drop]
theorem Blk0.last {xs L : List α} {bs a : Nat} (h : Blk0 key xs bs a L) (hb : xs.length < a + bs) (ha : a ≤ xs.length) : Blk key xs bs (L.take a ++ msort key (seg L a (xs.length - a)) ++ []) := by
  obtain ⟨h1, h2, h3, h4⟩ := h
  have hS : (msort key (seg L a (xs.length - a))).length = xs.length - a := by rw [msort_len, seg_len (by omega)]
  have hd : L.drop (a + (xs.length - a)) = [] := List.drop_of_length_le (by omega)
  rw [show ([] : List α) = L.drop (a + (xs.length - a)) from hd.symm]
  refine ⟨by rw [repl_len hS (by omega)]; exact h1, fun i hi => ?_⟩
  by_cases c : i < a
  · rw [repl_before hS (by omega) (hi.far h2 c)]; exact h3 i hi c
  · by_cases c2 : i < a + bs
    · have : i = a := hi.eq h2 (by omega) c2
      subst this
      have e1 := repl_at (a := i) hS (show i + (xs.length - i) ≤ L.length by omega)
      have hl := repl_len (a := i) hS (show i + (xs.length - i) ≤ L.length by omega)
      have hg : ∀ M : List α, M.length = xs.length → seg M i bs = seg M i (xs.length - i) := fun M hM => by
        rw [seg_end (L := M) (k := bs) (by omega), seg_end (L := M) (k := xs.length - i) (by omega)]
      have e2 := hg _ (hl.trans h1)
      rw [e2, e1]
      have e3 : seg L i (xs.length - i) = seg xs i bs := by
        rw [seg_end (by omega), seg_end (by omega), h4]
      rw [e3]
    · have hl := repl_len (a := a) hS (show a + (xs.length - a) ≤ L.length by omega)
      rw [seg_out (by omega), seg_out (by omega)]; rfl
theorem Blk2.start {xs L : List α} {bs : Nat} (h : Blk key xs bs L) : Blk2 key xs bs 0 L := ⟨h.1, Al.zero _, fun _ _ h => absurd h (by omega), fun i hi _ => h.2 i hi⟩
theorem Blk2.parts {xs L : List α} {bs a : Nat} (h : Blk2 key xs bs a L) : seg L a bs = msort key (seg xs a bs) ∧ seg L (a + bs) bs = msort key (seg xs (a + bs) bs) :=
  ⟨h.2.2.2 a h.2.1.half (Nat.le_refl _), h.2.2.2 (a + bs) h.2.1.half.next (by omega)⟩
theorem Blk2.step {xs L : List α} {bs a : Nat} (h : Blk2 key xs bs a L) (hb : a + 2 * bs ≤ xs.length) :
    Blk2 key xs bs (a + 2 * bs) (L.take a ++ smerge key (seg L a bs) (seg L (a + bs) bs) ++ L.drop (a + 2 * bs)) := by
  obtain ⟨p1, p2⟩ := h.parts
  obtain ⟨h1, h2, h3, h4⟩ := h
  have hS : (smerge key (seg L a bs) (seg L (a + bs) bs)).length = 2 * bs := by rw [sm_len, seg_len (by omega), seg_len (by omega)]; omega
  refine ⟨by rw [repl_len hS (by omega)]; exact h1, h2.next, fun i hi hia => ?_, fun i hi hia => ?_⟩
  · by_cases c : i < a
    · rw [repl_before hS (by omega) (hi.far h2 c)]; exact h3 i hi c
    · have : i = a := hi.eq h2 (by omega) hia
      subst this
      rw [repl_at hS (by omega), p1, p2, ← msort_app, ← seg_two, show bs + bs = 2 * bs by omega]
  · rw [repl_seg_after hS (by omega) hia]; exact h4 i hi (by omega)
/-- the last, shorter block is merged -/
theorem Blk2.last {xs L : List α} {bs a : Nat} (h : Blk2 key xs bs a L) (hb : xs.length < a + 2 * bs) (hm : a + bs < xs.length) :
    Blk key xs (2 * bs) (L.take a ++ smerge key (seg L a bs) (seg L (a + bs) (xs.length - (a + bs))) ++ []) := by
  obtain ⟨p1, p2⟩ := h.parts
  obtain ⟨h1, h2, h3, h4⟩ := h
  have e0 : seg L (a + bs) (xs.length - (a + bs)) = seg L (a + bs) bs := by rw [seg_end (by omega), seg_end (by omega)]
  have hS : (smerge key (seg L a bs) (seg L (a + bs) (xs.length - (a + bs)))).length = xs.length - a := by rw [sm_len, seg_len (by omega), seg_len (by omega)]; omega
  have hd : L.drop (a + (xs.length - a)) = [] := List.drop_of_length_le (by omega)
  rw [show ([] : List α) = L.drop (a + (xs.length - a)) from hd.symm]
  have hl := repl_len (a := a) hS (show a + (xs.length - a) ≤ L.length by omega)
  refine ⟨by omega, fun i hi => ?_⟩
  by_cases c : i < a
  · rw [repl_before hS (by omega) (hi.far h2 c)]; exact h3 i hi c
  · by_cases c2 : i < a + 2 * bs
    · have : i = a := hi.eq h2 (by omega) c2
      subst this
      have e1 := repl_at (a := i) hS (show i + (xs.length - i) ≤ L.length by omega)
      rw [seg_end (by omega)] at e1
      rw [seg_end (by omega), e1, e0, p1, p2, ← msort_app, ← seg_two, show bs + bs = 2 * bs by omega]
    · rw [seg_out (by omega), seg_out (by omega)]; rfl
/-- nothing is left to merge -/
theorem Blk2.none {xs L : List α} {bs a : Nat} (h : Blk2 key xs bs a L) (hm : xs.length ≤ a + bs) : Blk key xs (2 * bs) L := by
  obtain ⟨p1, p2⟩ := h.parts
  obtain ⟨h1, h2, h3, h4⟩ := h
  refine ⟨h1, fun i hi => ?_⟩
  by_cases c : i < a
  · exact h3 i hi c
  · by_cases c2 : i < a + 2 * bs
    · have : i = a := hi.eq h2 (by omega) c2
      subst this
      have e1 : seg L i (2 * bs) = seg L i bs := by rw [seg_end (by omega), seg_end (by omega)]
      have e2 : seg xs i (2 * bs) = seg xs i bs := by rw [seg_end (by omega), seg_end (by omega)]
      rw [e1, e2, p1]
    · rw [seg_out (by omega), seg_out (by omega)]; rfl
theorem Blk.all {xs L : List α} {bs : Nat} (h : Blk key xs bs L) (hb : xs.length ≤ bs) : L = msort key xs := by
  have := h.2 0 (Al.zero _)
  rw [seg_end (by have := h.1; omega), seg_end (by omega)] at this
  simpa using this
end
end Go.Proofs.Ytbloipnpgncjiaa
