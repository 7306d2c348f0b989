/- Lists of points that are the same but for which NaN the second parts are; a list with its second parts multiplied. -/
import Derived.Test.YtbloipnpgncjiaaTab2
import Derived.Test.YtbloipnpgncjiaaPMark
import Derived.Test.YtbloipnpgncjiaaMirror
namespace Go.Proofs.Ytbloipnpgncjiaa
open Go.RowKit

/-- the same points but for which NaN -/
def PE (qs ps : List (Nat × Nat)) : Prop := qs.length = ps.length ∧ ∀ i, i < ps.length → (qs.getD i (0, 0)).1 = (ps.getD i (0, 0)).1 ∧ Fl.Eqv .f32 (qs.getD i (0, 0)).2 (ps.getD i (0, 0)).2
theorem PE.refl (ps : List (Nat × Nat)) : PE ps ps := ⟨rfl, fun _ _ => ⟨rfl, Fl.Eqv.refl _ _⟩⟩
theorem getD_app {α : Type} {xs ys : List α} {i : Nat} {d : α} : (xs ++ ys).getD i d = if i < xs.length then xs.getD i d else ys.getD (i - xs.length) d := by
  simp only [List.getD]
  rw [List.getElem?_append]
  split <;> rfl
theorem PE.snoc {qs ps : List (Nat × Nat)} {p q : Nat × Nat} (h : PE qs ps) (h1 : q.1 = p.1) (h2 : Fl.Eqv .f32 q.2 p.2) : PE (qs ++ [q]) (ps ++ [p]) := by
  obtain ⟨a, b⟩ := h
  refine ⟨by simp [a], fun i hi => ?_⟩
  simp only [List.length_append, List.length_cons, List.length_nil] at hi
  rw [getD_app, getD_app, a]
  by_cases c : i < ps.length
  · rw [if_pos c, if_pos c]; exact b i c
  · rw [if_neg c, if_neg c, show i - ps.length = 0 by omega]
    exact ⟨h1, h2⟩
theorem getD_set {α : Type} {xs : List α} {i k : Nat} {d v : α} (hk : k < xs.length) : (xs.set k v).getD i d = if i = k then v else xs.getD i d := by
  simp only [List.getD, List.getElem?_set]
  by_cases e : k = i
  · subst e; simp [hk]
  · rw [if_neg e, if_neg (fun h => e h.symm)]
theorem PE.set {qs ps : List (Nat × Nat)} {p q : Nat × Nat} {k : Nat} (h : PE qs ps) (hk : k < ps.length) (h1 : q.1 = p.1) (h2 : Fl.Eqv .f32 q.2 p.2) : PE (qs.set k q) (ps.set k p) := by
  obtain ⟨a, b⟩ := h
  refine ⟨by simp [a], fun i hi => ?_⟩
  rw [getD_set (by omega), getD_set (by omega)]
  by_cases c : i = k
  · rw [if_pos c, if_pos c]; exact ⟨h1, h2⟩
  · rw [if_neg c, if_neg c]; exact b i (by simpa using hi)
theorem stepOk_pe {qs ps : List (Nat × Nat)} (h : PE qs ps) {i : Nat} (hi : i < ps.length) : stepOk qs i = stepOk ps i := by
  obtain ⟨a, b⟩ := h
  have c := b i hi
  have d := b (i - 1) (by omega)
  unfold stepOk
  rw [c.1, d.1, show fin32 (qs.getD i (0, 0)).2 = fin32 (ps.getD i (0, 0)).2 from c.2.fin, show sub32 (qs.getD i (0, 0)).2 (qs.getD (i - 1) (0, 0)).2 = sub32 (ps.getD i (0, 0)).2 (ps.getD (i - 1) (0, 0)).2 from Fl.arith_eqv .f32 c.2 d.2]
theorem tabOk_pe {qs ps : List (Nat × Nat)} (h : PE qs ps) : tabOk qs = tabOk ps := by
  have a := h.1
  rw [Bool.eq_iff_iff, tabOk_iff, tabOk_iff, a]
  exact ⟨fun ⟨x, y⟩ => ⟨x, fun i hi => by rw [← stepOk_pe h hi]; exact y i hi⟩, fun ⟨x, y⟩ => ⟨x, fun i hi => by rw [stepOk_pe h hi]; exact y i hi⟩⟩
theorem pe_eq {qs ps : List (Nat × Nat)} (h : PE qs ps) (ht : tabOk qs = true) : qs = ps := by
  refine List.ext_getElem h.1 fun i h1 h2 => ?_
  have c := h.2 i h2
  have s := (tabOk_iff.1 ht).2 i h1
  rw [getD_at h1, getD_at h2] at c
  have e : qs.getD i (0, 0) = (qs[i].1, qs[i].2) := getD_at h1
  have f := (step_fin e s).2
  exact Prod.ext c.1 (c.2.eq _ (Fl.fin_nan .f32 f))

def scP (f : Nat) (p : Nat × Nat) : Nat × Nat := (p.1, Fl.arith .f32 .mul p.2 f)
def scL (f : Nat) (ps : List (Nat × Nat)) : List (Nat × Nat) := ps.map (scP f)
theorem scL_length (f : Nat) (ps : List (Nat × Nat)) : (scL f ps).length = ps.length := by simp [scL]
def scB (f : Nat) (ps : List (Nat × Nat)) : Bool := tabOk ps && tabOk (scL f ps)
def scR (f : Nat) (ps : List (Nat × Nat)) : List (Nat × Nat) := if scB f ps then scL f ps else []
theorem scR_len (f : Nat) (ps : List (Nat × Nat)) : (scR f ps).length ≤ ps.length := by
  unfold scR
  split
  · rw [scL_length]; exact Nat.le_refl _
  · simp
theorem sc_take {f k : Nat} {ps : List (Nat × Nat)} {x y : Nat} (hk : k < ps.length) (h : ps.getD k (0, 0) = (x, y)) : (scL f ps).take (k + 1) = (scL f ps).take k ++ [(x, Fl.arith .f32 .mul y f)] := by
  rw [List.take_succ_eq_append_getElem (by rw [scL_length]; exact hk)]
  congr 1
  have : ps[k] = (x, y) := by rw [← getD_at hk]; exact h
  simp [scL, scP, this]
/-- the first k multiplied, the rest as they were -/
def mixL (f : Nat) (ps : List (Nat × Nat)) (k : Nat) : List (Nat × Nat) := (scL f ps).take k ++ ps.drop k
theorem mixL_len (f : Nat) (ps : List (Nat × Nat)) (k : Nat) : (mixL f ps k).length = ps.length := by
  unfold mixL
  rw [List.length_append, List.length_take, List.length_drop, scL_length]; omega
theorem mixL_zero (f : Nat) (ps : List (Nat × Nat)) : mixL f ps 0 = ps := by simp [mixL]
theorem mixL_all (f : Nat) (ps : List (Nat × Nat)) : mixL f ps ps.length = scL f ps := by
  unfold mixL
  rw [List.drop_length, List.append_nil, ← scL_length f ps, List.take_length]
theorem mixL_at {f k : Nat} {ps : List (Nat × Nat)} (hk : k < ps.length) : (mixL f ps k).getD k (0, 0) = ps.getD k (0, 0) := by
  unfold mixL
  rw [getD_app, List.length_take, scL_length, if_neg (by omega), show k - min k ps.length = 0 by omega]
  simp [List.getD]
theorem mixL_succ {f k : Nat} {ps : List (Nat × Nat)} {x y : Nat} (hk : k < ps.length) (h : ps.getD k (0, 0) = (x, y)) : mixL f ps (k + 1) = (mixL f ps k).set k (x, Fl.arith .f32 .mul y f) := by
  have e : ((scL f ps).take k).length = k := by rw [List.length_take, scL_length]; omega
  unfold mixL
  rw [sc_take hk h, List.drop_eq_getElem_cons hk, List.append_assoc, List.set_append]
  rw [if_neg (by omega), e, Nat.sub_self]; rfl
theorem pcells_set : ∀ (ps : List (Nat × Nat)) (k : Nat) (q : Nat × Nat), (ps.getD k (0, 0)).1 = q.1 → (pcells ps).set (k * 2 + 1) (.float .f32 q.2) = pcells (ps.set k q)
  | [], k, q, _ => rfl
  | p :: ps, 0, q, h => by
    have h : p.1 = q.1 := h
    show _ :: _ :: pcells ps = _ :: _ :: pcells ps
    rw [h]
  | p :: ps, k + 1, q, h => by
    have := pcells_set ps k q h
    rw [show (k + 1) * 2 + 1 = k * 2 + 1 + 1 + 1 by omega]
    show _ :: _ :: (pcells ps).set (k * 2 + 1) _ = _ :: _ :: pcells (ps.set k q)
    rw [this]
theorem pcells_one {ps : List (Nat × Nat)} : ∀ u ∈ pcells ps, u.oneCell' = true := by
  induction ps with
  | nil => intro u hu; cases hu
  | cons p ps ih =>
    intro u hu
    simp only [pcells, List.mem_cons] at hu
    rcases hu with rfl | rfl | hu
    · rfl
    · rfl
    · exact ih u hu
end Go.Proofs.Ytbloipnpgncjiaa
