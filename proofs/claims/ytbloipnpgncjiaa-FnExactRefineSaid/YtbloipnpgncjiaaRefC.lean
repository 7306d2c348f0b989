/- The refined table, plain: what both ways of building it come to. -/
import Derived.Test.YtbloipnpgncjiaaRefW2
import Derived.Test.YtbloipnpgncjiaaScaleL
namespace Go.Proofs.Ytbloipnpgncjiaa
open Go.RowKit

/-- the points after these numbers (the last one first) -/
def refC (ps : List (Nat × Nat)) : List Nat → List (Nat × Nat)
  | [] => ps
  | x :: xs => if (refC ps xs).any (hasX x) then refC ps xs else refC ps xs ++ [(x, interV ps x)]
def refB (ps : List (Nat × Nat)) (xs : List Nat) : Bool := tabOk ps && xs.all (segIn ps) && tabOk (msort kyP (refC ps xs.reverse))
def refL (ps : List (Nat × Nat)) (xs : List Nat) : List (Nat × Nat) := if refB ps xs then msort kyP (refC ps xs.reverse) else []

def PE2 : List (Nat × Nat) → List (Nat × Nat) → Prop
  | [], [] => True
  | p :: ps, q :: qs => p.1 = q.1 ∧ Fl.Eqv .f32 p.2 q.2 ∧ PE2 ps qs
  | _, _ => False
theorem PE2.pe : ∀ {ps qs : List (Nat × Nat)}, PE2 ps qs → PE ps qs
  | [], [], _ => PE.refl []
  | p :: ps, q :: qs, h => by
    obtain ⟨h1, h2, h3⟩ := h
    obtain ⟨a, b⟩ := PE2.pe h3
    refine ⟨by simp [a], fun i hi => ?_⟩
    cases i with
    | zero => exact ⟨h1, h2⟩
    | succ i => exact b i (by simpa using hi)
theorem PE.pe2 : ∀ {ps qs : List (Nat × Nat)}, PE ps qs → PE2 ps qs
  | [], [], _ => trivial
  | [], q :: qs, h => absurd h.1 (by simp)
  | p :: ps, [], h => absurd h.1 (by simp)
  | p :: ps, q :: qs, h => by
    obtain ⟨a, b⟩ := h
    have h0 := b 0 (by simp)
    exact ⟨h0.1, h0.2, PE.pe2 ⟨by simpa using a, fun i hi => b (i + 1) (by simpa using hi)⟩⟩
theorem PE2.sm : ∀ {X X' Y Y' : List (Nat × Nat)}, PE2 X X' → PE2 Y Y' → PE2 (smerge kyP X Y) (smerge kyP X' Y')
  | [], [], Y, Y', _, hY => hY
  | x :: X, x' :: X', [], [], hX, _ => by rw [sm_right, sm_right]; exact hX
  | x :: X, x' :: X', y :: Y, y' :: Y', hX, hY => by
    obtain ⟨a1, a2, a3⟩ := hX
    obtain ⟨b1, b2, b3⟩ := hY
    have kx : kyP x = kyP x' := by unfold kyP; rw [a1]
    have ky : kyP y = kyP y' := by unfold kyP; rw [b1]
    show PE2 (if kyP y < kyP x then y :: smerge kyP (x :: X) Y else x :: smerge kyP X (y :: Y)) (if kyP y' < kyP x' then y' :: smerge kyP (x' :: X') Y' else x' :: smerge kyP X' (y' :: Y'))
    rw [kx, ky]
    by_cases c : kyP y' < kyP x'
    · rw [if_pos c, if_pos c]
      exact ⟨b1, b2, PE2.sm (X := x :: X) (X' := x' :: X') ⟨a1, a2, a3⟩ b3⟩
    · rw [if_neg c, if_neg c]
      exact ⟨a1, a2, PE2.sm (Y := y :: Y) (Y' := y' :: Y') a3 ⟨b1, b2, b3⟩⟩
  | x :: X, x' :: X', [], y' :: Y', _, hY => absurd hY (fun h => h)
  | x :: X, x' :: X', y :: Y, [], _, hY => absurd hY (fun h => h)
  | [], x' :: X', _, _, hX, _ => absurd hX (fun h => h)
  | x :: X, [], _, _, hX, _ => absurd hX (fun h => h)
termination_by X _ Y _ => X.length + Y.length
theorem PE2.foldl : ∀ {L L' S S' : List (Nat × Nat)}, PE2 L L' → PE2 S S' → PE2 (L.foldl (fun S x => smerge kyP S [x]) S) (L'.foldl (fun S x => smerge kyP S [x]) S')
  | [], [], _, _, _, h => h
  | _ :: L, _ :: L', _, _, hL, hS => PE2.foldl (L := L) (L' := L') hL.2.2 (PE2.sm hS ⟨hL.1, hL.2.1, trivial⟩)
  | [], _ :: _, _, _, hL, _ => absurd hL (fun h => h)
  | _ :: _, [], _, _, hL, _ => absurd hL (fun h => h)
theorem PE.msort {L L' : List (Nat × Nat)} (h : PE L L') : PE (msort kyP L) (msort kyP L') := (PE2.foldl h.pe2 (S := []) (S' := []) trivial).pe
theorem PE2.any : ∀ {L L' : List (Nat × Nat)} {x : Nat}, PE2 L L' → L.any (hasX x) = L'.any (hasX x)
  | [], [], _, _ => rfl
  | p :: L, p' :: L', x, h => by
    rw [List.any_cons, List.any_cons, PE2.any h.2.2]
    unfold hasX
    rw [h.1]
  | [], _ :: _, _, h => absurd h (fun h => h)
  | _ :: _, [], _, h => absurd h (fun h => h)
theorem any_msort {L : List (Nat × Nat)} {x : Nat} : (msort kyP L).any (hasX x) = L.any (hasX x) := by
  rw [Bool.eq_iff_iff, List.any_eq_true, List.any_eq_true]
  exact ⟨fun ⟨p, h1, h2⟩ => ⟨p, msort_mem.1 h1, h2⟩, fun ⟨p, h1, h2⟩ => ⟨p, msort_mem.2 h1, h2⟩⟩
theorem RefI.pe {ps : List (Nat × Nat)} : ∀ {xs : List Nat} {out : List (Nat × Nat)}, RefI ps xs out → PE out (refC ps xs)
  | [], out, h => by cases h; exact PE.refl _
  | x :: xs, out, h => by
    obtain ⟨_, o, ho, h⟩ := h
    have ih := RefI.pe ho
    have ha := ih.pe2.any (x := x)
    unfold refC
    rcases h with ⟨hq, rfl⟩ | ⟨hq, y, hy, rfl⟩
    · rw [← ha, if_pos hq]; exact ih
    · rw [← ha, if_neg (by rw [hq]; decide)]
      exact ih.snoc rfl hy
theorem RefI.seg {ps : List (Nat × Nat)} : ∀ {xs : List Nat} {out : List (Nat × Nat)}, RefI ps xs out → ∀ x ∈ xs, segIn ps x = true
  | [], _, _, x, hx => by cases hx
  | x :: xs, out, h, z, hz => by
    obtain ⟨hs, o, ho, _⟩ := h
    rcases List.mem_cons.1 hz with rfl | hz
    · exact hs
    · exact RefI.seg ho z hz
theorem refC_len (ps : List (Nat × Nat)) : ∀ (ys zs : List Nat), (refC ps zs).length ≤ (refC ps (ys ++ zs)).length
  | [], zs => Nat.le_refl _
  | y :: ys, zs => by
    have ih := refC_len ps ys zs
    show _ ≤ (if (refC ps (ys ++ zs)).any (hasX y) then refC ps (ys ++ zs) else refC ps (ys ++ zs) ++ [(y, interV ps y)]).length
    split
    · exact ih
    · rw [List.length_append]; omega
theorem tab_srt {ps : List (Nat × Nat)} (h : tabOk ps = true) : Srt kyP ps := by
  refine List.pairwise_iff_getElem.2 fun i j hi hj hij => ?_
  have := tab_rise' h hij hj
  rw [getD_at hi, getD_at hj] at this
  exact Int.le_of_lt this
theorem srt_fold : ∀ (L S : List (Nat × Nat)), Srt kyP (S ++ L) → L.foldl (fun S x => smerge kyP S [x]) S = S ++ L
  | [], S, _ => by simp
  | x :: L, S, h => by
    have h1 : ∀ a ∈ S, kyP a ≤ kyP x := fun a ha => (List.pairwise_append.1 h).2.2 a ha x (List.mem_cons_self ..)
    have e := sm_ins (key := kyP) (S1 := S) (S2 := []) (y := x) h1 (fun _ h => by cases h)
    rw [List.append_nil] at e
    rw [List.foldl_cons, e, srt_fold L (S ++ [x]) (by simpa using h)]
    simp
theorem srt_self {L : List (Nat × Nat)} (h : Srt kyP L) : msort kyP L = L := by
  have := srt_fold L [] (by simpa using h)
  rw [List.nil_append] at this
  exact this

/-- the points, in their places, after these numbers (the last one first) -/
def RefJ (ps : List (Nat × Nat)) : List Nat → List (Nat × Nat) → Prop
  | [], out => out = ps
  | x :: xs, out => segIn ps x = true ∧ ∃ o, RefJ ps xs o ∧ ((o.any (hasX x) = true ∧ out = o) ∨ (o.any (hasX x) = false ∧ ∃ y, Fl.Eqv .f32 y (interV ps x) ∧ out = insP o (x, y)))
theorem RefJ.nan {ps : List (Nat × Nat)} (ht : tabOk ps = true) : ∀ {xs : List Nat} {out : List (Nat × Nat)}, RefJ ps xs out → ∀ p ∈ out, Fl.nan .f32 p.1 = false
  | [], out, h, p, hp => by
    cases h
    obtain ⟨i, hi, rfl⟩ := List.getElem_of_mem hp
    have := tab_nan ht hi
    rwa [getD_at hi] at this
  | x :: xs, out, h, p, hp => by
    obtain ⟨hs, o, ho, h⟩ := h
    rcases h with ⟨_, rfl⟩ | ⟨_, y, _, rfl⟩
    · exact RefJ.nan ht ho p hp
    · rcases List.mem_cons.1 ((insP_perm o (x, y)).mem_iff.1 hp) with rfl | hp
      · exact seg_nan hs
      · exact RefJ.nan ht ho p hp
theorem RefJ.srt {ps : List (Nat × Nat)} (ht : tabOk ps = true) : ∀ {xs : List Nat} {out : List (Nat × Nat)}, RefJ ps xs out → Srt kyP out
  | [], out, h => by cases h; exact tab_srt ht
  | x :: xs, out, h => by
    obtain ⟨hs, o, ho, h⟩ := h
    have ih := RefJ.srt ht ho
    rcases h with ⟨_, rfl⟩ | ⟨_, y, _, rfl⟩
    · exact ih
    · rw [insP_sm (seg_nan hs) (RefJ.nan ht ho) ih]
      exact srt_sm ih (srt_single _)
theorem RefJ.pe {ps : List (Nat × Nat)} (ht : tabOk ps = true) : ∀ {xs : List Nat} {out : List (Nat × Nat)}, RefJ ps xs out → PE out (msort kyP (refC ps xs))
  | [], out, h => by
    cases h
    show PE ps (msort kyP ps)
    rw [srt_self (tab_srt ht)]
    exact PE.refl _
  | x :: xs, out, h => by
    obtain ⟨hs, o, ho, h⟩ := h
    have ih := RefJ.pe ht ho
    have ha := ih.pe2.any (x := x)
    rw [any_msort] at ha
    unfold refC
    rcases h with ⟨hq, rfl⟩ | ⟨hq, y, hy, rfl⟩
    · rw [← ha, if_pos hq]; exact ih
    · rw [← ha, if_neg (by rw [hq]; decide), insP_sm (x := (x, y)) (seg_nan hs) (RefJ.nan ht ho) (RefJ.srt ht ho), msort_snoc]
      exact (PE2.sm ih.pe2 (Y := [(x, y)]) (Y' := [(x, interV ps x)]) ⟨rfl, hy, trivial⟩).pe
theorem RefJ.seg {ps : List (Nat × Nat)} : ∀ {xs : List Nat} {out : List (Nat × Nat)}, RefJ ps xs out → ∀ x ∈ xs, segIn ps x = true
  | [], _, _, x, hx => by cases hx
  | x :: xs, out, h, z, hz => by
    obtain ⟨hs, o, ho, _⟩ := h
    rcases List.mem_cons.1 hz with rfl | hz
    · exact hs
    · exact RefJ.seg ho z hz

/-! what is returned -/
theorem refB_tab {ps : List (Nat × Nat)} {xs : List Nat} (h : tabOk ps = false) : refB ps xs = false := by unfold refB; rw [h]; rfl
theorem refB_seg {ps : List (Nat × Nat)} {xs : List Nat} (h : ∃ x ∈ xs, segIn ps x = false) : refB ps xs = false := by
  obtain ⟨x, hx, hs⟩ := h
  unfold refB
  have : xs.all (segIn ps) = false := by
    cases ha : xs.all (segIn ps) with
    | false => rfl
    | true => rw [List.all_eq_true.1 ha x hx] at hs; cases hs
  rw [this]; simp
theorem refB_last {ps : List (Nat × Nat)} {xs : List Nat} (h : tabOk (msort kyP (refC ps xs.reverse)) = false) : refB ps xs = false := by unfold refB; rw [h]; simp
theorem refB_true {ps : List (Nat × Nat)} {xs : List Nat} (h1 : tabOk ps = true) (h2 : ∀ x ∈ xs.reverse, segIn ps x = true) (h3 : tabOk (msort kyP (refC ps xs.reverse)) = true) : refB ps xs = true := by
  unfold refB
  rw [h1, h3, List.all_eq_true.2 (fun x hx => h2 x (List.mem_reverse.2 hx))]; rfl
theorem RefI.fail {ps out : List (Nat × Nat)} {xs : List Nat} (h : RefI ps xs.reverse out) (ht : tabOk (Go.Proofs.Ytbloipnpgncjiaa.msort kyP out) = false) : refB ps xs = false :=
  refB_last (by rw [← tabOk_pe h.pe.msort]; exact ht)
theorem RefI.done {ps out : List (Nat × Nat)} {xs : List Nat} (h0 : tabOk ps = true) (h : RefI ps xs.reverse out) (ht : tabOk (Go.Proofs.Ytbloipnpgncjiaa.msort kyP out) = true) : refB ps xs = true ∧ refL ps xs = Go.Proofs.Ytbloipnpgncjiaa.msort kyP out := by
  have e := pe_eq h.pe.msort ht
  have hb := refB_true h0 h.seg (by rw [← e]; exact ht)
  refine ⟨hb, ?_⟩
  unfold refL
  rw [hb, if_pos rfl, e]
theorem RefJ.fail {ps out : List (Nat × Nat)} {xs : List Nat} (h0 : tabOk ps = true) (h : RefJ ps xs.reverse out) (ht : tabOk out = false) : refB ps xs = false :=
  refB_last (by rw [← tabOk_pe (h.pe h0)]; exact ht)
theorem RefJ.done {ps out : List (Nat × Nat)} {xs : List Nat} (h0 : tabOk ps = true) (h : RefJ ps xs.reverse out) (ht : tabOk out = true) : refB ps xs = true ∧ refL ps xs = out := by
  have e := pe_eq (h.pe h0) ht
  have hb := refB_true h0 h.seg (by rw [← e]; exact ht)
  refine ⟨hb, ?_⟩
  unfold refL
  rw [hb, if_pos rfl, e]
theorem RefJ.long {ps out : List (Nat × Nat)} {xs ys zs : List Nat} {x : Nat} (h0 : tabOk ps = true) (hx : xs.reverse = ys ++ x :: zs) (h : RefJ ps zs out) (hq : out.any (hasX x) = false) (hl : 32 ≤ out.length) : refB ps xs = false := by
  refine refB_last ?_
  have h1 := (h.pe h0).1
  have h2 := (h.pe h0).pe2.any (x := x)
  rw [any_msort, hq] at h2
  rw [msort_len] at h1
  have h3 := refC_len ps ys (x :: zs)
  have h4 : (refC ps (x :: zs)).length = out.length + 1 := by
    unfold refC
    rw [← h2, if_neg (by decide), List.length_append, ← h1]; rfl
  rw [← hx] at h3
  cases ht : tabOk (Go.Proofs.Ytbloipnpgncjiaa.msort kyP (refC ps xs.reverse)) with
  | false => rfl
  | true =>
    have := (tabOk_iff.1 ht).1.2
    rw [msort_len] at this
    omega
end Go.Proofs.Ytbloipnpgncjiaa
