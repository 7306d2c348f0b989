/- A slice of points that comes in, opened. -/
import Derived.Test.YtbloipnpgncjiaaLift
import Derived.Test.YtbloipnpgncjiaaPts
import Derived.Deep.SlicePairs
namespace Go.Proofs.Ytbloipnpgncjiaa
open Go.ChangeShapes Go.WideShapes Go.ChangeAt Go.RowKit Go.Deep

theorem open_points {H : Type} {enc : TypeId × Value → H} {P : Program} {w : World} {r : Reach} {b0 : Nat} {t e : TypeId} {f0 f1 : Field} {v : Value} {d : DataW H} {ps : List MemPlace} (ht : P.underlying t = some (.slice e)) (he : P.underlying e = some (.struct #[f0, f1]))
    (ce : P.cellsOf e = 2) (o0 : f0.offset = 0) (o1 : f1.offset = 1) (c0 : P.cellsOf f0.type = 1) (c1 : P.cellsOf f1.type = 1) (g0 : P.underlying f0.type = some (.float .f32)) (g1 : P.underlying f1.type = some (.float .f32))
    (hval : Value.okWide P w r b0 t v) (h : DataW.Trod enc P w 0 (fun _ => true) true t v d ps) :
    ∃ (A : Option Addr) (l c : Nat) (xs : List (Nat × Nat)), v = .slice A l c ∧ l = xs.length ∧ l ≤ 9223372036854775807 ∧ Pts w w.heap.size A xs ∧ ∀ x ∈ xs, x.1 < 4294967296 ∧ x.2 < 4294967296 := by
  obtain ⟨a, len, cap, rfl⟩ := okWide_slice ht hval
  obtain ⟨fuel, hf⟩ := h
  rcases open_slice_pairs ht he ce o0 o1 c0 c1 hf with ⟨hcs, _⟩ | ⟨ad, len', cap', m, n, V0, V1, D0, D1, P0, P1, hcs, _, hl, hm, hmm, _, hx⟩
  · simp only [Value.cells, List.cons.injEq, and_true] at hcs
    cases hcs
    exact ⟨none, 0, 0, [], rfl, rfl, by omega, Reads.none_, fun x hx => by cases hx⟩
  · simp only [Value.cells, List.cons.injEq, and_true] at hcs
    cases hcs
    have hlm : len ≤ m := by rw [hmm]; simpa using hl
    have hv : ∀ i, i < len → ∃ b : Nat × Nat, w.cell? (ad.add (i * 2)) = some (.float .f32 b.1) ∧ w.cell? (ad.add (i * 2 + 1)) = some (.float .f32 b.2) ∧ b.1 < 4294967296 ∧ b.2 < 4294967296 := fun i hi => by
      obtain ⟨h1, h2, h3, h4⟩ := hx i (by omega)
      obtain ⟨b, hb, _, hw⟩ := trod_float g0 h3
      obtain ⟨b', hb', _, hw'⟩ := trod_float g1 h4
      simp only [List.cons.injEq, and_true] at hb hb'
      rw [hb] at h1
      rw [hb'] at h2
      exact ⟨(b, b'), h1, h2, by simpa [Lit.wf] using hw, by simpa [Lit.wf] using hw'⟩
    obtain ⟨F, hF⟩ := choose_lt hv
    refine ⟨some ad, len, cap, (List.range len).map F, rfl, by simp, by unfold maxLen at hm; omega, ⟨pcells_length _, fun hn => ⟨ad, rfl, ?_, ?_⟩⟩, ?_⟩
    · have h0 : 0 < len := by simpa using hn
      have := World.block_lt_of_cell? _ _ (hF 0 h0).1
      rwa [block_of_add] at this
    · intro j u hu
      have hj : j < len * 2 := by
        by_cases hc : j < len * 2
        · exact hc
        · rw [List.getElem?_eq_none (by rw [pcells_length]; simp; omega)] at hu; cases hu
      have hk : j / 2 < ((List.range len).map F).length := by simp; omega
      have hk2 : j / 2 < len := by omega
      obtain ⟨h1, h2⟩ := pcells_get _ hk
      simp only [List.getElem_map, List.getElem_range] at h1 h2
      rcases Nat.mod_two_eq_zero_or_one j with e | e
      · have : j = j / 2 * 2 := by omega
        rw [← this, hu] at h1
        rw [this, (hF _ hk2).1, h1]
      · have : j = j / 2 * 2 + 1 := by omega
        rw [← this, hu] at h2
        rw [this, (hF _ hk2).2.1, h2]
    · intro x hx
      simp only [List.mem_map, List.mem_range] at hx
      obtain ⟨i, hi, rfl⟩ := hx
      exact ⟨(hF i hi).2.2.1, (hF i hi).2.2.2⟩
end Go.Proofs.Ytbloipnpgncjiaa
