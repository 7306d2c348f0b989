/- A slice of singles that comes in, opened. -/
import Derived.Test.YtbloipnpgncjiaaLift
import Derived.Test.YtbloipnpgncjiaaWords
namespace Go.Proofs.Ytbloipnpgncjiaa
open Go.ChangeShapes Go.WideShapes Go.ChangeAt Go.RowKit Go.Deep

theorem open_singles {H : Type} {enc : TypeId × Value → H} {P : Program} {w : World} {r : Reach} {b0 : Nat} {t e : TypeId} {v : Value} {d : DataW H} {ps : List MemPlace} (ht : P.underlying t = some (.slice e)) (he : P.underlying e = some (.float .f32)) (hc : P.cellsOf e = 1)
    (hval : Value.okWide P w r b0 t v) (h : DataW.Trod enc P w 0 (fun _ => true) true t v d ps) :
    ∃ (A : Option Addr) (l c : Nat) (xs : List Nat), v = .slice A l c ∧ l = xs.length ∧ l ≤ 9223372036854775807 ∧ Sing w w.heap.size A xs ∧ ∀ x ∈ xs, x < 4294967296 := by
  obtain ⟨a, len, cap, rfl⟩ := okWide_slice ht hval
  obtain ⟨fuel, hf⟩ := h
  rcases open_slice1 ht hc hf with ⟨hcs, _⟩ | ⟨ad, len', cap', m, n, V, D, Pl, hcs, _, hl, hm, hmm, _, hx⟩
  · simp only [Value.cells, List.cons.injEq, and_true] at hcs
    cases hcs
    exact ⟨none, 0, 0, [], rfl, rfl, by omega, Reads.none_, fun x hx => by cases hx⟩
  · simp only [Value.cells, List.cons.injEq, and_true] at hcs
    cases hcs
    have hlm : len ≤ m := by rw [hmm]; simpa using hl
    have hv : ∀ i, i < len → ∃ b : Nat, w.cell? (ad.add i) = some (.float .f32 b) ∧ b < 4294967296 := fun i hi => by
      obtain ⟨h1, h2⟩ := hx i (by omega)
      obtain ⟨b, hb, _, hw⟩ := trod_float he h2
      simp only [List.cons.injEq, and_true] at hb
      rw [hb] at h1
      exact ⟨b, h1, by simpa [Lit.wf] using hw⟩
    obtain ⟨F, hF⟩ := choose_lt (α := Nat) (p := fun i b => w.cell? (ad.add i) = some (.float .f32 b) ∧ b < 4294967296) hv
    refine ⟨some ad, len, cap, (List.range len).map F, rfl, by simp, by unfold maxLen at hm; omega, ⟨by simp [fcells], fun hn => ⟨ad, rfl, ?_, ?_⟩⟩, ?_⟩
    · have h0 : 0 < len := by simpa using hn
      have := World.block_lt_of_cell? _ _ (hF 0 h0).1
      rwa [block_of_add] at this
    · intro j u hu
      have hj : j < len := by
        by_cases hc : j < len
        · exact hc
        · rw [List.getElem?_eq_none (by simp [fcells]; omega)] at hu; cases hu
      have : (fcells ((List.range len).map F))[j]? = some (.float .f32 (F j)) := by simp [fcells, hj]
      rw [this] at hu
      cases hu
      exact (hF j hj).1
    · intro x hx
      simp only [List.mem_map, List.mem_range] at hx
      obtain ⟨i, hi, rfl⟩ := hx
      exact (hF i hi).2
end Go.Proofs.Ytbloipnpgncjiaa
