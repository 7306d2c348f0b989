/- A slice of bytes that comes in, opened; big of the laws. -/
import Derived.Test.YtbloipnpgncjiaaLift
import Derived.Test.YtbloipnpgncjiaaCur
namespace Go.Proofs.Ytbloipnpgncjiaa
open Go.ChangeShapes Go.WideShapes Go.ChangeAt Go.RowKit Go.Deep

theorem trod_whole {H : Type} {enc : TypeId × Value → H} {P : Program} {w : World} {base : Nat} {spare : Nat → Bool} {held : Bool} {t : TypeId} {fuel : Nat} {cs : List Value} {x : DataW H × List MemPlace} {k : IntKind} (ht : P.underlying t = some (.int k)) (h : DataW.trod enc P w base spare held fuel t cs = some x) :
    ∃ b : Int, cs = [.int k b] := by
  cases fuel with
  | zero => simp [DataW.trod] at h
  | succ n =>
    unfold DataW.trod at h
    rw [ht] at h
    split at h <;> simp_all

theorem open_code {H : Type} {enc : TypeId × Value → H} {P : Program} {w : World} {r : Reach} {b0 : Nat} {t e : TypeId} {v : Value} {d : DataW H} {ps : List MemPlace} (ht : P.underlying t = some (.slice e)) (he : P.underlying e = some (.int .u8)) (hc : P.cellsOf e = 1)
    (hval : Value.okWide P w r b0 t v) (h : DataW.Trod enc P w 0 (fun _ => true) true t v d ps) :
    ∃ (A : Option Addr) (l c : Nat), v = .slice A l c ∧ l ≤ 9223372036854775807 ∧ Byts w w.heap.size A l := by
  obtain ⟨a, len, cap, rfl⟩ := okWide_slice ht hval
  obtain ⟨fuel, hf⟩ := h
  rcases open_slice1 ht hc hf with ⟨hcs, _⟩ | ⟨ad, len', cap', m, n, V, D, Pl, hcs, _, hl, hm, hmm, _, hx⟩
  · simp only [Value.cells, List.cons.injEq, and_true] at hcs
    cases hcs
    exact ⟨none, 0, 0, rfl, by omega, fun hn => absurd hn (by omega)⟩
  · simp only [Value.cells, List.cons.injEq, and_true] at hcs
    cases hcs
    have hlm : len ≤ m := by rw [hmm]; simpa using hl
    have hv : ∀ i, i < len → ∃ b : Int, w.cell? (ad.add i) = some (.int .u8 b) := fun i hi => by
      obtain ⟨h1, h2⟩ := hx i (by omega)
      obtain ⟨b, hb⟩ := trod_whole he h2
      simp only [List.cons.injEq, and_true] at hb
      rw [hb] at h1
      exact ⟨b, h1⟩
    refine ⟨some ad, len, cap, rfl, by unfold maxLen at hm; omega, fun hn => ⟨ad, rfl, ?_, hv⟩⟩
    obtain ⟨b, hb⟩ := hv 0 hn
    have := World.block_lt_of_cell? _ _ hb
    rwa [block_of_add] at this

set_option maxHeartbeats 400000 in
theorem big_any (A : Option Addr) (n c : Nat) (w : World) (hn : n ≤ 9223372036854775807) :
    Calls Try.prog 20 #[.slice A n c] w fun e w' => e = .returned (.bool (decide (1048576 < n))) ∧ w' = w := by
  have hz : (n : Int) ≤ 9223372036854775807 := by omega
  by_cases h : 1048576 < n
  · have h1 : (1048576 : Int) < (n : Int) := by omega
    go_enter Try.func20, Try.ntmps20
    go_wp2
    go_ret
    exact ⟨by rw [decide_eq_true h]; first | rfl | (simp; omega), rfl⟩
  · have h1 : (n : Int) ≤ 1048576 := by omega
    go_enter Try.func20, Try.ntmps20
    go_wp2
    go_ret
    exact ⟨by rw [decide_eq_false h]; first | rfl | (simp; omega), rfl⟩
end Go.Proofs.Ytbloipnpgncjiaa
