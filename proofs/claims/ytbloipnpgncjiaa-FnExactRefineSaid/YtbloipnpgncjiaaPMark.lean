/- The law's marks on a list of points: markPointS, heldPointS. -/
import Derived.Test.YtbloipnpgncjiaaPts
namespace Go.Proofs.Ytbloipnpgncjiaa
open Go.RowKit

set_option maxRecDepth 20000 in
set_option maxHeartbeats 1000000 in
theorem markP_any (A : Option Addr) (g n c : Nat) (k : Int) (f : Nat → Value) (w : World) (hA : 0 < n → A = some ⟨g, 0, none⟩) (hr : 0 < n → Row w g (n * 2) f) (hn : n ≤ 4194304) (h0 : 0 ≤ k) (h1 : k ≤ 16777216) :
    Calls Try.prog 35 #[.slice A n c, .int .i64 k] w fun e w' => e = .returned (.int .i64 (k + (n * 2 : Nat))) ∧ (0 < n → Row w' g (n * 2) (fun j => markN (k + j))) ∧ But w g w' := by
  have HR := hid hr
  clear hr
  have hnz : (n : Int) ≤ 4194304 := by omega
  go_enter Try.func35, Try.ntmps35
  go_wp2_with fail
  go_loopw [1, 5] (fun q i wr => ∃ (m : Nat) (f' : Nat → Value), m ≤ n ∧ i = .int .i64 m ∧ q = .int .i64 (k + (m * 2 : Nat)) ∧ (0 < n → Row wr g (n * 2) f') ∧ (∀ j, j < m * 2 → f' j = markN (k + j)) ∧ But w g wr) (fun _ i _ => n - (intOf i).toNat)
  case atStart => exact ⟨0, f, Nat.zero_le _, rfl, by simp, HR.out, fun j h => absurd h (by omega), But.refl _ _⟩
  case round =>
    obtain ⟨m, f', hm, rfl, rfl, hrow, hd, hbut⟩ := hrel
    have HW := hid hrow
    have HD := hid hd
    have HB := hid hbut
    by_cases hlt : m < n
    · have hA' := hA (by omega)
      subst hA'
      obtain ⟨hc, hf⟩ := (hrow (by omega)).2 (m * 2) (by omega)
      obtain ⟨hc', hf'⟩ := (hrow (by omega)).2 (m * 2 + 1) (by omega)
      have hmz : (m : Int) < (n : Int) := by omega
      have hcast : ((m * 2 : Nat) : Int) = (m : Int) * 2 := by omega
      clear hrow hd hbut
      rw [hcast]
      go_wp2_with fail
      go_roundw
      case rel =>
        refine ⟨m + 1, _, by omega, by go_num, by congr 1; omega, fun h => ((HW.out h).set (i := m * 2) (by omega) _).set (i := m * 2 + 1) (by omega) _, fun j hj => ?_, (HB.out.set _ _).set _ _⟩
        by_cases e : j = m * 2 + 1
        · subst e; rw [if_pos rfl]; unfold markN; congr 2; omega
        · rw [if_neg e]
          by_cases e' : j = m * 2
          · subst e'; rw [if_pos rfl]; unfold markN; congr 2
          · rw [if_neg e']; exact HD.out j (by omega)
      case measure => simp [intOf]; omega
    · have : m = n := by omega
      subst this
      clear hrow hd hbut
      go_wp2_with fail
      go_ret
      exact ⟨rfl, fun h => (HW.out h).congr (fun j hj => HD.out j hj), HB.out⟩

set_option maxRecDepth 20000 in
set_option maxHeartbeats 1000000 in
theorem heldP_any (A : Option Addr) (g n c : Nat) (k : Int) (w : World) (hA : 0 < n → A = some ⟨g, 0, none⟩) (hr : 0 < n → Row w g (n * 2) (fun j => markN (k + j))) (hn : n ≤ 4194304) (h0 : 0 ≤ k) (h1 : k ≤ 16777216) :
    Calls Try.prog 37 #[.slice A n c, .int .i64 k] w fun e w' => e = .returned (.int .i64 (k + (n * 2 : Nat))) ∧ w' = w := by
  have HR := hid hr
  clear hr
  have hnz : (n : Int) ≤ 4194304 := by omega
  go_enter Try.func37, Try.ntmps37
  go_wp2_with fail
  go_loopw [1, 5] (fun q i wr => ∃ (m : Nat), m ≤ n ∧ i = .int .i64 m ∧ q = .int .i64 (k + (m * 2 : Nat)) ∧ wr = w) (fun _ i _ => n - (intOf i).toNat)
  case atStart => exact ⟨0, Nat.zero_le _, rfl, by simp, rfl⟩
  case round =>
    obtain ⟨m, hm, rfl, rfl, rfl⟩ := hrel
    by_cases hlt : m < n
    · have hA' := hA (by omega)
      subst hA'
      obtain ⟨hc, hf⟩ := (HR.out (by omega)).2 (m * 2) (by omega)
      obtain ⟨hc', hf'⟩ := (HR.out (by omega)).2 (m * 2 + 1) (by omega)
      have hcast : ((m * 2 : Nat) : Int) = (m : Int) * 2 := by omega
      have hcast' : k + ((m * 2 + 1 : Nat) : Int) = k + (m : Int) * 2 + 1 := by omega
      have hd : wr.cell? ⟨g, m * 2, none⟩ = some (.float .f32 (floatOfInt .f32 (k + (m : Int) * 2))) := by rw [← hcast]; exact hc
      have hd' : wr.cell? ⟨g, m * 2 + 1, none⟩ = some (.float .f32 (floatOfInt .f32 (k + (m : Int) * 2 + 1))) := by rw [← hcast']; exact hc'
      clear hc hc'
      rw [hcast]
      have hq := mark_neq (k + (m : Int) * 2)
      have hq' := mark_neq (k + (m : Int) * 2 + 1)
      have hmz : (m : Int) < (n : Int) := by omega
      clear hf hf' hcast hcast'
      go_wp2_with fail
      go_roundw
      case rel => exact ⟨m + 1, by omega, by go_num, by congr 1; omega, by first | rfl | trivial⟩
      case measure => simp [intOf]; omega
    · have : m = n := by omega
      subst this
      go_wp2_with fail
      go_ret
      exact ⟨rfl, rfl⟩
end Go.Proofs.Ytbloipnpgncjiaa
