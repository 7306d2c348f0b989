/- A list of singles is good: at most 64 elements, all finite: of the program and of the reference. -/
import Derived.Test.YtgenphbackbepaaCopy
namespace Go.Proofs.Ytgenphbackbepaa
open Go.RowKit

def goodB (xs : List Nat) : Bool := decide (xs.length ≤ 64) && xs.all fin32
theorem goodB_iff {xs : List Nat} : goodB xs = true ↔ xs.length ≤ 64 ∧ ∀ x ∈ xs, fin32 x = true := by simp [goodB]

set_option maxHeartbeats 1000000 in
theorem good_spec (A : Option Addr) (c : Nat) (xs : List Nat) (w : World) (ha : Sing w w.heap.size A xs) (hn : xs.length ≤ 1048576) :
    Calls Try.prog 38 #[.slice A xs.length c] w fun e w' => e = .returned (.bool (goodB xs)) ∧ Drew w w' := by
  have HA := hid ha
  clear ha
  by_cases h64 : xs.length ≤ 64
  · have hlz : (xs.length : Int) ≤ 64 := by omega
    go_enter Try.func38, Try.ntmps38
    go_wp2_with fail
    go_loopw [3] (fun i wr => ∃ k : Nat, k ≤ xs.length ∧ i = .int .i64 k ∧ (∀ x ∈ xs.take k, fin32 x = true) ∧ Drew w wr) (fun i _ => xs.length - (intOf i).toNat)
    case atStart => exact ⟨0, Nat.zero_le _, rfl, by simp, 0, rfl⟩
    case round =>
      obtain ⟨k, hk, rfl, hall, n, rfl⟩ := hrel
      have HL := hid hall
      clear hall
      by_cases hlt : k < xs.length
      · obtain ⟨ad, rfl, had, hca⟩ := HA.out.at_ hlt
        have hkz : (k : Int) < (xs.length : Int) := by omega
        go_wp2_with fail
        refine upon_widen some_f32 Try.underlying28 ?_
        intro r m hr
        have E := hid hr.fin32
        clear hr
        go_wp2_with fail
        refine (fine_any _ _).mono ?_
        rintro e w' ⟨rfl, m', rfl⟩
        rw [show finB r = fin32 xs[k] from E.out]
        rcases Bool.eq_false_or_eq_true (fin32 xs[k]) with hf | hf
        · rw [hf]
          have HF := hid hf
          clear hf
          go_wp2_with fail
          go_roundw
          case rel =>
            refine ⟨k + 1, by omega, by go_num, fun x hx => ?_, _, rfl⟩
            rw [List.take_succ_eq_append_getElem hlt, List.mem_append] at hx
            rcases hx with hx | hx
            · exact HL.out x hx
            · simp at hx; subst hx; exact HF.out
          case measure => simp [intOf]; omega
        · rw [hf]
          have HF := hid hf
          clear hf
          go_wp2_with fail
          go_ret
          refine ⟨?_, _, rfl⟩
          have : goodB xs = false := by
            cases hg : goodB xs
            · rfl
            · have := (goodB_iff.1 hg).2 xs[k] (List.getElem_mem hlt)
              rw [HF.out] at this; cases this
          rw [this]; rfl
      · have : k = xs.length := by omega
        subst this
        go_wp2_with fail
        go_ret
        refine ⟨?_, _, rfl⟩
        have : goodB xs = true := goodB_iff.2 ⟨h64, by simpa using HL.out⟩
        rw [this]; rfl
  · have hlz : (64 : Int) < (xs.length : Int) := by omega
    go_enter Try.func38, Try.ntmps38
    go_wp2
    go_ret
    exact ⟨by simp [goodB, h64], 0, rfl⟩

set_option maxHeartbeats 400000 in
theorem goodf_any (x : Nat) (w : World) :
    Calls Try.prog 52 #[.float .f32 x] w fun e w' => e = .returned (.bool (!fin32 x)) ∧ Drew w w' := by
  go_enter Try.func52, Try.ntmps52
  go_wp2_with fail
  refine (finiteSingle_any _ _).mono ?_
  rintro e w' ⟨rfl, n, rfl⟩
  go_wp2_with fail
  go_ret
  exact ⟨rfl, _, rfl⟩

/-- an index that is not below 0 exactly if an element is not finite -/
def IdxR (xs : List Nat) (w : World) (e : Ending) (w' : World) : Prop := ∃ r : Int, e = .returned (.int .i64 r) ∧ decide (r ≥ 0) = !xs.all fin32 ∧ Drew w w'

set_option maxHeartbeats 1000000 in
theorem index_any (A : Option Addr) (c : Nat) (xs : List Nat) (w : World) (ha : Sing w w.heap.size A xs) (hn : xs.length ≤ 64) :
    Calls Try.prog 62 #[.slice A xs.length c, .func (Fn.func 52) #[] #[]] w (IdxR xs w) := by
  have HA := hid ha
  clear ha
  have hlz : (xs.length : Int) ≤ 64 := by omega
  go_enter Try.func62, Try.ntmps62
  go_wp2_with fail
  go_loopw [5, 8] (fun _ i wr => ∃ k : Nat, k ≤ xs.length ∧ i = .int .i64 k ∧ (∀ x ∈ xs.take k, fin32 x = true) ∧ Drew w wr) (fun _ i _ => xs.length - (intOf i).toNat)
  case atStart => exact ⟨0, Nat.zero_le _, rfl, by simp, 0, rfl⟩
  case round =>
    obtain ⟨k, hk, rfl, hall, n, rfl⟩ := hrel
    have HL := hid hall
    clear hall
    by_cases hlt : k < xs.length
    · obtain ⟨ad, rfl, had, hca⟩ := HA.out.at_ hlt
      have hkz : (k : Int) < (xs.length : Int) := by omega
      go_wp2_with fail
      refine (goodf_any _ _).mono ?_
      rintro e w' ⟨rfl, m', rfl⟩
      rcases Bool.eq_false_or_eq_true (fin32 xs[k]) with hf | hf
      · rw [hf]
        have HF := hid hf
        clear hf
        go_wp2_with fail
        go_roundw
        case rel =>
          refine ⟨k + 1, by omega, by go_num, fun x hx => ?_, _, rfl⟩
          rw [List.take_succ_eq_append_getElem hlt, List.mem_append] at hx
          rcases hx with hx | hx
          · exact HL.out x hx
          · simp at hx; subst hx; exact HF.out
        case measure => simp [intOf]; omega
      · rw [hf]
        have HF := hid hf
        clear hf
        go_wp2_with fail
        go_ret
        refine ⟨k, rfl, ?_, _, rfl⟩
        have : xs.all fin32 = false := by
          cases hg : xs.all fin32
          · rfl
          · have := List.all_eq_true.1 hg xs[k] (List.getElem_mem hlt)
            rw [HF.out] at this; cases this
        rw [this]; simp
    · have : k = xs.length := by omega
      subst this
      go_wp2_with fail
      go_ret
      refine ⟨-1, rfl, ?_, _, rfl⟩
      have : xs.all fin32 = true := List.all_eq_true.2 (by simpa using HL.out)
      rw [this]; rfl

set_option maxHeartbeats 1000000 in
theorem contains_any (A : Option Addr) (c : Nat) (xs : List Nat) (w : World) (ha : Sing w w.heap.size A xs) (hn : xs.length ≤ 64) :
    Calls Try.prog 51 #[.slice A xs.length c, .func (Fn.func 52) #[] #[]] w fun e w' => e = .returned (.bool (!xs.all fin32)) ∧ Drew w w' := by
  have HI := hid (index_any A c xs w ha hn)
  clear ha
  go_enter Try.func51, Try.ntmps51
  go_wp2_with fail
  refine HI.out.mono ?_
  rintro e w' ⟨r, rfl, hr, n, rfl⟩
  have HR := hid hr
  clear hr
  go_wp2_with fail
  go_ret
  exact ⟨by rw [← HR.out]; rfl, _, rfl⟩

set_option maxHeartbeats 1000000 in
theorem good_impl (A : Option Addr) (c : Nat) (xs : List Nat) (w : World) (ha : Sing w w.heap.size A xs) (hn : xs.length ≤ 1048576) :
    Calls Try.prog 39 #[.slice A xs.length c] w fun e w' => e = .returned (.bool (goodB xs)) ∧ Drew w w' := by
  have HA := hid ha
  clear ha
  by_cases h64 : xs.length ≤ 64
  · have hlz : (xs.length : Int) ≤ 64 := by omega
    go_enter Try.func39, Try.ntmps39
    go_wp2_with fail
    refine (contains_any _ _ _ _ HA.out h64).mono ?_
    rintro e w' ⟨rfl, n, rfl⟩
    go_wp2_with fail
    go_ret
    exact ⟨by simp [goodB, h64], _, rfl⟩
  · have hlz : (64 : Int) < (xs.length : Int) := by omega
    go_enter Try.func39, Try.ntmps39
    go_wp2_with fail
    go_ret
    exact ⟨by simp [goodB, h64], 0, rfl⟩
end Go.Proofs.Ytgenphbackbepaa
