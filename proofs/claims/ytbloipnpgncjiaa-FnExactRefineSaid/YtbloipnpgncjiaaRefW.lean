/- Refine of the program: a table and new numbers in it. -/
import Derived.Test.YtbloipnpgncjiaaRefS
import Derived.Test.YtbloipnpgncjiaaRefL
import Derived.Test.YtbloipnpgncjiaaClone
import Derived.Test.YtbloipnpgncjiaaOwnP
namespace Go.Proofs.Ytbloipnpgncjiaa
open Go.RowKit

def hasX (x : Nat) (p : Nat × Nat) : Bool := Fl.eq .f32 p.1 x

set_option maxHeartbeats 400000 in
theorem has_any (p : Nat × Nat) (x bx : Nat) (w : World) (hb : w.cell? ⟨bx, 0, none⟩ = some (.float .f32 x)) :
    Calls Try.prog 73 #[.agg #[.float .f32 p.1, .float .f32 p.2], .pointer (some ⟨bx, 0, none⟩)] w fun e w' => e = .returned (.bool (hasX x p)) ∧ Below w.heap.size w w' := by
  have h2 : (w.alloc (.cells #[.float .f32 p.1, .float .f32 p.2] 36)).cell? ⟨bx, 0, none⟩ = some (.float .f32 x) := Lib.cell?_alloc_some _ hb
  clear hb
  go_enter Try.func73, Try.ntmps73
  go_wp2_with fail
  go_ret
  exact ⟨rfl, below_new _ _⟩

set_option maxRecDepth 20000 in
set_option maxHeartbeats 1000000 in
theorem indexX_any (A : Option Addr) (c : Nat) (ps : List (Nat × Nat)) (x bx : Nat) (w : World) (ha : Pts w w.heap.size A ps) (hn : ps.length ≤ 1100000) (hl : bx < w.heap.size) (hb : w.cell? ⟨bx, 0, none⟩ = some (.float .f32 x)) :
    Calls Try.prog 108 #[.slice A ps.length c, .func (Fn.func 73) #[] #[.pointer (some ⟨bx, 0, none⟩)]] w fun e w' => (∃ i : Int, e = .returned (.int .i64 i) ∧ decide (0 ≤ i) = ps.any (hasX x)) ∧ Below w.heap.size w w' := by
  have HA := hid ha
  have HC := hid hb
  have HL := hid hl
  have hlz : (ps.length : Int) ≤ 1100000 := by omega
  clear ha hb hl
  go_enter Try.func108, Try.ntmps108
  go_wp2_with fail
  go_loopw [5, 8] (fun _ i wr => ∃ k : Nat, k ≤ ps.length ∧ i = .int .i64 k ∧ (ps.take k).any (hasX x) = false ∧ Below w.heap.size w wr) (fun _ i _ => ps.length - (intOf i).toNat)
  case atStart => exact ⟨0, Nat.zero_le _, rfl, rfl, Below.refl _ _⟩
  case round =>
    obtain ⟨j, hj, rfl, hno, hb⟩ := hrel
    have HB := hid hb
    have HN := hid hno
    clear hno
    by_cases hlt : j < ps.length
    · obtain ⟨ad, x1, y1, rfl, had, hs, hc0, hc1⟩ := (HA.out.below hb).at2 hlt
      have hjz : (j : Int) < (ps.length : Int) := by omega
      have hcx : wr.cell? ⟨bx, 0, none⟩ = some (.float .f32 x) := (hb.cell (p := ⟨bx, 0, none⟩) HL.out).trans HC.out
      have HCX := hid hcx
      have HT := hid (show (ps.take (j + 1)).any (hasX x) = hasX x (x1, y1) by
        rw [List.take_succ_eq_append_getElem hlt, List.any_append, HN.out, ← getD_at hlt, hs]; simp)
      clear hb hs hcx
      go_wp2_with fail
      refine (has_any (x1, y1) x bx _ HCX.out).mono ?_
      rintro e w1 ⟨rfl, hb1⟩
      have HB1 := hid (bthen HB.out hb1)
      clear hb1
      rcases Bool.eq_false_or_eq_true (hasX x (x1, y1)) with hq | hq
      · rw [hq]
        have HQ := hid (show ps.any (hasX x) = true by
          have := HT.out
          rw [hq] at this
          rw [← List.take_append_drop (j + 1) ps, List.any_append, this]; rfl)
        clear hq
        go_wp2_with fail
        go_ret
        exact ⟨⟨_, rfl, by rw [HQ.out]; simp⟩, HB1.out⟩
      · rw [hq]
        have HQ := hid (HT.out.trans hq)
        clear hq
        go_wp2_with fail
        go_roundw
        case rel => exact ⟨j + 1, by omega, by go_num, HQ.out, HB1.out⟩
        case measure => simp [intOf]; omega
    · have : j = ps.length := by omega
      subst this
      have HQ := hid (show ps.any (hasX x) = false by have := HN.out; rwa [List.take_of_length_le (Nat.le_refl _)] at this)
      clear hb
      go_wp2_with fail
      go_ret
      exact ⟨⟨_, rfl, by rw [HQ.out]; decide⟩, HB.out⟩

set_option maxHeartbeats 1000000 in
theorem containsX_any (A : Option Addr) (c : Nat) (ps : List (Nat × Nat)) (x bx : Nat) (w : World) (ha : Pts w w.heap.size A ps) (hn : ps.length ≤ 1100000) (hl : bx < w.heap.size) (hb : w.cell? ⟨bx, 0, none⟩ = some (.float .f32 x)) :
    Calls Try.prog 72 #[.slice A ps.length c, .func (Fn.func 73) #[] #[.pointer (some ⟨bx, 0, none⟩)]] w fun e w' => e = .returned (.bool (ps.any (hasX x))) ∧ Below w.heap.size w w' := by
  have HI := hid (indexX_any A c ps x bx w ha hn hl hb)
  clear ha hl hb
  go_enter Try.func72, Try.ntmps72
  go_wp2_with fail
  refine HI.out.mono ?_
  rintro e w' ⟨⟨i, rfl, hi⟩, hb⟩
  have HB := hid hb
  clear hb
  have HD := hid hi
  clear hi
  go_wp2_with fail
  go_ret
  exact ⟨by rw [← HD.out]; rfl, HB.out⟩
end Go.Proofs.Ytbloipnpgncjiaa
