/- What the law's toFloat32S and eqFloat32S do: a copy in new memory; two lists of the same singles are told equal. -/
import Derived.Test.YtbloipnpgncjiaaWords
import Derived.Test.YtbloipnpgncjiaaSame
import Derived.Test.YtbloipnpgncjiaaBox
import Derived.Deep.RegionWith
import Derived.Deep.DeepCutAuto
namespace Go.Proofs.Ytbloipnpgncjiaa
open Go.RowKit

theorem Try.info_f32 : (Try.prog.info? 25).map (fun i => (i.zero, i.size, i.bytes)) = some (some (.float .f32 0), 1, 4) := by kernel_rfl

/-- a new slice of these singles; what was there is as it was -/
def RetS (xs : List Nat) (w : World) (e : Ending) (w' : World) : Prop :=
  ∃ g, e = .returned (.slice (some ⟨g, 0, none⟩) xs.length xs.length) ∧ w.heap.size ≤ g ∧ Sing w' w'.heap.size (some ⟨g, 0, none⟩) xs ∧ Below w.heap.size w w'

set_option maxHeartbeats 400000 in
theorem toS_any (A : Option Addr) (c : Nat) (xs : List Nat) (w : World) (hr : Sing w w.heap.size A xs) (hn : xs.length ≤ 1048576) :
    Calls Try.prog 33 #[.slice A xs.length c] w (RetS xs w) := by
  have hmk := run_make_row' (P := Try.prog) 32 25 (.float .f32 0) 4 Try.underlying32 Try.info_f32 rfl .i64 .i64 xs.length (by omega) (by omega)
  have HR := hid hr
  clear hr
  go_enter Try.func33, Try.ntmps33
  go_wp2
  clear hmk
  go_loopw [4] (fun i wr => ∃ k : Nat, k ≤ xs.length ∧ i = .int .i64 k ∧ Below w.heap.size w wr ∧ wr.rowIs w.heap.size 25 xs.length (fun j => .float .f32 (if j < k then xs.getD j 0 else 0))) (fun i _ => xs.length - (intOf i).toNat)
  case atStart => exact ⟨0, Nat.zero_le _, rfl, below_new _ _, by simpa using World.rowIs_made w (.float .f32 0) xs.length 25⟩
  case round =>
    obtain ⟨k, hk, rfl, hb, hrow⟩ := hrel
    by_cases hlt : k < xs.length
    · obtain ⟨ad, rfl, had, hcell⟩ := (HR.out.below hb).at_ hlt
      have HB := hid hb
      have HW := hid hrow
      have hd := hrow.cell hlt
      have hf := hrow.frozen k
      clear hb hrow
      have hlz : (k : Int) < (xs.length : Int) := by omega
      go_wp2
      go_roundw
      case rel =>
        refine ⟨k + 1, by omega, by go_num, HB.out.setCell (Nat.le_refl _) _, (HW.out.set k _).congr fun j hj => ?_⟩
        by_cases e : j = k
        · subst e; simp [hlt]
        · rw [if_neg e]
          by_cases e2 : j < k
          · rw [if_pos e2, if_pos (by omega)]
          · rw [if_neg e2, if_neg (by omega)]
      case measure => simp [intOf]; omega
    · have : k = xs.length := by omega
      subst this
      have HB := hid hb
      have HW := hid hrow
      clear hb hrow
      go_wp2
      go_ret
      exact ⟨w.heap.size, rfl, Nat.le_refl _, sing_row HW.out (fun j hj => by simp [hj]) HW.out.lt, HB.out⟩

theorem two_same {x r1 r2 : Nat} (h1 : Fl.Res .f64 (floatToFloatBits .f32 x .f64) r1) (h2 : Fl.Res .f64 (floatToFloatBits .f32 x .f64) r2) : Fl.Eqv .f64 r1 r2 := h1.w.trans _ h2.w.symm

set_option maxRecDepth 20000 in
set_option maxHeartbeats 4000000 in
theorem eqS_any (A B : Option Addr) (c d : Nat) (xs : List Nat) (w : World) (ha : Sing w w.heap.size A xs) (hb : Sing w w.heap.size B xs) (hn : xs.length ≤ 1048576) :
    Calls Try.prog 34 #[.slice A xs.length c, .slice B xs.length d] w fun e w' => e = .returned (.bool true) ∧ Below w.heap.size w w' := by
  have HA := hid ha
  have HB := hid hb
  clear ha hb
  go_enter Try.func34, Try.ntmps34
  go_wp2_with fail
  go_loopw [5] (fun i wr => ∃ k : Nat, k ≤ xs.length ∧ i = .int .i64 k ∧ Drew w wr) (fun i _ => xs.length - (intOf i).toNat)
  case atStart => exact ⟨0, Nat.zero_le _, rfl, 0, rfl⟩
  case round =>
    obtain ⟨k, hk, rfl, n, rfl⟩ := hrel
    by_cases hlt : k < xs.length
    · obtain ⟨ad, rfl, had, hca⟩ := HA.out.at_ hlt
      obtain ⟨bd, rfl, hbd, hcb⟩ := HB.out.at_ hlt
      have hlz : (k : Int) < (xs.length : Int) := by omega
      go_upto_region 6 with fail
      go_cut [28] (fun v wx => v = .bool false ∧ Drew w wx)
      case first =>
        go_region_with (first | (refine upon_widen some_f32 Try.underlying51 ?_; intro r n hr) | (go_at_call 42; refine (same_any _ _ _ (two_same (x := xs[k]) (by assumption) (by assumption))).mono ?_; rintro e w' ⟨rfl, m, rfl⟩))
        all_goals (go_wp2_with fail; go_meet; exact ⟨rfl, _, rfl⟩)
      case rest =>
        obtain ⟨rfl, m, rfl⟩ := hcut
        go_wp2_with fail
        go_roundw
        case rel => exact ⟨k + 1, by omega, by go_num, _, rfl⟩
        case measure => simp [intOf]; omega
    · have : k = xs.length := by omega
      subst this
      go_wp2
      go_ret
      exact ⟨rfl, below_drewN (Below.refl _ _) _⟩
end Go.Proofs.Ytbloipnpgncjiaa
