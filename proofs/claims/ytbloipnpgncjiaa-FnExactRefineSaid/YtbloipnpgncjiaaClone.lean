/- slices.Clone of a list of points: a list of its own with the same points. -/
import Derived.Test.YtbloipnpgncjiaaScaleL
import Derived.Lib.SliceRun
import Derived.Lib.Walk
namespace Go.Proofs.Ytbloipnpgncjiaa
open Go.RowKit

set_option maxRecDepth 20000 in
set_option maxHeartbeats 2000000 in
theorem clone_pts (A : Option Addr) (c : Nat) (ps : List (Nat × Nat)) (w : World) (ha : Pts w w.heap.size A ps) (hn : ps.length ≤ 1048576) :
    Calls Try.prog 71 #[.slice A ps.length c] w fun e w' => ∃ v, e = .returned v ∧ w'.ownsRow w.heap.size 36 2 v ps.length (pcells ps) ∧ Below w.heap.size w w' := by
  have HA := hid ha
  have hlz : (ps.length : Int) ≤ 1048576 := by omega
  have q : ∀ (w : World) (a : Option Addr) (n c n' c' : Nat), (binOp .eql 24 (.slice a n c) (.slice none n' c')).run Try.prog w = .ok (.bool a.isNone) w := fun w a n c n' c' => Lib.run_eql_slice_nil w _ _ a n c n' c' Try.underlying24
  have hlen := pcells_length ps
  clear ha
  cases A with
  | none =>
    have h0 : ps = [] := by
      cases ps with
      | nil => rfl
      | cons p ps => obtain ⟨ad, e, _⟩ := HA.out.2 (by simp); cases e
    subst h0
    go_enter Try.func71, Try.ntmps71
    go_wp2_with fail
    go_ret
    exact ⟨_, rfl, World.ownsRow_nil _ _ _ _, Below.refl _ _⟩
  | some ad =>
    obtain ⟨i0, hi, hz0, hz1, hz2⟩ := info_parts Try.info_pt
    go_enter Try.func71, Try.ntmps71
    go_wp2_with (at_builtin; refine wpList_append_own _ rfl _ _ 24 rfl w.heap.size 36 i0 (.agg #[.float .f32 0, .float .f32 0]) 2 8 Try.underlying24 hi hz0 hz1 hz2 rfl (by decide) _ _ _ rfl (World.ownsRow_made w #[] 0 (Nat.le_refl _) (Nat.zero_le _) rfl) ad ps.length c (pcells ps) rfl ?qc1 ?qc2 ?qc3 ?qc4 ?qc5 ?qc6 ?_)
    case qc1 => exact hlen
    case qc2 =>
      intro j u hj
      have hn : 0 < ps.length := by
        cases ps with
        | nil => simp [pcells] at hj
        | cons p ps => simp
      obtain ⟨ad', e, hb, hc⟩ := HA.out.2 hn
      cases e
      exact Lib.cell?_alloc_some _ (hc j u hj)
    case qc3 => exact pcells_one
    case qc4 => unfold maxLen; omega
    case qc5 => omega
    case qc6 => simp
    intro v' w1 hown hgrow hnil
    go_wp2_with fail
    go_ret
    exact ⟨v', rfl, by simpa using hown, ((Below.refl _ w).alloc (Nat.le_refl _) _).grown hgrow (by simp) (by intro k hk; simp [Value.ownBlock] at hk; omega)⟩
end Go.Proofs.Ytbloipnpgncjiaa
