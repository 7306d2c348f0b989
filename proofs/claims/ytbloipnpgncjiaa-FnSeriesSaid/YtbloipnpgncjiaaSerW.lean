/- RatioSeries by ones, FirstUnequal of the program. -/
import Derived.Test.YtbloipnpgncjiaaSerD2
import Derived.Deep.QuietTactic
import Derived.BigQuiet
namespace Go.Proofs.Ytbloipnpgncjiaa
open Go.RowKit Ieee

def ones (n : Nat) : List (Nat × Nat) := List.replicate n (oneS, 0)
theorem ones_len (n : Nat) : (ones n).length = n := List.length_replicate
theorem ones_get {n k : Nat} (hk : k < (ones n).length) : (ones n)[k] = (oneS, 0) := by unfold ones at hk ⊢; rw [List.getElem_replicate]
theorem ones_snoc (n : Nat) : ones (n + 1) = ones n ++ [(oneS, 0)] := List.replicate_succ'
def rats (zs : List (Nat × Nat)) (k : Nat) : List (Nat × Nat) := (zs.take k).map rat1
theorem rats_len {zs : List (Nat × Nat)} {k : Nat} (h : k ≤ zs.length) : (rats zs k).length = k := by simp [rats]; omega
theorem rats_snoc {zs : List (Nat × Nat)} {k : Nat} (h : k < zs.length) : rats zs (k + 1) = rats zs k ++ [rat1 zs[k]] := by
  unfold rats
  rw [List.take_succ_eq_append_getElem h, List.map_append]; rfl
/-- the ratios, up to the first one that is not finite -/
def RetSer (zs : List (Nat × Nat)) (w : World) (e : Ending) (w' : World) : Prop :=
  ∃ A c k, e = .returned (.tuple #[.slice A k c, .int .i64 (k : Int)]) ∧ k ≤ zs.length ∧ (∀ j (h : j < zs.length), j < k → zf zs[j] = true) ∧ (∀ h : k < zs.length, zf zs[k] = false) ∧ Cs w' w'.heap.size A (rats zs k) ∧ Below w.heap.size w w'

set_option maxRecDepth 20000 in
set_option maxHeartbeats 4000000 in
theorem ratser_any (A B : Option Addr) (c d : Nat) (zs : List (Nat × Nat)) (w : World) (ha : Cs w w.heap.size A zs) (hb : Cs w w.heap.size B (ones zs.length)) (hn : zs.length ≤ 5) :
    Calls Try.prog 50 #[.slice A zs.length c, .slice B zs.length d] w (RetSer zs w) := by
  have HA := hid ha
  have HB0 := hid hb
  have hnz : (zs.length : Int) ≤ 5 := by omega
  have h40 : ¬ ((40 : Int) < (zs.length : Int)) := by omega
  have HO := hid (World.ownsRow_nil w w.heap.size 57 1)
  clear ha hb
  obtain ⟨i0, hi, hz0, hz1, hz2⟩ := info_parts Try.info_c64
  have HI := hid hi
  have HZ := hid (show i0.zero = some (.complex .f32 0 0) ∧ i0.size = 1 ∧ i0.bytes = 8 from ⟨hz0, hz1, hz2⟩)
  clear hi hz0 hz1 hz2
  go_enter Try.func50, Try.ntmps50
  go_wp2_with fail
  go_loopw [6, 7, 8, 9, 22] (fun v _ _ _ i wr => ∃ k : Nat, k ≤ zs.length ∧ i = .int .i64 k ∧ (∀ j (h : j < zs.length), j < k → zf zs[j] = true) ∧ wr.ownsRow w.heap.size 57 1 v k (ccells (rats zs k)) ∧ Below w.heap.size w wr) (fun _ _ _ _ i _ => zs.length - (intOf i).toNat)
  case atStart => exact ⟨0, Nat.zero_le _, rfl, fun _ _ h => absurd h (by omega), HO.out, Below.refl _ _⟩
  case round =>
    obtain ⟨k, hk, rfl, hfin, hown, hb⟩ := hrel
    have HF := hid hfin
    obtain ⟨A1, c1, rfl, hcs, hcap, _⟩ := own_openC hown (rats_len hk)
    have HW := hid hown
    have HCS := hid hcs
    have HB := hid hb
    clear hfin hown hcs
    by_cases hlt : k < zs.length
    · obtain ⟨ad, rfl, had, hca⟩ := (HA.out.below hb).at_ hlt
      obtain ⟨bd, rfl, hbd, hcb⟩ := (HB0.out.below hb).at_ (k := k) (by rw [ones_len]; exact hlt)
      rw [ones_get] at hcb
      have hkz : (k : Int) < (zs.length : Int) := by omega
      have HSN := hid (rats_snoc hlt)
      obtain ⟨z, hz⟩ : ∃ z, zs[k] = z := ⟨_, rfl⟩
      rw [hz] at hca HSN
      have HZK := hid hz
      have hsz := HB.out.size
      clear hb hz
      rcases Bool.eq_false_or_eq_true (zf z) with hq | hq
      · have HQ := hid hq
        clear hq
        go_wp2_with fail
        go_quiet (first | (refine Calls.quiet_of (ratio_any z HQ.out _)))
        have HW2 := hid (show (wr.drewN nq).ownsRow w.heap.size 57 1 (.slice A1 k c1) k (ccells (rats zs k)) from HW.out)
        have HB2 := hid (below_drewN HB.out nq)
        have hs2 : w.heap.size ≤ (wr.drewN nq).heap.size := hsz
        have hi := HI.out
        generalize wr.drewN nq = w2 at HW2 HB2 hs2 ⊢
        go_wp2_with (at_builtin; refine wpList_append_own _ rfl _ _ 54 rfl w.heap.size 57 i0 (.complex .f32 0 0) 1 8 Try.underlying54 hi HZ.out.1 HZ.out.2.1 HZ.out.2.2 rfl (by decide) _ _ _ rfl (HW2.out.alloc _) ⟨w2.heap.size, 0, none⟩ 1 1 [.complex .f32 (rat1 z).1 (rat1 z).2] rfl rfl ?c1 ?c2 ?c3 ?c4 ?c5 ?_)
        case c1 =>
          intro j u hj
          match j, hj with
          | 0, hj => simp at hj; subst hj; simp [Addr.add]
        case c2 => intro u hu; simp at hu; rcases hu with rfl; rfl
        case c3 => unfold maxLen; omega
        case c4 => omega
        case c5 => simp; omega
        intro v' w4 hown' hgrow _
        have HB4 := hid (show Below w.heap.size w w4 from Below.grown (HB2.out.alloc hs2 _) hgrow (by simp; omega) (fun k' hk' => (HW2.out.lt _ hk').1))
        have HO4 := hid hown'
        clear hown' hgrow hi hs2
        go_wp2_with fail
        go_roundw
        case rel =>
          refine ⟨k + 1, by omega, by go_num, fun j h hj => ?_, by rw [HSN.out, ccells_snoc]; exact HO4.out, HB4.out⟩
          by_cases e : j = k
          · subst e; rw [HZK.out]; exact HQ.out
          · exact HF.out j h (by omega)
        case measure => simp [intOf]; omega
      · have HQ := hid hq
        clear hq
        go_wp2_with fail
        go_quiet (first | (refine Calls.quiet_of (ratio_bad z HQ.out _)))
        go_wp2_with fail
        go_ret2
        exact ⟨_, _, k, rfl, by omega, HF.out, (fun _ => by rw [HZK.out]; exact HQ.out), HCS.out.drewN _, below_drewN HB.out _⟩
    · have : k = zs.length := by omega
      subst this
      clear hb
      go_wp2_with fail
      go_ret2
      exact ⟨_, _, _, rfl, Nat.le_refl _, HF.out, fun h => absurd h (by omega), HCS.out, HB.out⟩

set_option maxRecDepth 20000 in
set_option maxHeartbeats 2000000 in
theorem firstun_any (A B : Option Addr) (c d n : Nat) (xs ys : List (Nat × Nat)) (w : World) (hx : xs.length = n) (hy : ys.length = n) (ha : Cs w w.heap.size A xs) (hb : Cs w w.heap.size B ys) (hn : n ≤ 5)
    (he : ∀ j (h1 : j < xs.length) (h2 : j < ys.length), (FloatKind.f32.format.order xs[j].1 ys[j].1 == some .eq) = true ∧ (FloatKind.f32.format.order xs[j].2 ys[j].2 == some .eq) = true) :
    Calls Try.prog 51 #[.slice A n c, .slice B n d] w fun e w' => e = .returned (.int .i64 (-1)) ∧ Drew w w' := by
  have HA := hid ha
  have HB := hid hb
  have HE := hid he
  have HX := hid hx
  have HY := hid hy
  have hnz : (n : Int) ≤ 5 := by omega
  clear ha hb he hx hy
  go_enter Try.func51, Try.ntmps51
  go_wp2_with fail
  go_loopw [5] (fun i wr => ∃ k : Nat, k ≤ n ∧ i = .int .i64 k ∧ Drew w wr) (fun i _ => n - (intOf i).toNat)
  case atStart => exact ⟨0, Nat.zero_le _, rfl, 0, rfl⟩
  case round =>
    obtain ⟨k, hk, rfl, m, rfl⟩ := hrel
    by_cases hlt : k < n
    · obtain ⟨ad, rfl, had, hca⟩ := (HA.out.drewN m).at_ (k := k) (by rw [HX.out]; exact hlt)
      obtain ⟨bd, rfl, hbd, hcb⟩ := (HB.out.drewN m).at_ (k := k) (by rw [HY.out]; exact hlt)
      have HQ := hid (HE.out k (by rw [HX.out]; exact hlt) (by rw [HY.out]; exact hlt))
      generalize xs[k]'(by rw [HX.out]; exact hlt) = z at hca HQ
      generalize ys[k]'(by rw [HY.out]; exact hlt) = z' at hcb HQ
      have hkz : (k : Int) < (n : Int) := by omega
      have hd1 : decide ((n : Int) ≤ (k : Int)) = false := decide_eq_false (by omega)
      have HD := hid (show Drew w (w.drewN m) from ⟨m, rfl⟩)
      generalize w.drewN m = wq at hca hcb HD ⊢
      go_wp2_with fail
      go_quiet (first | (refine Calls.quiet_of_same (equal_any _ _ _ _ HQ.out.1 HQ.out.2 _)))
      go_wp2_with fail
      go_roundw
      case rel => exact ⟨k + 1, by omega, by go_num, by obtain ⟨m', e⟩ := HD.out; exact ⟨m' + nq, by rw [e, World.drewN_drewN]⟩⟩
      case measure => simp [intOf]; omega
    · have : k = n := by omega
      subst this
      go_wp2_with fail
      go_ret
      exact ⟨rfl, m, rfl⟩
end Go.Proofs.Ytbloipnpgncjiaa
