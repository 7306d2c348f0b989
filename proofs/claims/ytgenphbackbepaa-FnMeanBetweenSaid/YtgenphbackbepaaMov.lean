/- MovingMeans, of the program and of the reference: a new list of means. -/
import Derived.Test.YtgenphbackbepaaPair
import Derived.Test.YtgenphbackbepaaRowW
import Derived.OwnWalk
namespace Go.Proofs.Ytgenphbackbepaa
open Go.RowKit

/-- the first k means of n elements each -/
def movT (xs : List Nat) (n k : Nat) : List Nat := (List.range k).map fun i => meanV ((xs.drop i).take n)
theorem movT_length (xs : List Nat) (n k : Nat) : (movT xs n k).length = k := by simp [movT]
theorem movT_snoc (xs : List Nat) (n k : Nat) : movT xs n (k + 1) = movT xs n k ++ [meanV ((xs.drop k).take n)] := by
  unfold movT; rw [List.range_succ, List.map_append]; rfl
def movB (xs : List Nat) (n : Int) : Bool := goodB xs && decide (1 ≤ n ∧ n ≤ xs.length)
def movL (xs : List Nat) (n : Int) : List Nat := if movB xs n then movT xs n.toNat (xs.length - n.toNat + 1) else []
theorem fcells_snoc (xs : List Nat) (x : Nat) : fcells (xs ++ [x]) = fcells xs ++ [.float .f32 x] := by simp [fcells]
theorem own_below {w w' : World} {base : Nat} {e : TypeId} {size : Nat} {v : Value} {n : Nat} {xs : List Value} (h : w.ownsRow base e size v n xs) (hb : Below w.heap.size w w') : w'.ownsRow base e size v n xs := by
  obtain ⟨h1, h2⟩ := h
  refine ⟨h1, ?_⟩
  rcases h2 with h2 | ⟨g, cap, cur, a, b, c, d⟩
  · exact .inl h2
  · refine .inr ⟨g, cap, cur, a, b, ?_, d⟩
    obtain ⟨hlt, _⟩ := Array.getElem?_eq_some_iff.1 c
    rw [hb.block g hlt]; exact c
theorem good_part {xs : List Nat} (h : goodB xs = true) (i n : Nat) : goodB ((xs.drop i).take n) = true := by
  obtain ⟨h1, h2⟩ := goodB_iff.1 h
  exact goodB_iff.2 ⟨by rw [List.length_take, List.length_drop]; omega, fun x m => h2 x (List.mem_of_mem_drop (List.mem_of_mem_take m))⟩
/-- a new list (or nil) and a yes or no -/
def RetM (L : List Nat) (b : Bool) (w : World) (e : Ending) (w' : World) : Prop := ∃ v, e = .returned (.tuple #[v, .bool b]) ∧ w'.ownsRow w.heap.size 23 1 v L.length (fcells L) ∧ Below w.heap.size w w'

set_option maxHeartbeats 400000 in
theorem inG_spec (n : Int) (h : Nat) (w : World) :
    Calls Try.prog 42 #[.int .i64 n, .int .i64 1, .int .i64 h] w fun e w' => e = .returned (.bool (decide (1 ≤ n ∧ n ≤ h))) ∧ w' = w := by
  by_cases h1 : 1 ≤ n
  · go_enter Try.func42, Try.ntmps42
    go_wp2
    go_ret
    exact ⟨by simp [h1], rfl⟩
  · have h2 : n < 1 := by omega
    go_enter Try.func42, Try.ntmps42
    go_wp2
    go_ret
    exact ⟨by simp; omega, rfl⟩

set_option maxHeartbeats 400000 in
theorem inG_impl (n : Int) (h : Nat) (w : World) :
    Calls Try.prog 43 #[.int .i64 n, .int .i64 1, .int .i64 h] w fun e w' => e = .returned (.bool (decide (1 ≤ n ∧ n ≤ h))) ∧ w' = w := by
  by_cases h1 : 1 ≤ n
  · go_enter Try.func43, Try.ntmps43
    go_wp2
    go_ret
    exact ⟨by simp [h1], rfl⟩
  · have h2 : n < 1 := by omega
    go_enter Try.func43, Try.ntmps43
    go_wp2
    go_ret
    exact ⟨by simp; omega, rfl⟩

set_option maxRecDepth 20000 in
set_option maxHeartbeats 2000000 in
theorem mov_spec (A : Option Addr) (c : Nat) (xs : List Nat) (n : Int) (w : World) (ha : Sing w w.heap.size A xs) (hn : xs.length ≤ 1048576) (hc : xs.length ≤ c) :
    Calls Try.prog 28 #[.slice A xs.length c, .int .i64 n] w (RetM (movL xs n) (movB xs n) w) := by
  have hlz : (xs.length : Int) ≤ 1048576 := by omega
  have HS := hid ((ha.below (below_new _ _ : Below w.heap.size w (w.alloc (.cells #[] 23)))).more (B' := (w.alloc (.cells #[] 23)).heap.size) (by first | exact Nat.le_refl _ | (simp)))
  have HS0 := hid (ha.below (below_new _ _ : Below w.heap.size w (w.alloc (.cells #[] 23))))
  have HO := hid (World.ownsRow_lit w #[] 0 (Nat.le_refl _) (by unfold maxLen; omega) (by simp) : (w.alloc (.cells #[] 23)).ownsRow w.heap.size 23 1 (.slice (some ⟨w.heap.size, 0, none⟩) 0 0) 0 [])
  have HS0' := hid ha
  clear ha
  rcases Bool.eq_false_or_eq_true (goodB xs) with hg | hg
  · by_cases hr : 1 ≤ n ∧ n ≤ xs.length
    · obtain ⟨nn, rfl⟩ := Int.eq_ofNat_of_zero_le (show 0 ≤ n by omega)
      have h1n : 1 ≤ nn := by omega
      have hnl : nn ≤ xs.length := by omega
      have HB := hid (show movB xs (nn : Int) = true by unfold movB; rw [hg, decide_eq_true hr]; rfl)
      have HL := hid (show movL xs (nn : Int) = movT xs nn (xs.length - nn + 1) by unfold movL; rw [HB.out]; rfl)
      have HG := hid hg
      have h1z : 1 ≤ (nn : Int) := by omega
      have hnz : (nn : Int) ≤ (xs.length : Int) := by omega
      have h64 := (goodB_iff.1 hg).1
      have h64z : (xs.length : Int) ≤ 64 := by omega
      go_enter Try.func28, Try.ntmps28
      go_wp2_with fail
      refine (good_spec _ _ _ _ HS.out hn).mono ?_
      rintro e w' ⟨rfl, m, rfl⟩
      rw [hg]
      clear hg
      go_wp2_with fail
      refine (inG_spec _ _ _).mono ?_
      rintro e w' ⟨rfl, rfl⟩
      rw [decide_eq_true hr]
      obtain ⟨i0, hi, hz0, hz1, hz2⟩ := info_parts Try.info_f32
      have HI := hid hi
      have HZ := hid (show i0.zero = some (.float .f32 0) ∧ i0.size = 1 ∧ i0.bytes = 4 from ⟨hz0, hz1, hz2⟩)
      clear hi hz0 hz1 hz2
      go_wp2_with fail
      go_loopw [6, 7, 8, 9] (fun v i _ _ wr => ∃ k : Nat, k + nn ≤ xs.length + 1 ∧ i = .int .i64 k ∧ wr.ownsRow w.heap.size 23 1 v k (fcells (movT xs nn k)) ∧ Below w.heap.size w wr ∧ Sing wr w.heap.size A xs) (fun _ i _ _ _ => xs.length + 1 - (intOf i).toNat)
      case atStart => exact ⟨0, by omega, rfl, own_below HO.out (below_drewN (Below.refl _ _) _), below_drewN (below_new _ _) _, HS0.out⟩
      case round =>
        obtain ⟨k, hk, rfl, hown, hb, hs⟩ := hrel
        have HW := hid hown
        have HBW := hid hb
        have HSW := hid hs
        clear hown hb hs
        have hkz : (k : Int) + (nn : Int) ≤ (xs.length : Int) + 1 := by omega
        by_cases hlt : k + nn ≤ xs.length
        · have hlt' : (k : Int) + (nn : Int) ≤ (xs.length : Int) := by omega
          have hcz : (xs.length : Int) ≤ (c : Int) := by omega
          have e1 : ((xs.drop k).take nn).length = nn := by rw [List.length_take, List.length_drop]; omega
          have hsub := (HSW.out.post (k := k) (cap := c) (by omega) hc).pre (k := nn) (by rw [List.length_drop]; omega)
          rw [if_neg (by omega)] at hsub
          have CM := mean_spec _ (c - k) _ wr (hsub.more (by have := HBW.out.size; omega)) (by rw [e1]; omega)
          rw [e1] at CM
          have hgp := good_part HG.out k nn
          have hmb : meanB ((xs.drop k).take nn) = true := meanB_iff.2 ⟨hgp, by rw [e1]; omega⟩
          have HMN := hid (show Fl.nan .f32 (meanV ((xs.drop k).take nn)) = false by
            unfold meanV; rw [hmb]
            exact Fl.fin_nan .f32 (mean_btw bot32 top32 hmb (all_btw hgp)).2.2.1)
          have HSN := hid (movT_snoc xs nn k)
          rw [hmb] at CM
          have HCM := hid CM
          clear CM hsub e1 hgp hmb
          go_wp2_with fail
          refine HCM.out.mono ?_
          rintro e w2 ⟨r, rfl, _, he, hb2⟩
          have er : r = meanV ((xs.drop k).take nn) := (he.symm.eq _ HMN.out).symm
          have HER := hid er
          have hown := own_below HW.out hb2
          have HBW2 := hid (bthen HBW.out hb2)
          have HSW2 := hid (HSW.out.below (hb2.mono HBW.out.size))
          have hsz : w.heap.size ≤ w2.heap.size := HBW2.out.size
          have hi := HI.out
          clear he hb2 er
          go_wp2_with (at_builtin; refine wpList_append_own _ rfl _ _ 22 rfl w.heap.size 23 i0 (.float .f32 0) 1 4 Try.underlying22 hi HZ.out.1 HZ.out.2.1 HZ.out.2.2 rfl (by decide) _ _ _ rfl (hown.alloc _) ⟨w2.heap.size, 0, none⟩ 1 1 [.float .f32 r] rfl rfl ?c1 ?c2 ?c3 ?c4 ?c5 ?_)
          case c1 =>
            intro j u hj
            match j, hj with
            | 0, hj => simp at hj; subst hj; simp [Addr.add]
          case c2 => intro u hu; simp at hu; subst hu; rfl
          case c3 => unfold maxLen; omega
          case c4 => omega
          case c5 => simp; omega
          · intro v' w3 hown' hgrow _
            have HO2 := hid hown'
            have hbl : Below w.heap.size w w3 := by
              refine Below.grown (HBW2.out.alloc HBW2.out.size _) hgrow (by simp; omega) (fun k' hk' => ?_)
              exact (hown.lt _ hk').1
            have HB3 := hid hbl
            have HS3 := hid (show Sing w3 w.heap.size A xs from HS0'.out.below hbl)
            clear hown' hgrow hown hbl
            go_wp2_with fail
            go_roundw
            case rel => exact ⟨k + 1, by omega, by go_num, by rw [HSN.out, fcells_snoc, ← HER.out]; exact HO2.out, HB3.out, HS3.out⟩
            case measure => simp [intOf]; omega
        · have hlt' : (xs.length : Int) < (k : Int) + (nn : Int) := by omega
          have ek : k = xs.length - nn + 1 := by omega
          have HE := hid (show fcells (movL xs nn) = fcells (movT xs nn k) ∧ (movL xs nn).length = k by rw [HL.out, movT_length, ek]; exact ⟨rfl, rfl⟩)
          clear ek
          go_wp2_with fail
          go_ret2
          exact ⟨_, by rw [HB.out]; rfl, by rw [HE.out.1, HE.out.2]; exact HW.out, HBW.out⟩
    · have HB := hid (show movB xs n = false by unfold movB; rw [hg, decide_eq_false hr]; rfl)
      have HL := hid (show movL xs n = [] by unfold movL; rw [HB.out]; rfl)
      go_enter Try.func28, Try.ntmps28
      go_wp2_with fail
      refine (good_spec _ _ _ _ HS.out hn).mono ?_
      rintro e w' ⟨rfl, m, rfl⟩
      rw [hg]
      clear hg
      go_wp2_with fail
      refine (inG_spec _ _ _).mono ?_
      rintro e w' ⟨rfl, rfl⟩
      rw [decide_eq_false hr]
      go_wp2_with fail
      go_ret2
      refine ⟨_, by rw [HB.out]; rfl, by rw [HL.out]; exact own_below HO.out (below_drewN (Below.refl _ _) _), below_drewN (below_new _ _) _⟩
  · have HB := hid (show movB xs n = false by unfold movB; rw [hg]; rfl)
    have HL := hid (show movL xs n = [] by unfold movL; rw [HB.out]; rfl)
    go_enter Try.func28, Try.ntmps28
    go_wp2_with fail
    refine (good_spec _ _ _ _ HS.out hn).mono ?_
    rintro e w' ⟨rfl, m, rfl⟩
    rw [hg]
    clear hg
    go_wp2_with fail
    go_ret2
    refine ⟨_, by rw [HB.out]; rfl, by rw [HL.out]; exact own_below HO.out (below_drewN (Below.refl _ _) _), below_drewN (below_new _ _) _⟩

set_option maxRecDepth 20000 in
set_option maxHeartbeats 2000000 in
theorem mov_impl (A : Option Addr) (c : Nat) (xs : List Nat) (n : Int) (w : World) (ha : Sing w w.heap.size A xs) (hn : xs.length ≤ 1048576) (hc : xs.length ≤ c) :
    Calls Try.prog 29 #[.slice A xs.length c, .int .i64 n] w (RetM (movL xs n) (movB xs n) w) := by
  have hlz : (xs.length : Int) ≤ 1048576 := by omega
  have HS := hid ((ha.below (Below.refl _ _ : Below w.heap.size w w)).more (B' := w.heap.size) (by first | exact Nat.le_refl _ | (simp)))
  have HS0 := hid (ha.below (Below.refl _ _ : Below w.heap.size w w))
  have HO := hid (World.ownsRow_nil _ _ _ _ : w.ownsRow w.heap.size 23 1 (.slice none 0 0) 0 [])
  have HS0' := hid ha
  clear ha
  rcases Bool.eq_false_or_eq_true (goodB xs) with hg | hg
  · by_cases hr : 1 ≤ n ∧ n ≤ xs.length
    · obtain ⟨nn, rfl⟩ := Int.eq_ofNat_of_zero_le (show 0 ≤ n by omega)
      have h1n : 1 ≤ nn := by omega
      have hnl : nn ≤ xs.length := by omega
      have HB := hid (show movB xs (nn : Int) = true by unfold movB; rw [hg, decide_eq_true hr]; rfl)
      have HL := hid (show movL xs (nn : Int) = movT xs nn (xs.length - nn + 1) by unfold movL; rw [HB.out]; rfl)
      have HG := hid hg
      have h1z : 1 ≤ (nn : Int) := by omega
      have hnz : (nn : Int) ≤ (xs.length : Int) := by omega
      have h64 := (goodB_iff.1 hg).1
      have h64z : (xs.length : Int) ≤ 64 := by omega
      go_enter Try.func29, Try.ntmps29
      go_wp2_with fail
      refine (good_impl _ _ _ _ HS.out hn).mono ?_
      rintro e w' ⟨rfl, m, rfl⟩
      rw [hg]
      clear hg
      go_wp2_with fail
      refine (inG_impl _ _ _).mono ?_
      rintro e w' ⟨rfl, rfl⟩
      rw [decide_eq_true hr]
      obtain ⟨i0, hi, hz0, hz1, hz2⟩ := info_parts Try.info_f32
      have HI := hid hi
      have HZ := hid (show i0.zero = some (.float .f32 0) ∧ i0.size = 1 ∧ i0.bytes = 4 from ⟨hz0, hz1, hz2⟩)
      clear hi hz0 hz1 hz2
      go_wp2_with fail
      go_loopw [6, 7, 8, 9] (fun v i _ _ wr => ∃ k : Nat, k + nn ≤ xs.length + 1 ∧ i = .int .i64 k ∧ wr.ownsRow w.heap.size 23 1 v k (fcells (movT xs nn k)) ∧ Below w.heap.size w wr ∧ Sing wr w.heap.size A xs) (fun _ i _ _ _ => xs.length + 1 - (intOf i).toNat)
      case atStart => exact ⟨0, by omega, rfl, own_below HO.out (below_drewN (Below.refl _ _) _), below_drewN (Below.refl _ _) _, HS0.out⟩
      case round =>
        obtain ⟨k, hk, rfl, hown, hb, hs⟩ := hrel
        have HW := hid hown
        have HBW := hid hb
        have HSW := hid hs
        clear hown hb hs
        have hkz : (k : Int) + (nn : Int) ≤ (xs.length : Int) + 1 := by omega
        by_cases hlt : k + nn ≤ xs.length
        · have hlt' : (k : Int) + (nn : Int) ≤ (xs.length : Int) := by omega
          have hcz : (xs.length : Int) ≤ (c : Int) := by omega
          have e1 : ((xs.drop k).take nn).length = nn := by rw [List.length_take, List.length_drop]; omega
          have hsub := (HSW.out.post (k := k) (cap := c) (by omega) hc).pre (k := nn) (by rw [List.length_drop]; omega)
          rw [if_neg (by omega)] at hsub
          have CM := mean_impl _ (c - k) _ wr (hsub.more (by have := HBW.out.size; omega)) (by rw [e1]; omega)
          rw [e1] at CM
          have hgp := good_part HG.out k nn
          have hmb : meanB ((xs.drop k).take nn) = true := meanB_iff.2 ⟨hgp, by rw [e1]; omega⟩
          have HMN := hid (show Fl.nan .f32 (meanV ((xs.drop k).take nn)) = false by
            unfold meanV; rw [hmb]
            exact Fl.fin_nan .f32 (mean_btw bot32 top32 hmb (all_btw hgp)).2.2.1)
          have HSN := hid (movT_snoc xs nn k)
          rw [hmb] at CM
          have HCM := hid CM
          clear CM hsub e1 hgp hmb
          go_wp2_with fail
          refine HCM.out.mono ?_
          rintro e w2 ⟨r, rfl, _, he, hb2⟩
          have er : r = meanV ((xs.drop k).take nn) := (he.symm.eq _ HMN.out).symm
          have HER := hid er
          have hown := own_below HW.out hb2
          have HBW2 := hid (bthen HBW.out hb2)
          have HSW2 := hid (HSW.out.below (hb2.mono HBW.out.size))
          have hsz : w.heap.size ≤ w2.heap.size := HBW2.out.size
          have hi := HI.out
          clear he hb2 er
          go_wp2_with (at_builtin; refine wpList_append_own _ rfl _ _ 22 rfl w.heap.size 23 i0 (.float .f32 0) 1 4 Try.underlying22 hi HZ.out.1 HZ.out.2.1 HZ.out.2.2 rfl (by decide) _ _ _ rfl (hown.alloc _) ⟨w2.heap.size, 0, none⟩ 1 1 [.float .f32 r] rfl rfl ?c1 ?c2 ?c3 ?c4 ?c5 ?_)
          case c1 =>
            intro j u hj
            match j, hj with
            | 0, hj => simp at hj; subst hj; simp [Addr.add]
          case c2 => intro u hu; simp at hu; subst hu; rfl
          case c3 => unfold maxLen; omega
          case c4 => omega
          case c5 => simp; omega
          · intro v' w3 hown' hgrow _
            have HO2 := hid hown'
            have hbl : Below w.heap.size w w3 := by
              refine Below.grown (HBW2.out.alloc HBW2.out.size _) hgrow (by simp; omega) (fun k' hk' => ?_)
              exact (hown.lt _ hk').1
            have HB3 := hid hbl
            have HS3 := hid (show Sing w3 w.heap.size A xs from HS0'.out.below hbl)
            clear hown' hgrow hown hbl
            go_wp2_with fail
            go_roundw
            case rel => exact ⟨k + 1, by omega, by go_num, by rw [HSN.out, fcells_snoc, ← HER.out]; exact HO2.out, HB3.out, HS3.out⟩
            case measure => simp [intOf]; omega
        · have hlt' : (xs.length : Int) < (k : Int) + (nn : Int) := by omega
          have ek : k = xs.length - nn + 1 := by omega
          have HE := hid (show fcells (movL xs nn) = fcells (movT xs nn k) ∧ (movL xs nn).length = k by rw [HL.out, movT_length, ek]; exact ⟨rfl, rfl⟩)
          clear ek
          go_wp2_with fail
          go_ret2
          exact ⟨_, by rw [HB.out]; rfl, by rw [HE.out.1, HE.out.2]; exact HW.out, HBW.out⟩
    · have HB := hid (show movB xs n = false by unfold movB; rw [hg, decide_eq_false hr]; rfl)
      have HL := hid (show movL xs n = [] by unfold movL; rw [HB.out]; rfl)
      go_enter Try.func29, Try.ntmps29
      go_wp2_with fail
      refine (good_impl _ _ _ _ HS.out hn).mono ?_
      rintro e w' ⟨rfl, m, rfl⟩
      rw [hg]
      clear hg
      go_wp2_with fail
      refine (inG_impl _ _ _).mono ?_
      rintro e w' ⟨rfl, rfl⟩
      rw [decide_eq_false hr]
      go_wp2_with fail
      go_ret2
      refine ⟨_, by rw [HB.out]; rfl, by rw [HL.out]; exact own_below HO.out (below_drewN (Below.refl _ _) _), below_drewN (Below.refl _ _) _⟩
  · have HB := hid (show movB xs n = false by unfold movB; rw [hg]; rfl)
    have HL := hid (show movL xs n = [] by unfold movL; rw [HB.out]; rfl)
    go_enter Try.func29, Try.ntmps29
    go_wp2_with fail
    refine (good_impl _ _ _ _ HS.out hn).mono ?_
    rintro e w' ⟨rfl, m, rfl⟩
    rw [hg]
    clear hg
    go_wp2_with fail
    go_ret2
    refine ⟨_, by rw [HB.out]; rfl, by rw [HL.out]; exact own_below HO.out (below_drewN (Below.refl _ _) _), below_drewN (Below.refl _ _) _⟩
end Go.Proofs.Ytgenphbackbepaa
