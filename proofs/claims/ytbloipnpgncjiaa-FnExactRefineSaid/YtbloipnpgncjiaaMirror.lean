/- MirrorTable, of the program and of the reference: a new list of points. -/
import Derived.Test.YtbloipnpgncjiaaTab2
import Derived.Test.YtbloipnpgncjiaaPMark
import Derived.Test.YtbloipnpgncjiaaStep
namespace Go.Proofs.Ytbloipnpgncjiaa
open Go.RowKit

def mirP (p : Nat × Nat) : Nat × Nat := (negB p.1, negB p.2)
def mirT (ps : List (Nat × Nat)) (t : Nat) : List (Nat × Nat) := (List.range t).map fun j => mirP (ps.getD (ps.length - 1 - j) (0, 0))
theorem mirT_length (ps : List (Nat × Nat)) (t : Nat) : (mirT ps t).length = t := by simp [mirT]
theorem mirT_snoc (ps : List (Nat × Nat)) (t : Nat) : mirT ps (t + 1) = mirT ps t ++ [mirP (ps.getD (ps.length - 1 - t) (0, 0))] := by
  unfold mirT; rw [List.range_succ, List.map_append]; rfl
def mirL (ps : List (Nat × Nat)) : List (Nat × Nat) := if tabOk ps then mirT ps ps.length else []
theorem pcells_snoc : ∀ (ps : List (Nat × Nat)) (p : Nat × Nat), pcells (ps ++ [p]) = pcells ps ++ [.float .f32 p.1, .float .f32 p.2]
  | [], p => rfl
  | q :: ps, p => by simp only [List.cons_append, pcells, pcells_snoc ps p]
theorem own_below {w w' : World} {base : Nat} {e : TypeId} {size : Nat} {v : Value} {n : Nat} {xs : List Value} (h : w.ownsRow base e size v n xs) (hb : Below w.heap.size w w') : w'.ownsRow base e size v n xs := by
  obtain ⟨h1, h2⟩ := h
  refine ⟨h1, ?_⟩
  rcases h2 with h2 | ⟨g, cap, cur, a, b, c, d⟩
  · exact .inl h2
  · refine .inr ⟨g, cap, cur, a, b, ?_, d⟩
    obtain ⟨hlt, _⟩ := Array.getElem?_eq_some_iff.1 c
    rw [hb.block g hlt]; exact c
/-- a new list of points (or nil) and a yes or no -/
def RetT (L : List (Nat × Nat)) (b : Bool) (w : World) (e : Ending) (w' : World) : Prop := ∃ v, e = .returned (.tuple #[v, .bool b]) ∧ w'.ownsRow w.heap.size 36 2 v L.length (pcells L) ∧ Below w.heap.size w w'

set_option maxRecDepth 20000 in
set_option maxHeartbeats 2000000 in
theorem mirror_spec (A : Option Addr) (c : Nat) (ps : List (Nat × Nat)) (w : World) (ha : Pts w w.heap.size A ps) (hn : ps.length ≤ 1048576) :
    Calls Try.prog 43 #[.slice A ps.length c] w (RetT (mirL ps) (tabOk ps) w) := by
  have hlz : (ps.length : Int) ≤ 1048576 := by omega
  have HS0 := hid ha
  have HS := hid ((ha.below (below_new _ _ : Below w.heap.size w (w.alloc (.cells #[] 36)))).more (B' := (w.alloc (.cells #[] 36)).heap.size) (by first | exact Nat.le_refl _ | (simp)))
  have HO := hid (World.ownsRow_lit w #[] 0 (Nat.le_refl _) (by unfold maxLen; omega) (by simp) : (w.alloc (.cells #[] 36)).ownsRow w.heap.size 36 2 (.slice (some ⟨w.heap.size, 0, none⟩) 0 0) 0 [])
  clear ha
  rcases Bool.eq_false_or_eq_true (tabOk ps) with ht | ht
  · have HT := hid ht
    have HL := hid (show mirL ps = mirT ps ps.length by unfold mirL; rw [ht]; rfl)
    have h2 := (tabOk_iff.1 ht).1
    go_enter Try.func43, Try.ntmps43
    go_wp2_with fail
    refine (tab_spec _ _ _ _ HS.out hn).mono ?_
    rintro e w1 ⟨rfl, hb⟩
    rw [ht]
    have H1 := hid (Drew.below hb w.heap.size)
    have H0 := hid (show Below w.heap.size w w1 from Below.trans (below_new _ _) (H1.out))
    have HO1 := hid (own_below HO.out (Drew.below hb _))
    clear hb ht
    go_wp2_with fail
    go_loopw [4, 5] (fun v i wr => ∃ t : Nat, t ≤ ps.length ∧ i = .int .i64 ((ps.length : Int) - 1 - t) ∧ wr.ownsRow w.heap.size 36 2 v t (pcells (mirT ps t)) ∧ Below w.heap.size w wr) (fun _ i _ => (intOf i + 1).toNat)
    case atStart => exact ⟨0, by omega, by simp, HO1.out, H0.out⟩
    case round =>
      obtain ⟨t, htl, rfl, hown, hb⟩ := hrel
      have HW := hid hown
      have HB := hid hb
      by_cases hlt : t < ps.length
      · obtain ⟨k, hk⟩ : ∃ k, k + 1 + t = ps.length := ⟨ps.length - 1 - t, by omega⟩
        have ek : (ps.length : Int) - 1 - (t : Int) = (k : Int) := by omega
        obtain ⟨ad, x, y, rfl, had, hxy, hca, hca'⟩ := (HS0.out.below hb).at2 (k := k) (by omega)
        have hkz : (k : Int) < (ps.length : Int) := by omega
        rw [ek]
        clear hown hb
        obtain ⟨i0, hi, hz0, hz1, hz2⟩ := info_parts Try.info_pt
        have HI := hid hi
        have HZ := hid (show i0.zero = some (.agg #[.float .f32 0, .float .f32 0]) ∧ i0.size = 2 ∧ i0.bytes = 8 from ⟨hz0, hz1, hz2⟩)
        have hszw := HB.out.size
        clear hi hz0 hz1 hz2
        go_wp2_with fail
        · skip
          have HSN := hid (show pcells (mirT ps (t + 1)) = pcells (mirT ps t) ++ [.float .f32 (negB x), .float .f32 (negB y)] by
            rw [mirT_snoc, pcells_snoc, show ps.length - 1 - t = k by omega, hxy]; rfl)
          clear hxy
          go_region_law (refine step_append_own rfl (.tmp 18) (.tmp 32) 24 rfl w.heap.size 36 i0 _ 2 8 Try.underlying24 HI.out HZ.out.1 HZ.out.2.1 HZ.out.2.2 rfl (by decide) _ t _ (by first | rfl | simp [Act.eval, Act.put]) (World.ownsRow.alloc (w := wr.drew) HW.out _) ⟨wr.heap.size, 0, none⟩ 1 1 [.float .f32 (negB x), .float .f32 (negB y)] (by first | rfl | simp [Act.eval, Act.put]) rfl (fun j u hj => by match j, hj with | 0, hj => (simp at hj; subst hj; simp [Addr.add]; rfl) | 1, hj => (simp at hj; subst hj; simp [Addr.add]; rfl)) (fun u hu => by simp at hu; rcases hu with rfl | rfl <;> rfl) (by unfold maxLen; omega) (by omega) (by simp; omega) ?_; intro v' w' hown' hgrow)
          all_goals
            have HO2 := hid hown'
            have HB2 := hid (show Below w.heap.size w _ from Below.grown ((HB.out.drew).alloc (by have := HB.out.size; simpa using this) _) hgrow (by simp; omega) (fun k' hk' => (HW.out.lt _ hk').1))
            clear hown' hgrow
            go_wp2_with fail
            go_roundw
            case rel => exact ⟨t + 1, by omega, by first | (congr 1; done) | (congr 1; omega), by rw [HSN.out]; exact HO2.out, HB2.out⟩
            case measure => first | (simp [intOf]; done) | (simp [intOf]; omega)
      · have : t = ps.length := by omega
        subst this
        have ek : (ps.length : Int) - 1 - (ps.length : Int) = -1 := by omega
        rw [ek]
        clear hown hb
        go_wp2_with fail
        go_ret2
        exact ⟨_, by rw [HT.out]; rfl, by rw [HL.out, mirT_length]; exact HW.out, HB.out⟩
  · have HT := hid ht
    have HL := hid (show mirL ps = [] by unfold mirL; rw [ht]; rfl)
    go_enter Try.func43, Try.ntmps43
    go_wp2_with fail
    refine (tab_spec _ _ _ _ HS.out hn).mono ?_
    rintro e w1 ⟨rfl, hb⟩
    rw [ht]
    have H1 := hid (Drew.below hb w.heap.size)
    have H0 := hid (show Below w.heap.size w w1 from Below.trans (below_new _ _) H1.out)
    have HO1 := hid (own_below HO.out (Drew.below hb _))
    clear hb ht
    go_wp2_with fail
    go_ret2
    exact ⟨_, by rw [HT.out]; rfl, by rw [HL.out]; exact HO1.out, H0.out⟩

set_option maxRecDepth 20000 in
set_option maxHeartbeats 2000000 in
theorem mirror_impl (A : Option Addr) (c : Nat) (ps : List (Nat × Nat)) (w : World) (ha : Pts w w.heap.size A ps) (hn : ps.length ≤ 1048576) :
    Calls Try.prog 44 #[.slice A ps.length c] w (RetT (mirL ps) (tabOk ps) w) := by
  have hlz : (ps.length : Int) ≤ 1048576 := by omega
  have HS0 := hid ha
  have HS := hid ((ha.below (Below.refl _ _ : Below w.heap.size w w)).more (B' := w.heap.size) (by first | exact Nat.le_refl _ | (simp)))
  have HO := hid (World.ownsRow_nil _ _ _ _ : w.ownsRow w.heap.size 36 2 (.slice none 0 0) 0 [])
  clear ha
  rcases Bool.eq_false_or_eq_true (tabOk ps) with ht | ht
  · have HT := hid ht
    have HL := hid (show mirL ps = mirT ps ps.length by unfold mirL; rw [ht]; rfl)
    have h2 := (tabOk_iff.1 ht).1
    go_enter Try.func44, Try.ntmps44
    go_wp2_with fail
    refine (tab_impl _ _ _ _ HS.out hn).mono ?_
    rintro e w1 ⟨rfl, hb⟩
    rw [ht]
    have H1 := hid (hb)
    have H0 := hid (show Below w.heap.size w w1 from Below.trans (Below.refl _ _) (H1.out))
    have HO1 := hid (own_below HO.out (hb))
    clear hb ht
    go_wp2_with fail
    go_loopw [4, 5] (fun v i wr => ∃ t : Nat, t ≤ ps.length ∧ i = .int .i64 ((ps.length : Int) - 1 - t) ∧ wr.ownsRow w.heap.size 36 2 v t (pcells (mirT ps t)) ∧ Below w.heap.size w wr) (fun _ i _ => (intOf i + 1).toNat)
    case atStart => exact ⟨0, by omega, by simp, HO1.out, H0.out⟩
    case round =>
      obtain ⟨t, htl, rfl, hown, hb⟩ := hrel
      have HW := hid hown
      have HB := hid hb
      by_cases hlt : t < ps.length
      · obtain ⟨k, hk⟩ : ∃ k, k + 1 + t = ps.length := ⟨ps.length - 1 - t, by omega⟩
        have ek : (ps.length : Int) - 1 - (t : Int) = (k : Int) := by omega
        obtain ⟨ad, x, y, rfl, had, hxy, hca, hca'⟩ := (HS0.out.below hb).at2 (k := k) (by omega)
        have hkz : (k : Int) < (ps.length : Int) := by omega
        rw [ek]
        clear hown hb
        obtain ⟨i0, hi, hz0, hz1, hz2⟩ := info_parts Try.info_pt
        have HI := hid hi
        have HZ := hid (show i0.zero = some (.agg #[.float .f32 0, .float .f32 0]) ∧ i0.size = 2 ∧ i0.bytes = 8 from ⟨hz0, hz1, hz2⟩)
        have hszw := HB.out.size
        clear hi hz0 hz1 hz2
        go_wp2_with fail
        · skip
          have HSN := hid (show pcells (mirT ps (t + 1)) = pcells (mirT ps t) ++ [.float .f32 (negB x), .float .f32 (negB y)] by
            rw [mirT_snoc, pcells_snoc, show ps.length - 1 - t = k by omega, hxy]; rfl)
          clear hxy
          go_region_law (refine step_append_own rfl (.tmp 16) (.tmp 30) 24 rfl w.heap.size 36 i0 _ 2 8 Try.underlying24 HI.out HZ.out.1 HZ.out.2.1 HZ.out.2.2 rfl (by decide) _ t _ (by first | rfl | simp [Act.eval, Act.put]) (World.ownsRow.alloc (w := wr.drew) HW.out _) ⟨wr.heap.size, 0, none⟩ 1 1 [.float .f32 (negB x), .float .f32 (negB y)] (by first | rfl | simp [Act.eval, Act.put]) rfl (fun j u hj => by match j, hj with | 0, hj => (simp at hj; subst hj; simp [Addr.add]; rfl) | 1, hj => (simp at hj; subst hj; simp [Addr.add]; rfl)) (fun u hu => by simp at hu; rcases hu with rfl | rfl <;> rfl) (by unfold maxLen; omega) (by omega) (by simp; omega) ?_; intro v' w' hown' hgrow)
          all_goals
            have HO2 := hid hown'
            have HB2 := hid (show Below w.heap.size w _ from Below.grown ((HB.out.drew).alloc (by have := HB.out.size; simpa using this) _) hgrow (by simp; omega) (fun k' hk' => (HW.out.lt _ hk').1))
            clear hown' hgrow
            go_wp2_with fail
            go_roundw
            case rel => exact ⟨t + 1, by omega, by first | (congr 1; done) | (congr 1; omega), by rw [HSN.out]; exact HO2.out, HB2.out⟩
            case measure => first | (simp [intOf]; done) | (simp [intOf]; omega)
      · have : t = ps.length := by omega
        subst this
        have ek : (ps.length : Int) - 1 - (ps.length : Int) = -1 := by omega
        rw [ek]
        clear hown hb
        go_wp2_with fail
        go_ret2
        exact ⟨_, by rw [HT.out]; rfl, by rw [HL.out, mirT_length]; exact HW.out, HB.out⟩
  · have HT := hid ht
    have HL := hid (show mirL ps = [] by unfold mirL; rw [ht]; rfl)
    go_enter Try.func44, Try.ntmps44
    go_wp2_with fail
    refine (tab_impl _ _ _ _ HS.out hn).mono ?_
    rintro e w1 ⟨rfl, hb⟩
    rw [ht]
    have H1 := hid (hb)
    have H0 := hid (show Below w.heap.size w w1 from Below.trans (Below.refl _ _) H1.out)
    have HO1 := hid (own_below HO.out (hb))
    clear hb ht
    go_wp2_with fail
    go_ret2
    exact ⟨_, by rw [HT.out]; rfl, by rw [HL.out]; exact HO1.out, H0.out⟩
end Go.Proofs.Ytbloipnpgncjiaa
