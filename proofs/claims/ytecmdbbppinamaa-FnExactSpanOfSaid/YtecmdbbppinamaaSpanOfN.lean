/- SpanOf, of the program and of the reference. -/
import Derived.Test.YtecmdbbppinamaaSpanLaws2
import Derived.Test.YtecmdbbppinamaaCopy
import Derived.Deep.QuietTactic
import Derived.BigQuiet
namespace Go.Proofs.Ytecmdbbppinamaa
open Go.RowKit

def loN (l x : Nat) : Nat := if Fl.lt .f32 x l then x else l
def hiN (h x : Nat) : Nat := if Fl.gt .f32 x h then x else h
def loF (xs : List Nat) : Nat := xs.foldl loN (xs.getD 0 0)
def hiF (xs : List Nat) : Nat := xs.foldl hiN (xs.getD 0 0)
def spanOfB (xs : List Nat) : Bool := decide (1 ≤ xs.length ∧ xs.length ≤ 64) && xs.all (fun x => !Fl.nan .f32 x)
def spanOfV (xs : List Nat) : Value := if spanOfB xs then .tuple #[spanV (loF xs) (hiF xs), .bool true] else noSpan
theorem spanOfB_iff {xs : List Nat} : spanOfB xs = true ↔ (1 ≤ xs.length ∧ xs.length ≤ 64) ∧ ∀ x ∈ xs, Fl.nan .f32 x = false := by simp [spanOfB]
theorem spanOf_not {xs : List Nat} {k : Nat} (hk : k < xs.length) (h : Fl.nan .f32 xs[k] = true) : spanOfV xs = noSpan := by
  unfold spanOfV
  cases hb : spanOfB xs
  · rfl
  · rw [(spanOfB_iff.1 hb).2 _ (List.getElem_mem hk)] at h; cases h
theorem spanOfV_form (xs : List Nat) : ∃ l h k, spanOfV xs = .tuple #[.agg #[.float .f32 l, .float .f32 h], .bool k] := by
  unfold spanOfV
  split
  · exact ⟨_, _, _, rfl⟩
  · exact ⟨_, _, _, rfl⟩
/-- the fold from the first element on, of the first k -/
def loK (xs : List Nat) (k : Nat) : Nat := (xs.take k).foldl loN (xs.getD 0 0)
def hiK (xs : List Nat) (k : Nat) : Nat := (xs.take k).foldl hiN (xs.getD 0 0)
theorem loK_snoc (xs : List Nat) {k : Nat} (h : k < xs.length) : loK xs (k + 1) = loN (loK xs k) xs[k] := by
  unfold loK; rw [List.take_succ_eq_append_getElem h, List.foldl_append]; rfl
theorem hiK_snoc (xs : List Nat) {k : Nat} (h : k < xs.length) : hiK xs (k + 1) = hiN (hiK xs k) xs[k] := by
  unfold hiK; rw [List.take_succ_eq_append_getElem h, List.foldl_append]; rfl
theorem nan_neq (x : Nat) : (FloatKind.f32.format.order x x != some .eq) = Fl.nan .f32 x := by
  rw [show FloatKind.f32.format.order x x = if Fl.nan .f32 x then none else some .eq from Fl.order_self .f32 x]
  cases Fl.nan .f32 x <;> rfl
theorem far_alloc {wr : World} {q : Addr} (h : q.block < wr.heap.size) (w0 : World) (o : Obj) (hs : wr.heap.size ≤ w0.heap.size) : (w0.alloc o).cell? q = w0.cell? q := World.cell?_alloc_lt w0 o q (by omega)
theorem far_set {wr : World} {q : Addr} (h : q.block < wr.heap.size) (w0 : World) (p : Addr) (v : Value) (hs : wr.heap.size ≤ p.block) : (w0.setCell p v).cell? q = w0.cell? q := World.cell?_setCell_other w0 p q v (fun e => by subst e; omega)
theorem Two.set0 {w W : World} {a b c d : Value} (h : Two w a b c d W) (u : Value) : Two w a b u d (W.setCell ⟨w.heap.size + 1, 0, none⟩ u) := by
  obtain ⟨h1, h2, h3, h4, h5, h6, h7⟩ := h
  refine ⟨h1.setCell (by simp) u, h2.set (by simp) u, by simpa [World.setCell] using h3, World.cell?_setCell_same _ _ _ h4, ?_, by simpa using h6, by simpa using h7⟩
  rw [World.cell?_setCell_other _ _ _ _ (by simp)]; exact h5
theorem Two.set1 {w W : World} {a b c d : Value} (h : Two w a b c d W) (u : Value) : Two w a b c u (W.setCell ⟨w.heap.size + 1, 1, none⟩ u) := by
  obtain ⟨h1, h2, h3, h4, h5, h6, h7⟩ := h
  refine ⟨h1.setCell (by simp) u, h2.set (by simp) u, by simpa [World.setCell] using h3, ?_, World.cell?_setCell_same _ _ _ h5, by simpa using h6, by simpa using h7⟩
  rw [World.cell?_setCell_other _ _ _ _ (by simp)]; exact h4
theorem Two.drewN {w W : World} {a b c d : Value} (h : Two w a b c d W) (n : Nat) : Two w a b c d (W.drewN n) := ⟨below_drewN h.1 n, h.2.1, h.2.2⟩

set_option maxHeartbeats 400000 in
theorem in64_spec (n : Nat) (hn : n ≤ 9223372036854775807) (w : World) :
    Calls Try.prog 64 #[.int .i64 n, .int .i64 1, .int .i64 64] w fun e w' => e = .returned (.bool (decide (1 ≤ n ∧ n ≤ 64))) ∧ w' = w := by
  have hz : (n : Int) ≤ 9223372036854775807 := by omega
  by_cases h : 1 ≤ n
  · have h1 : (1 : Int) ≤ (n : Int) := by omega
    go_enter Try.func64, Try.ntmps64
    go_wp2
    go_ret
    exact ⟨by simp [h]; omega, rfl⟩
  · have h1 : (n : Int) < 1 := by omega
    go_enter Try.func64, Try.ntmps64
    go_wp2
    go_ret
    exact ⟨by simp, rfl⟩

set_option maxHeartbeats 400000 in
theorem in64_impl (n : Nat) (hn : n ≤ 9223372036854775807) (w : World) :
    Calls Try.prog 65 #[.int .i64 n, .int .i64 1, .int .i64 64] w fun e w' => e = .returned (.bool (decide (1 ≤ n ∧ n ≤ 64))) ∧ w' = w := by
  have hz : (n : Int) ≤ 9223372036854775807 := by omega
  by_cases h : 1 ≤ n
  · have h1 : (1 : Int) ≤ (n : Int) := by omega
    go_enter Try.func65, Try.ntmps65
    go_wp2
    go_ret
    exact ⟨by simp [h]; omega, rfl⟩
  · have h1 : (n : Int) < 1 := by omega
    go_enter Try.func65, Try.ntmps65
    go_wp2
    go_ret
    exact ⟨by simp, rfl⟩

set_option maxRecDepth 20000 in
set_option maxHeartbeats 4000000 in
theorem spanOf_spec (A : Option Addr) (c : Nat) (xs : List Nat) (w : World) (ha : Sing w w.heap.size A xs) (hn : xs.length ≤ 1048576) :
    Calls Try.prog 41 #[.slice A xs.length c] w fun e w' => e = .returned (spanOfV xs) ∧ Below w.heap.size w w' := by
  have HA := hid ha
  by_cases hl : 1 ≤ xs.length ∧ xs.length ≤ 64
  · have hlz : (xs.length : Int) ≤ 64 := by omega
    have h1z : (1 : Int) ≤ (xs.length : Int) := by omega
    have HL := hid hl
    obtain ⟨ad, rfl, had, hc0⟩ := ha.at_ (k := 0) (by omega)
    rw [show ad.add 0 = ad from by simp [Addr.add]] at hc0
    have hx0 : xs[0] = xs.getD 0 0 := by simp [List.getD, show 0 < xs.length by omega]
    rw [hx0] at hc0
    generalize hgx : xs.getD 0 0 = x0 at hc0
    have HX := hid hgx
    clear ha hl hx0 hgx
    go_enter Try.func41, Try.ntmps41
    go_wp2_with fail
    refine (in64_spec _ (by omega) _).mono ?_
    rintro e w' ⟨rfl, rfl⟩
    rw [decide_eq_true HL.out]
    go_upto_region 3 with fail
    have q1 := far_alloc (wr := w) (q := ad) had
    have s1 := far_set (wr := w) (q := ad) had
    go_cut [4] (fun v wx => v = .pointer (some ⟨w.heap.size + 1, 0, none⟩) ∧ Two w (.float .f32 0) (.float .f32 0) (.float .f32 x0) (.float .f32 x0) wx)
    case first =>
      go_region
      all_goals (go_wp2_with fail; go_meet; exact ⟨rfl, Two.drewN (two_new w _ _ _ _ _ _) 1⟩)
    case rest =>
      obtain ⟨rfl, ht⟩ := hcut
      have HT := hid ht
      clear ht q1 s1 hc0
      go_wp2_with fail
      go_loopw [5] (fun i wr => ∃ k : Nat, k ≤ xs.length ∧ i = .int .i64 k ∧ (∀ i (_ : i < xs.length), i < k → Fl.nan .f32 xs[i] = false) ∧ Two w (.float .f32 0) (.float .f32 0) (.float .f32 (loK xs k)) (.float .f32 (hiK xs k)) wr) (fun i _ => xs.length - (intOf i).toNat)
      case atStart => exact ⟨0, Nat.zero_le _, rfl, fun i _ h => absurd h (by omega), by unfold loK hiK; rw [HX.out]; exact HT.out⟩
      case round =>
        obtain ⟨k, hk, rfl, hall, ht⟩ := hrel
        have HN := hid hall
        clear HT hall
        have HT := hid ht
        have hb := ht.1
        obtain ⟨_, ⟨za, ka, ka', fa, fa'⟩, ⟨zb, kb, kb', fb, fb'⟩⟩ := ht
        by_cases hlt : k < xs.length
        · obtain ⟨ad', had', _, hca⟩ := (HA.out.below hb).at_ hlt
          cases had'
          have hkz : (k : Int) < (xs.length : Int) := by omega
          have HLO := hid (loK_snoc xs hlt)
          have HHI := hid (hiK_snoc xs hlt)
          have hnq := nan_neq xs[k]
          have s1 := far_set (wr := w) (q := ad.add k) (by rw [block_of_add]; exact had)
          clear hb
          rcases Bool.eq_false_or_eq_true (Fl.nan .f32 xs[k]) with hx | hx
          · have HB := hid (spanOf_not hlt hx)
            rw [hx] at hnq
            clear hx HLO HHI
            generalize xs[k] = x at *
            go_wp2_with fail
            go_quiet (fail)
            go_wp2_with fail
            exact bodyPost_ret (v := noSpan) (by simp [results, Try.results41, go_sem, ka, ka']) rfl ⟨by rw [HB.out], by first | exact (below_drewN ((HT.out.1.setCell (Nat.le_refl _) _).setCell (Nat.le_refl _) _) _) | exact ((HT.out.1.setCell (Nat.le_refl _) _).setCell (Nat.le_refl _) _) | exact (((below_drewN HT.out.1 _).setCell (Nat.le_refl _) _).setCell (Nat.le_refl _) _)⟩
          · have HNX := hid (show ∀ h : k < xs.length, Fl.nan .f32 xs[k] = false from fun _ => hx)
            rw [hx] at hnq
            clear hx
            generalize xs[k] = x at hca hnq HLO HHI
            rcases Bool.eq_false_or_eq_true (FloatKind.f32.format.order x (loK xs k) == some .lt) with hl | hl
            · rcases Bool.eq_false_or_eq_true (FloatKind.f32.format.order x (hiK xs k) == some .gt) with hh | hh
              · have L1 := hid (show loN (loK xs k) x = x by unfold loN; rw [show Fl.lt .f32 x (loK xs k) = true from hl]; rfl)
                have L2 := hid (show hiN (hiK xs k) x = x by unfold hiN; rw [show Fl.gt .f32 x (hiK xs k) = true from hh]; rfl)
                generalize loK xs k = lo at *
                generalize hiK xs k = hi at *
                go_wp2_with fail
                go_quiet (fail)
                go_wp2_with fail
                go_quiet (fail)
                go_wp2_with fail
                go_quiet (fail)
                go_wp2_with fail
                go_roundw
                case rel =>
                  refine ⟨k + 1, by omega, by go_num, fun i hi' hk' => ?_, ?_⟩
                  · by_cases e : i = k
                    · subst e; exact HNX.out hi'
                    · exact HN.out i hi' (by omega)
                  · rw [HLO.out, HHI.out, L1.out, L2.out]
                    first | exact ((HT.out.set0 _).set1 _) | exact Two.drewN ((HT.out.set0 _).set1 _) _ | (simp only [World.drewN_drewN]; exact Two.drewN ((HT.out.set0 _).set1 _) _)
                case measure => simp [intOf]; omega
              · have L1 := hid (show loN (loK xs k) x = x by unfold loN; rw [show Fl.lt .f32 x (loK xs k) = true from hl]; rfl)
                have L2 := hid (show hiN (hiK xs k) x = hiK xs k by unfold hiN; rw [show Fl.gt .f32 x (hiK xs k) = false from hh]; rfl)
                generalize loK xs k = lo at *
                generalize hiK xs k = hi at *
                go_wp2_with fail
                go_quiet (fail)
                go_wp2_with fail
                go_quiet (fail)
                go_wp2_with fail
                go_quiet (fail)
                go_wp2_with fail
                go_roundw
                case rel =>
                  refine ⟨k + 1, by omega, by go_num, fun i hi' hk' => ?_, ?_⟩
                  · by_cases e : i = k
                    · subst e; exact HNX.out hi'
                    · exact HN.out i hi' (by omega)
                  · rw [HLO.out, HHI.out, L1.out, L2.out]
                    first | exact (HT.out.set0 _) | exact Two.drewN (HT.out.set0 _) _ | (simp only [World.drewN_drewN]; exact Two.drewN (HT.out.set0 _) _)
                case measure => simp [intOf]; omega
            · rcases Bool.eq_false_or_eq_true (FloatKind.f32.format.order x (hiK xs k) == some .gt) with hh | hh
              · have L1 := hid (show loN (loK xs k) x = loK xs k by unfold loN; rw [show Fl.lt .f32 x (loK xs k) = false from hl]; rfl)
                have L2 := hid (show hiN (hiK xs k) x = x by unfold hiN; rw [show Fl.gt .f32 x (hiK xs k) = true from hh]; rfl)
                generalize loK xs k = lo at *
                generalize hiK xs k = hi at *
                go_wp2_with fail
                go_quiet (fail)
                go_wp2_with fail
                go_quiet (fail)
                go_wp2_with fail
                go_quiet (fail)
                go_wp2_with fail
                go_roundw
                case rel =>
                  refine ⟨k + 1, by omega, by go_num, fun i hi' hk' => ?_, ?_⟩
                  · by_cases e : i = k
                    · subst e; exact HNX.out hi'
                    · exact HN.out i hi' (by omega)
                  · rw [HLO.out, HHI.out, L1.out, L2.out]
                    first | exact (HT.out.set1 _) | exact Two.drewN (HT.out.set1 _) _ | (simp only [World.drewN_drewN]; exact Two.drewN (HT.out.set1 _) _)
                case measure => simp [intOf]; omega
              · have L1 := hid (show loN (loK xs k) x = loK xs k by unfold loN; rw [show Fl.lt .f32 x (loK xs k) = false from hl]; rfl)
                have L2 := hid (show hiN (hiK xs k) x = hiK xs k by unfold hiN; rw [show Fl.gt .f32 x (hiK xs k) = false from hh]; rfl)
                generalize loK xs k = lo at *
                generalize hiK xs k = hi at *
                go_wp2_with fail
                go_quiet (fail)
                go_wp2_with fail
                go_quiet (fail)
                go_wp2_with fail
                go_quiet (fail)
                go_wp2_with fail
                go_roundw
                case rel =>
                  refine ⟨k + 1, by omega, by go_num, fun i hi' hk' => ?_, ?_⟩
                  · by_cases e : i = k
                    · subst e; exact HNX.out hi'
                    · exact HN.out i hi' (by omega)
                  · rw [HLO.out, HHI.out, L1.out, L2.out]
                    first | exact HT.out | exact Two.drewN HT.out _ | (simp only [World.drewN_drewN]; exact Two.drewN HT.out _)
                case measure => simp [intOf]; omega
        · have : k = xs.length := by omega
          subst this
          have HB := hid (show spanOfV xs = .tuple #[spanV (loK xs xs.length) (hiK xs xs.length), .bool true] by
            unfold spanOfV
            rw [spanOfB_iff.2 ⟨HL.out, fun x hx => by
              obtain ⟨i, hi, rfl⟩ := List.getElem_of_mem hx
              exact HN.out i hi hi⟩]
            unfold loK hiK loF hiF
            rw [List.take_length]; rfl)
          clear hb
          go_wp2_with fail
          exact bodyPost_ret (v := .tuple #[spanV (loK xs xs.length) (hiK xs xs.length), .bool true]) (by simp [results, Try.results41, go_sem, ka, ka']) rfl ⟨by rw [HB.out], (HT.out.1.setCell (Nat.le_refl _) _).setCell (Nat.le_refl _) _⟩
  · have HL := hid (show spanOfV xs = noSpan by unfold spanOfV spanOfB; rw [decide_eq_false hl]; rfl)
    obtain ⟨z, k1, k1', f1, f1'⟩ := boxf_new w (.float .f32 0) (.float .f32 0) 26
    clear ha
    go_enter Try.func41, Try.ntmps41
    go_wp2_with fail
    refine (in64_spec _ (by omega) _).mono ?_
    rintro e w' ⟨rfl, rfl⟩
    rw [decide_eq_false hl]
    go_wp2_with fail
    exact bodyPost_ret (v := noSpan) (by simp [results, Try.results41, go_sem, k1, k1']) rfl ⟨by rw [HL.out], by first | exact below_new w _ | exact (((below_new w _).setCell (Nat.le_refl _) _).setCell (Nat.le_refl _) _)⟩

set_option maxRecDepth 20000 in
set_option maxHeartbeats 4000000 in
theorem spanOf_impl (A : Option Addr) (c : Nat) (xs : List Nat) (w : World) (ha : Sing w w.heap.size A xs) (hn : xs.length ≤ 1048576) :
    Calls Try.prog 42 #[.slice A xs.length c] w fun e w' => e = .returned (spanOfV xs) ∧ Below w.heap.size w w' := by
  have HA := hid ha
  by_cases hl : 1 ≤ xs.length ∧ xs.length ≤ 64
  · have hlz : (xs.length : Int) ≤ 64 := by omega
    have h1z : (1 : Int) ≤ (xs.length : Int) := by omega
    have HL := hid hl
    obtain ⟨ad, rfl, had, hc0⟩ := ha.at_ (k := 0) (by omega)
    rw [show ad.add 0 = ad from by simp [Addr.add]] at hc0
    have hx0 : xs[0] = xs.getD 0 0 := by simp [List.getD, show 0 < xs.length by omega]
    rw [hx0] at hc0
    generalize hgx : xs.getD 0 0 = x0 at hc0
    have HX := hid hgx
    clear ha hl hx0 hgx
    go_enter Try.func42, Try.ntmps42
    go_wp2_with fail
    refine (in64_impl _ (by omega) _).mono ?_
    rintro e w' ⟨rfl, rfl⟩
    rw [decide_eq_true HL.out]
    go_upto_region 3 with fail
    have q1 := far_alloc (wr := w) (q := ad) had
    have s1 := far_set (wr := w) (q := ad) had
    go_cut [4] (fun v wx => v = .pointer (some ⟨w.heap.size + 1, 0, none⟩) ∧ Two w (.float .f32 0) (.float .f32 0) (.float .f32 x0) (.float .f32 x0) wx)
    case first =>
      go_region
      all_goals (go_wp2_with fail; go_meet; exact ⟨rfl, Two.drewN (two_new w _ _ _ _ _ _) 1⟩)
    case rest =>
      obtain ⟨rfl, ht⟩ := hcut
      have HT := hid ht
      clear ht q1 s1 hc0
      go_wp2_with fail
      go_loopw [6, 21] (fun _ i wr => ∃ k : Nat, k ≤ xs.length ∧ i = .int .i64 k ∧ (∀ i (_ : i < xs.length), i < k → Fl.nan .f32 xs[i] = false) ∧ Two w (.float .f32 0) (.float .f32 0) (.float .f32 (loK xs k)) (.float .f32 (hiK xs k)) wr) (fun _ i _ => xs.length - (intOf i).toNat)
      case atStart => exact ⟨0, Nat.zero_le _, rfl, fun i _ h => absurd h (by omega), by unfold loK hiK; rw [HX.out]; exact HT.out⟩
      case round =>
        obtain ⟨k, hk, rfl, hall, ht⟩ := hrel
        have HN := hid hall
        clear HT hall
        have HT := hid ht
        have hb := ht.1
        obtain ⟨_, ⟨za, ka, ka', fa, fa'⟩, ⟨zb, kb, kb', fb, fb'⟩⟩ := ht
        by_cases hlt : k < xs.length
        · obtain ⟨ad', had', _, hca⟩ := (HA.out.below hb).at_ hlt
          cases had'
          have hkz : (k : Int) < (xs.length : Int) := by omega
          have HLO := hid (loK_snoc xs hlt)
          have HHI := hid (hiK_snoc xs hlt)
          have hnq := nan_neq xs[k]
          have s1 := far_set (wr := w) (q := ad.add k) (by rw [block_of_add]; exact had)
          clear hb
          rcases Bool.eq_false_or_eq_true (Fl.nan .f32 xs[k]) with hx | hx
          · have HB := hid (spanOf_not hlt hx)
            rw [hx] at hnq
            clear hx HLO HHI
            generalize xs[k] = x at *
            go_wp2_with fail
            skip
            skip
            exact bodyPost_ret (v := noSpan) (by simp [results, Try.results42, go_sem, ka, ka']) rfl ⟨by rw [HB.out], by first | exact (below_drewN ((HT.out.1.setCell (Nat.le_refl _) _).setCell (Nat.le_refl _) _) _) | exact ((HT.out.1.setCell (Nat.le_refl _) _).setCell (Nat.le_refl _) _) | exact (((below_drewN HT.out.1 _).setCell (Nat.le_refl _) _).setCell (Nat.le_refl _) _)⟩
          · have HNX := hid (show ∀ h : k < xs.length, Fl.nan .f32 xs[k] = false from fun _ => hx)
            rw [hx] at hnq
            clear hx
            generalize xs[k] = x at hca hnq HLO HHI
            rcases Bool.eq_false_or_eq_true (FloatKind.f32.format.order x (loK xs k) == some .lt) with hl | hl
            · rcases Bool.eq_false_or_eq_true (FloatKind.f32.format.order x (hiK xs k) == some .gt) with hh | hh
              · have L1 := hid (show loN (loK xs k) x = x by unfold loN; rw [show Fl.lt .f32 x (loK xs k) = true from hl]; rfl)
                have L2 := hid (show hiN (hiK xs k) x = x by unfold hiN; rw [show Fl.gt .f32 x (hiK xs k) = true from hh]; rfl)
                generalize loK xs k = lo at *
                generalize hiK xs k = hi at *
                go_wp2_with fail
                go_roundw
                case rel =>
                  refine ⟨k + 1, by omega, by go_num, fun i hi' hk' => ?_, ?_⟩
                  · by_cases e : i = k
                    · subst e; exact HNX.out hi'
                    · exact HN.out i hi' (by omega)
                  · rw [HLO.out, HHI.out, L1.out, L2.out]
                    first | exact ((HT.out.set0 _).set1 _) | exact Two.drewN ((HT.out.set0 _).set1 _) _ | (simp only [World.drewN_drewN]; exact Two.drewN ((HT.out.set0 _).set1 _) _)
                case measure => simp [intOf]; omega
              · have L1 := hid (show loN (loK xs k) x = x by unfold loN; rw [show Fl.lt .f32 x (loK xs k) = true from hl]; rfl)
                have L2 := hid (show hiN (hiK xs k) x = hiK xs k by unfold hiN; rw [show Fl.gt .f32 x (hiK xs k) = false from hh]; rfl)
                generalize loK xs k = lo at *
                generalize hiK xs k = hi at *
                go_wp2_with fail
                go_roundw
                case rel =>
                  refine ⟨k + 1, by omega, by go_num, fun i hi' hk' => ?_, ?_⟩
                  · by_cases e : i = k
                    · subst e; exact HNX.out hi'
                    · exact HN.out i hi' (by omega)
                  · rw [HLO.out, HHI.out, L1.out, L2.out]
                    first | exact (HT.out.set0 _) | exact Two.drewN (HT.out.set0 _) _ | (simp only [World.drewN_drewN]; exact Two.drewN (HT.out.set0 _) _)
                case measure => simp [intOf]; omega
            · rcases Bool.eq_false_or_eq_true (FloatKind.f32.format.order x (hiK xs k) == some .gt) with hh | hh
              · have L1 := hid (show loN (loK xs k) x = loK xs k by unfold loN; rw [show Fl.lt .f32 x (loK xs k) = false from hl]; rfl)
                have L2 := hid (show hiN (hiK xs k) x = x by unfold hiN; rw [show Fl.gt .f32 x (hiK xs k) = true from hh]; rfl)
                generalize loK xs k = lo at *
                generalize hiK xs k = hi at *
                go_wp2_with fail
                go_roundw
                case rel =>
                  refine ⟨k + 1, by omega, by go_num, fun i hi' hk' => ?_, ?_⟩
                  · by_cases e : i = k
                    · subst e; exact HNX.out hi'
                    · exact HN.out i hi' (by omega)
                  · rw [HLO.out, HHI.out, L1.out, L2.out]
                    first | exact (HT.out.set1 _) | exact Two.drewN (HT.out.set1 _) _ | (simp only [World.drewN_drewN]; exact Two.drewN (HT.out.set1 _) _)
                case measure => simp [intOf]; omega
              · have L1 := hid (show loN (loK xs k) x = loK xs k by unfold loN; rw [show Fl.lt .f32 x (loK xs k) = false from hl]; rfl)
                have L2 := hid (show hiN (hiK xs k) x = hiK xs k by unfold hiN; rw [show Fl.gt .f32 x (hiK xs k) = false from hh]; rfl)
                generalize loK xs k = lo at *
                generalize hiK xs k = hi at *
                go_wp2_with fail
                go_roundw
                case rel =>
                  refine ⟨k + 1, by omega, by go_num, fun i hi' hk' => ?_, ?_⟩
                  · by_cases e : i = k
                    · subst e; exact HNX.out hi'
                    · exact HN.out i hi' (by omega)
                  · rw [HLO.out, HHI.out, L1.out, L2.out]
                    first | exact HT.out | exact Two.drewN HT.out _ | (simp only [World.drewN_drewN]; exact Two.drewN HT.out _)
                case measure => simp [intOf]; omega
        · have : k = xs.length := by omega
          subst this
          have HB := hid (show spanOfV xs = .tuple #[spanV (loK xs xs.length) (hiK xs xs.length), .bool true] by
            unfold spanOfV
            rw [spanOfB_iff.2 ⟨HL.out, fun x hx => by
              obtain ⟨i, hi, rfl⟩ := List.getElem_of_mem hx
              exact HN.out i hi hi⟩]
            unfold loK hiK loF hiF
            rw [List.take_length]; rfl)
          clear hb
          go_wp2_with fail
          exact bodyPost_ret (v := .tuple #[spanV (loK xs xs.length) (hiK xs xs.length), .bool true]) (by simp [results, Try.results42, go_sem, ka, ka']) rfl ⟨by rw [HB.out], (HT.out.1.setCell (Nat.le_refl _) _).setCell (Nat.le_refl _) _⟩
  · have HL := hid (show spanOfV xs = noSpan by unfold spanOfV spanOfB; rw [decide_eq_false hl]; rfl)
    obtain ⟨z, k1, k1', f1, f1'⟩ := boxf_new w (.float .f32 0) (.float .f32 0) 26
    clear ha
    go_enter Try.func42, Try.ntmps42
    go_wp2_with fail
    refine (in64_impl _ (by omega) _).mono ?_
    rintro e w' ⟨rfl, rfl⟩
    rw [decide_eq_false hl]
    go_wp2_with fail
    exact bodyPost_ret (v := noSpan) (by simp [results, Try.results42, go_sem, k1, k1']) rfl ⟨by rw [HL.out], by first | exact below_new w _ | exact (((below_new w _).setCell (Nat.le_refl _) _).setCell (Nat.le_refl _) _)⟩
end Go.Proofs.Ytecmdbbppinamaa
