/- Slices of points: words, and what the law's toPoint, toPointS, eqPoint, eqPointS, szPointS do. -/
import Derived.Test.YtbloipnpgncjiaaCopy
import Derived.Test.YtbloipnpgncjiaaRowW
namespace Go.Proofs.Ytbloipnpgncjiaa
open Go.RowKit

abbrev ptV (p : Nat × Nat) : Value := .agg #[.float .f32 p.1, .float .f32 p.2]
/-- the cells of a list of points -/
def pcells : List (Nat × Nat) → List Value
  | [] => []
  | p :: ps => .float .f32 p.1 :: .float .f32 p.2 :: pcells ps
theorem pcells_length : ∀ ps : List (Nat × Nat), (pcells ps).length = ps.length * 2
  | [] => rfl
  | p :: ps => by simp only [pcells, List.length_cons, pcells_length ps]; omega
theorem pcells_get : ∀ (ps : List (Nat × Nat)) {k : Nat} (h : k < ps.length), (pcells ps)[k * 2]? = some (.float .f32 ps[k].1) ∧ (pcells ps)[k * 2 + 1]? = some (.float .f32 ps[k].2)
  | [], k, h => absurd h (by simp)
  | p :: ps, 0, _ => ⟨rfl, rfl⟩
  | p :: ps, k + 1, h => by
    have := pcells_get ps (k := k) (by simpa using h)
    rw [show (k + 1) * 2 = k * 2 + 1 + 1 by omega]
    exact this
/-- a slice of points that reads as 'ps', below block 'B' -/
def Pts (w : World) (B : Nat) (A : Option Addr) (ps : List (Nat × Nat)) : Prop := Reads w B 2 A ps.length (pcells ps)
section
variable {w w' : World} {B B' : Nat} {A : Option Addr} {ps : List (Nat × Nat)}
theorem Pts.at_ (h : Pts w B A ps) {k : Nat} (hk : k < ps.length) : ∃ ad, A = some ad ∧ ad.block < B ∧ w.cell? (ad.add (k * 2)) = some (.float .f32 ps[k].1) ∧ w.cell? ⟨(ad.add (k * 2)).block, (ad.add (k * 2)).off + 1, none⟩ = some (.float .f32 ps[k].2) := by
  obtain ⟨ad, e, hb, hc⟩ := h.2 (by omega)
  have := pcells_get ps hk
  exact ⟨ad, e, hb, hc _ _ this.1, by
    have e2 : (⟨(ad.add (k * 2)).block, (ad.add (k * 2)).off + 1, none⟩ : Addr) = ad.add (k * 2 + 1) := by rw [← add_of_add]; rfl
    rw [e2]; exact hc _ _ this.2⟩
theorem Pts.below (h : Pts w B A ps) (hb : Below B w w') : Pts w' B A ps := Reads.below h hb
theorem Pts.more (h : Pts w B A ps) (hB : B ≤ B') : Pts w B' A ps := Reads.more h hB
theorem Pts.drewN (h : Pts w B A ps) (k : Nat) : Pts (w.drewN k) B A ps := h
theorem Pts.next (h : Pts w w.heap.size A ps) (hb : Below w.heap.size w w') : Pts w' w'.heap.size A ps := (h.below hb).more hb.size
end
section
variable {w w' : World} {g n : Nat} {f f' : Nat → Value}
theorem pts_row {ps : List (Nat × Nat)} (h : Row w g (ps.length * 2) f) (hf : ∀ j (hj : j < ps.length), f (j * 2) = .float .f32 ps[j].1 ∧ f (j * 2 + 1) = .float .f32 ps[j].2) : Pts w w.heap.size (some ⟨g, 0, none⟩) ps := by
  refine ⟨pcells_length ps, fun _ => ⟨_, rfl, h.1, fun j u hu => ?_⟩⟩
  have hj : j < ps.length * 2 := by
    by_cases hc : j < ps.length * 2
    · exact hc
    · rw [List.getElem?_eq_none (by rw [pcells_length]; omega)] at hu; cases hu
  rw [addr_add0, (h.2 j hj).1]
  have hk : j / 2 < ps.length := by omega
  obtain ⟨h1, h2⟩ := pcells_get ps hk
  rcases Nat.mod_two_eq_zero_or_one j with e | e
  · have : j = j / 2 * 2 := by omega
    rw [← this, hu] at h1
    rw [this, (hf _ hk).1, h1]
  · have : j = j / 2 * 2 + 1 := by omega
    rw [← this, hu] at h2
    rw [this, (hf _ hk).2, h2]
end

set_option maxHeartbeats 400000 in
theorem toPoint_any (l h : Nat) (w : World) :
    Calls Try.prog 82 #[ptV (l, h)] w fun e w' => e = .returned (ptV (l, h)) ∧ Below w.heap.size w w' := by
  go_enter Try.func82, Try.ntmps82
  go_wp2
  exact bodyPost_ret (v := .agg #[.float .f32 l, .float .f32 h]) (by simp [results, Try.results82, go_sem]) rfl ⟨rfl, (((Below.refl _ _).alloc (Nat.le_refl _) _).alloc (by simp) _).alloc (by simp; omega) _⟩

set_option maxHeartbeats 400000 in
theorem sz_any (A : Option Addr) (l c : Nat) (n : Nat) (hn : n ≤ 1048576) (hl : l ≤ 9223372036854775807) (w : World) :
    Calls Try.prog 26 #[.slice A l c, .int .i64 n] w fun e w' => e = .returned (.int .i64 (if l ≤ n then (n : Int) - l else -1)) ∧ w' = w := by
  have hlz : (l : Int) ≤ 9223372036854775807 := by omega
  have hnz : (n : Int) ≤ 1048576 := by omega
  by_cases h : l ≤ n
  · rw [if_pos h]
    have hz : ¬ ((n : Int) - (l : Int) < 0) := by omega
    go_enter Try.func26, Try.ntmps26
    go_wp2
    go_ret
    exact ⟨rfl, rfl⟩
  · rw [if_neg h]
    have hz : (n : Int) - (l : Int) < 0 := by omega
    go_enter Try.func26, Try.ntmps26
    go_wp2
    go_ret
    exact ⟨rfl, rfl⟩

theorem Try.info_pt : (Try.prog.info? 36).map (fun i => (i.zero, i.size, i.bytes)) = some (some (.agg #[.float .f32 0, .float .f32 0]), 2, 8) := by kernel_rfl

/-- a new slice of these points; what was there is as it was -/
def RetP (ps : List (Nat × Nat)) (w : World) (e : Ending) (w' : World) : Prop :=
  ∃ g, e = .returned (.slice (some ⟨g, 0, none⟩) ps.length ps.length) ∧ w.heap.size ≤ g ∧ Pts w' w'.heap.size (some ⟨g, 0, none⟩) ps ∧ Below w.heap.size w w'

theorem make_pts (n : Nat) (hn : n ≤ 1048576) (w : World) : (Instr.makeSlice 24 (.int .i64 (n : Int)) (.int .i64 (n : Int))).run Try.prog w = .ok (.slice (some ⟨w.heap.size, 0, none⟩) n n) (w.alloc (.cells (madeCells #[.float .f32 0, .float .f32 0] (n * 2)) 36)) := by
  obtain ⟨i, hi, hz⟩ := Option.map_eq_some_iff.1 Try.info_pt
  simp only [Prod.mk.injEq] at hz
  have := run_make (P := Try.prog) w 24 36 i _ Try.underlying24 hi hz.1 .i64 .i64 n n (by omega) (by omega) (by rw [hz.2.2]; omega) (by omega)
  rw [hz.2.1] at this
  exact this

theorem made_pts (w : World) (n : Nat) : (w.alloc (.cells (madeCells #[.float .f32 0, .float .f32 0] (n * 2)) 36)).rowIs w.heap.size 36 (n * 2) (fun _ => .float .f32 0) :=
  ⟨_, Go.Deep.blk_alloc_new _ _, size_madeCells _ _, fun i hi => by
    rcases Nat.mod_two_eq_zero_or_one i with e | e <;> simp [madeCells, hi, e]⟩

set_option maxHeartbeats 1000000 in
theorem toP_any (A : Option Addr) (c : Nat) (ps : List (Nat × Nat)) (w : World) (hr : Pts w w.heap.size A ps) (hn : ps.length ≤ 1048576) :
    Calls Try.prog 28 #[.slice A ps.length c] w (RetP ps w) := by
  have hmk := make_pts ps.length hn
  have HR := hid hr
  clear hr
  go_enter Try.func28, Try.ntmps28
  go_wp2
  clear hmk
  go_loopw [4] (fun i wr => ∃ (k : Nat) (f : Nat → Value), k ≤ ps.length ∧ i = .int .i64 k ∧ Below w.heap.size w wr ∧ Row wr w.heap.size (ps.length * 2) f ∧ ∀ j (hj : j < ps.length), j < k → f (j * 2) = .float .f32 ps[j].1 ∧ f (j * 2 + 1) = .float .f32 ps[j].2) (fun i _ => ps.length - (intOf i).toNat)
  case atStart => exact ⟨0, _, Nat.zero_le _, rfl, below_new _ _, Row.of (made_pts w ps.length), fun j hj h => absurd h (by omega)⟩
  case round =>
    obtain ⟨k, f, hk, rfl, hb, hrow, hdone⟩ := hrel
    by_cases hlt : k < ps.length
    · obtain ⟨ad, rfl, had, hcell, hcell'⟩ := (HR.out.below hb).at_ hlt
      have HB := hid hb
      have HW := hid hrow
      have HD := hid hdone
      clear hb hrow hdone
      have hlz : (k : Int) < (ps.length : Int) := by omega
      go_wp2_with fail
      refine (toPoint_any _ _ _).mono ?_
      rintro e w2 ⟨rfl, hb2⟩
      have H2 := hid (HB.out.trans (hb2.mono (by have := HB.out.size; omega)))
      have hrow := HW.out.next hb2
      have HW2 := hid hrow
      obtain ⟨hd, hf⟩ := hrow.2 (k * 2) (by omega)
      obtain ⟨hd', hf'⟩ := hrow.2 (k * 2 + 1) (by omega)
      clear hb2 hrow hcell hcell'
      go_wp2_with fail
      go_roundw
      case rel =>
        refine ⟨k + 1, _, by omega, by go_num, (H2.out.setCell (Nat.le_refl _) _).setCell (Nat.le_refl _) _, (HW2.out.set (i := k * 2) (by omega) _).set (i := k * 2 + 1) (by omega) _, fun j hj h => ?_⟩
        by_cases e : j = k
        · subst e
          constructor
          · rw [if_neg (by omega), if_pos rfl]
          · rw [if_pos rfl]
        · rw [if_neg (by omega), if_neg (by omega), if_neg (by omega), if_neg (by omega)]
          exact HD.out j hj (by omega)
      case measure => simp [intOf]; omega
    · have : k = ps.length := by omega
      subst this
      have HB := hid hb
      have HW := hid hrow
      have HD := hid hdone
      clear hb hrow hdone
      go_wp2
      go_ret
      exact ⟨w.heap.size, rfl, Nat.le_refl _, pts_row HW.out (fun j hj => HD.out j hj hj), HB.out⟩

set_option maxRecDepth 20000 in
set_option maxHeartbeats 1000000 in
theorem eqPoint_any (l h : Nat) (w : World) :
    Calls Try.prog 83 #[.agg #[.float .f32 l, .float .f32 h], .agg #[.float .f32 l, .float .f32 h]] w fun e w' => e = .returned (.bool true) ∧ Below w.heap.size w w' := by
  go_enter Try.func83, Try.ntmps83
  go_wp2_with fail
  refine upon_widen some_f32 Try.underlying51 ?_
  intro r1 n1 hr1
  go_wp2_with fail
  refine upon_widen some_f32 Try.underlying51 ?_
  intro r2 n2 hr2
  have E1 := hid (hr1.w.trans _ hr2.w.symm)
  clear hr1 hr2
  go_wp2_with fail
  refine (same_any _ _ _ E1.out).mono ?_
  rintro e w' ⟨rfl, m1, rfl⟩
  go_wp2_with fail
  refine upon_widen some_f32 Try.underlying51 ?_
  intro r3 n3 hr3
  go_wp2_with fail
  refine upon_widen some_f32 Try.underlying51 ?_
  intro r4 n4 hr4
  have E2 := hid (hr3.w.trans _ hr4.w.symm)
  clear hr3 hr4
  go_wp2_with fail
  refine (same_any _ _ _ E2.out).mono ?_
  rintro e w' ⟨rfl, m2, rfl⟩
  go_wp2_with fail
  go_ret
  exact ⟨rfl, below_drewN (below2 _ _ _) _⟩

set_option maxRecDepth 20000 in
set_option maxHeartbeats 1000000 in
theorem eqP_any (A B : Option Addr) (c d : Nat) (ps : List (Nat × Nat)) (w : World) (ha : Pts w w.heap.size A ps) (hb : Pts w w.heap.size B ps) (hn : ps.length ≤ 1048576) :
    Calls Try.prog 29 #[.slice A ps.length c, .slice B ps.length d] w fun e w' => e = .returned (.bool true) ∧ Below w.heap.size w w' := by
  have HA := hid ha
  have HB := hid hb
  clear ha hb
  go_enter Try.func29, Try.ntmps29
  go_wp2_with fail
  go_loopw [5] (fun i wr => ∃ k : Nat, k ≤ ps.length ∧ i = .int .i64 k ∧ Below w.heap.size w wr) (fun i _ => ps.length - (intOf i).toNat)
  case atStart => exact ⟨0, Nat.zero_le _, rfl, Below.refl _ _⟩
  case round =>
    obtain ⟨k, hk, rfl, hb⟩ := hrel
    have HW := hid hb
    by_cases hlt : k < ps.length
    · obtain ⟨ad, rfl, had, hca, hca'⟩ := (HA.out.below hb).at_ hlt
      obtain ⟨bd, rfl, hbd, hcb, hcb'⟩ := (HB.out.below hb).at_ hlt
      have hlz : (k : Int) < (ps.length : Int) := by omega
      clear hb
      go_upto_region 6 with fail
      go_cut [26] (fun v wx => v = .bool false ∧ Below w.heap.size w wx)
      case first =>
        go_region_with (go_at_call 83; refine (eqPoint_any _ _ _).mono ?_; rintro e w' ⟨rfl, hb⟩; have HX := hid ((below_drewN HW.out 1).trans (hb.mono (by have := HW.out.size; simpa using this))); clear hb)
        all_goals (go_wp2_with fail; go_meet; exact ⟨rfl, HX.out⟩)
      case rest =>
        obtain ⟨rfl, hb⟩ := hcut
        have HX := hid hb
        clear hb
        go_wp2_with fail
        go_roundw
        case rel => exact ⟨k + 1, by omega, by go_num, HX.out⟩
        case measure => simp [intOf]; omega
    · have : k = ps.length := by omega
      subst this
      clear hb
      go_wp2_with fail
      go_ret
      exact ⟨rfl, HW.out⟩
end Go.Proofs.Ytbloipnpgncjiaa
