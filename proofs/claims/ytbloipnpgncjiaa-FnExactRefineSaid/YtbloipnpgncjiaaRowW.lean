/- A row of cells that may be written, and the law's marks on a list of singles: markFloat32S, heldFloat32S. -/
import Derived.Test.YtbloipnpgncjiaaCopy
import Derived.Laws.Cover2
namespace Go.Proofs.Ytbloipnpgncjiaa
open Go.RowKit

/-- a row of n cells, none frozen, cell j holding 'f j' -/
def Row (w : World) (g n : Nat) (f : Nat → Value) : Prop := g < w.heap.size ∧ ∀ j, j < n → w.cell? ⟨g, j, none⟩ = some (f j) ∧ w.frozen? ⟨g, j, none⟩ = false
section
variable {w w' : World} {g n : Nat} {f f' : Nat → Value}
theorem Row.of {t : TypeId} (h : w.rowIs g t n f) : Row w g n f := ⟨h.lt, fun j hj => ⟨h.cell hj, h.frozen j⟩⟩
theorem Row.next (h : Row w g n f) (hb : Below w.heap.size w w') : Row w' g n f :=
  ⟨Nat.lt_of_lt_of_le h.1 hb.size, fun j hj => ⟨(hb.cell (p := ⟨g, j, none⟩) h.1).trans (h.2 j hj).1, (hb.frozen (p := ⟨g, j, none⟩) h.1).trans (h.2 j hj).2⟩⟩
theorem Row.set (h : Row w g n f) {i : Nat} (hi : i < n) (v : Value) : Row (w.setCell ⟨g, i, none⟩ v) g n (fun j => if j = i then v else f j) := by
  refine ⟨by simpa [World.setCell] using h.1, fun j hj => ⟨?_, by rw [World.frozen?_setCell]; exact (h.2 j hj).2⟩⟩
  by_cases e : j = i
  · subst e
    rw [World.cell?_setCell_same _ _ _ (h.2 j hj).1]; simp
  · rw [World.cell?_setCell_other _ _ _ _ (fun h' => e (by injection h' with _ h2; exact h2.symm))]
    simp only [if_neg e]; exact (h.2 j hj).1
theorem Row.congr (h : Row w g n f) (e : ∀ j, j < n → f j = f' j) : Row w g n f' := ⟨h.1, fun j hj => by rw [← e j hj]; exact h.2 j hj⟩
/-- all is as it was but in block g -/
def But (w : World) (g : Nat) (w' : World) : Prop := w'.heap.size = w.heap.size ∧ (∀ p : Addr, p.block ≠ g → w'.cell? p = w.cell? p ∧ w'.frozen? p = w.frozen? p) ∧ ∀ B, B ≤ g → Below B w w'
theorem But.refl (w : World) (g : Nat) : But w g w := ⟨rfl, fun _ _ => ⟨rfl, rfl⟩, fun _ _ => Below.refl _ _⟩
theorem But.set {g : Nat} (h : But w g w') (i : Nat) (v : Value) : But w g (w'.setCell ⟨g, i, none⟩ v) :=
  ⟨by rw [← h.1]; simp [World.setCell], fun p hp => ⟨by rw [World.cell?_setCell_other _ _ _ _ (fun e => hp (by subst e; rfl))]; exact (h.2.1 p hp).1, by rw [World.frozen?_setCell]; exact (h.2.1 p hp).2⟩, fun B hB => (h.2.2 B hB).setCell hB _⟩
theorem Row.but {g' : Nat} (h : Row w g n f) (hb : But w g' w') (hg : g ≠ g') : Row w' g n f :=
  ⟨by rw [hb.1]; exact h.1, fun j hj => ⟨(hb.2.1 ⟨g, j, none⟩ hg).1.trans (h.2 j hj).1, (hb.2.1 ⟨g, j, none⟩ hg).2.trans (h.2 j hj).2⟩⟩
end
/-- the k-th mark -/
def markN (k : Int) : Value := .float .f32 (floatOfInt .f32 k)
theorem mark_nan (k : Int) : Fl.nan .f32 (floatOfInt .f32 k) = false := by
  have e : floatOfInt .f32 k = Ieee.single.word (decide (k < 0)) (Fl.rnd Ieee.single k.natAbs 0) := Fl.write_num Ieee.single _ _ _
  rw [e]; exact Fl.word_num Ieee.single _ _ _
theorem mark_neq (k : Int) : (FloatKind.f32.format.order (floatOfInt .f32 k) (floatOfInt .f32 k) != some .eq) = false := by
  rw [show FloatKind.f32.format.order (floatOfInt .f32 k) (floatOfInt .f32 k) = if Fl.nan .f32 (floatOfInt .f32 k) then none else some .eq from Fl.order_self .f32 _, mark_nan]; rfl

set_option maxRecDepth 20000 in
set_option maxHeartbeats 1000000 in
theorem markS_any (A : Option Addr) (g n c : Nat) (k : Int) (f : Nat → Value) (w : World) (hA : 0 < n → A = some ⟨g, 0, none⟩) (hr : 0 < n → Row w g n f) (hn : n ≤ 4194304) (h0 : 0 ≤ k) (h1 : k ≤ 16777216) :
    Calls Try.prog 36 #[.slice A n c, .int .i64 k] w fun e w' => e = .returned (.int .i64 (k + n)) ∧ (0 < n → Row w' g n (fun j => markN (k + j))) ∧ But w g w' := by
  have HR := hid hr
  clear hr
  have hnz : (n : Int) ≤ 4194304 := by omega
  go_enter Try.func36, Try.ntmps36
  go_wp2_with fail
  go_loopw [1, 5] (fun q i wr => ∃ (m : Nat) (f' : Nat → Value), m ≤ n ∧ i = .int .i64 m ∧ q = .int .i64 (k + m) ∧ (0 < n → Row wr g n f') ∧ (∀ j, j < m → f' j = markN (k + j)) ∧ But w g wr) (fun _ i _ => n - (intOf i).toNat)
  case atStart => exact ⟨0, f, Nat.zero_le _, rfl, by simp, HR.out, fun j h => absurd h (by omega), But.refl _ _⟩
  case round =>
    obtain ⟨m, f', hm, rfl, rfl, hrow, hd, hbut⟩ := hrel
    have HW := hid hrow
    have HD := hid hd
    have HB := hid hbut
    by_cases hlt : m < n
    · have hA' := hA (by omega)
      subst hA'
      obtain ⟨hc, hf⟩ := (hrow (by omega)).2 m hlt
      have hmz : (m : Int) < (n : Int) := by omega
      clear hrow hd hbut
      go_wp2_with fail
      go_roundw
      case rel =>
        refine ⟨m + 1, _, by omega, by go_num, by go_num, fun h => (HW.out h).set hlt _, fun j hj => ?_, HB.out.set _ _⟩
        by_cases e : j = m
        · subst e; rw [if_pos rfl]; rfl
        · rw [if_neg e]; exact HD.out j (by omega)
      case measure => simp [intOf]; omega
    · have : m = n := by omega
      subst this
      clear hrow hd hbut
      go_wp2_with fail
      go_ret
      exact ⟨rfl, fun h => (HW.out h).congr (fun j hj => HD.out j hj), HB.out⟩

set_option maxRecDepth 20000 in
set_option maxHeartbeats 1000000 in
theorem heldS_any (A : Option Addr) (g n c : Nat) (k : Int) (w : World) (hA : 0 < n → A = some ⟨g, 0, none⟩) (hr : 0 < n → Row w g n (fun j => markN (k + j))) (hn : n ≤ 4194304) (h0 : 0 ≤ k) (h1 : k ≤ 16777216) :
    Calls Try.prog 57 #[.slice A n c, .int .i64 k] w fun e w' => e = .returned (.int .i64 (k + n)) ∧ w' = w := by
  have HR := hid hr
  clear hr
  have hnz : (n : Int) ≤ 4194304 := by omega
  go_enter Try.func57, Try.ntmps57
  go_wp2_with fail
  go_loopw [1, 5] (fun q i wr => ∃ (m : Nat), m ≤ n ∧ i = .int .i64 m ∧ q = .int .i64 (k + m) ∧ wr = w) (fun _ i _ => n - (intOf i).toNat)
  case atStart => exact ⟨0, Nat.zero_le _, rfl, by simp, rfl⟩
  case round =>
    obtain ⟨m, hm, rfl, rfl, rfl⟩ := hrel
    by_cases hlt : m < n
    · have hA' := hA (by omega)
      subst hA'
      obtain ⟨hc, hf⟩ := (HR.out (by omega)).2 m hlt
      unfold markN at hc
      have hq := mark_neq (k + m)
      have hmz : (m : Int) < (n : Int) := by omega
      clear hf
      go_wp2_with fail
      go_roundw
      case rel => exact ⟨m + 1, by omega, by go_num, by go_num, by first | rfl | trivial⟩
      case measure => simp [intOf]; omega
    · have : m = n := by omega
      subst this
      go_wp2_with fail
      go_ret
      exact ⟨rfl, rfl⟩
end Go.Proofs.Ytbloipnpgncjiaa
