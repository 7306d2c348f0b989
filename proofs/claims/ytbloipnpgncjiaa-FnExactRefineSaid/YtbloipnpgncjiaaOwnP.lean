/- Lists of points that the law owns, and a copy that may be written. -/
import Derived.Test.YtbloipnpgncjiaaPMark
namespace Go.Proofs.Ytbloipnpgncjiaa
open Go.RowKit

theorem Pts.but {w w' : World} {B g5 g : Nat} {A : Option Addr} {ps : List (Nat × Nat)} (h : Pts w B A ps) (hA : 0 < ps.length → A = some ⟨g5, 0, none⟩) (hb : But w g w') (hne : 0 < ps.length → g5 ≠ g) : Pts w' B A ps := by
  refine ⟨h.1, fun hn => ?_⟩
  obtain ⟨ad, e, hbk, hc⟩ := h.2 hn
  refine ⟨ad, e, hbk, fun j u hu => ?_⟩
  have : ad = ⟨g5, 0, none⟩ := by
    have := hA hn
    rw [e] at this; injection this
  rw [(hb.2.1 (ad.add j) (by rw [block_of_add, this]; exact hne hn)).1]
  exact hc j u hu
/-- an owned list, opened -/
theorem own_openP {w : World} {base : Nat} {t : TypeId} {v : Value} {L : List (Nat × Nat)} (h : w.ownsRow base t 2 v L.length (pcells L)) :
    ∃ A c g, v = .slice A L.length c ∧ Pts w w.heap.size A L ∧ base ≤ g ∧ (0 < L.length → A = some ⟨g, 0, none⟩ ∧ g < w.heap.size) ∧ (0 < L.length → Row w g (L.length * 2) (fun j => (pcells L).getD j undef)) := by
  have h0 := h
  obtain ⟨h1, h2⟩ := h
  rcases h2 with ⟨rfl, e⟩ | ⟨g, cap, cur, rfl, hg, hc, hcap, hm, hsz, ht⟩
  · refine ⟨none, 0, base, by rw [e], ⟨h1, fun hn => absurd hn (by omega)⟩, Nat.le_refl _, fun hn => absurd hn (by omega), fun hn => absurd hn (by omega)⟩
  · obtain ⟨hlt, _⟩ := Array.getElem?_eq_some_iff.1 hc
    refine ⟨some ⟨g, 0, none⟩, cap, g, rfl, Reads.of_own h0, hg, fun _ => ⟨rfl, hlt⟩, fun _ => ⟨hlt, fun j hj => ⟨?_, World.ownsRow.frozenAt h0 j⟩⟩⟩
    rw [World.ownsRow.cellAt h0 j hj]
    have : j < (pcells L).length := by rw [pcells_length]; exact hj
    simp [List.getD, this]
/-- a new slice of these points that may be written; what was there is as it was -/
def RetPW (ps : List (Nat × Nat)) (w : World) (e : Ending) (w' : World) : Prop :=
  ∃ g, e = .returned (.slice (some ⟨g, 0, none⟩) ps.length ps.length) ∧ w.heap.size ≤ g ∧ Pts w' w'.heap.size (some ⟨g, 0, none⟩) ps ∧ Below w.heap.size w w' ∧ ∃ f, Row w' g (ps.length * 2) f

set_option maxHeartbeats 1000000 in
theorem toPW_any (A : Option Addr) (c : Nat) (ps : List (Nat × Nat)) (w : World) (hr : Pts w w.heap.size A ps) (hn : ps.length ≤ 1048576) :
    Calls Try.prog 28 #[.slice A ps.length c] w (RetPW ps w) := by
  have hmk := make_pts ps.length hn
  have HR := hid hr
  clear hr
  go_enter Try.func28, Try.ntmps28
  go_wp2
  clear hmk
  go_loopw [4] (fun i wr => ∃ (k : Nat) (f : Nat → Value), k ≤ ps.length ∧ i = .int .i64 k ∧ Below w.heap.size w wr ∧ Row wr w.heap.size (ps.length * 2) f ∧ ∀ j (hj : j < ps.length), j < k → f (j * 2) = .float .f32 ps[j].1 ∧ f (j * 2 + 1) = .float .f32 ps[j].2) (fun i _ => ps.length - (intOf i).toNat)
  case atStart => exact ⟨0, _, Nat.zero_le _, rfl, below_new _ _, Row.of (made_pts w ps.length), fun j hj h => absurd h (by omega)⟩
  case round =>
    obtain ⟨k, f, hk, rfl, hb, hrow, hdone⟩ := hrel
    by_cases hlt : k < ps.length
    · obtain ⟨ad, rfl, had, hcell, hcell'⟩ := (HR.out.below hb).at_ hlt
      have HB := hid hb
      have HW := hid hrow
      have HD := hid hdone
      clear hb hrow hdone
      have hlz : (k : Int) < (ps.length : Int) := by omega
      go_wp2_with fail
      refine (toPoint_any _ _ _).mono ?_
      rintro e w2 ⟨rfl, hb2⟩
      have H2 := hid (HB.out.trans (hb2.mono (by have := HB.out.size; omega)))
      have hrow := HW.out.next hb2
      have HW2 := hid hrow
      obtain ⟨hd, hf⟩ := hrow.2 (k * 2) (by omega)
      obtain ⟨hd', hf'⟩ := hrow.2 (k * 2 + 1) (by omega)
      clear hb2 hrow hcell hcell'
      go_wp2_with fail
      go_roundw
      case rel =>
        refine ⟨k + 1, _, by omega, by go_num, (H2.out.setCell (Nat.le_refl _) _).setCell (Nat.le_refl _) _, (HW2.out.set (i := k * 2) (by omega) _).set (i := k * 2 + 1) (by omega) _, fun j hj h => ?_⟩
        by_cases e : j = k
        · subst e
          constructor
          · rw [if_neg (by omega), if_pos rfl]
          · rw [if_pos rfl]
        · rw [if_neg (by omega), if_neg (by omega), if_neg (by omega), if_neg (by omega)]
          exact HD.out j hj (by omega)
      case measure => simp [intOf]; omega
    · have : k = ps.length := by omega
      subst this
      have HB := hid hb
      have HW := hid hrow
      have HD := hid hdone
      clear hb hrow hdone
      go_wp2
      go_ret
      exact ⟨w.heap.size, rfl, Nat.le_refl _, pts_row HW.out (fun j hj => HD.out j hj hj), HB.out, _, HW.out⟩
end Go.Proofs.Ytbloipnpgncjiaa
