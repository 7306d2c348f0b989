/- Lists that the law owns, and a copy that may be written. -/
import Derived.Test.YtbloipnpgncjiaaRowW
namespace Go.Proofs.Ytbloipnpgncjiaa
open Go.RowKit

theorem Sing.but {w w' : World} {B g5 g : Nat} {A : Option Addr} {xs : List Nat} (h : Sing w B A xs) (hA : 0 < xs.length → A = some ⟨g5, 0, none⟩) (hb : But w g w') (hne : 0 < xs.length → g5 ≠ g) : Sing w' B A xs := by
  refine ⟨h.1, fun hn => ?_⟩
  obtain ⟨ad, e, hbk, hc⟩ := h.2 hn
  refine ⟨ad, e, hbk, fun j u hu => ?_⟩
  have : ad = ⟨g5, 0, none⟩ := by
    have := hA hn
    rw [e] at this; injection this
  rw [(hb.2.1 (ad.add j) (by rw [block_of_add, this]; exact hne hn)).1]
  exact hc j u hu
/-- an owned list, opened -/
theorem own_open {w : World} {base : Nat} {t : TypeId} {v : Value} {L : List Nat} (h : w.ownsRow base t 1 v L.length (fcells L)) :
    ∃ A c g, v = .slice A L.length c ∧ Sing w w.heap.size A L ∧ base ≤ g ∧ (0 < L.length → A = some ⟨g, 0, none⟩ ∧ g < w.heap.size) ∧ (0 < L.length → Row w g L.length (fun j => (fcells L).getD j undef)) := by
  have h0 := h
  obtain ⟨h1, h2⟩ := h
  rcases h2 with ⟨rfl, e⟩ | ⟨g, cap, cur, rfl, hg, hc, hcap, hm, hsz, ht⟩
  · refine ⟨none, 0, base, by rw [e], ⟨h1, fun hn => absurd hn (by omega)⟩, Nat.le_refl _, fun hn => absurd hn (by omega), fun hn => absurd hn (by omega)⟩
  · obtain ⟨hlt, _⟩ := Array.getElem?_eq_some_iff.1 hc
    refine ⟨some ⟨g, 0, none⟩, cap, g, rfl, Reads.of_own h0, hg, fun _ => ⟨rfl, hlt⟩, fun _ => ⟨hlt, fun j hj => ⟨?_, World.ownsRow.frozenAt h0 j⟩⟩⟩
    rw [World.ownsRow.cellAt h0 j (by omega)]
    have : j < (fcells L).length := by simp [fcells]; exact hj
    simp [List.getD, this]
theorem info_f32' : (Try.prog.info? 25).map (fun i => (i.zero, i.size, i.bytes)) = some (some (.float .f32 0), 1, 4) := Try.info_f32
/-- a new slice of these singles that may be written; what was there is as it was -/
def RetW (xs : List Nat) (w : World) (e : Ending) (w' : World) : Prop :=
  ∃ g, e = .returned (.slice (some ⟨g, 0, none⟩) xs.length xs.length) ∧ w.heap.size ≤ g ∧ Sing w' w'.heap.size (some ⟨g, 0, none⟩) xs ∧ Below w.heap.size w w' ∧ Row w' g xs.length (fun j => .float .f32 (xs.getD j 0))

set_option maxHeartbeats 400000 in
theorem toW_any (A : Option Addr) (c : Nat) (xs : List Nat) (w : World) (hr : Sing w w.heap.size A xs) (hn : xs.length ≤ 1048576) :
    Calls Try.prog 33 #[.slice A xs.length c] w (RetW xs w) := by
  have hmk := run_make_row' (P := Try.prog) 32 25 (.float .f32 0) 4 Try.underlying32 Try.info_f32 rfl .i64 .i64 xs.length (by omega) (by omega)
  have HR := hid hr
  clear hr
  go_enter Try.func33, Try.ntmps33
  go_wp2
  clear hmk
  go_loopw [4] (fun i wr => ∃ k : Nat, k ≤ xs.length ∧ i = .int .i64 k ∧ Below w.heap.size w wr ∧ wr.rowIs w.heap.size 25 xs.length (fun j => .float .f32 (if j < k then xs.getD j 0 else 0))) (fun i _ => xs.length - (intOf i).toNat)
  case atStart => exact ⟨0, Nat.zero_le _, rfl, below_new _ _, by simpa using World.rowIs_made w (.float .f32 0) xs.length 25⟩
  case round =>
    obtain ⟨k, hk, rfl, hb, hrow⟩ := hrel
    by_cases hlt : k < xs.length
    · obtain ⟨ad, rfl, had, hcell⟩ := (HR.out.below hb).at_ hlt
      have HB := hid hb
      have HW := hid hrow
      have hd := hrow.cell hlt
      have hf := hrow.frozen k
      clear hb hrow
      have hlz : (k : Int) < (xs.length : Int) := by omega
      go_wp2
      go_roundw
      case rel =>
        refine ⟨k + 1, by omega, by go_num, HB.out.setCell (Nat.le_refl _) _, (HW.out.set k _).congr fun j hj => ?_⟩
        by_cases e : j = k
        · subst e; simp [hlt]
        · rw [if_neg e]
          by_cases e2 : j < k
          · rw [if_pos e2, if_pos (by omega)]
          · rw [if_neg e2, if_neg (by omega)]
      case measure => simp [intOf]; omega
    · have : k = xs.length := by omega
      subst this
      have HB := hid hb
      have HW := hid hrow
      clear hb hrow
      go_wp2
      go_ret
      exact ⟨w.heap.size, rfl, Nat.le_refl _, sing_row HW.out (fun j hj => by simp [hj]) HW.out.lt, HB.out, Row.congr (Row.of HW.out) (fun j hj => by simp [hj])⟩

end Go.Proofs.Ytbloipnpgncjiaa
