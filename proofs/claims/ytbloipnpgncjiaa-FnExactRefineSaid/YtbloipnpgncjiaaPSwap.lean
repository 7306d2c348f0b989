/- slices.swapRangeCmpFunc and rotateCmpFunc of points. -/
import Derived.Test.YtbloipnpgncjiaaPSort
import Derived.Test.YtbloipnpgncjiaaMergeL
namespace Go.Proofs.Ytbloipnpgncjiaa
open Go.RowKit

open Go.Sort in
theorem RowP.atG {w : World} {g n : Nat} {L : List (Nat × Nat)} (h : RowP w g n L) {i : Nat} (hi : i < n) {x : Nat × Nat} (hx : L.getD i (0, 0) = x) :
    (∀ k os, (grow (w.drewN k) os).cell? ⟨g, i * 2, none⟩ = some (.float .f32 x.1)) ∧ (∀ k os, (grow (w.drewN k) os).cell? ⟨g, i * 2 + 1, none⟩ = some (.float .f32 x.2)) := by
  obtain ⟨a, _, b, _⟩ := h.at_ hi
  rw [hx] at a b
  exact ⟨cell_grown h.2.1 a, cell_grown h.2.1 b⟩
theorem far_two {w : World} {g u v : Nat} {a b : Value} (huv : u ≠ v) (h1 : w.cell? ⟨g, v * 2, none⟩ = some a) (h2 : w.cell? ⟨g, v * 2 + 1, none⟩ = some b) :
    (∀ z z', ((w.setCell ⟨g, u * 2, none⟩ z).setCell ⟨g, u * 2 + 1, none⟩ z').cell? ⟨g, v * 2, none⟩ = some a) ∧
    (∀ z z', ((w.setCell ⟨g, u * 2, none⟩ z).setCell ⟨g, u * 2 + 1, none⟩ z').cell? ⟨g, v * 2 + 1, none⟩ = some b) ∧
    (∀ z z' z'', (((w.setCell ⟨g, u * 2, none⟩ z).setCell ⟨g, u * 2 + 1, none⟩ z').setCell ⟨g, v * 2, none⟩ z'').cell? ⟨g, v * 2 + 1, none⟩ = some b) := by
  refine ⟨fun z z' => ?_, fun z z' => ?_, fun z z' z'' => ?_⟩
  · rw [World.cell?_setCell_other _ _ _ _ (fun e => by injection e with _ e; omega), World.cell?_setCell_other _ _ _ _ (fun e => by injection e with _ e; omega)]; exact h1
  · rw [World.cell?_setCell_other _ _ _ _ (fun e => by injection e with _ e; omega), World.cell?_setCell_other _ _ _ _ (fun e => by injection e with _ e; omega)]; exact h2
  · rw [World.cell?_setCell_other _ _ _ _ (fun e => by injection e with _ e; omega), World.cell?_setCell_other _ _ _ _ (fun e => by injection e with _ e; omega), World.cell?_setCell_other _ _ _ _ (fun e => by injection e with _ e; omega)]; exact h2
/-- in the midst of an exchange of A and B -/
def swI {α : Type} (P A M B Q : List α) (t : Nat) : List α := (P ++ B.take t) ++ (A.drop t ++ (M ++ A.take t)) ++ (B.drop t ++ Q)
theorem swI_zero {α : Type} (P A M B Q : List α) : swI P A M B Q 0 = P ++ A ++ M ++ B ++ Q := by simp [swI, List.append_assoc]
theorem swI_all {α : Type} (P A M B Q : List α) (h : A.length = B.length) : swI P A M B Q A.length = P ++ B ++ M ++ A ++ Q := by
  unfold swI
  rw [List.drop_length, List.take_length, h, List.drop_length, List.take_length]
  simp [List.append_assoc]
theorem swI_len {α : Type} (P A M B Q : List α) (t : Nat) (h : A.length = B.length) (ht : t ≤ A.length) : (swI P A M B Q t).length = P.length + A.length + M.length + B.length + Q.length := by
  simp only [swI, List.length_append, List.length_take, List.length_drop]
  omega
theorem swI_step {α : Type} (d : α) (P A M B Q : List α) (h : A.length = B.length) {t : Nat} (ht : t < A.length) :
    swapL d (swI P A M B Q t) (P.length + t) (P.length + A.length + M.length + t) = swI P A M B Q (t + 1) := by
  have hb : t < B.length := by omega
  have e := swapL_mid d (P ++ B.take t) (A.drop (t + 1) ++ (M ++ A.take t)) (B.drop (t + 1) ++ Q) A[t] B[t]
  have l1 : (P ++ B.take t).length = P.length + t := by rw [List.length_append, List.length_take]; omega
  have l2 : (A.drop (t + 1) ++ (M ++ A.take t)).length = A.length - (t + 1) + (M.length + t) := by simp only [List.length_append, List.length_take, List.length_drop]; omega
  rw [l1, l2, show P.length + t + 1 + (A.length - (t + 1) + (M.length + t)) = P.length + A.length + M.length + t by omega] at e
  have e1 : swI P A M B Q t = (P ++ B.take t) ++ A[t] :: ((A.drop (t + 1) ++ (M ++ A.take t)) ++ B[t] :: (B.drop (t + 1) ++ Q)) := by
    unfold swI
    rw [List.drop_eq_getElem_cons ht, List.drop_eq_getElem_cons hb]
    simp only [List.append_assoc, List.cons_append]
  rw [e1, e]
  unfold swI
  rw [List.take_succ_eq_append_getElem ht, List.take_succ_eq_append_getElem hb]
  simp only [List.append_assoc, List.cons_append, List.nil_append]

set_option maxRecDepth 20000 in
set_option maxHeartbeats 2000000 in
theorem swr_any (g n c : Nat) (P A M B Q : List (Nat × Nat)) (h : A.length = B.length) (w : World) (hr : RowP w g n (P ++ A ++ M ++ B ++ Q)) (hn : n ≤ 2097152) :
    Calls Try.prog 139 #[.slice (some ⟨g, 0, none⟩) n c, .int .i64 P.length, .int .i64 ((P.length + A.length + M.length : Nat) : Int), .int .i64 A.length, fnP] w fun e w' => (∃ v, e = .returned v) ∧ RowP w' g n (P ++ B ++ M ++ A ++ Q) ∧ Upd g w w' := by
  have HR := hid (show RowP w g n (swI P A M B Q 0) by rw [swI_zero]; exact hr)
  have hlen : P.length + A.length + M.length + B.length + Q.length = n := by have := hr.1; simp at this; omega
  clear hr
  obtain ⟨a, ha⟩ : ∃ a, P.length = a := ⟨_, rfl⟩
  obtain ⟨k, hk⟩ : ∃ k, A.length = k := ⟨_, rfl⟩
  obtain ⟨b, hb⟩ : ∃ b, P.length + A.length + M.length = b := ⟨_, rfl⟩
  rw [hb, ha, hk]
  have HA := hid ha
  have HB := hid hb
  have HK := hid hk
  have HL := hid hlen
  have HE := hid h
  have haz : (a : Int) ≤ 2097152 := by omega
  have hbz : (b : Int) ≤ 2097152 := by omega
  have hkz : (k : Int) ≤ 2097152 := by omega
  have hnz : (n : Int) ≤ 2097152 := by omega
  clear ha hb hk hlen h
  go_enter Try.func139, Try.ntmps139
  go_wp2_with fail
  go_loopw [10] (fun i wr => ∃ t : Nat, t ≤ k ∧ i = .int .i64 t ∧ RowP wr g n (swI P A M B Q t) ∧ Upd g w wr) (fun i _ => k - (intOf i).toNat)
  case atStart => exact ⟨0, Nat.zero_le _, rfl, HR.out, Upd.refl _ _⟩
  case round =>
    obtain ⟨t, ht, rfl, hrow, hu⟩ := hrel
    have HROW := hid hrow
    have HU := hid hu
    clear hrow hu
    by_cases hlt : t < k
    · have htz : (t : Int) < (k : Int) := by omega
      have HST := hid (swI_step (0, 0) P A M B Q HE.out (t := t) (by have := HK.out; omega))
      rw [HB.out, HA.out] at HST
      obtain ⟨u, hu⟩ : ∃ u, a + t = u := ⟨_, rfl⟩
      obtain ⟨v, hv⟩ : ∃ v, b + t = v := ⟨_, rfl⟩
      rw [hu, hv] at HST
      have hun : u < n := by have := HA.out; have := HB.out; have := HK.out; have := HL.out; omega
      have hvn : v < n := by have := HA.out; have := HB.out; have := HK.out; have := HL.out; have := HE.out; omega
      obtain ⟨k1, k2, k3, k4⟩ := HROW.out.at_ hun
      obtain ⟨k5, k6, k7, k8⟩ := HROW.out.at_ hvn
      obtain ⟨x, hx⟩ : ∃ x, (swI P A M B Q t).getD u (0, 0) = x := ⟨_, rfl⟩
      obtain ⟨y, hy⟩ : ∃ y, (swI P A M B Q t).getD v (0, 0) = y := ⟨_, rfl⟩
      rw [hx] at k1 k3
      rw [hy] at k5 k7
      have HSW := hid (HROW.out.swap hun hvn)
      rw [hx, hy, HST.out] at HSW
      have hau : (a : Int) + (t : Int) = (u : Int) := by omega
      have hbv : (b : Int) + (t : Int) = (v : Int) := by omega
      have hwu : IntKind.i64.wrap (u : Int) = (u : Int) := by rw [IntKind.wrap_i64]; omega
      have hwv : IntKind.i64.wrap (v : Int) = (v : Int) := by rw [IntKind.wrap_i64]; omega
      have hunz : (u : Int) < (n : Int) := by omega
      have hvnz : (v : Int) < (n : Int) := by omega
      have huv : u ≠ v := by have := HA.out; have := HB.out; have := HK.out; omega
      obtain ⟨k9, k10, k11⟩ := far_two huv k5 k7
      have HTT := hid (And.intro ht hlt)
      clear hx hy hu hv hun hvn ht hlt HST
      go_wp2_with fail
      go_region
      go_wp2_with fail
      go_roundw
      case rel => exact ⟨t + 1, by have := HTT.out; omega, by go_num, HSW.out, (HU.out.swap _ _ _ _ _ _ _ _).drewN _⟩
      case measure => have := HTT.out; simp [intOf]; omega
    · have : t = k := by omega
      subst this
      go_wp2_with fail
      go_end0
      refine ⟨⟨_, rfl⟩, ?_, HU.out⟩
      have := HROW.out
      rw [← HK.out, swI_all P A M B Q HE.out] at this
      exact this
end Go.Proofs.Ytbloipnpgncjiaa
