/- slices.rotateCmpFunc of points. -/
import Derived.Test.YtbloipnpgncjiaaPSwap
namespace Go.Proofs.Ytbloipnpgncjiaa
open Go.RowKit

theorem swrN_any (g n c a b k : Nat) (P A M B Q : List (Nat × Nat)) (ha : P.length = a) (hb : P.length + A.length + M.length = b) (hk : A.length = k) (hk2 : B.length = k) (w : World) (hr : RowP w g n (P ++ A ++ M ++ B ++ Q)) (hn : n ≤ 2097152) :
    Calls Try.prog 139 #[.slice (some ⟨g, 0, none⟩) n c, .int .i64 a, .int .i64 b, .int .i64 k, fnP] w fun e w' => (∃ v, e = .returned v) ∧ RowP w' g n (P ++ B ++ M ++ A ++ Q) ∧ Upd g w w' := by
  have := swr_any g n c P A M B Q (by rw [hk, hk2]) w hr hn
  rw [ha, hk] at this
  rw [ha, hk] at hb
  rw [hb] at this
  exact this

/-- in the midst of a rotation -/
def RotI (T : List (Nat × Nat)) (m i j : Nat) (L : List (Nat × Nat)) : Prop :=
  ∃ D U V E, L = D ++ U ++ V ++ E ∧ D ++ V ++ U ++ E = T ∧ U.length = i ∧ V.length = j ∧ D.length + i = m
theorem rot_gt {T L : List (Nat × Nat)} {m i j : Nat} (h : RotI T m i j L) (hij : j < i) :
    ∃ D U1 U2 V E, L = D ++ U1 ++ U2 ++ V ++ E ∧ D.length = m - i ∧ D.length + U1.length + U2.length = m ∧ U1.length = j ∧ V.length = j ∧ RotI T m (i - j) j (D ++ V ++ U2 ++ U1 ++ E) := by
  obtain ⟨D, U, V, E, rfl, hT, hu, hv, hm⟩ := h
  have e : U = U.take j ++ U.drop j := (List.take_append_drop j U).symm
  have l1 : (U.take j).length = j := by rw [List.length_take]; omega
  have l2 : (U.drop j).length = i - j := by rw [List.length_drop]; omega
  refine ⟨D, U.take j, U.drop j, V, E, ?_, by omega, by omega, l1, hv, D ++ V, U.drop j, U.take j, E, rfl, ?_, l2, l1, by rw [List.length_append]; omega⟩
  · conv => lhs; rw [e]
    simp only [List.append_assoc]
  · rw [← hT]
    conv => rhs; rw [e]
    simp only [List.append_assoc]
theorem rot_lt {T L : List (Nat × Nat)} {m i j : Nat} (h : RotI T m i j L) (hij : i < j) :
    ∃ D U V1 V2 E, L = D ++ U ++ V1 ++ V2 ++ E ∧ D.length = m - i ∧ D.length + U.length + V1.length = m + j - i ∧ U.length = i ∧ V2.length = i ∧ RotI T m i (j - i) (D ++ V2 ++ V1 ++ U ++ E) := by
  obtain ⟨D, U, V, E, rfl, hT, hu, hv, hm⟩ := h
  have e : V = V.take (j - i) ++ V.drop (j - i) := (List.take_append_drop (j - i) V).symm
  have l1 : (V.take (j - i)).length = j - i := by rw [List.length_take]; omega
  have l2 : (V.drop (j - i)).length = i := by rw [List.length_drop]; omega
  refine ⟨D, U, V.take (j - i), V.drop (j - i), E, ?_, by omega, by omega, hu, l2, D, V.drop (j - i), V.take (j - i), U ++ E, ?_, ?_, l2, l1, by omega⟩
  · conv => lhs; rw [e]
    simp only [List.append_assoc]
  · simp only [List.append_assoc]
  · rw [← hT]
    conv => rhs; rw [e]
    simp only [List.append_assoc]
theorem rot_eq {T L : List (Nat × Nat)} {m i : Nat} (h : RotI T m i i L) :
    ∃ D U V E, L = D ++ U ++ [] ++ V ++ E ∧ D.length = m - i ∧ D.length + U.length + ([] : List (Nat × Nat)).length = m ∧ U.length = i ∧ V.length = i ∧ D ++ V ++ [] ++ U ++ E = T := by
  obtain ⟨D, U, V, E, rfl, hT, hu, hv, hm⟩ := h
  exact ⟨D, U, V, E, by simp, by omega, by simp; omega, hu, hv, by simpa using hT⟩

set_option maxRecDepth 20000 in
set_option maxHeartbeats 4000000 in
theorem rot_any (g n c a m b : Nat) (P U V Q : List (Nat × Nat)) (ha : P.length = a) (hm : P.length + U.length = m) (hb : P.length + U.length + V.length = b) (hU : 0 < U.length) (hV : 0 < V.length) (w : World) (hr : RowP w g n (P ++ U ++ V ++ Q)) (hn : n ≤ 2097152) :
    Calls Try.prog 133 #[.slice (some ⟨g, 0, none⟩) n c, .int .i64 a, .int .i64 m, .int .i64 b, fnP] w fun e w' => (∃ v, e = .returned v) ∧ RowP w' g n (P ++ V ++ U ++ Q) ∧ Upd g w w' := by
  have HR := hid hr
  have hlen : P.length + U.length + V.length + Q.length = n := by have := hr.1; simp at this; omega
  obtain ⟨T, hT⟩ : ∃ T, P ++ V ++ U ++ Q = T := ⟨_, rfl⟩
  rw [hT]
  have HI := hid (show RotI T m (m - a) (b - m) (P ++ U ++ V ++ Q) from ⟨P, U, V, Q, rfl, hT, by omega, by omega, by omega⟩)
  have HAM := hid (show a < m ∧ m < b ∧ b ≤ n by omega)
  have haz : (a : Int) < (m : Int) := by omega
  have hmz : (m : Int) < (b : Int) := by omega
  have hbz : (b : Int) ≤ 2097152 := by omega
  clear hr ha hm hb hU hV hlen hT
  go_enter Try.func133, Try.ntmps133
  go_wp2_with fail
  go_loopw [10, 11] (fun i j wr => ∃ (k l : Nat) (L : List (Nat × Nat)), i = .int .i64 k ∧ j = .int .i64 l ∧ 0 < k ∧ 0 < l ∧ k ≤ m ∧ m + l ≤ n ∧ RotI T m k l L ∧ RowP wr g n L ∧ Upd g w wr) (fun i j _ => (intOf i).toNat + (intOf j).toNat)
  case atStart => exact ⟨m - a, b - m, _, by have := HAM.out; first | rfl | (congr 1; omega), by have := HAM.out; first | rfl | (congr 1; omega), by have := HAM.out; omega, by have := HAM.out; omega, by omega, by have := HAM.out; omega, HI.out, HR.out, Upd.refl _ _⟩
  case round =>
    obtain ⟨k, l, L, rfl, rfl, hk0, hl0, hkm, hln, hI, hrow, hu⟩ := hrel
    have HROW := hid hrow
    have HU := hid hu
    have HRI := hid hI
    have HKL := hid (show 0 < k ∧ 0 < l ∧ k ≤ m ∧ m + l ≤ n from ⟨hk0, hl0, hkm, hln⟩)
    have hkz : (k : Int) ≤ (m : Int) := by omega
    have hlz : (m : Int) + (l : Int) ≤ 2097152 := by omega
    have hk1 : (0 : Int) < (k : Int) := by omega
    have hl1 : (0 : Int) < (l : Int) := by omega
    clear hrow hu hI hk0 hl0 hkm hln
    rcases Nat.lt_trichotomy k l with h | h | h
    · obtain ⟨D, U, V1, V2, E, rfl, e1, e2, e3, e4, hI2⟩ := rot_lt HRI.out h
      have HI2 := hid hI2
      have hne : ¬ ((k : Int) = (l : Int)) := by omega
      have hgt : ¬ ((l : Int) < (k : Int)) := by omega
      obtain ⟨x, hx⟩ : ∃ x, m - k = x := ⟨_, rfl⟩
      obtain ⟨y, hy⟩ : ∃ y, m + l - k = y := ⟨_, rfl⟩
      rw [hx] at e1
      rw [hy] at e2
      have hxz : (m : Int) - (k : Int) = (x : Int) := by have := HKL.out; omega
      have hyz : (m : Int) + (l : Int) - (k : Int) = (y : Int) := by have := HKL.out; omega
      have hwx : IntKind.i64.wrap (x : Int) = (x : Int) := by rw [IntKind.wrap_i64]; omega
      have hwy : IntKind.i64.wrap (y : Int) = (y : Int) := by rw [IntKind.wrap_i64]; omega
      have HC := hid (swrN_any g n c x y k D U V1 V2 E e1 e2 e3 e4 wr HROW.out hn)
      have HL := hid h
      clear hI2 e1 e2 e3 e4 hx hy h
      go_wp2_with fail
      refine HC.out.mono ?_
      rintro e w1 ⟨⟨v, rfl⟩, hr1, hu1⟩
      have HR1 := hid hr1
      have HU1 := hid (HU.out.trans hu1)
      clear hr1 hu1
      go_wp2_with fail
      go_roundw
      case rel => exact ⟨k, l - k, _, rfl, by have := HL.out; congr 1; omega, by have := HKL.out; omega, by have := HL.out; omega, by have := HKL.out; omega, by have := HKL.out; omega, HI2.out, HR1.out, HU1.out⟩
      case measure => have := HL.out; simp [intOf]; omega
    · subst h
      obtain ⟨D, U, V, E, rfl, e1, e2, e3, e4, hT⟩ := rot_eq HRI.out
      have HT := hid hT
      obtain ⟨x, hx⟩ : ∃ x, m - k = x := ⟨_, rfl⟩
      rw [hx] at e1
      have hxz : (m : Int) - (k : Int) = (x : Int) := by have := HKL.out; omega
      have hwx : IntKind.i64.wrap (x : Int) = (x : Int) := by rw [IntKind.wrap_i64]; omega
      have HC := hid (swrN_any g n c x m k D U [] V E e1 e2 e3 e4 wr HROW.out hn)
      clear hT e1 e2 e3 e4 hx
      go_wp2_with fail
      refine HC.out.mono ?_
      rintro e w1 ⟨⟨v, rfl⟩, hr1, hu1⟩
      rw [HT.out] at hr1
      have HR1 := hid hr1
      have HU1 := hid (HU.out.trans hu1)
      clear hr1 hu1
      go_wp2_with fail
      go_end0
      exact ⟨⟨_, rfl⟩, HR1.out, HU1.out⟩
    · obtain ⟨D, U1, U2, V, E, rfl, e1, e2, e3, e4, hI2⟩ := rot_gt HRI.out h
      have HI2 := hid hI2
      have hne : ¬ ((k : Int) = (l : Int)) := by omega
      have hgt : ((l : Int) < (k : Int)) := by omega
      obtain ⟨x, hx⟩ : ∃ x, m - k = x := ⟨_, rfl⟩
      rw [hx] at e1
      have hxz : (m : Int) - (k : Int) = (x : Int) := by have := HKL.out; omega
      have hwx : IntKind.i64.wrap (x : Int) = (x : Int) := by rw [IntKind.wrap_i64]; omega
      have HC := hid (swrN_any g n c x m l D U1 U2 V E e1 e2 e3 e4 wr HROW.out hn)
      have HL := hid h
      clear hI2 e1 e2 e3 e4 hx h
      go_wp2_with fail
      refine HC.out.mono ?_
      rintro e w1 ⟨⟨v, rfl⟩, hr1, hu1⟩
      have HR1 := hid hr1
      have HU1 := hid (HU.out.trans hu1)
      clear hr1 hu1
      go_wp2_with fail
      go_roundw
      case rel => exact ⟨k - l, l, _, by have := HL.out; congr 1; omega, rfl, by have := HL.out; omega, by have := HKL.out; omega, by have := HKL.out; omega, by have := HKL.out; omega, HI2.out, HR1.out, HU1.out⟩
      case measure => have := HL.out; have := HKL.out; simp [intOf]; omega
end Go.Proofs.Ytbloipnpgncjiaa
