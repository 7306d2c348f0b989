/- slices.symMergeCmpFunc of points where the first part has one element. -/
import Derived.Test.YtbloipnpgncjiaaPRot
import Derived.Test.YtbloipnpgncjiaaRefS
set_option linter.unusedSimpArgs false
namespace Go.Proofs.Ytbloipnpgncjiaa
open Go.RowKit

/-- what symMerge does -/
def SymOk (g n c : Nat) (P X Y Q : List (Nat × Nat)) (w : World) : Prop :=
  Calls Try.prog 126 #[.slice (some ⟨g, 0, none⟩) n c, .int .i64 P.length, .int .i64 ((P.length + X.length : Nat) : Int), .int .i64 ((P.length + X.length + Y.length : Nat) : Int), fnP] w fun e w' => (∃ v, e = .returned v) ∧ RowP w' g n (P ++ smerge kyP X Y ++ Q) ∧ Upd g w w'
theorem lt_kyP {x y : Nat × Nat} (hx : Fl.nan .f32 x.1 = false) (hy : Fl.nan .f32 y.1 = false) : cmpI x.1 y.1 < 0 ↔ kyP x < kyP y := by
  rw [cmpI_neg, Fl.lt_ky, hx, hy]; simp
/-- one element on its way -/
def goI {α : Type} (P Y : List α) (x : α) (Q : List α) (t : Nat) : List α := (P ++ Y.take t) ++ x :: (Y.drop t ++ Q)
theorem goI_len {α : Type} (P Y : List α) (x : α) (Q : List α) (t : Nat) : (goI P Y x Q t).length = P.length + Y.length + 1 + Q.length := by
  simp only [goI, List.length_append, List.length_take, List.length_drop, List.length_cons]; omega
theorem goI_up {α : Type} (d : α) (P Y : List α) (x : α) (Q : List α) {t : Nat} (ht : t < Y.length) : swapL d (goI P Y x Q t) (P.length + t) (P.length + t + 1) = goI P Y x Q (t + 1) := by
  have e := swapL_mid d (P ++ Y.take t) [] (Y.drop (t + 1) ++ Q) x Y[t]
  have l1 : (P ++ Y.take t).length = P.length + t := by rw [List.length_append, List.length_take]; omega
  rw [l1, List.length_nil, Nat.add_zero] at e
  unfold goI
  rw [List.drop_eq_getElem_cons ht, List.take_succ_eq_append_getElem ht]
  simp only [List.append_assoc, List.cons_append, List.nil_append] at e ⊢
  exact e
theorem swapL_comm {α : Type} (d : α) (L : List α) {u v : Nat} : swapL d L u v = swapL d L v u := by
  unfold swapL
  by_cases h : u = v
  · subst h; rfl
  · exact List.set_comm _ _ (fun e => h e)
theorem goI_down {α : Type} (d : α) (P Y : List α) (x : α) (Q : List α) {t : Nat} (ht : t < Y.length) : swapL d (goI P Y x Q (t + 1)) (P.length + t + 1) (P.length + t) = goI P Y x Q t := by
  rw [swapL_comm d _]
  have e := swapL_mid d (P ++ Y.take t) [] (Y.drop (t + 1) ++ Q) Y[t] x
  have l1 : (P ++ Y.take t).length = P.length + t := by rw [List.length_append, List.length_take]; omega
  rw [l1, List.length_nil, Nat.add_zero] at e
  unfold goI
  rw [List.drop_eq_getElem_cons ht, List.take_succ_eq_append_getElem ht]
  simp only [List.append_assoc, List.cons_append, List.nil_append] at e ⊢
  exact e

theorem goI_self {α : Type} (d : α) (P Y : List α) (x : α) (Q : List α) {t : Nat} (ht : t ≤ Y.length) : (goI P Y x Q t).getD (P.length + t) d = x := by
  unfold goI
  have l1 : (P ++ Y.take t).length = P.length + t := by rw [List.length_append, List.length_take]; omega
  rw [getD_midP, l1, if_neg (by omega), if_pos rfl]
theorem goI_next {α : Type} (d : α) (P Y : List α) (x : α) (Q : List α) {r : Nat} (hr : r < Y.length) : (goI P Y x Q 0).getD (P.length + 1 + r) d = Y.getD r d := by
  unfold goI
  rw [getD_midP, List.take_zero, List.append_nil, if_neg (by omega), if_neg (by omega), show P.length + 1 + r - P.length - 1 = r by omega, List.drop_zero]
  simp only [List.getD]
  rw [List.getElem?_append_left hr]
theorem nan_get {Y : List (Nat × Nat)} (h : ∀ y ∈ Y, Fl.nan .f32 y.1 = false) {k : Nat} (hk : k < Y.length) : Fl.nan .f32 (Y.getD k (0, 0)).1 = false := by
  have e : Y.getD k (0, 0) = Y[k] := by simp [List.getD, hk]
  rw [e]; exact h _ (List.getElem_mem _)

set_option maxRecDepth 20000 in
set_option maxHeartbeats 4000000 in
theorem symA_any (g n c : Nat) (P Y Q : List (Nat × Nat)) (x : Nat × Nat) (hY0 : 0 < Y.length) (hx : Fl.nan .f32 x.1 = false) (hy : ∀ y ∈ Y, Fl.nan .f32 y.1 = false) (hs : Srt kyP Y) (w : World) (hr : RowP w g n (P ++ [x] ++ Y ++ Q)) (hn : n ≤ 2097152) :
    SymOk g n c P [x] Y Q w := by
  unfold SymOk
  have HR := hid (show RowP w g n (goI P Y x Q 0) by unfold goI; simpa using hr)
  have hlen : P.length + 1 + Y.length + Q.length = n := by have := hr.1; simp at this; omega
  rw [show ([x] : List (Nat × Nat)).length = 1 from rfl]
  obtain ⟨a, ha⟩ : ∃ a, P.length = a := ⟨_, rfl⟩
  obtain ⟨m, hm⟩ : ∃ m, P.length + 1 = m := ⟨_, rfl⟩
  obtain ⟨b, hb⟩ : ∃ b, P.length + 1 + Y.length = b := ⟨_, rfl⟩
  rw [hb, hm, ha]
  have HP := hid (show P.length = a ∧ m = a + 1 ∧ b = m + Y.length ∧ b ≤ n by omega)
  have HX := hid hx
  have HY := hid hy
  have HS := hid hs
  have ham : (m : Int) - (a : Int) = 1 := by omega
  have hmb : (m : Int) < (b : Int) := by omega
  have haz : (0 : Int) ≤ (a : Int) := by omega
  have hbz : (b : Int) ≤ 2097152 := by omega
  have hbn : (b : Int) ≤ (n : Int) := by omega
  clear hr ha hm hb hx hy hs hlen
  go_enter Try.func126, Try.ntmps126
  go_wp2_with fail
  go_loopw [10, 11, 12] (fun i j _ wr => ∃ p q : Nat, p ≤ q ∧ q ≤ Y.length ∧ i = .int .i64 ((m + p : Nat) : Int) ∧ j = .int .i64 ((m + q : Nat) : Int) ∧ (p = 0 ∨ kyP (Y.getD (p - 1) (0, 0)) < kyP x) ∧ (q = Y.length ∨ kyP x ≤ kyP (Y.getD q (0, 0))) ∧ RowP wr g n (goI P Y x Q 0) ∧ Upd g w wr) (fun i j _ _ => (intOf j).toNat - (intOf i).toNat)
  case atStart => exact ⟨0, Y.length, by omega, Nat.le_refl _, rfl, by have := HP.out; congr 1; omega, .inl rfl, .inl rfl, HR.out, Upd.refl _ _⟩
  case round =>
    obtain ⟨p, q, hpq, hqy, rfl, rfl, hp, hq, hrow, hup⟩ := hrel
    have HROW := hid hrow
    have HUP := hid hup
    clear hrow hup
    obtain ⟨i, hi⟩ : ∃ i, m + p = i := ⟨_, rfl⟩
    obtain ⟨j, hj⟩ : ∃ j, m + q = j := ⟨_, rfl⟩
    rw [hi, hj]
    have HIJ := hid (And.intro hi hj)
    have HPQ := hid (And.intro hp hq)
    have HL := hid (And.intro hpq hqy)
    by_cases hlt : p < q
    · have hij : (i : Int) < (j : Int) := by omega
      have hjz : (j : Int) ≤ 2097152 := by have := HP.out; omega
      obtain ⟨h, hh⟩ : ∃ h, (i + j) / 2 = h := ⟨_, rfl⟩
      have hhz : ((i : Int) + (j : Int)) / 2 = (h : Int) := by omega
      obtain ⟨r, hr⟩ : ∃ r, h = m + r := ⟨h - m, by have := HIJ.out; omega⟩
      have hrq : p ≤ r ∧ r < q := by have := HIJ.out; omega
      have HRQ := hid hrq
      have HHR := hid hr
      have hry : r < Y.length := by have := HL.out; omega
      have hhn : h < n := by have := HP.out; omega
      have han : a < n := by have := HP.out; omega
      have e1 : (goI P Y x Q 0).getD h (0, 0) = Y.getD r (0, 0) := by
        have := goI_next (0, 0) P Y x Q hry
        rw [show P.length + 1 + r = h by have := HP.out; omega] at this
        exact this
      have e2 : (goI P Y x Q 0).getD a (0, 0) = x := by
        have := goI_self (0, 0) P Y x Q (t := 0) (Nat.zero_le _)
        rw [show P.length + 0 = a by have := HP.out; omega] at this
        exact this
      obtain ⟨k1, k2⟩ := HROW.out.atG hhn e1
      obtain ⟨k3, k4⟩ := HROW.out.atG han e2
      have hyn := nan_get HY.out hry
      obtain ⟨y, hy⟩ : ∃ y, Y.getD r (0, 0) = y := ⟨_, rfl⟩
      rw [hy] at k1 k2 hyn
      have HYR := hid hy
      have HYN := hid hyn
      have hhnz : (h : Int) < (n : Int) := by omega
      have hanz : (a : Int) < (n : Int) := by omega
      have hwh : IntKind.i64.wrap (h : Int) = (h : Int) := by rw [IntKind.wrap_i64]; omega
      clear hi hj hp hq hpq hqy hh hr hrq hry hhn han e1 e2 hy hyn hlt
      by_cases hlt2 : cmpI y.1 x.1 < 0
      · have HLT := hid ((lt_kyP HYN.out HX.out).1 hlt2)
        go_wp2_with fail
        have mixed : Try.prog.follows .mixedOrders = true := by kernel_rfl
        go_quiet_grown (first | (refine Calls.grown_of (cmpP_any y x HYN.out HX.out _)))
        go_wp2_with fail
        go_roundw
        case rel =>
          refine ⟨r + 1, q, by have := HRQ.out; omega, HL.out.2, by have := HHR.out; go_num, by rw [HIJ.out.2], .inr (by rw [Nat.add_sub_cancel, HYR.out]; exact HLT.out), HPQ.out.2, HROW.out.grown nq osq, HUP.out.grown (Nat.le_of_lt HROW.out.2.1) nq osq⟩
        case measure => have := HRQ.out; have := HHR.out; have := HIJ.out; simp [intOf]; omega
      · have HLT := hid (show kyP x ≤ kyP y by have := mt (lt_kyP HYN.out HX.out).2 hlt2; omega)
        go_wp2_with fail
        have mixed : Try.prog.follows .mixedOrders = true := by kernel_rfl
        go_quiet_grown (first | (refine Calls.grown_of (cmpP_any y x HYN.out HX.out _)))
        go_wp2_with fail
        go_roundw
        case rel =>
          refine ⟨p, r, HRQ.out.1, by have := HRQ.out; have := HL.out; omega, by rw [HIJ.out.1], by rw [HHR.out], HPQ.out.1, .inr (by rw [HYR.out]; exact HLT.out), HROW.out.grown nq osq, HUP.out.grown (Nat.le_of_lt HROW.out.2.1) nq osq⟩
        case measure => have := HRQ.out; have := HHR.out; have := HIJ.out; simp [intOf]; omega
    · have hpq2 : p = q := by omega
      subst hpq2
      have hij : j = i := by omega
      subst hij
      have HSM := hid (show smerge kyP [x] Y = Y.take p ++ x :: Y.drop p by
        have e := sm_one (key := kyP) (y := x) (S1 := Y.take p) (S2 := Y.drop p) (fun a ha => by
          obtain ⟨k, k1, k2, rfl⟩ := mem_take_get (0, 0) ha
          rcases HPQ.out.1 with h0 | h0
          · omega
          · have := srt_get HS.out (0, 0) (show k ≤ p - 1 by omega) (show p - 1 < Y.length by have := HL.out; omega)
            omega) (fun a ha => by
          obtain ⟨k, k1, k2, rfl⟩ := mem_drop_get (0, 0) ha
          rcases HPQ.out.2 with h0 | h0
          · omega
          · have := srt_get HS.out (0, 0) k1 k2
            omega)
        rw [List.take_append_drop] at e
        exact e)
      obtain ⟨e, he⟩ : ∃ e, a + p = e := ⟨_, rfl⟩
      have he1 : (j : Int) - 1 = (e : Int) := by have := HP.out; have := HIJ.out; omega
      have hez : (e : Int) ≤ 2097152 := by have := HP.out; have := HL.out; omega
      have HE := hid he
      have HR1 := HROW
      have HU1 := HUP
      clear hi hj hp hq hpq hqy hlt he
      go_wp2_with fail
      go_loopw [13] (fun k wr => ∃ t : Nat, t ≤ p ∧ k = .int .i64 ((a + t : Nat) : Int) ∧ RowP wr g n (goI P Y x Q t) ∧ Upd g w wr) (fun k _ => e - (intOf k).toNat)
      case atStart => exact ⟨0, Nat.zero_le _, rfl, HR1.out, HU1.out⟩
      case round =>
        obtain ⟨t, ht, rfl, hrow, hu⟩ := hrel
        have HROW := hid hrow
        have HU := hid hu
        clear hrow hu
        obtain ⟨u, hu⟩ : ∃ u, a + t = u := ⟨_, rfl⟩
        rw [hu]
        by_cases htp : t < p
        · have HST := hid (goI_up (0, 0) P Y x Q (t := t) (by have := HL.out; omega))
          rw [HP.out.1, hu] at HST
          obtain ⟨v, hv⟩ : ∃ v, u + 1 = v := ⟨_, rfl⟩
          rw [hv] at HST
          have hun : u < n := by have := HP.out; have := HL.out; omega
          have hvn : v < n := by have := HP.out; have := HL.out; omega
          obtain ⟨k1, k2, k3, k4⟩ := HROW.out.at_ hun
          obtain ⟨k5, k6, k7, k8⟩ := HROW.out.at_ hvn
          obtain ⟨x1, hx1⟩ : ∃ x1, (goI P Y x Q t).getD u (0, 0) = x1 := ⟨_, rfl⟩
          obtain ⟨y1, hy1⟩ : ∃ y1, (goI P Y x Q t).getD v (0, 0) = y1 := ⟨_, rfl⟩
          rw [hx1] at k1 k3
          rw [hy1] at k5 k7
          have HSW := hid (HROW.out.swap hun hvn)
          rw [hx1, hy1, HST.out] at HSW
          have hue : (u : Int) < (e : Int) := by have := HE.out; omega
          have hau : (u : Int) + 1 = (v : Int) := by omega
          have hwv : IntKind.i64.wrap (v : Int) = (v : Int) := by rw [IntKind.wrap_i64]; omega
          have hunz : (u : Int) < (n : Int) := by omega
          have hvnz : (v : Int) < (n : Int) := by omega
          have huv : u ≠ v := by omega
          obtain ⟨k9, k10, k11⟩ := far_two huv k5 k7
          have HTT := hid (And.intro htp (And.intro hu hv))
          clear hx1 hy1 hu hv hun hvn ht htp HST
          go_wp2_with fail
          go_region
          go_wp2_with fail
          go_roundw
          case rel => exact ⟨t + 1, by have := HTT.out; omega, by have := HTT.out; congr 1; omega, HSW.out, (HU.out.swap _ _ _ _ _ _ _ _).drewN _⟩
          case measure => have := HTT.out; have := HE.out; simp [intOf]; omega
        · have htp2 : t = p := by omega
          subst htp2
          have hue : u = e := by have := HE.out; omega
          subst hue
          clear hu ht htp
          go_wp2_with fail
          refine bodyPost_ret (results_none (by rfl) _ _ _) rfl ?_
          refine ⟨⟨_, rfl⟩, ?_, HU.out⟩
          rw [HSM.out]
          have := HROW.out
          unfold goI at this
          simpa [List.append_assoc] using this
end Go.Proofs.Ytbloipnpgncjiaa
