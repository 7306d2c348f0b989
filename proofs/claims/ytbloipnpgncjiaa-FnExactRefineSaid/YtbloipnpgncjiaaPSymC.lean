/- slices.symMergeCmpFunc of points: both parts have more than one element; the whole. -/
import Derived.Test.YtbloipnpgncjiaaPSymB
set_option linter.unusedSimpArgs false
namespace Go.Proofs.Ytbloipnpgncjiaa
open Go.RowKit

section
variable {α : Type} {P X Y Q : List α} (d : α)
theorem part_x {i : Nat} (h1 : P.length ≤ i) (h2 : i < P.length + X.length) : (P ++ X ++ Y ++ Q).getD i d = X.getD (i - P.length) d := by
  simp only [List.getD]
  rw [List.getElem?_append_left (by simp only [List.length_append]; omega), List.getElem?_append_left (by simp only [List.length_append]; omega), List.getElem?_append_right h1]
theorem part_y {i : Nat} (h1 : P.length + X.length ≤ i) (h2 : i < P.length + X.length + Y.length) : (P ++ X ++ Y ++ Q).getD i d = Y.getD (i - (P.length + X.length)) d := by
  simp only [List.getD]
  rw [List.getElem?_append_left (by simp only [List.length_append]; omega), List.getElem?_append_right (by simp only [List.length_append]; omega), List.length_append]
end
theorem sym_call {g n c a m b : Nat} {P X Y Q : List (Nat × Nat)} {w : World} (h : SymOk g n c P X Y Q w) (ha : P.length = a) (hm : P.length + X.length = m) (hb : P.length + X.length + Y.length = b) :
    Calls Try.prog 126 #[.slice (some ⟨g, 0, none⟩) n c, .int .i64 a, .int .i64 m, .int .i64 b, fnP] w fun e w' => (∃ v, e = .returned v) ∧ RowP w' g n (P ++ smerge kyP X Y ++ Q) ∧ Upd g w w' := by
  unfold SymOk at h
  rw [hb, hm, ha] at h
  exact h
/-- the two lists cut at a place that a search has found -/
theorem sym_cut {P X Y Q : List (Nat × Nat)} {a m b s lo hi st : Nat} (ha : P.length = a) (hm : P.length + X.length = m) (hb : P.length + X.length + Y.length = b) (hX : Srt kyP X) (hY : Srt kyP Y)
    (f1 : a ≤ lo) (f2 : hi ≤ m) (f3 : s ≤ b + lo) (f4 : m + hi ≤ s) (f5 : lo = a ∨ s = b + lo) (f6 : hi = m ∨ s = m + hi) (l1 : lo ≤ st) (l2 : st ≤ hi)
    (h1 : st = lo ∨ kyP ((P ++ X ++ Y ++ Q).getD (st - 1) (0, 0)) ≤ kyP ((P ++ X ++ Y ++ Q).getD (s - st) (0, 0)))
    (h2 : st = hi ∨ kyP ((P ++ X ++ Y ++ Q).getD (s - 1 - st) (0, 0)) < kyP ((P ++ X ++ Y ++ Q).getD st (0, 0))) :
    smerge kyP X Y = smerge kyP (X.take (st - a)) (Y.take (s - st - m)) ++ smerge kyP (X.drop (st - a)) (Y.drop (s - st - m)) := by
  refine sym_split hX hY (0, 0) (by omega) (by omega) ?_ ?_
  · rcases h1 with h | h
    · rcases f5 with e | e
      · exact .inl (by omega)
      · exact .inr (.inl (by omega))
    · by_cases hs : st = lo
      · rcases f5 with e | e
        · exact .inl (by omega)
        · exact .inr (.inl (by omega))
      · rw [part_x (0, 0) (by omega) (by omega), part_y (0, 0) (by omega) (by omega)] at h
        refine .inr (.inr ?_)
        rw [show st - a - 1 = st - 1 - P.length by omega, show s - st - m = s - st - (P.length + X.length) by omega]
        exact h
  · rcases h2 with h | h
    · rcases f6 with e | e
      · exact .inl (by omega)
      · exact .inr (.inl (by omega))
    · by_cases hs : st = hi
      · rcases f6 with e | e
        · exact .inl (by omega)
        · exact .inr (.inl (by omega))
      · rw [part_y (0, 0) (i := s - 1 - st) (by omega) (by omega), part_x (0, 0) (i := st) (by omega) (by omega)] at h
        refine .inr (.inr ?_)
        rw [show s - st - m - 1 = s - 1 - st - (P.length + X.length) by omega, show st - a = st - P.length by omega]
        exact h

set_option maxRecDepth 20000 in
set_option maxHeartbeats 8000000 in
theorem symC_any (g n c : Nat) (P X Y Q : List (Nat × Nat)) (hX0 : 2 ≤ X.length) (hY0 : 2 ≤ Y.length) (hx : ∀ x ∈ X, Fl.nan .f32 x.1 = false) (hy : ∀ y ∈ Y, Fl.nan .f32 y.1 = false) (hX : Srt kyP X) (hY : Srt kyP Y) (w : World) (hr : RowP w g n (P ++ X ++ Y ++ Q)) (hn : n ≤ 2097152)
    (ih : ∀ (P' X' Y' Q' : List (Nat × Nat)) (w' : World), X'.length + Y'.length < X.length + Y.length → 0 < X'.length → 0 < Y'.length → (∀ x ∈ X', Fl.nan .f32 x.1 = false) → (∀ y ∈ Y', Fl.nan .f32 y.1 = false) → Srt kyP X' → Srt kyP Y' → RowP w' g n (P' ++ X' ++ Y' ++ Q') → SymOk g n c P' X' Y' Q' w') :
    SymOk g n c P X Y Q w := by
  unfold SymOk
  have HR := hid hr
  have hlen : P.length + X.length + Y.length + Q.length = n := by have := hr.1; simp at this; omega
  obtain ⟨a, ha⟩ : ∃ a, P.length = a := ⟨_, rfl⟩
  obtain ⟨m, hm⟩ : ∃ m, P.length + X.length = m := ⟨_, rfl⟩
  obtain ⟨b, hb⟩ : ∃ b, P.length + X.length + Y.length = b := ⟨_, rfl⟩
  obtain ⟨mid, hmid⟩ : ∃ mid, (a + b) / 2 = mid := ⟨_, rfl⟩
  obtain ⟨s, hs⟩ : ∃ s, mid + m = s := ⟨_, rfl⟩
  rw [hb, hm, ha]
  have HP := hid (show P.length = a ∧ P.length + X.length = m ∧ P.length + X.length + Y.length = b ∧ b ≤ n ∧ mid + m = s ∧ a + b ≤ 2 * mid + 1 ∧ 2 * mid ≤ a + b ∧ a + 2 ≤ m ∧ m + 2 ≤ b by omega)
  have HX := hid hx
  have HY := hid hy
  have HSX := hid hX
  have HSY := hid hY
  have HIH := hid ih
  have ham1 : ((m : Int) - (a : Int) == 1) = false := by simp; omega
  have hmb1 : ((b : Int) - (m : Int) == 1) = false := by simp; omega
  have ham : ¬ ((m : Int) - (a : Int) = 1) := by omega
  have hmb : ¬ ((b : Int) - (m : Int) = 1) := by omega
  have hab : (a : Int) < (b : Int) := by omega
  have ham3 : (a : Int) < (m : Int) := by omega
  have hmb3 : (m : Int) < (b : Int) := by omega
  have hbz : (b : Int) ≤ 2097152 := by omega
  have hmidz : ((a : Int) + (b : Int)) / 2 = (mid : Int) := by omega
  have hmz : (mid : Int) < (b : Int) := by omega
  have hsz : (mid : Int) + (m : Int) = (s : Int) := by omega
  have hs4 : (s : Int) ≤ 4194304 := by omega
  clear hr ha hm hb hx hy hX hY ih hlen hmid hs
  -- the search's range
  obtain ⟨lo, hi, HF⟩ : ∃ lo hi : Nat, Hid ((mid < m → lo + b = s ∧ hi = mid) ∧ (m ≤ mid → lo = a ∧ hi = m) ∧ a ≤ lo ∧ hi ≤ m ∧ s ≤ b + lo ∧ m + hi ≤ s ∧ (lo = a ∨ s = b + lo) ∧ (hi = m ∨ s = m + hi) ∧ lo ≤ hi) := by
    have := HP.out
    by_cases h : mid < m
    · exact ⟨s - b, mid, hid ⟨fun _ => ⟨by omega, rfl⟩, fun h' => absurd h' (by omega), by omega, by omega, by omega, by omega, .inr (by omega), .inr (by omega), by omega⟩⟩
    · exact ⟨a, m, hid ⟨fun h' => absurd h' (by omega), fun _ => ⟨rfl, rfl⟩, by omega, by omega, by omega, by omega, .inl rfl, .inl rfl, by omega⟩⟩
  have hloz : (0 : Int) ≤ (lo : Int) := by omega
  have hhim : (hi : Int) ≤ (m : Int) := by have := HF.out; omega
  have hs1 : (1 : Int) ≤ (s : Int) := by omega
  by_cases hmm : mid < m
  case' pos =>
    have hmmz : (mid : Int) < (m : Int) := by omega
    have hlo : (s : Int) - (b : Int) = (lo : Int) := by have := (HF.out.1 hmm).1; omega
    have HLO := hid (show (lo : Int) = (lo : Int) ∧ (hi : Int) = (mid : Int) from ⟨rfl, by have := (HF.out.1 hmm).2; omega⟩)
  case' neg =>
    have hmmz : ¬ ((mid : Int) < (m : Int)) := by omega
    have HLO := hid (show (lo : Int) = (a : Int) ∧ (hi : Int) = (m : Int) from ⟨by have := (HF.out.2.1 (by omega)).1; omega, by have := (HF.out.2.1 (by omega)).2; omega⟩)
  all_goals
    clear hmm
    go_enter Try.func126, Try.ntmps126
    go_wp2_with fail
    go_loopw [20, 21, 23] (fun st rr _ wr => ∃ x y : Nat, lo ≤ x ∧ x ≤ y ∧ y ≤ hi ∧ st = .int .i64 x ∧ rr = .int .i64 y ∧ (x = lo ∨ kyP ((P ++ X ++ Y ++ Q).getD (x - 1) (0, 0)) ≤ kyP ((P ++ X ++ Y ++ Q).getD (s - x) (0, 0))) ∧ (y = hi ∨ kyP ((P ++ X ++ Y ++ Q).getD (s - 1 - y) (0, 0)) < kyP ((P ++ X ++ Y ++ Q).getD y (0, 0))) ∧ RowP wr g n (P ++ X ++ Y ++ Q) ∧ Upd g w wr) (fun st rr _ _ => (intOf rr).toNat - (intOf st).toNat)
    case atStart => exact ⟨lo, hi, Nat.le_refl _, HF.out.2.2.2.2.2.2.2.2, Nat.le_refl _, by first | rfl | rw [HLO.out.1], by first | rfl | rw [HLO.out.2], .inl rfl, .inl rfl, HR.out, Upd.refl _ _⟩
    case round =>
      obtain ⟨x, y, hlx, hxy, hyh, rfl, rfl, hx, hy, hrow, hup⟩ := hrel
      have HROW := hid hrow
      have HUP := hid hup
      have HXY := hid (And.intro hx hy)
      have HL := hid (And.intro hlx (And.intro hxy hyh))
      clear hrow hup hx hy
      by_cases hlt : x < y
      · have hxyz : (x : Int) < (y : Int) := by omega
        have hyz : (y : Int) ≤ 2097152 := by omega
        obtain ⟨e, he⟩ : ∃ e, (x + y) / 2 = e := ⟨_, rfl⟩
        have hez : ((x : Int) + (y : Int)) / 2 = (e : Int) := by omega
        obtain ⟨r, hr⟩ : ∃ r, s - 1 - e = r := ⟨_, rfl⟩
        have hre : r + e + 1 = s := by have := HF.out; have := HP.out; omega
        have hrz : (s : Int) - 1 - (e : Int) = (r : Int) := by omega
        have hel : x ≤ e ∧ e < y := by omega
        have HER := hid (And.intro hel hre)
        have hbe : a ≤ e ∧ e < m ∧ m ≤ r ∧ r < b := by have := HF.out; have := HP.out; omega
        have hen : e < n := by have := HP.out; omega
        have hrn : r < n := by have := HP.out; omega
        obtain ⟨u, hu⟩ : ∃ u, (P ++ X ++ Y ++ Q).getD e (0, 0) = u := ⟨_, rfl⟩
        obtain ⟨v, hv⟩ : ∃ v, (P ++ X ++ Y ++ Q).getD r (0, 0) = v := ⟨_, rfl⟩
        have hun : Fl.nan .f32 u.1 = false := by
          rw [← hu, part_x (0, 0) (by have := HP.out; omega) (by have := HP.out; omega)]
          exact nan_get HX.out (by have := HP.out; omega)
        have hvn : Fl.nan .f32 v.1 = false := by
          rw [← hv, part_y (0, 0) (by have := HP.out; omega) (by have := HP.out; omega)]
          exact nan_get HY.out (by have := HP.out; omega)
        obtain ⟨k1, k2⟩ := HROW.out.atG hen hu
        obtain ⟨k3, k4⟩ := HROW.out.atG hrn hv
        have HU := hid hun
        have HV := hid hvn
        have HUV := hid (And.intro hu hv)
        have henz : (e : Int) < (n : Int) := by omega
        have hrnz : (r : Int) < (n : Int) := by omega
        have hwe : IntKind.i64.wrap (e : Int) = (e : Int) := by rw [IntKind.wrap_i64]; omega
        have hwr : IntKind.i64.wrap (r : Int) = (r : Int) := by rw [IntKind.wrap_i64]; omega
        clear hlx hxy hyh he hr hre hel hbe hen hrn hu hv hun hvn hlt
        by_cases hlt2 : cmpI v.1 u.1 < 0
        · have HLT := hid ((lt_kyP HV.out HU.out).1 hlt2)
          have hd : decide (cmpI v.1 u.1 < 0) = true := decide_eq_true hlt2
          go_wp2_with fail
          have mixed : Try.prog.follows .mixedOrders = true := by kernel_rfl
          go_quiet_grown (first | (refine Calls.grown_of (cmpP_any v u HV.out HU.out _)))
          go_wp2_with fail
          go_roundw
          case rel =>
            refine ⟨x, e, HL.out.1, HER.out.1.1, by have := HER.out; have := HL.out; omega, rfl, rfl, HXY.out.1, .inr ?_, HROW.out.grown nq osq, HUP.out.grown (Nat.le_of_lt HROW.out.2.1) nq osq⟩
            rw [show s - 1 - e = r by have := HER.out; omega, HUV.out.1, HUV.out.2]; exact HLT.out
          case measure => have := HER.out; simp [intOf]; omega
        · have HLT := hid (show kyP u ≤ kyP v by have := mt (lt_kyP HV.out HU.out).2 hlt2; omega)
          have hd : decide (cmpI v.1 u.1 < 0) = false := decide_eq_false hlt2
          go_wp2_with fail
          have mixed : Try.prog.follows .mixedOrders = true := by kernel_rfl
          go_quiet_grown (first | (refine Calls.grown_of (cmpP_any v u HV.out HU.out _)))
          go_wp2_with fail
          go_roundw
          case rel =>
            refine ⟨e + 1, y, by have := HER.out; have := HL.out; omega, by have := HER.out; omega, HL.out.2.2, by go_num, rfl, .inr ?_, HXY.out.2, HROW.out.grown nq osq, HUP.out.grown (Nat.le_of_lt HROW.out.2.1) nq osq⟩
            rw [show e + 1 - 1 = e by omega, show s - (e + 1) = r by have := HER.out; omega, HUV.out.1, HUV.out.2]; exact HLT.out
          case measure => have := HER.out; simp [intOf]; omega
      · have hxy2 : y = x := by omega
        subst hxy2
        have HCUT := hid (sym_cut HP.out.1 HP.out.2.1 HP.out.2.2.1 HSX.out HSY.out HF.out.2.2.1 HF.out.2.2.2.1 HF.out.2.2.2.2.1 HF.out.2.2.2.2.2.1 HF.out.2.2.2.2.2.2.1 HF.out.2.2.2.2.2.2.2.1 HL.out.1 HL.out.2.2 HXY.out.1 HXY.out.2)
        obtain ⟨en, hen⟩ : ∃ en, s - y = en := ⟨_, rfl⟩
        obtain ⟨X1, hX1⟩ : ∃ X1, X.take (y - a) = X1 := ⟨_, rfl⟩
        obtain ⟨X2, hX2⟩ : ∃ X2, X.drop (y - a) = X2 := ⟨_, rfl⟩
        obtain ⟨Y1, hY1⟩ : ∃ Y1, Y.take (s - y - m) = Y1 := ⟨_, rfl⟩
        obtain ⟨Y2, hY2⟩ : ∃ Y2, Y.drop (s - y - m) = Y2 := ⟨_, rfl⟩
        rw [hX1, hX2, hY1, hY2] at HCUT
        have hb1 : a ≤ y ∧ y ≤ m ∧ m ≤ en ∧ en ≤ b ∧ en + y = s := by have := HF.out; have := HL.out; have := HP.out; omega
        have HD := hid (show X1 ++ X2 = X ∧ Y1 ++ Y2 = Y ∧ X1.length = y - a ∧ X2.length = m - y ∧ Y1.length = en - m ∧ Y2.length = b - en from by
          have := HP.out
          refine ⟨by rw [← hX1, ← hX2]; exact List.take_append_drop _ _, by rw [← hY1, ← hY2]; exact List.take_append_drop _ _, ?_, ?_, ?_, ?_⟩
          · rw [← hX1, List.length_take]; omega
          · rw [← hX2, List.length_drop]; omega
          · rw [← hY1, List.length_take]; omega
          · rw [← hY2, List.length_drop]; omega)
        have HN := hid (show (∀ z ∈ X1, Fl.nan .f32 z.1 = false) ∧ (∀ z ∈ X2, Fl.nan .f32 z.1 = false) ∧ (∀ z ∈ Y1, Fl.nan .f32 z.1 = false) ∧ (∀ z ∈ Y2, Fl.nan .f32 z.1 = false) from
          ⟨fun z hz => HX.out z (by rw [← HD.out.1]; exact List.mem_append_left _ hz), fun z hz => HX.out z (by rw [← HD.out.1]; exact List.mem_append_right _ hz), fun z hz => HY.out z (by rw [← HD.out.2.1]; exact List.mem_append_left _ hz), fun z hz => HY.out z (by rw [← HD.out.2.1]; exact List.mem_append_right _ hz)⟩)
        have HSS := hid (And.intro (srt_app (S := X1) (T := X2) (by rw [HD.out.1]; exact HSX.out)) (srt_app (S := Y1) (T := Y2) (by rw [HD.out.2.1]; exact HSY.out)))
        have HR0 := hid (show RowP wr g n ((P ++ X1) ++ X2 ++ Y1 ++ (Y2 ++ Q)) by
          have := HROW.out
          rw [← HD.out.1, ← HD.out.2.1] at this
          simpa only [List.append_assoc] using this)
        have HE := hid hb1
        have HU0 := HUP
        have henz : (s : Int) - (y : Int) = (en : Int) := by omega
        have henb : (en : Int) ≤ 2097152 := by omega
        have hwen : IntKind.i64.wrap (en : Int) = (en : Int) := by rw [IntKind.wrap_i64]; omega
        clear HROW HUP HR HXY hlx hxy hyh hlt hen hX1 hX2 hY1 hY2 hb1
        -- the rotation
        rcases (show (y < m ∧ m < en) ∨ (y < m ∧ ¬ m < en) ∨ ¬ y < m by omega) with h | h | h
        case' inl =>
          have hA : (y : Int) < (m : Int) := by omega
          have hB : (m : Int) < (en : Int) := by omega
          have HC := hid (rot_any g n c y m en (P ++ X1) X2 Y1 (Y2 ++ Q) (by rw [List.length_append]; have := HP.out; have := HD.out; have := HE.out; omega) (by rw [List.length_append]; have := HP.out; have := HD.out; have := HE.out; omega) (by rw [List.length_append]; have := HP.out; have := HD.out; have := HE.out; omega) (by have := HD.out; omega) (by have := HD.out; omega) wr HR0.out hn)
          have HH := hid h
          clear h
          go_wp2_with fail
          refine HC.out.mono ?_
          rintro e w2 ⟨⟨v, rfl⟩, hr2, hu2⟩
          have HR2 := hid (show RowP w2 g n (P ++ X1 ++ Y1 ++ (X2 ++ Y2 ++ Q)) by simpa only [List.append_assoc] using hr2)
          have HU2 := hid (HU0.out.trans hu2)
          clear hr2 hu2
        case' inr.inl =>
          have hA : (y : Int) < (m : Int) := by omega
          have hB : ¬ ((m : Int) < (en : Int)) := by omega
          have HR2 := hid (show RowP wr g n (P ++ X1 ++ Y1 ++ (X2 ++ Y2 ++ Q)) by
            have e : Y1 = [] := List.eq_nil_of_length_eq_zero (by have := HD.out; omega)
            have := HR0.out
            rw [e] at this ⊢
            simpa only [List.append_assoc, List.append_nil, List.nil_append] using this)
          have HU2 := HU0
          have HH := hid h
          clear h HR0 HU0
          generalize wr = w2 at HR2 HU2 ⊢
        case' inr.inr =>
          have hA : ¬ ((y : Int) < (m : Int)) := by omega
          have HR2 := hid (show RowP wr g n (P ++ X1 ++ Y1 ++ (X2 ++ Y2 ++ Q)) by
            have e : X2 = [] := List.eq_nil_of_length_eq_zero (by have := HD.out; omega)
            have := HR0.out
            rw [e] at this ⊢
            simpa only [List.append_assoc, List.append_nil, List.nil_append] using this)
          have HU2 := HU0
          have HH := hid h
          clear h HR0 HU0
          generalize wr = w2 at HR2 HU2 ⊢
        -- the first part
        all_goals
          rcases (show (a < y ∧ y < mid) ∨ (a < y ∧ ¬ y < mid) ∨ ¬ a < y by omega) with h | h | h
          all_goals
            first
            | (exfalso
               have := HH.out
               have := HE.out
               have := HP.out
               omega
               done)
            | (have HG : Hid (a < y ∧ y < mid) := hid h
               have hC : (a : Int) < (y : Int) := by omega
               have hD : (y : Int) < (mid : Int) := by omega
               have HC := hid (sym_call (HIH.out P X1 Y1 (X2 ++ Y2 ++ Q) w2 (by have := HD.out; have := HP.out; have := HE.out; omega) (by have := HD.out; omega) (by have := HD.out; have := HE.out; have := HP.out; omega) HN.out.1 HN.out.2.2.1 HSS.out.1.1 HSS.out.2.1 HR2.out) (a := a) (m := y) (b := mid) HP.out.1 (by have := HP.out; have := HD.out; have := HE.out; omega) (by have := HP.out; have := HD.out; have := HE.out; omega))
               clear h
               go_wp2_with fail
               refine HC.out.mono ?_
               rintro e w3 ⟨⟨v, rfl⟩, hr3, hu3⟩
               have HR3 := hid hr3
               have HU3 := hid (HU2.out.trans hu3)
               clear hr3 hu3)
            | (have HG : Hid (a < y ∧ ¬ y < mid) := hid h
               have hC : (a : Int) < (y : Int) := by omega
               have hD : ¬ ((y : Int) < (mid : Int)) := by omega
               have HR3 := hid (show RowP w2 g n (P ++ smerge kyP X1 Y1 ++ (X2 ++ Y2 ++ Q)) by
                 have e : Y1 = [] := List.eq_nil_of_length_eq_zero (by have := HD.out; have := HE.out; have := HP.out; omega)
                 have := HR2.out
                 rw [e] at this ⊢
                 rw [sm_right]
                 simpa only [List.append_assoc, List.append_nil, List.nil_append] using this)
               have HU3 := HU2
               clear h HR2 HU2
               generalize w2 = w3 at HR3 HU3 ⊢)
            | (have HG : Hid (¬ a < y) := hid h
               have hC : ¬ ((a : Int) < (y : Int)) := by omega
               have HR3 := hid (show RowP w2 g n (P ++ smerge kyP X1 Y1 ++ (X2 ++ Y2 ++ Q)) by
                 have e : X1 = [] := List.eq_nil_of_length_eq_zero (by have := HD.out; have := HE.out; have := HP.out; omega)
                 have := HR2.out
                 rw [e] at this ⊢
                 rw [sm_left]
                 simpa only [List.append_assoc, List.append_nil, List.nil_append] using this)
               have HU3 := HU2
               clear h HR2 HU2
               generalize w2 = w3 at HR3 HU3 ⊢)
        -- the second part
        all_goals
          have hP3 : (P ++ smerge kyP X1 Y1).length = mid := by
            rw [List.length_append, sm_len]
            have := HP.out
            have := HD.out
            have := HE.out
            omega
          have HP3 := hid hP3
          have HFIN := hid (show ∀ w4, RowP w4 g n ((P ++ smerge kyP X1 Y1) ++ smerge kyP X2 Y2 ++ Q) → RowP w4 g n (P ++ smerge kyP X Y ++ Q) from fun w4 h => by
            rw [HCUT.out]
            simpa only [List.append_assoc] using h)
          clear hP3
          rcases (show (mid < en ∧ en < b) ∨ (mid < en ∧ ¬ en < b) ∨ ¬ mid < en by omega) with h | h | h
          all_goals
            first
            | (exfalso
               have := HH.out
               have := HG.out
               have := HE.out
               have := HP.out
               omega
               done)
            | (have HI : Hid (mid < en ∧ en < b) := hid h
               have hE : (mid : Int) < (en : Int) := by omega
               have hF : (en : Int) < (b : Int) := by omega
               have HC := hid (sym_call (HIH.out (P ++ smerge kyP X1 Y1) X2 Y2 Q w3 (by have := HD.out; have := HP.out; have := HE.out; omega) (by have := HD.out; have := HE.out; have := HP.out; omega) (by have := HD.out; omega) HN.out.2.1 HN.out.2.2.2 HSS.out.1.2 HSS.out.2.2 (by simpa only [List.append_assoc] using HR3.out)) (a := mid) (m := en) (b := b) HP3.out (by have := HP3.out; have := HP.out; have := HD.out; have := HE.out; omega) (by have := HP3.out; have := HP.out; have := HD.out; have := HE.out; omega))
               clear h
               go_wp2_with fail
               refine HC.out.mono ?_
               rintro e w4 ⟨⟨v, rfl⟩, hr4, hu4⟩
               have HR4 := hid hr4
               have HU4 := hid (HU3.out.trans hu4)
               clear hr4 hu4
               go_wp2_with fail
               go_end0
               exact ⟨⟨_, rfl⟩, by simpa only [List.append_assoc] using HFIN.out _ HR4.out, HU4.out⟩)
            | (have HI : Hid (mid < en ∧ ¬ en < b) := hid h
               have hE : (mid : Int) < (en : Int) := by omega
               have hF : ¬ ((en : Int) < (b : Int)) := by omega
               have HR4 := hid (show RowP w3 g n ((P ++ smerge kyP X1 Y1) ++ smerge kyP X2 Y2 ++ Q) by
                 have e : Y2 = [] := List.eq_nil_of_length_eq_zero (by have := HD.out; have := HE.out; have := HP.out; omega)
                 have := HR3.out
                 rw [e] at this ⊢
                 rw [sm_right]
                 simpa only [List.append_assoc, List.append_nil, List.nil_append] using this)
               clear h
               go_wp2_with fail
               go_end0
               exact ⟨⟨_, rfl⟩, by simpa only [List.append_assoc] using HFIN.out _ HR4.out, HU3.out⟩)
            | (have HI : Hid (¬ mid < en) := hid h
               have hE : ¬ ((mid : Int) < (en : Int)) := by omega
               have HR4 := hid (show RowP w3 g n ((P ++ smerge kyP X1 Y1) ++ smerge kyP X2 Y2 ++ Q) by
                 have e : X2 = [] := List.eq_nil_of_length_eq_zero (by have := HD.out; have := HE.out; have := HP.out; omega)
                 have := HR3.out
                 rw [e] at this ⊢
                 rw [sm_left]
                 simpa only [List.append_assoc, List.append_nil, List.nil_append] using this)
               clear h
               go_wp2_with fail
               go_end0
               exact ⟨⟨_, rfl⟩, by simpa only [List.append_assoc] using HFIN.out _ HR4.out, HU3.out⟩)

theorem sym_any (g n c : Nat) (hn : n ≤ 2097152) : ∀ (N : Nat) (P X Y Q : List (Nat × Nat)) (w : World), X.length + Y.length ≤ N → 0 < X.length → 0 < Y.length → (∀ x ∈ X, Fl.nan .f32 x.1 = false) → (∀ y ∈ Y, Fl.nan .f32 y.1 = false) → Srt kyP X → Srt kyP Y → RowP w g n (P ++ X ++ Y ++ Q) → SymOk g n c P X Y Q w
  | 0, P, X, Y, Q, w, h, h1, _, _, _, _, _, _ => absurd h1 (by omega)
  | N + 1, P, X, Y, Q, w, h, h1, h2, hx, hy, hX, hY, hr => by
    by_cases e1 : X.length = 1
    · obtain ⟨x, rfl⟩ := List.length_eq_one_iff.1 e1
      exact symA_any g n c P Y Q x h2 (hx x (List.mem_singleton.2 rfl)) hy hY w hr hn
    · by_cases e2 : Y.length = 1
      · obtain ⟨y, rfl⟩ := List.length_eq_one_iff.1 e2
        exact symB_any g n c P X Q y (by omega) (hy y (List.mem_singleton.2 rfl)) hx hX w hr hn
      · exact symC_any g n c P X Y Q (by omega) (by omega) hx hy hX hY w hr hn (fun P' X' Y' Q' w' h' a b d e f i j => sym_any g n c hn N P' X' Y' Q' w' (by omega) a b d e f i j)
end Go.Proofs.Ytbloipnpgncjiaa
