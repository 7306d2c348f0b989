/- slices.stableCmpFunc and SortStableFunc of points, of any length: the stable sort. -/
import Derived.Test.YtbloipnpgncjiaaPSymC
import Derived.Test.YtbloipnpgncjiaaSegL
set_option linter.unusedSimpArgs false
namespace Go.Proofs.Ytbloipnpgncjiaa
open Go.RowKit

theorem seg_nanP {xs : List (Nat × Nat)} (hx : ∀ y ∈ xs, Fl.nan .f32 y.1 = false) (i k : Nat) : ∀ y ∈ seg xs i k, Fl.nan .f32 y.1 = false := fun y hy => hx y (seg_mem hy)
/-- the insertion sort of a stretch -/
theorem insPN_any (g n c a b k : Nat) (L : List (Nat × Nat)) (hk : a + k = b) (hb : b ≤ n) (hx : ∀ y ∈ seg L a k, Fl.nan .f32 y.1 = false) (w : World) (hr : RowP w g n L) (hn : n ≤ 1100000) :
    Calls Try.prog 125 #[.slice (some ⟨g, 0, none⟩) n c, .int .i64 a, .int .i64 b, fnP] w fun e w' => (∃ v, e = .returned v) ∧ RowP w' g n (L.take a ++ msort kyP (seg L a k) ++ L.drop (a + k)) ∧ Upd g w w' := by
  have hl : L.length = n := hr.1
  have h := insP_any g n c (L.take a) (seg L a k) (L.drop (a + k)) hx w (by rw [seg_cut]; exact hr) hn
  rw [isortP_eq hx, seg_len (by omega), show (L.take a).length = a by rw [List.length_take]; omega, hk] at h
  rw [hk]
  exact h
/-- the merge of two stretches -/
theorem symN_any (g n c a m b k l : Nat) (L : List (Nat × Nat)) (hk : a + k = m) (hl : m + l = b) (hb : b ≤ n) (k0 : 0 < k) (l0 : 0 < l) (hx : ∀ y ∈ seg L a k, Fl.nan .f32 y.1 = false) (hy : ∀ y ∈ seg L m l, Fl.nan .f32 y.1 = false) (sx : Srt kyP (seg L a k)) (sy : Srt kyP (seg L m l)) (w : World) (hr : RowP w g n L) (hn : n ≤ 2097152) :
    Calls Try.prog 126 #[.slice (some ⟨g, 0, none⟩) n c, .int .i64 a, .int .i64 m, .int .i64 b, fnP] w fun e w' => (∃ v, e = .returned v) ∧ RowP w' g n (L.take a ++ smerge kyP (seg L a k) (seg L m l) ++ L.drop b) ∧ Upd g w w' := by
  have hll : L.length = n := hr.1
  have l1 : (L.take a).length = a := by rw [List.length_take]; omega
  have l2 := seg_len (L := L) (i := a) (k := k) (by omega)
  have l3 := seg_len (L := L) (i := m) (k := l) (by omega)
  have e : L.take a ++ seg L a k ++ seg L m l ++ L.drop b = L := by
    have h := seg_cut L a (k + l)
    rw [seg_two, hk, show a + (k + l) = b by omega] at h
    simpa only [List.append_assoc] using h
  exact sym_call (sym_any g n c hn _ (L.take a) (seg L a k) (seg L m l) (L.drop b) w (Nat.le_refl _) (by omega) (by omega) hx hy sx sy (by rw [e]; exact hr)) l1 (by omega) (by omega)

set_option maxRecDepth 20000 in
set_option maxHeartbeats 8000000 in
theorem stabP_any (g n c : Nat) (xs : List (Nat × Nat)) (hx : ∀ x ∈ xs, Fl.nan .f32 x.1 = false) (w : World) (hr : RowP w g n xs) (hn : n ≤ 1100000) :
    Calls Try.prog 109 #[.slice (some ⟨g, 0, none⟩) n c, .int .i64 (n : Int), fnP] w fun e w' => (∃ v, e = .returned v) ∧ RowP w' g n (msort kyP xs) ∧ Upd g w w' := by
  have HR := hid hr
  have HL := hid (show xs.length = n from hr.1)
  have HX := hid hx
  have hnz : (n : Int) ≤ 1100000 := by omega
  clear hr hx
  go_enter Try.func109, Try.ntmps109
  go_wp2_with fail
  go_loopw [7, 8] (fun a b wr => ∃ (i : Nat) (L : List (Nat × Nat)), a = .int .i64 i ∧ b = .int .i64 ((i + 20 : Nat) : Int) ∧ i ≤ n ∧ Blk0 kyP xs 20 i L ∧ RowP wr g n L ∧ Upd g w wr) (fun _ b _ => n + 40 - (intOf b).toNat)
  case atStart => exact ⟨0, xs, rfl, rfl, Nat.zero_le _, Blk0.start xs 20, HR.out, Upd.refl _ _⟩
  case round =>
    obtain ⟨i, L, rfl, rfl, hin, hblk, hrow, hu⟩ := hrel
    obtain ⟨b, hb⟩ : ∃ b, i + 20 = b := ⟨_, rfl⟩
    rw [hb]
    have HB := hid hb
    have HBLK := hid hblk
    have HROW := hid hrow
    have HU := hid hu
    clear hb hblk hrow hu
    by_cases hlt : b ≤ n
    · have hbz : (b : Int) ≤ (n : Int) := by omega
      have HC := hid (insPN_any g n c i b 20 L HB.out hlt (by
        intro y hy
        have h4 := HBLK.out.2.2.2
        unfold seg at hy
        rw [h4] at hy
        exact HX.out y (List.mem_of_mem_drop (List.mem_of_mem_take hy))) wr HROW.out hn)
      have HST := hid (HBLK.out.step (by have := HB.out; have := HL.out; omega))
      have HLT := hid hlt
      clear hlt hin
      go_wp2_with fail
      refine HC.out.mono ?_
      rintro e w1 ⟨⟨v, rfl⟩, hr1, hu1⟩
      have HR1 := hid hr1
      have HU1 := hid (HU.out.trans hu1)
      clear hr1 hu1
      go_wp2_with fail
      go_roundw
      case rel => exact ⟨b, _, rfl, by go_num, HLT.out, by have := HST.out; rw [HB.out] at this; exact this, by have := HR1.out; rw [HB.out] at this; exact this, HU1.out⟩
      case measure => have := HB.out; have := HLT.out; simp [intOf]; omega
    · have hbz : ¬ ((b : Int) ≤ (n : Int)) := by omega
      obtain ⟨k, hk⟩ : ∃ k, n - i = k := ⟨_, rfl⟩
      have HC := hid (insPN_any g n c i n k L (by omega) (Nat.le_refl _) (by
        intro y hy
        have h4 := HBLK.out.2.2.2
        unfold seg at hy
        rw [h4] at hy
        exact HX.out y (List.mem_of_mem_drop (List.mem_of_mem_take hy))) wr HROW.out hn)
      have HST := hid (HBLK.out.last (by have := HB.out; have := HL.out; omega) (by have := HL.out; omega))
      have HDR := hid (show L.drop (i + k) = [] from List.drop_of_length_le (by have := HBLK.out.1; have := HL.out; omega))
      rw [HL.out, hk] at HST
      clear hlt hin hk
      go_wp2_with fail
      refine HC.out.mono ?_
      rintro e w1 ⟨⟨v, rfl⟩, hr1, hu1⟩
      rw [HDR.out] at hr1
      have HR1 := hid hr1
      have HU1 := hid (HU.out.trans hu1)
      clear hr1 hu1
      go_wp2_with fail
      go_loopw [6, 7, 8, 9] (fun s _ _ _ wr => ∃ (bs : Nat) (L : List (Nat × Nat)), s = .int .i64 bs ∧ 0 < bs ∧ bs ≤ 2200000 ∧ Blk kyP xs bs L ∧ RowP wr g n L ∧ Upd g w wr) (fun s _ _ _ _ => n - (intOf s).toNat)
      case atStart => exact ⟨20, _, rfl, by decide, by decide, HST.out, HR1.out, HU1.out⟩
      case round =>
        obtain ⟨bs, L2, rfl, hbs0, hbsz, hblk, hrow, hu⟩ := hrel
        have HBLK := hid hblk
        have HROW := hid hrow
        have HU := hid hu
        clear hblk hrow hu
        by_cases hlt : bs < n
        · have hbsn : (bs : Int) < (n : Int) := by omega
          have hb0 : (0 : Int) < (bs : Int) := by omega
          have HBS := hid (And.intro hbs0 hlt)
          obtain ⟨b2, hb2⟩ : ∃ b2, 2 * bs = b2 := ⟨_, rfl⟩
          have hb2z : (2 : Int) * (bs : Int) = (b2 : Int) := by omega
          have hb2z' : (bs : Int) * 2 = (b2 : Int) := by omega
          have hb2n : (b2 : Int) ≤ 2200000 := by omega
          have HB2 := hid hb2
          clear hbs0 hlt hb2 hbsz
          go_wp2_with fail
          go_loopw [7, 8] (fun a b wr => ∃ (i : Nat) (L : List (Nat × Nat)), a = .int .i64 i ∧ b = .int .i64 ((i + b2 : Nat) : Int) ∧ i ≤ n ∧ Blk2 kyP xs bs i L ∧ RowP wr g n L ∧ Upd g w wr) (fun _ b _ => n + 2 * b2 - (intOf b).toNat)
          case atStart => exact ⟨0, L2, rfl, by rw [Nat.zero_add], Nat.zero_le _, Blk2.start HBLK.out, HROW.out, HU.out⟩
          case round =>
            obtain ⟨i, L3, rfl, rfl, hin, hblk, hrow, hu⟩ := hrel
            obtain ⟨b, hb⟩ : ∃ b, i + b2 = b := ⟨_, rfl⟩
            rw [hb]
            have HB := hid hb
            have HBLK := hid hblk
            have HROW := hid hrow
            have HU := hid hu
            obtain ⟨m, hm⟩ : ∃ m, i + bs = m := ⟨_, rfl⟩
            have hmz : (i : Int) + (bs : Int) = (m : Int) := by omega
            have hmz2 : (m : Int) ≤ 2200000 := by omega
            have hwm : IntKind.i64.wrap (m : Int) = (m : Int) := by rw [IntKind.wrap_i64]; omega
            have HM := hid hm
            have HP := hid hblk.parts
            have HIN := hid hin
            clear hb hblk hrow hu hm hin
            by_cases hlt : b ≤ n
            · have hbz : (b : Int) ≤ (n : Int) := by omega
              have HC := hid (symN_any g n c i m b bs bs L3 HM.out (by have := HM.out; have := HB.out; have := HB2.out; omega) hlt HBS.out.1 HBS.out.1 (by rw [HP.out.1]; intro y hy; exact seg_nanP HX.out _ _ y (msort_mem.1 hy)) (by rw [← HM.out, HP.out.2]; intro y hy; exact seg_nanP HX.out _ _ y (msort_mem.1 hy)) (by rw [HP.out.1]; exact srt_msort _) (by rw [← HM.out, HP.out.2]; exact srt_msort _) wr HROW.out (by omega))
              have HST := hid (HBLK.out.step (by have := HB.out; have := HB2.out; have := HL.out; omega))
              rw [HM.out, HB2.out, HB.out] at HST
              have HLT := hid hlt
              clear hlt
              go_wp2_with fail
              refine HC.out.mono ?_
              rintro e w2 ⟨⟨v, rfl⟩, hr2, hu2⟩
              have HR2 := hid hr2
              have HU2 := hid (HU.out.trans hu2)
              clear hr2 hu2
              go_wp2_with fail
              go_roundw
              case rel => exact ⟨b, _, rfl, by go_num, HLT.out, HST.out, HR2.out, HU2.out⟩
              case measure => have := HB.out; have := HLT.out; have := HBS.out; have := HB2.out; simp [intOf]; omega
            · have hbz : ¬ ((b : Int) ≤ (n : Int)) := by omega
              by_cases hmn : m < n
              · have hmnz : (m : Int) < (n : Int) := by omega
                obtain ⟨l, hl⟩ : ∃ l, n - m = l := ⟨_, rfl⟩
                have he0 : seg L3 m l = seg L3 m bs := by
                  have := HBLK.out.1
                  have := HL.out
                  have := HB.out
                  have := HM.out
                  have := HB2.out
                  rw [seg_end (by omega), seg_end (by omega)]
                have HC := hid (symN_any g n c i m n bs l L3 HM.out (by omega) (Nat.le_refl _) HBS.out.1 (by omega) (by rw [HP.out.1]; intro y hy; exact seg_nanP HX.out _ _ y (msort_mem.1 hy)) (by rw [he0, ← HM.out, HP.out.2]; intro y hy; exact seg_nanP HX.out _ _ y (msort_mem.1 hy)) (by rw [HP.out.1]; exact srt_msort _) (by rw [he0, ← HM.out, HP.out.2]; exact srt_msort _) wr HROW.out (by omega))
                have HST := hid (HBLK.out.last (by have := HB.out; have := HB2.out; have := HL.out; omega) (by have := HM.out; have := HL.out; omega))
                rw [HM.out, HB2.out, HL.out, hl] at HST
                have HDR := hid (show L3.drop n = [] from List.drop_of_length_le (by have := HBLK.out.1; have := HL.out; omega))
                clear hlt hmn hl he0
                go_wp2_with fail
                refine HC.out.mono ?_
                rintro e w2 ⟨⟨v, rfl⟩, hr2, hu2⟩
                rw [HDR.out] at hr2
                have HR2 := hid hr2
                have HU2 := hid (HU.out.trans hu2)
                clear hr2 hu2
                go_wp2_with fail
                go_roundw
                case rel => exact ⟨b2, _, rfl, by have := HBS.out; have := HB2.out; omega, by omega, HST.out, HR2.out, HU2.out⟩
                case measure => have := HBS.out; have := HB2.out; simp [intOf]; omega
              · have hmnz : ¬ ((m : Int) < (n : Int)) := by omega
                have HST := hid (HBLK.out.none (by have := HM.out; have := HL.out; omega))
                rw [HB2.out] at HST
                clear hlt hmn
                go_wp2_with fail
                go_roundw
                case rel => exact ⟨b2, _, rfl, by have := HBS.out; have := HB2.out; omega, by omega, HST.out, HROW.out, HU.out⟩
                case measure => have := HBS.out; have := HB2.out; simp [intOf]; omega
        · have hbsn : ¬ ((bs : Int) < (n : Int)) := by omega
          have HALL := hid (HBLK.out.all (by have := HL.out; omega))
          clear hbs0 hlt
          go_wp2_with fail
          go_end0
          exact ⟨⟨_, rfl⟩, by rw [← HALL.out]; exact HROW.out, HU.out⟩

set_option maxHeartbeats 1000000 in
theorem sortPG_any (g n c : Nat) (xs : List (Nat × Nat)) (hx : ∀ x ∈ xs, Fl.nan .f32 x.1 = false) (w : World) (hr : RowP w g n xs) (hn : n ≤ 1100000) :
    Calls Try.prog 74 #[.slice (some ⟨g, 0, none⟩) n c, fnP] w fun e w' => (∃ v, e = .returned v) ∧ RowP w' g n (isortP xs) ∧ Upd g w w' := by
  have HC := hid (stabP_any g n c xs hx w hr hn)
  have HE := hid (isortP_eq hx)
  clear hr
  go_enter Try.func74, Try.ntmps74
  go_wp2_with fail
  refine HC.out.mono ?_
  rintro e w1 ⟨⟨v, rfl⟩, hr1, hu1⟩
  have HR1 := hid hr1
  have HU1 := hid hu1
  clear hr1 hu1
  go_wp2_with fail
  go_end0
  exact ⟨⟨_, rfl⟩, by rw [HE.out]; exact HR1.out, HU1.out⟩
end Go.Proofs.Ytbloipnpgncjiaa
