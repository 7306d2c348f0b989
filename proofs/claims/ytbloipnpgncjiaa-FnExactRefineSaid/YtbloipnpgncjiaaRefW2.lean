/- Refine of the program: what it returns. -/
import Derived.Test.YtbloipnpgncjiaaRefW
set_option linter.unusedSimpArgs false
namespace Go.Proofs.Ytbloipnpgncjiaa
open Go.RowKit

/-- the points after these numbers (the last one first) -/
def RefI (ps : List (Nat × Nat)) : List Nat → List (Nat × Nat) → Prop
  | [], out => out = ps
  | x :: xs, out => segIn ps x = true ∧ ∃ o, RefI ps xs o ∧ ((o.any (hasX x) = true ∧ out = o) ∨ (o.any (hasX x) = false ∧ ∃ y, Fl.Eqv .f32 y (interV ps x) ∧ out = o ++ [(x, y)]))
theorem RefI.len {ps : List (Nat × Nat)} : ∀ {xs : List Nat} {out : List (Nat × Nat)}, RefI ps xs out → ps.length ≤ out.length ∧ out.length ≤ ps.length + xs.length
  | [], out, h => by cases h; exact ⟨Nat.le_refl _, Nat.le_refl _⟩
  | x :: xs, out, h => by
    obtain ⟨_, o, ho, h⟩ := h
    have := RefI.len ho
    rcases h with ⟨_, rfl⟩ | ⟨_, y, _, rfl⟩
    · simp only [List.length_cons]; omega
    · simp only [List.length_cons, List.length_append, List.length_nil]; omega
theorem seg_nan {ps : List (Nat × Nat)} {x : Nat} (h : segIn ps x = true) : Fl.nan .f32 x = false := by
  unfold segIn at h
  simp only [Bool.and_eq_true] at h
  have := h.2.1
  rw [Fl.ge_ky] at this
  simp only [Bool.and_eq_true, Bool.not_eq_true'] at this
  exact this.1.1
theorem RefI.nan {ps : List (Nat × Nat)} (ht : tabOk ps = true) : ∀ {xs : List Nat} {out : List (Nat × Nat)}, RefI ps xs out → ∀ p ∈ out, Fl.nan .f32 p.1 = false
  | [], out, h, p, hp => by
    cases h
    obtain ⟨i, hi, rfl⟩ := List.getElem_of_mem hp
    have := tab_nan ht hi
    rwa [getD_at hi] at this
  | x :: xs, out, h, p, hp => by
    obtain ⟨hs, o, ho, h⟩ := h
    rcases h with ⟨_, rfl⟩ | ⟨_, y, _, rfl⟩
    · exact RefI.nan ht ho p hp
    · rcases List.mem_append.1 hp with hp | hp
      · exact RefI.nan ht ho p hp
      · rw [List.mem_singleton.1 hp]; exact seg_nan hs
theorem take_rev {xs : List Nat} {k : Nat} (hk : k < xs.length) : (xs.take (k + 1)).reverse = xs[k] :: (xs.take k).reverse := by
  rw [List.take_succ_eq_append_getElem hk, List.reverse_append]; rfl
theorem rowP_pts {w : World} {g n : Nat} {L : List (Nat × Nat)} (h : RowP w g n L) : Pts w w.heap.size (some ⟨g, 0, none⟩) L := by
  obtain ⟨hl, hr⟩ := h
  rw [← hl] at hr
  refine pts_row hr (fun j hj => ?_)
  rw [pcF_zero, pcF_one, getD_at hj]
  exact ⟨rfl, rfl⟩
theorem pts_rowP {w : World} {g : Nat} {L : List (Nat × Nat)} (h : Row w g (L.length * 2) (fun j => (pcells L).getD j undef)) : RowP w g L.length L := by
  refine ⟨rfl, h.congr (fun j hj => ?_)⟩
  have hk : j / 2 < L.length := by omega
  obtain ⟨h1, h2⟩ := pcells_get L hk
  unfold pcF
  rw [getD_at hk]
  rcases Nat.mod_two_eq_zero_or_one j with e | e
  · rw [show j / 2 * 2 = j by omega] at h1
    rw [if_pos e]
    simp [List.getD, h1]
  · rw [show j / 2 * 2 + 1 = j by omega] at h2
    rw [if_neg (by omega)]
    simp [List.getD, h2]
theorem tabN_impl (A : Option Addr) (c n : Nat) (ps : List (Nat × Nat)) (w : World) (hl : ps.length = n) (ha : Pts w w.heap.size A ps) (hn : ps.length ≤ 1048576) :
    Calls Try.prog 24 #[.slice A n c] w fun e w' => e = .returned (.bool (tabOk ps)) ∧ Below w.heap.size w w' := by subst hl; exact tab_impl A c ps w ha hn

/-- refined, or not -/
def RetRef (ps : List (Nat × Nat)) (xs : List Nat) (w : World) (e : Ending) (w' : World) : Prop :=
  ((e = .returned (.tuple #[.slice none 0 0, .bool false]) ∧ (tabOk ps = false ∨ (∃ x ∈ xs, segIn ps x = false) ∨ ∃ out, RefI ps xs.reverse out ∧ tabOk (msort kyP out) = false)) ∨
    (∃ out A c, tabOk ps = true ∧ RefI ps xs.reverse out ∧ tabOk (msort kyP out) = true ∧ e = .returned (.tuple #[.slice A out.length c, .bool true]) ∧ Pts w' w'.heap.size A (msort kyP out))) ∧ Below w.heap.size w w'

set_option maxRecDepth 20000 in
set_option maxHeartbeats 8000000 in
theorem refine_any (A B : Option Addr) (c d : Nat) (ps : List (Nat × Nat)) (xs : List Nat) (w : World) (ha : Pts w w.heap.size A ps) (hb : Sing w w.heap.size B xs) (hn : ps.length + xs.length ≤ 19) :
    Calls Try.prog 23 #[.slice A ps.length c, .slice B xs.length d] w (RetRef ps xs w) := by
  have HA := hid ha
  have HX := hid hb
  have hpz : (ps.length : Int) ≤ 1048576 := by omega
  have hxz : (xs.length : Int) ≤ 1048576 := by omega
  clear ha hb
  rcases Bool.eq_false_or_eq_true (tabOk ps) with ht | ht
  · have HT := hid ht
    clear ht
    obtain ⟨i0, hi, hz0, hz1, hz2⟩ := info_parts Try.info_pt
    have HI := hid hi
    have HZI := hid (show i0.zero = some (.agg #[.float .f32 0, .float .f32 0]) ∧ i0.size = 2 ∧ i0.bytes = 8 from ⟨hz0, hz1, hz2⟩)
    clear hi hz0 hz1 hz2
    go_enter Try.func23, Try.ntmps23
    go_wp2_with fail
    refine (tab_impl A c ps w HA.out (by omega)).mono ?_
    rintro e w1 ⟨rfl, hb1⟩
    rw [HT.out]
    have HB1 := hid hb1
    have HA1 := hid (HA.out.next hb1)
    have HX1 := hid (Sing.more (Sing.below HX.out hb1) hb1.size)
    clear hb1
    go_wp2_with fail
    refine (clone_pts A c ps w1 HA1.out (by omega)).mono ?_
    rintro e w2 ⟨v, rfl, hown, hb2⟩
    have HO2 := hid hown
    have HB2 := hid hb2
    clear hown hb2
    go_wp2_with fail
    go_loopw [6, 8, 9, 10, 18] (fun v _ _ _ i wr => ∃ (k : Nat) (out : List (Nat × Nat)), k ≤ xs.length ∧ i = .int .i64 k ∧ RefI ps (xs.take k).reverse out ∧ wr.ownsRow w1.heap.size 36 2 v out.length (pcells out) ∧ Below w1.heap.size w1 wr) (fun _ _ _ _ i _ => xs.length - (intOf i).toNat)
    case atStart => exact ⟨0, ps, Nat.zero_le _, rfl, rfl, HO2.out, HB2.out⟩
    case round =>
      obtain ⟨k, out, hk, rfl, hI, hown, hb⟩ := hrel
      have HRI := hid hI
      have HW0 := hid hown
      have HB := hid hb
      have hol := hI.len
      obtain ⟨A1, c1, g1, rfl, hp1, hg1, hA1, hr1⟩ := own_openP hown
      have HW := hid hown
      have hoz : (out.length : Int) ≤ 20 := by
        have := hol.2
        rw [List.length_reverse, List.length_take] at this
        omega
      by_cases hlt : k < xs.length
      · clear hA1 hr1 hol
        obtain ⟨bd, rfl, hbd, hcx⟩ := (HX1.out.below hb).at_ hlt
        have hkz : (k : Int) < (xs.length : Int) := by omega
        obtain ⟨x, hxk⟩ : ∃ x, xs[k] = x := ⟨_, rfl⟩
        rw [hxk] at hcx
        have HTR := hid (show (xs.take (k + 1)).reverse = x :: (xs.take k).reverse by rw [take_rev hlt, hxk])
        have HMEM := hid (show x ∈ xs by rw [← hxk]; exact List.getElem_mem _)
        have hsz := HB.out.size
        have HP := hid ((HA1.out.below hb).more hsz)
        have HNB := hid (below_new wr (.cells #[.float .f32 x] 25))
        have hcb : (wr.alloc (.cells #[.float .f32 x] 25)).cell? ⟨wr.heap.size, 0, none⟩ = some (.float .f32 x) := by simp
        have HCB := hid hcb
        have HP1 := hid hp1
        clear hb hxk hown hI hcb hp1
        go_wp2_with fail
        refine (inter_impl A c ps x _ (HP.out.next HNB.out) (by omega)).mono ?_
        rintro e w3 ⟨y, rfl, hy, hb3⟩
        have HY := hid hy
        have HB3 := hid (HNB.out.trans (hb3.mono (by simp)))
        have hc3 : w3.cell? ⟨wr.heap.size, 0, none⟩ = some (.float .f32 x) := (hb3.cell (p := ⟨wr.heap.size, 0, none⟩) (by simp)).trans HCB.out
        have hs3 : wr.heap.size < w3.heap.size := by have := hb3.size; simp at this; omega
        have HC3 := hid hc3
        have HS3 := hid hs3
        clear hy hb3 hc3 hs3
        rcases Bool.eq_false_or_eq_true (segIn ps x) with hs | hs
        · rw [hs]
          have HS := hid hs
          clear hs
          go_wp2_with fail
          refine (containsX_any A1 c1 out x wr.heap.size w3 (HP1.out.next HB3.out) (by omega) HS3.out HC3.out).mono ?_
          rintro e w4 ⟨rfl, hb4⟩
          have HB4 := hid (bthen HB3.out hb4)
          have hc4 : w4.cell? ⟨wr.heap.size, 0, none⟩ = some (.float .f32 x) := (hb4.cell (p := ⟨wr.heap.size, 0, none⟩) HS3.out).trans HC3.out
          clear hb4
          rcases Bool.eq_false_or_eq_true (out.any (hasX x)) with hq | hq
          · rw [hq]
            have HRI2 := hid (show RefI ps (xs.take (k + 1)).reverse out by rw [HTR.out]; exact ⟨HS.out, out, HRI.out, .inl ⟨hq, rfl⟩⟩)
            clear hq
            go_wp2_with fail
            go_roundw
            case rel => exact ⟨k + 1, out, by omega, by go_num, HRI2.out, own_below HW.out HB4.out, HB.out.trans (HB4.out.mono hsz)⟩
            case measure => simp [intOf]; omega
          · rw [hq]
            have HRI2 := hid (show RefI ps (xs.take (k + 1)).reverse (out ++ [(x, y)]) by rw [HTR.out]; exact ⟨HS.out, out, HRI.out, .inr ⟨hq, y, HY.out, rfl⟩⟩)
            have HO4 := hid (own_below HW.out HB4.out)
            have HSP := hid (show pcells (out ++ [(x, y)]) = pcells out ++ [.float .f32 x, .float .f32 y] from pcells_snoc _ _)
            have hi := HI.out
            have hszw : w1.heap.size ≤ w4.heap.size := Nat.le_trans hsz HB4.out.size
            clear hq
            go_wp2_with (at_builtin; refine wpList_append_own _ rfl _ _ 24 rfl w1.heap.size 36 i0 (.agg #[.float .f32 0, .float .f32 0]) 2 8 Try.underlying24 hi HZI.out.1 HZI.out.2.1 HZI.out.2.2 rfl (by decide) _ _ _ rfl (HO4.out.alloc _) ⟨w4.heap.size, 0, none⟩ 1 1 [.float .f32 x, .float .f32 y] rfl rfl ?c1 ?c2 ?c3 ?c4 ?c5 ?_)
            case c1 =>
              intro j u hj
              match j, hj with
              | 0, hj => simp at hj; subst hj; simp [Addr.add]
              | 1, hj => simp at hj; subst hj; simp [Addr.add]
            case c2 => intro u hu; simp at hu; rcases hu with rfl | rfl <;> rfl
            case c3 => unfold maxLen; omega
            case c4 => omega
            case c5 => simp; omega
            intro v' w5 hown' hgrow _
            have HB5 := hid (show Below w1.heap.size w1 w5 from Below.grown ((HB.out.trans (HB4.out.mono hsz)).alloc hszw _) hgrow (by simp; omega) (fun k' hk' => (HO4.out.lt _ hk').1))
            have HO5 := hid hown'
            clear hown' hgrow hi hszw
            go_wp2_with fail
            go_roundw
            case rel => exact ⟨k + 1, out ++ [(x, y)], by omega, by go_num, HRI2.out, by rw [HSP.out, List.length_append]; exact HO5.out, HB5.out⟩
            case measure => simp [intOf]; omega
        · rw [hs]
          have HS := hid hs
          clear hs
          go_wp2_with fail
          go_ret2
          exact ⟨.inl ⟨rfl, .inr (.inl ⟨x, HMEM.out, HS.out⟩)⟩, bthen HB1.out (HB.out.trans (HB3.out.mono hsz))⟩
      · have : k = xs.length := by omega
        subst this
        rw [List.take_of_length_le (Nat.le_refl _)] at hI hol
        have h0 : 0 < out.length := by have := (tabOk_iff.1 HT.out).1.1; omega
        obtain ⟨rfl, hgl⟩ := hA1 h0
        have HROW := hid (pts_rowP (hr1 h0))
        have HNN := hid (hI.nan HT.out)
        have HIX := hid hI
        have hol2 : out.length ≤ 19 := by rw [List.length_reverse] at hol; omega
        clear hA1 hr1 hown hp1 hI hol h0 hb
        go_wp2_with fail
        refine (sortP_any g1 out.length c1 out HNN.out _ HROW.out hol2).mono ?_
        rintro e w3 ⟨⟨u, rfl⟩, hr3, hu3⟩
        rw [isortP_eq HNN.out] at hr3
        have HP3 := hid (rowP_pts hr3)
        have HU3 := hid (hu3.1.mono hg1)
        clear hr3 hu3
        go_wp2_with fail
        refine (tabN_impl _ c1 out.length (msort kyP out) _ (msort_len out) HP3.out (by rw [msort_len]; omega)).mono ?_
        rintro e w4 ⟨rfl, hb4⟩
        have HB4 := hid (bthen HB1.out ((HB.out.trans HU3.out).trans (hb4.mono (Nat.le_trans HB.out.size HU3.out.size))))
        have HP4 := hid (HP3.out.next hb4)
        clear hb4
        rcases Bool.eq_false_or_eq_true (tabOk (msort kyP out)) with hs | hs
        · rw [hs]
          have HS := hid hs
          clear hs
          go_wp2_with fail
          go_ret2
          exact ⟨.inr ⟨out, _, _, HT.out, HIX.out, HS.out, rfl, HP4.out⟩, HB4.out⟩
        · rw [hs]
          have HS := hid hs
          clear hs
          go_wp2_with fail
          go_ret2
          exact ⟨.inl ⟨rfl, .inr (.inr ⟨out, HIX.out, HS.out⟩)⟩, HB4.out⟩
  · have HT := hid ht
    clear ht
    go_enter Try.func23, Try.ntmps23
    go_wp2_with fail
    refine (tab_impl A c ps w HA.out (by omega)).mono ?_
    rintro e w1 ⟨rfl, hb1⟩
    rw [HT.out]
    have HB1 := hid hb1
    clear hb1
    go_wp2_with fail
    go_ret2
    exact ⟨.inl ⟨rfl, .inl HT.out⟩, HB1.out⟩
end Go.Proofs.Ytbloipnpgncjiaa
