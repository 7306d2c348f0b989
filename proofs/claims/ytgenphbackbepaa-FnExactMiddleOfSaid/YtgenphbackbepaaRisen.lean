/- The middle one and the spread of a short good list, by the program: Clone, SortStableFunc, risen, MiddleOf, SpreadOf. -/
import Derived.Test.YtgenphbackbepaaSort
import Derived.Test.YtgenphbackbepaaOwnW
import Derived.Test.YtgenphbackbepaaGood
import Derived.Lib.SliceRun
import Derived.Lib.Walk
import Derived.OwnWalk
namespace Go.Proofs.Ytgenphbackbepaa
open Go.RowKit

theorem fcells_one {xs : List Nat} : ∀ u ∈ fcells xs, u.oneCell' = true := by
  intro u hu
  simp only [fcells, List.mem_map] at hu
  obtain ⟨x, _, rfl⟩ := hu
  rfl

set_option maxRecDepth 20000 in
set_option maxHeartbeats 2000000 in
theorem cloneS_any (A : Option Addr) (c : Nat) (xs : List Nat) (w : World) (ha : Sing w w.heap.size A xs) (hn : xs.length ≤ 1048576) :
    Calls Try.prog 57 #[.slice A xs.length c] w fun e w' => ∃ v, e = .returned v ∧ w'.ownsRow w.heap.size 23 1 v xs.length (fcells xs) ∧ Below w.heap.size w w' := by
  have HA := hid ha
  have hlz : (xs.length : Int) ≤ 1048576 := by omega
  have q : ∀ (w : World) (a : Option Addr) (n c n' c' : Nat), (binOp .eql 22 (.slice a n c) (.slice none n' c')).run Try.prog w = .ok (.bool a.isNone) w := fun w a n c n' c' => Lib.run_eql_slice_nil w _ _ a n c n' c' Try.underlying22
  have hlen : (fcells xs).length = xs.length := by simp [fcells]
  clear ha
  cases A with
  | none =>
    have h0 : xs = [] := by
      cases xs with
      | nil => rfl
      | cons p ps => obtain ⟨ad, e, _⟩ := HA.out.2 (by simp); cases e
    subst h0
    go_enter Try.func57, Try.ntmps57
    go_wp2_with fail
    go_ret
    exact ⟨_, rfl, World.ownsRow_nil _ _ _ _, Below.refl _ _⟩
  | some ad =>
    obtain ⟨i0, hi, hz0, hz1, hz2⟩ := info_parts Try.info_f32
    go_enter Try.func57, Try.ntmps57
    go_wp2_with (at_builtin; refine wpList_append_own _ rfl _ _ 22 rfl w.heap.size 23 i0 (.float .f32 0) 1 4 Try.underlying22 hi hz0 hz1 hz2 rfl (by decide) _ _ _ rfl (World.ownsRow_made w #[] 0 (Nat.le_refl _) (Nat.zero_le _) rfl) ad xs.length c (fcells xs) rfl ?qc1 ?qc2 ?qc3 ?qc4 ?qc5 ?qc6 ?_)
    case qc1 => rw [hlen]; omega
    case qc2 =>
      intro j u hj
      have hn : 0 < xs.length := by
        cases xs with
        | nil => simp [fcells] at hj
        | cons p ps => simp
      obtain ⟨ad', e, hb, hc⟩ := HA.out.2 hn
      cases e
      exact Lib.cell?_alloc_some _ (hc j u hj)
    case qc3 => exact fcells_one
    case qc4 => unfold maxLen; omega
    case qc5 => omega
    case qc6 => simp
    intro v' w1 hown hgrow hnil
    go_wp2_with fail
    go_ret
    exact ⟨v', rfl, by simpa using hown, ((Below.refl _ w).alloc (Nat.le_refl _) _).grown hgrow (by simp) (by intro k hk; simp [Value.ownBlock] at hk; omega)⟩

set_option maxRecDepth 20000 in
set_option maxHeartbeats 2000000 in
theorem stable_any (g n c : Nat) (xs : List Nat) (hx : ∀ x ∈ xs, Fl.nan .f32 x = false) (w : World) (hr : RowS w g n xs) (hn : n ≤ 19) :
    Calls Try.prog 65 #[.slice (some ⟨g, 0, none⟩) n c, .int .i64 (n : Int), fnV] w fun e w' => (∃ v, e = .returned v) ∧ RowS w' g n (isort xs) ∧ Upd g w w' := by
  have HR := hid hr
  have hl := hr.1
  have hnz : (n : Int) ≤ 19 := by omega
  have HC := hid (ins_any g n c [] xs [] hx w (by simpa using hr) (by omega))
  simp only [List.length_nil, Nat.zero_add, List.nil_append, List.append_nil, hl] at HC
  clear hr hl
  go_enter Try.func65, Try.ntmps65
  go_wp2_with fail
  go_loopw [7, 8] (fun a b wr => a = .int .i64 0 ∧ b = .int .i64 20 ∧ wr = w) (fun _ _ _ => 0)
  case atStart => exact ⟨rfl, rfl, rfl⟩
  case round =>
    obtain ⟨rfl, rfl, rfl⟩ := hrel
    go_wp2_with fail
    refine HC.out.mono ?_
    rintro e w1 ⟨⟨v, rfl⟩, hr1, hu1⟩
    have HR1 := hid hr1
    have HU1 := hid hu1
    clear hr1 hu1
    go_wp2_with fail
    go_loopw [6, 7, 8, 9] (fun s _ _ _ w2 => s = .int .i64 20 ∧ w2 = w1) (fun _ _ _ _ _ => 0)
    case atStart => exact ⟨rfl, rfl⟩
    case round =>
      obtain ⟨rfl, rfl⟩ := hrel
      go_wp2_with fail
      go_end0
      exact ⟨⟨_, rfl⟩, HR1.out, HU1.out⟩

set_option maxHeartbeats 1000000 in
theorem sortS_any (g n c : Nat) (xs : List Nat) (hx : ∀ x ∈ xs, Fl.nan .f32 x = false) (w : World) (hr : RowS w g n xs) (hn : n ≤ 19) :
    Calls Try.prog 58 #[.slice (some ⟨g, 0, none⟩) n c, fnV] w fun e w' => (∃ v, e = .returned v) ∧ RowS w' g n (isort xs) ∧ Upd g w w' := by
  have HC := hid (stable_any g n c xs hx w hr hn)
  clear hr
  go_enter Try.func58, Try.ntmps58
  go_wp2_with fail
  refine HC.out.mono ?_
  rintro e w1 ⟨⟨v, rfl⟩, hr1, hu1⟩
  have HR1 := hid hr1
  have HU1 := hid hu1
  clear hr1 hu1
  go_wp2_with fail
  go_end0
  exact ⟨⟨_, rfl⟩, HR1.out, HU1.out⟩

theorem sing_rowS {w : World} {g n : Nat} {L : List Nat} (h : RowS w g n L) : Sing w w.heap.size (some ⟨g, 0, none⟩) L := by
  obtain ⟨hl, hg, hc⟩ := h
  refine ⟨by simp [fcells], fun _ => ⟨_, rfl, hg, fun j u hu => ?_⟩⟩
  have hj : j < L.length := by
    by_cases c : j < L.length
    · exact c
    · rw [List.getElem?_eq_none (by simp [fcells]; omega)] at hu; cases hu
  rw [addr_add0, (hc j (by omega)).1]
  have : (fcells L)[j]? = some (.float .f32 (L.getD j 0)) := by simp [fcells, hj, List.getD]
  rw [this] at hu
  exact hu

set_option maxRecDepth 20000 in
set_option maxHeartbeats 1000000 in
theorem risen_any (A : Option Addr) (c : Nat) (xs : List Nat) (hx : ∀ x ∈ xs, Fl.nan .f32 x = false) (w : World) (ha : Sing w w.heap.size A xs) (h0 : 0 < xs.length) (hn : xs.length ≤ 19) :
    Calls Try.prog 48 #[.slice A xs.length c] w fun e w' => ∃ g c', e = .returned (.slice (some ⟨g, 0, none⟩) xs.length c') ∧ Sing w' w'.heap.size (some ⟨g, 0, none⟩) (isort xs) ∧ Below w.heap.size w w' := by
  have HA := hid ha
  have HX := hid hx
  clear ha hx
  go_enter Try.func48, Try.ntmps48
  go_wp2_with fail
  refine (cloneS_any A c xs w HA.out (by omega)).mono ?_
  rintro e w1 ⟨v, rfl, hown, hb1⟩
  obtain ⟨A1, c1, g1, rfl, s1, hg1, hA1, hrow1⟩ := own_open hown
  obtain ⟨e1, _⟩ := hA1 h0
  subst e1
  have HR := hid (show RowS w1 g1 xs.length xs from ⟨rfl, (hrow1 h0).congr (fun j hj => by simp [fcells, List.getD, hj])⟩)
  have HB1 := hid hb1
  clear hown s1 hA1 hrow1 hb1
  go_wp2_with fail
  refine (sortS_any g1 xs.length c1 xs HX.out w1 HR.out hn).mono ?_
  rintro e w2 ⟨⟨v, rfl⟩, hr2, hu2⟩
  have HR2 := hid hr2
  have HB2 := hid (HB1.out.trans (hu2.1.mono hg1))
  clear hr2 hu2
  go_wp2_with fail
  go_ret
  exact ⟨g1, c1, rfl, sing_rowS HR2.out, HB2.out⟩
end Go.Proofs.Ytgenphbackbepaa
