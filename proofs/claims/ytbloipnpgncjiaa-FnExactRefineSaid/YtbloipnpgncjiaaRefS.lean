/- slices.SortStableFunc of at most 19 points by their X. -/
import Derived.Test.YtbloipnpgncjiaaPSort
namespace Go.Proofs.Ytbloipnpgncjiaa
open Go.RowKit

abbrev kyP (p : Nat × Nat) : Int := Fl.ky .f32 p.1
theorem insP_sm {S : List (Nat × Nat)} {x : Nat × Nat} (hx : Fl.nan .f32 x.1 = false) (hS : ∀ y ∈ S, Fl.nan .f32 y.1 = false) (h : Srt kyP S) : insP S x = smerge kyP S [x] := by
  obtain ⟨a, b⟩ := posP_spec hx hS S.length (Nat.le_refl _)
  have hp := posP_le x S S.length
  unfold insP
  generalize posP x S S.length = p at a b hp
  have e := sm_ins (key := kyP) (S1 := S.take p) (S2 := S.drop p) (y := x) (fun y hy => by
    obtain ⟨k, k1, k2, rfl⟩ := mem_take_get (0, 0) hy
    have h1 := srt_get h (0, 0) (show k ≤ p - 1 by omega) (show p - 1 < S.length by omega)
    have h2 := b (by omega)
    exact Int.le_trans h1 h2) (fun y hy => by
    obtain ⟨k, k1, k2, rfl⟩ := mem_drop_get (0, 0) hy
    exact a k k1 k2)
  rw [List.take_append_drop] at e
  exact e.symm
theorem isortP_msort : ∀ (xs S : List (Nat × Nat)), Srt kyP S → (∀ y ∈ S, Fl.nan .f32 y.1 = false) → (∀ y ∈ xs, Fl.nan .f32 y.1 = false) → xs.foldl insP S = xs.foldl (fun S x => smerge kyP S [x]) S
  | [], _, _, _, _ => rfl
  | x :: xs, S, h, hS, hx => by
    have hx1 := hx x (List.mem_cons_self ..)
    rw [List.foldl_cons, List.foldl_cons, insP_sm hx1 hS h]
    refine isortP_msort xs _ (srt_sm h (srt_single x)) (fun y hy => ?_) (fun y hy => hx y (List.mem_cons_of_mem _ hy))
    rcases (sm_mem kyP).1 hy with hy | hy
    · exact hS y hy
    · rw [List.mem_singleton.1 hy]; exact hx1
theorem isortP_eq {xs : List (Nat × Nat)} (hx : ∀ y ∈ xs, Fl.nan .f32 y.1 = false) : isortP xs = msort kyP xs := isortP_msort xs [] List.Pairwise.nil (fun _ h => by cases h) hx

set_option maxRecDepth 20000 in
set_option maxHeartbeats 2000000 in
theorem stableP_any (g n c : Nat) (xs : List (Nat × Nat)) (hx : ∀ x ∈ xs, Fl.nan .f32 x.1 = false) (w : World) (hr : RowP w g n xs) (hn : n ≤ 19) :
    Calls Try.prog 109 #[.slice (some ⟨g, 0, none⟩) n c, .int .i64 (n : Int), fnP] w fun e w' => (∃ v, e = .returned v) ∧ RowP w' g n (isortP xs) ∧ Upd g w w' := by
  have HR := hid hr
  have hl := hr.1
  have hnz : (n : Int) ≤ 19 := by omega
  have HC := hid (insP_any g n c [] xs [] hx w (by simpa using hr) (by omega))
  simp only [List.length_nil, Nat.zero_add, List.nil_append, List.append_nil, hl] at HC
  clear hr hl
  go_enter Try.func109, Try.ntmps109
  go_wp2_with fail
  go_loopw [7, 8] (fun a b wr => a = .int .i64 0 ∧ b = .int .i64 20 ∧ wr = w) (fun _ _ _ => 0)
  case atStart => exact ⟨rfl, rfl, rfl⟩
  case round =>
    obtain ⟨rfl, rfl, rfl⟩ := hrel
    go_wp2_with fail
    refine HC.out.mono ?_
    rintro e w1 ⟨⟨v, rfl⟩, hr1, hu1⟩
    have HR1 := hid hr1
    have HU1 := hid hu1
    clear hr1 hu1
    go_wp2_with fail
    go_loopw [6, 7, 8, 9] (fun s _ _ _ w2 => s = .int .i64 20 ∧ w2 = w1) (fun _ _ _ _ _ => 0)
    case atStart => exact ⟨rfl, rfl⟩
    case round =>
      obtain ⟨rfl, rfl⟩ := hrel
      go_wp2_with fail
      go_end0
      exact ⟨⟨_, rfl⟩, HR1.out, HU1.out⟩

set_option maxHeartbeats 1000000 in
theorem sortP_any (g n c : Nat) (xs : List (Nat × Nat)) (hx : ∀ x ∈ xs, Fl.nan .f32 x.1 = false) (w : World) (hr : RowP w g n xs) (hn : n ≤ 19) :
    Calls Try.prog 74 #[.slice (some ⟨g, 0, none⟩) n c, fnP] w fun e w' => (∃ v, e = .returned v) ∧ RowP w' g n (isortP xs) ∧ Upd g w w' := by
  have HC := hid (stableP_any g n c xs hx w hr hn)
  clear hr
  go_enter Try.func74, Try.ntmps74
  go_wp2_with fail
  refine HC.out.mono ?_
  rintro e w1 ⟨⟨v, rfl⟩, hr1, hu1⟩
  have HR1 := hid hr1
  have HU1 := hid hu1
  clear hr1 hu1
  go_wp2_with fail
  go_end0
  exact ⟨⟨_, rfl⟩, HR1.out, HU1.out⟩

end Go.Proofs.Ytbloipnpgncjiaa
