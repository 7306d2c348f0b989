/- slices.insertionSortCmpFunc of singles by cmp.Compare: the stable sort by insertion, in place. -/
import Derived.Test.YtgenphbackbepaaSortL
import Derived.Test.YtgenphbackbepaaCur
import Derived.Deep.QuietTactic
import Derived.BigQuiet
import Derived.BigRegion
namespace Go.Proofs.Ytgenphbackbepaa
open Go.RowKit

abbrev fnV : Value := .func (Fn.func 59) #[] #[]
def cmpI (x y : Nat) : Int := if Fl.lt .f32 x y then -1 else if Fl.gt .f32 x y then 1 else 0
theorem cmpI_neg {x y : Nat} : cmpI x y < 0 ↔ Fl.lt .f32 x y = true := by
  unfold cmpI
  cases Fl.lt .f32 x y
  · cases Fl.gt .f32 x y <;> simp
  · simp

set_option maxHeartbeats 400000 in
theorem cisnan (x : Nat) (hx : Fl.nan .f32 x = false) (w : World) :
    Calls Try.prog 66 #[.float .f32 x] w fun e w' => e = .returned (.bool false) ∧ w' = w := by
  have o1 : FloatKind.f32.format.order x x = some .eq := by rw [Fl.order_self, hx]; rfl
  clear hx
  go_enter Try.func66, Try.ntmps66
  go_wp2
  go_ret
  exact ⟨rfl, rfl⟩

set_option maxRecDepth 20000 in
set_option maxHeartbeats 1000000 in
theorem compare_any (x y : Nat) (hx : Fl.nan .f32 x = false) (hy : Fl.nan .f32 y = false) (w : World) :
    Calls Try.prog 60 #[.float .f32 x, .float .f32 y] w fun e w' => e = .returned (.int .i64 (cmpI x y)) ∧ w' = w := by
  have HX := hid hx
  have HY := hid hy
  clear hx hy
  rcases Bool.eq_false_or_eq_true (Fl.lt .f32 x y) with h1 | h1
  · have HC := hid (show cmpI x y = -1 by unfold cmpI; rw [h1]; rfl)
    have l1 : (FloatKind.f32.format.order x y == some .lt) = true := h1
    clear h1
    go_enter Try.func60, Try.ntmps60
    go_wp2_with fail
    refine (cisnan x HX.out w).mono ?_
    rintro e w1 ⟨rfl, rfl⟩
    go_wp2_with fail
    refine (cisnan y HY.out _).mono ?_
    rintro e w2 ⟨rfl, rfl⟩
    go_wp2_with fail
    go_ret
    exact ⟨by rw [HC.out]; rfl, rfl⟩
  · have l1 : (FloatKind.f32.format.order x y == some .lt) = false := h1
    rcases Bool.eq_false_or_eq_true (Fl.gt .f32 x y) with h2 | h2
    · have HC := hid (show cmpI x y = 1 by unfold cmpI; rw [h1, h2]; rfl)
      have l2 : (FloatKind.f32.format.order x y == some .gt) = true := h2
      clear h1 h2
      go_enter Try.func60, Try.ntmps60
      go_wp2_with fail
      refine (cisnan x HX.out w).mono ?_
      rintro e w1 ⟨rfl, rfl⟩
      go_wp2_with fail
      refine (cisnan y HY.out _).mono ?_
      rintro e w2 ⟨rfl, rfl⟩
      go_wp2_with fail
      go_ret
      exact ⟨by rw [HC.out]; rfl, rfl⟩
    · have HC := hid (show cmpI x y = 0 by unfold cmpI; rw [h1, h2]; rfl)
      have l2 : (FloatKind.f32.format.order x y == some .gt) = false := h2
      clear h1 h2
      go_enter Try.func60, Try.ntmps60
      go_wp2_with fail
      refine (cisnan x HX.out w).mono ?_
      rintro e w1 ⟨rfl, rfl⟩
      go_wp2_with fail
      refine (cisnan y HY.out _).mono ?_
      rintro e w2 ⟨rfl, rfl⟩
      go_wp2_with fail
      go_ret
      exact ⟨by rw [HC.out]; rfl, rfl⟩

set_option maxHeartbeats 400000 in
theorem cmp_any (x y : Nat) (hx : Fl.nan .f32 x = false) (hy : Fl.nan .f32 y = false) (w : World) :
    Calls Try.prog 59 #[.float .f32 x, .float .f32 y] w fun e w' => e = .returned (.int .i64 (cmpI x y)) ∧ w' = w := by
  have HX := hid hx
  have HY := hid hy
  clear hx hy
  go_enter Try.func59, Try.ntmps59
  go_wp2_with fail
  refine (compare_any x y HX.out HY.out w).mono ?_
  rintro e w1 ⟨rfl, rfl⟩
  go_wp2_with fail
  go_ret
  exact ⟨rfl, rfl⟩

/-- the row holds this list of singles -/
def RowS (w : World) (g n : Nat) (L : List Nat) : Prop := L.length = n ∧ Row w g n (fun j => .float .f32 (L.getD j 0))

set_option maxRecDepth 20000 in
set_option maxHeartbeats 1500000 in
theorem ins_any (g n c : Nat) (P xs Q : List Nat) (hx : ∀ x ∈ xs, Fl.nan .f32 x = false) (w : World) (hr : RowS w g n (P ++ xs ++ Q)) (hn : n ≤ 1048576) :
    Calls Try.prog 69 #[.slice (some ⟨g, 0, none⟩) n c, .int .i64 P.length, .int .i64 ((P.length + xs.length : Nat) : Int), fnV] w fun e w' => (∃ v, e = .returned v) ∧ RowS w' g n (P ++ isort xs ++ Q) ∧ Upd g w w' := by
  have HR := hid hr
  have HX := hid hx
  have hlen : P.length + xs.length + Q.length = n := by have := hr.1; simp at this; omega
  clear hr hx
  obtain ⟨a, ha⟩ : ∃ a, P.length = a := ⟨_, rfl⟩
  obtain ⟨b, hb⟩ : ∃ b, P.length + xs.length = b := ⟨_, rfl⟩
  rw [hb, ha]
  have HA := hid ha
  have HB := hid hb
  have haz : (a : Int) ≤ 1048576 := by omega
  have hbz : (b : Int) ≤ 1048576 := by omega
  have hnz : (n : Int) ≤ 1048576 := by omega
  have HL := hid hlen
  clear ha hb hlen
  go_enter Try.func69, Try.ntmps69
  go_wp2_with fail
  go_loopw [8, 9] (fun i _ wr => ∃ t : Nat, 1 ≤ t ∧ (t ≤ xs.length ∨ t = 1) ∧ i = .int .i64 ((a + t : Nat) : Int) ∧ RowS wr g n (P ++ isort (xs.take t) ++ (xs.drop t ++ Q)) ∧ Upd g w wr) (fun i _ _ => b + 1 - (intOf i).toNat)
  case atStart =>
    refine ⟨1, Nat.le_refl _, .inr rfl, by first | rfl | (congr 1), ?_, Upd.refl _ _⟩
    have e : isort (xs.take 1) = xs.take 1 := by cases xs <;> rfl
    rw [e, List.append_assoc, ← List.append_assoc (xs.take 1), List.take_append_drop, ← List.append_assoc]
    exact HR.out
  case round =>
    obtain ⟨t, ht1, ht2, rfl, hrow, hu⟩ := hrel
    have HROW := hid hrow
    have HU := hid hu
    clear hrow hu
    by_cases hlt : t < xs.length
    · have hitz : ((a + t : Nat) : Int) < (b : Int) := by have := HA.out; have := HB.out; omega
      have HLT := hid hlt
      have HT := hid (And.intro ht1 ht2)
      clear ht1 ht2 hlt
      obtain ⟨x, hxe⟩ : ∃ x, xs[t]'HLT.out = x := ⟨_, rfl⟩
      have HXN := hid (show Fl.nan .f32 x = false by rw [← hxe]; exact HX.out _ (List.getElem_mem _))
      obtain ⟨S, hS⟩ : ∃ S, isort (xs.take t) = S := ⟨_, rfl⟩
      have HSL := hid (show S.length = t by rw [← hS, isort_len, List.length_take]; have := HLT.out; omega)
      have HSN := hid (show ∀ y ∈ S, Fl.nan .f32 y = false from fun y hy => by rw [← hS] at hy; exact HX.out y (List.mem_of_mem_take (isort_mem.1 hy)))
      have HNEXT := hid (show isort (xs.take (t + 1)) = insS S x by rw [List.take_succ_eq_append_getElem HLT.out, isort_snoc, hS, hxe])
      have HROW2 := hid (show RowS wr g n (midL P S x t (xs.drop (t + 1) ++ Q)) by
        have := HROW.out
        rw [hS, List.drop_eq_getElem_cons HLT.out, hxe] at this
        have e := midL_top (P := P) (S := S) (x := x) (Q := xs.drop (t + 1) ++ Q)
        rw [HSL.out] at e
        rw [e]; exact this)
      clear hxe hS
      obtain ⟨Q', hQ'⟩ : ∃ Q', xs.drop (t + 1) ++ Q = Q' := ⟨_, rfl⟩
      rw [hQ'] at HROW2
      have HQ' := hid hQ'
      clear hQ'
      have FIN := hid (show ∀ (w2 : World) (k : Nat), k ≤ t → posF x S t = k → RowS w2 g n (midL P S x k Q') → RowS w2 g n (P ++ isort (xs.take (t + 1)) ++ (xs.drop (t + 1) ++ Q)) from fun w2 k hk hp hr => by
        rw [HNEXT.out, HQ'.out]
        unfold insS
        rw [HSL.out, hp]
        unfold midL at hr
        have e : P ++ (S.take k ++ x :: S.drop k) ++ Q' = P ++ S.take k ++ x :: (S.drop k ++ Q') := by simp [List.append_assoc]
        rw [e]; exact hr)
      go_wp2_with fail
      go_loopw [9] (fun j wi => ∃ k : Nat, k ≤ t ∧ j = .int .i64 ((a + k : Nat) : Int) ∧ posF x S t = posF x S k ∧ RowS wi g n (midL P S x k Q') ∧ Upd g w wi) (fun j _ => (intOf j).toNat)
      case atStart => exact ⟨t, Nat.le_refl _, rfl, rfl, HROW2.out, HU.out⟩
      case round =>
        obtain ⟨k, hk, rfl, hp, hrow, hu⟩ := hrel
        have HP := hid hp
        have HK := hid hk
        have HROWK := hid hrow
        have HUK := hid hu
        clear hp hk hrow hu
        cases k with
        | zero =>
          rw [Nat.add_zero]
          have hdf : decide ((a : Int) < (a : Int)) = false := by simp
          go_wp2_with fail
          go_quiet (fail)
          go_wp2_with fail
          go_roundw
          case rel => exact ⟨t + 1, by omega, .inl HLT.out, by go_num, FIN.out _ 0 (Nat.zero_le _) HP.out HROWK.out, HUK.out.drewN _⟩
          case measure => simp [intOf]; omega
        | succ k =>
          have hmid := (HROWK.out).1
          rw [midL_len (by have := HSL.out; have := HK.out; omega), HSL.out] at hmid
          obtain ⟨jm, hjm⟩ : ∃ jm, a + k = jm := ⟨_, rfl⟩
          obtain ⟨jj, hjj⟩ : ∃ jj, a + (k + 1) = jj := ⟨_, rfl⟩
          have HJ := hid (And.intro hjm hjj)
          obtain ⟨y, hy⟩ : ∃ y, S.getD k 0 = y := ⟨_, rfl⟩
          have e1 : (midL P S x (k + 1) Q').getD jj 0 = x := by rw [← hjj, ← HA.out]; exact midL_at (by have := HSL.out; have := HK.out; omega)
          have e2 : (midL P S x (k + 1) Q').getD jm 0 = y := by rw [← hjm, ← HA.out, ← hy]; exact midL_before (by have := HSL.out; have := HK.out; omega)
          obtain ⟨q1, k2⟩ := (HROWK.out).2.2 jj (by have := HA.out; have := HK.out; omega)
          obtain ⟨q3, k4⟩ := (HROWK.out).2.2 jm (by have := HA.out; have := HK.out; omega)
          have k1 : wr.cell? ⟨g, jj, none⟩ = some (.float .f32 x) := q1.trans (by show some (Value.float .f32 ((midL P S x (k + 1) Q').getD jj 0)) = _; rw [e1])
          have k3 : wr.cell? ⟨g, jm, none⟩ = some (.float .f32 y) := q3.trans (by show some (Value.float .f32 ((midL P S x (k + 1) Q').getD jm 0)) = _; rw [e2])
          clear q1 q3 e1 e2
          have HYN := hid (show Fl.nan .f32 y = false by
            rw [← hy]
            have hks : k < S.length := by have := HSL.out; have := HK.out; omega
            have e : S.getD k 0 = S[k] := by simp [List.getD, hks]
            rw [e]; exact HSN.out _ (List.getElem_mem _))
          have hsub : (jj : Int) - 1 = (jm : Int) := by omega
          have hjn : (jj : Int) < (n : Int) := by have := HA.out; have := HK.out; omega
          have hjmn : (jm : Int) < (n : Int) := by omega
          have hwr : IntKind.i64.wrap (jm : Int) = (jm : Int) := by rw [IntKind.wrap_i64]; omega
          have hwr2 : IntKind.i64.wrap ((jj : Int) - 1) = (jm : Int) := by rw [hsub]; exact hwr
          have hja : (a : Int) < (jj : Int) := by omega
          have HPS := hid (show posF x S (k + 1) = if Fl.lt .f32 x y then posF x S k else k + 1 by rw [← hy]; rfl)
          have HSW := hid (show ∀ i, (midL P S x k Q').getD i 0 = if i = jm then x else if i = jj then y else (midL P S x (k + 1) Q').getD i 0 from fun i => by
            rw [midL_swap (by have := HSL.out; have := HK.out; omega), HA.out, hjm, hjj, hy])
          rw [hjj]
          clear hjj hjm hy hmid
          rcases Bool.eq_false_or_eq_true (Fl.lt .f32 x y) with hlt | hlt
          · have hneg : cmpI x y < 0 := cmpI_neg.2 hlt
            have HPK := hid (show posF x S t = posF x S k by rw [HP.out, HPS.out, hlt]; rfl)
            clear hlt
            go_wp2_with fail
            go_quiet (first | (refine Calls.quiet_of_same (cmp_any x y HXN.out HYN.out _)))
            go_wp2_with fail
            clear hneg
            go_region
            go_wp2_with fail
            go_roundw
            case rel =>
              refine ⟨k, by have := HK.out; omega, by have := HJ.out; go_num, HPK.out, ⟨?_, ?_⟩, ((HUK.out.set jj _).set jm _).drewN _⟩
              · have h1 := HROWK.out.1
                rw [midL_len (by have := HSL.out; have := HK.out; omega)] at h1 ⊢
                exact h1
              · have h2 := (HROWK.out.2.set (i := jj) (by omega) (.float .f32 y)).set (i := jm) (by omega) (.float .f32 x)
                exact Row.congr h2 (fun i _ => by
                  show (if i = jm then Value.float .f32 x else if i = jj then Value.float .f32 y else Value.float .f32 ((midL P S x (k + 1) Q').getD i 0)) = Value.float .f32 ((midL P S x k Q').getD i 0)
                  rw [HSW.out i]
                  by_cases e1 : i = jm
                  · rw [if_pos e1, if_pos e1]
                  · rw [if_neg e1, if_neg e1]
                    by_cases e2 : i = jj
                    · rw [if_pos e2, if_pos e2]
                    · rw [if_neg e2, if_neg e2])
            case measure => have := HJ.out; simp [intOf]; omega
          · have hneg : ¬ (cmpI x y < 0) := fun h => by rw [cmpI_neg.1 h] at hlt; cases hlt
            have HPK := hid (show posF x S t = k + 1 by rw [HP.out, HPS.out, hlt]; rfl)
            clear hlt
            go_wp2_with fail
            go_quiet (first | (refine Calls.quiet_of_same (cmp_any x y HXN.out HYN.out _)))
            go_wp2_with fail
            go_roundw
            case rel => exact ⟨t + 1, by omega, .inl HLT.out, by go_num, FIN.out _ (k + 1) HK.out HPK.out HROWK.out, HUK.out.drewN _⟩
            case measure => simp [intOf]; omega
    · have hitz : (b : Int) ≤ ((a + t : Nat) : Int) := by have := HA.out; have := HB.out; omega
      go_wp2_with fail
      go_end0
      refine ⟨⟨_, rfl⟩, ?_, HU.out⟩
      have e1 : xs.take t = xs := List.take_of_length_le (by omega)
      have e2 : xs.drop t = [] := List.drop_of_length_le (by omega)
      have := HROW.out
      rw [e1, e2] at this
      exact this
end Go.Proofs.Ytgenphbackbepaa
