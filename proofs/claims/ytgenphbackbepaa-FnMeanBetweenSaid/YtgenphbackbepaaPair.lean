/- PairSum, of the program and of the reference: the sum by halves of a good list. -/
import Derived.Test.YtgenphbackbepaaMean
import Derived.Deep.QuietTactic
import Derived.BigQuiet
namespace Go.Proofs.Ytgenphbackbepaa
open Go.RowKit

/-- the sum by halves -/
def pairF : Nat → List Nat → Nat
  | 0, _ => 0
  | f + 1, xs => if xs.length = 0 then 0 else if xs.length = 1 then Fl.wid (xs.getD 0 0) else Fl.arith .f64 .add (pairF f (xs.take (xs.length / 2))) (pairF f (xs.drop (xs.length / 2)))
def pairN (xs : List Nat) : Nat := pairF 64 xs
def pairV (xs : List Nat) : Nat := if goodB xs then pairN xs else 0

theorem btw_bits {c d : Nat} {g h : Int} {r s : Nat} (h1 : Fl.Btw c g h r) (h2 : Fl.Btw d g h s) : floatBits .add .f64 r s = some (Fl.arith .f64 .add r s) := by
  obtain ⟨t, e, _⟩ := Fl.add_spec Ieee.double h1.1 h2.1
  have e' : floatBits .add .f64 r s = some t := e
  rw [e', Fl.arith_some e']
theorem pair_btw {g h : Int} (hg : g.natAbs < Ieee.single.infRung) (hh : h.natAbs < Ieee.single.infRung) : ∀ (f : Nat) (xs : List Nat), xs.length ≤ f → xs.length ≤ 64 → (∀ x ∈ xs, fin32 x = true ∧ g ≤ Fl.key Ieee.single x ∧ Fl.key Ieee.single x ≤ h) → Fl.Btw xs.length g h (pairF f xs)
  | 0, xs, hf, _, _ => by
    have : xs.length = 0 := by omega
    rw [this]; exact Fl.btw_zero g h
  | f + 1, xs, hf, h64, hx => by
    unfold pairF
    split
    · rename_i h0; rw [h0]; exact Fl.btw_zero g h
    · split
      · rename_i h1
        rw [h1]
        obtain ⟨x, rfl⟩ := List.length_eq_one_iff.1 h1
        have := hx x (List.mem_cons_self)
        exact Fl.btw_wid this.1 this.2.1 this.2.2
      · have e1 : (xs.take (xs.length / 2)).length = xs.length / 2 := by rw [List.length_take]; omega
        have e2 : (xs.drop (xs.length / 2)).length = xs.length - xs.length / 2 := by rw [List.length_drop]
        have a := pair_btw hg hh f (xs.take (xs.length / 2)) (by omega) (by omega) (fun x m => hx x (List.mem_of_mem_take m))
        have b := pair_btw hg hh f (xs.drop (xs.length / 2)) (by omega) (by omega) (fun x m => hx x (List.mem_of_mem_drop m))
        have := Fl.btw_add (by omega) hg hh a b
        rw [e1, e2] at this
        rw [show xs.length / 2 + (xs.length - xs.length / 2) = xs.length by omega] at this
        exact this
theorem key_btw {x : Nat} (h : fin32 x = true) : -((Ieee.single.infRung - 1 : Nat) : Int) ≤ Fl.key Ieee.single x ∧ Fl.key Ieee.single x ≤ ((Ieee.single.infRung - 1 : Nat) : Int) := by
  have h2 := Fl.key_fin h
  omega
theorem pair_wf {xs : List Nat} (h : xs.length ≤ 64 ∧ ∀ x ∈ xs, fin32 x = true) : Fl.Wf .f64 (pairN xs) :=
  (pair_btw bot32 top32 64 xs h.1 h.1 (fun x m => ⟨h.2 x m, key_btw (h.2 x m)⟩)).2.1
theorem Reads.pre {w : World} {B n : Nat} {A : Option Addr} {xs : List Value} (h : Reads w B 1 A n xs) {k : Nat} (hk : k ≤ n) : Reads w B 1 A k (xs.take k) := by
  refine ⟨by rw [List.length_take, h.1]; omega, fun hn => ?_⟩
  obtain ⟨ad, rfl, hb, hc⟩ := h.2 (by omega)
  refine ⟨ad, rfl, hb, fun j u hu => hc j u ?_⟩
  rw [List.getElem?_take] at hu
  split at hu
  · exact hu
  · cases hu
theorem Sing.pre {w : World} {B : Nat} {A : Option Addr} {xs : List Nat} (h : Sing w B A xs) {k : Nat} (hk : k ≤ xs.length) : Sing w B A (xs.take k) := by
  have := Reads.pre h hk
  unfold Sing
  rw [List.length_take, Nat.min_eq_left hk]
  unfold fcells at *
  rw [List.map_take]; exact this
theorem Sing.post {w : World} {B : Nat} {A : Option Addr} {xs : List Nat} (h : Sing w B A xs) {k cap : Nat} (hk : k ≤ xs.length) (hc : xs.length ≤ cap) : Sing w B (if cap = k then A else A.map (·.add k)) (xs.drop k) := by
  have := Reads.cut h (k := k) (cap := cap) hk hc
  unfold Sing
  rw [List.length_drop]
  unfold fcells at *
  rw [List.map_drop]
  simpa using this

set_option maxHeartbeats 1000000 in
theorem halves_spec : ∀ (f : Nat) (A : Option Addr) (c B : Nat) (xs : List Nat) (w : World) (_ : Sing w B A xs) (_ : xs.length ≤ f) (_ : xs.length ≤ 64) (_ : ∀ x ∈ xs, fin32 x = true) (_ : xs.length ≤ c),
    Calls Try.prog 40 #[.slice A xs.length c] w fun e w' => e = .returned (.float .f64 (pairF f xs)) ∧ Drew w w'
  | 0, A, c, B, xs, w, ha, hf, h64, hx, hc => by
    have h0 : xs.length = 0 := by omega
    clear ha
    rw [h0]
    go_enter Try.func40, Try.ntmps40
    go_wp2_with fail
    go_ret
    exact ⟨rfl, 0, rfl⟩
  | f + 1, A, c, B, xs, w, ha, hf, h64, hx, hc => by
    by_cases h0 : xs.length = 0
    · clear ha
      have hp : pairF (f + 1) xs = 0 := by unfold pairF; rw [if_pos h0]
      rw [hp, h0]
      go_enter Try.func40, Try.ntmps40
      go_wp2_with fail
      go_ret
      exact ⟨rfl, 0, rfl⟩
    · by_cases h1 : xs.length = 1
      · obtain ⟨ad, rfl, had, hca⟩ := ha.at_ (k := 0) (by omega)
        have HX := hid (hx xs[0] (List.getElem_mem (by omega)))
        have hp : pairF (f + 1) xs = Fl.wid xs[0] := by unfold pairF; rw [if_neg h0, if_pos h1]; simp [List.getD, show 0 < xs.length by omega]
        rw [show ad.add 0 = ad from by simp [Addr.add]] at hca
        clear ha
        have hlv : xs[0] = xs[0] := rfl
        generalize xs[0] = v at hca HX hp hlv
        clear hlv hx
        rw [hp, h1]
        clear hp
        go_enter Try.func40, Try.ntmps40
        go_wp2_with fail
        refine upon_widen some_f32 Try.underlying28 ?_
        intro r1 n1 hr1
        have E1 := hid hr1.w
        clear hr1
        go_wp2_with fail
        go_ret
        refine ⟨?_, _, rfl⟩
        rw [E1.out.symm.eq _ (by rw [Fl.wid_nan]; exact Fl.fin_nan .f32 HX.out)]
        rfl
      · have h2z : (2 : Int) ≤ (xs.length : Int) := by omega
        have h64z : (xs.length : Int) ≤ 64 := by omega
        have hcz : (xs.length : Int) ≤ (c : Int) := by omega
        have hp : pairF (f + 1) xs = Fl.arith .f64 .add (pairF f (xs.take (xs.length / 2))) (pairF f (xs.drop (xs.length / 2))) := by
          rw [pairF, if_neg h0, if_neg h1]
        have e1 : (xs.take (xs.length / 2)).length = xs.length / 2 := by rw [List.length_take]; omega
        have e2 : (xs.drop (xs.length / 2)).length = xs.length - xs.length / 2 := by rw [List.length_drop]
        have C1 : ∀ n, Calls Try.prog 40 #[.slice A (xs.length / 2) c] (w.drewN n) fun e w' => e = .returned (.float .f64 (pairF f (xs.take (xs.length / 2)))) ∧ ∃ m, w' = w.drewN m := fun n => by
          have := halves_spec f A c B (xs.take (xs.length / 2)) (w.drewN n) (Reads.drewN (ha.pre (by omega)) n) (by omega) (by omega) (fun x m => hx x (List.mem_of_mem_take m)) (by omega)
          rw [e1] at this; exact Calls.quiet_of this
        have C2 : ∀ n, Calls Try.prog 40 #[.slice (Option.map (fun x => x.add (xs.length / 2)) A) (xs.length - xs.length / 2) (c - xs.length / 2)] (w.drewN n) fun e w' => e = .returned (.float .f64 (pairF f (xs.drop (xs.length / 2)))) ∧ ∃ m, w' = w.drewN m := fun n => by
          have hs := ha.post (k := xs.length / 2) (cap := c) (by omega) hc
          rw [if_neg (by omega)] at hs
          have := halves_spec f _ (c - xs.length / 2) B (xs.drop (xs.length / 2)) (w.drewN n) (Reads.drewN hs n) (by omega) (by omega) (fun x m => hx x (List.mem_of_mem_drop m)) (by omega)
          rw [e2] at this; exact Calls.quiet_of this
        have HF := hid (btw_bits
          (pair_btw bot32 top32 f (xs.take (xs.length / 2)) (by omega) (by omega) (fun x m => ⟨hx x (List.mem_of_mem_take m), key_btw (hx x (List.mem_of_mem_take m))⟩))
          (pair_btw bot32 top32 f (xs.drop (xs.length / 2)) (by omega) (by omega) (fun x m => ⟨hx x (List.mem_of_mem_drop m), key_btw (hx x (List.mem_of_mem_drop m))⟩)))
        have HC1 := hid C1
        have HC2 := hid C2
        clear ha e1 e2 C1 C2 hx
        rw [hp]
        clear hp
        go_enter Try.func40, Try.ntmps40
        go_wp2_with fail
        go_quiet (first
          | with_reducible exact HC1.out _
          | with_reducible exact HC2.out _
          | (rw [run_float_arith _ _ _ _ _ _ _ HF.out]; exact ⟨rfl, rfl⟩))
        go_wp2_with fail
        go_ret
        exact ⟨rfl, _, rfl⟩

set_option maxHeartbeats 1000000 in
theorem pair_spec (A : Option Addr) (c : Nat) (xs : List Nat) (w : World) (ha : Sing w w.heap.size A xs) (hn : xs.length ≤ 1048576) (hc : xs.length ≤ c) :
    Calls Try.prog 24 #[.slice A xs.length c] w (RetFB .f64 (pairV xs) (goodB xs) w) := by
  have HA := hid ha
  clear ha
  rcases Bool.eq_false_or_eq_true (goodB xs) with hg | hg
  · have HV := hid (show pairV xs = pairN xs by unfold pairV; rw [hg]; rfl)
    have HG := hid hg
    go_enter Try.func24, Try.ntmps24
    go_wp2_with fail
    refine (good_spec _ _ _ _ HA.out hn).mono ?_
    rintro e w' ⟨rfl, n, rfl⟩
    rw [hg]
    clear hg
    go_wp2_with fail
    refine (halves_spec 64 A c _ xs _ (Reads.drewN HA.out _) (goodB_iff.1 HG.out).1 (goodB_iff.1 HG.out).1 (goodB_iff.1 HG.out).2 hc).mono ?_
    rintro e w' ⟨rfl, m, rfl⟩
    go_wp2_with fail
    go_ret2
    exact ⟨_, by rw [HG.out]; rfl, pair_wf (goodB_iff.1 HG.out), by rw [HV.out]; exact Fl.Eqv.refl _ _, below_drewN (Below.refl _ _) _⟩
  · have HV := hid (show pairV xs = 0 by unfold pairV; rw [hg]; rfl)
    have HG := hid hg
    go_enter Try.func24, Try.ntmps24
    go_wp2_with fail
    refine (good_spec _ _ _ _ HA.out hn).mono ?_
    rintro e w' ⟨rfl, n, rfl⟩
    rw [hg]
    clear hg
    go_wp2_with fail
    go_ret2
    exact ⟨0, by rw [HG.out]; rfl, wf0 _, by rw [HV.out]; exact Fl.Eqv.refl _ _, below_drewN (Below.refl _ _) _⟩

set_option maxHeartbeats 1000000 in
theorem halves_impl : ∀ (f : Nat) (A : Option Addr) (c B : Nat) (xs : List Nat) (w : World) (_ : Sing w B A xs) (_ : xs.length ≤ f) (_ : xs.length ≤ 64) (_ : ∀ x ∈ xs, fin32 x = true) (_ : xs.length ≤ c),
    Calls Try.prog 41 #[.slice A xs.length c] w fun e w' => e = .returned (.float .f64 (pairF f xs)) ∧ Drew w w'
  | 0, A, c, B, xs, w, ha, hf, h64, hx, hc => by
    have h0 : xs.length = 0 := by omega
    clear ha
    rw [h0]
    go_enter Try.func41, Try.ntmps41
    go_wp2_with fail
    go_ret
    exact ⟨rfl, 0, rfl⟩
  | f + 1, A, c, B, xs, w, ha, hf, h64, hx, hc => by
    by_cases h0 : xs.length = 0
    · clear ha
      have hp : pairF (f + 1) xs = 0 := by unfold pairF; rw [if_pos h0]
      rw [hp, h0]
      go_enter Try.func41, Try.ntmps41
      go_wp2_with fail
      go_ret
      exact ⟨rfl, 0, rfl⟩
    · by_cases h1 : xs.length = 1
      · obtain ⟨ad, rfl, had, hca⟩ := ha.at_ (k := 0) (by omega)
        have HX := hid (hx xs[0] (List.getElem_mem (by omega)))
        have hp : pairF (f + 1) xs = Fl.wid xs[0] := by unfold pairF; rw [if_neg h0, if_pos h1]; simp [List.getD, show 0 < xs.length by omega]
        rw [show ad.add 0 = ad from by simp [Addr.add]] at hca
        clear ha
        have hlv : xs[0] = xs[0] := rfl
        generalize xs[0] = v at hca HX hp hlv
        clear hlv hx
        rw [hp, h1]
        clear hp
        go_enter Try.func41, Try.ntmps41
        go_wp2_with fail
        refine upon_widen some_f32 Try.underlying28 ?_
        intro r1 n1 hr1
        have E1 := hid hr1.w
        clear hr1
        go_wp2_with fail
        go_ret
        refine ⟨?_, _, rfl⟩
        rw [E1.out.symm.eq _ (by rw [Fl.wid_nan]; exact Fl.fin_nan .f32 HX.out)]
        rfl
      · have h2z : (2 : Int) ≤ (xs.length : Int) := by omega
        have h64z : (xs.length : Int) ≤ 64 := by omega
        have hcz : (xs.length : Int) ≤ (c : Int) := by omega
        have hp : pairF (f + 1) xs = Fl.arith .f64 .add (pairF f (xs.take (xs.length / 2))) (pairF f (xs.drop (xs.length / 2))) := by
          rw [pairF, if_neg h0, if_neg h1]
        have e1 : (xs.take (xs.length / 2)).length = xs.length / 2 := by rw [List.length_take]; omega
        have e2 : (xs.drop (xs.length / 2)).length = xs.length - xs.length / 2 := by rw [List.length_drop]
        have C1 : ∀ n, Calls Try.prog 41 #[.slice A (xs.length / 2) c] (w.drewN n) fun e w' => e = .returned (.float .f64 (pairF f (xs.take (xs.length / 2)))) ∧ ∃ m, w' = w.drewN m := fun n => by
          have := halves_impl f A c B (xs.take (xs.length / 2)) (w.drewN n) (Reads.drewN (ha.pre (by omega)) n) (by omega) (by omega) (fun x m => hx x (List.mem_of_mem_take m)) (by omega)
          rw [e1] at this; exact Calls.quiet_of this
        have C2 : ∀ n, Calls Try.prog 41 #[.slice (Option.map (fun x => x.add (xs.length / 2)) A) (xs.length - xs.length / 2) (c - xs.length / 2)] (w.drewN n) fun e w' => e = .returned (.float .f64 (pairF f (xs.drop (xs.length / 2)))) ∧ ∃ m, w' = w.drewN m := fun n => by
          have hs := ha.post (k := xs.length / 2) (cap := c) (by omega) hc
          rw [if_neg (by omega)] at hs
          have := halves_impl f _ (c - xs.length / 2) B (xs.drop (xs.length / 2)) (w.drewN n) (Reads.drewN hs n) (by omega) (by omega) (fun x m => hx x (List.mem_of_mem_drop m)) (by omega)
          rw [e2] at this; exact Calls.quiet_of this
        have HF := hid (btw_bits
          (pair_btw bot32 top32 f (xs.take (xs.length / 2)) (by omega) (by omega) (fun x m => ⟨hx x (List.mem_of_mem_take m), key_btw (hx x (List.mem_of_mem_take m))⟩))
          (pair_btw bot32 top32 f (xs.drop (xs.length / 2)) (by omega) (by omega) (fun x m => ⟨hx x (List.mem_of_mem_drop m), key_btw (hx x (List.mem_of_mem_drop m))⟩)))
        have HC1 := hid C1
        have HC2 := hid C2
        clear ha e1 e2 C1 C2 hx
        rw [hp]
        clear hp
        go_enter Try.func41, Try.ntmps41
        go_wp2_with fail
        go_quiet (first
          | with_reducible exact HC1.out _
          | with_reducible exact HC2.out _
          | (rw [run_float_arith _ _ _ _ _ _ _ HF.out]; exact ⟨rfl, rfl⟩))
        go_wp2_with fail
        go_ret
        exact ⟨rfl, _, rfl⟩

set_option maxHeartbeats 1000000 in
theorem pair_impl (A : Option Addr) (c : Nat) (xs : List Nat) (w : World) (ha : Sing w w.heap.size A xs) (hn : xs.length ≤ 1048576) (hc : xs.length ≤ c) :
    Calls Try.prog 25 #[.slice A xs.length c] w (RetFB .f64 (pairV xs) (goodB xs) w) := by
  have HA := hid ha
  clear ha
  rcases Bool.eq_false_or_eq_true (goodB xs) with hg | hg
  · have HV := hid (show pairV xs = pairN xs by unfold pairV; rw [hg]; rfl)
    have HG := hid hg
    go_enter Try.func25, Try.ntmps25
    go_wp2_with fail
    refine (good_impl _ _ _ _ HA.out hn).mono ?_
    rintro e w' ⟨rfl, n, rfl⟩
    rw [hg]
    clear hg
    go_wp2_with fail
    refine (halves_impl 64 A c _ xs _ (Reads.drewN HA.out _) (goodB_iff.1 HG.out).1 (goodB_iff.1 HG.out).1 (goodB_iff.1 HG.out).2 hc).mono ?_
    rintro e w' ⟨rfl, m, rfl⟩
    go_wp2_with fail
    go_ret2
    exact ⟨_, by rw [HG.out]; rfl, pair_wf (goodB_iff.1 HG.out), by rw [HV.out]; exact Fl.Eqv.refl _ _, below_drewN (Below.refl _ _) _⟩
  · have HV := hid (show pairV xs = 0 by unfold pairV; rw [hg]; rfl)
    have HG := hid hg
    go_enter Try.func25, Try.ntmps25
    go_wp2_with fail
    refine (good_impl _ _ _ _ HA.out hn).mono ?_
    rintro e w' ⟨rfl, n, rfl⟩
    rw [hg]
    clear hg
    go_wp2_with fail
    go_ret2
    exact ⟨0, by rw [HG.out]; rfl, wf0 _, by rw [HV.out]; exact Fl.Eqv.refl _ _, below_drewN (Below.refl _ _) _⟩

end Go.Proofs.Ytgenphbackbepaa
