/- Two lists of singles that are the same but for which NaNs are told equal by the law's eqFloat32S. -/
import Derived.Test.YtbloipnpgncjiaaCopy
namespace Go.Proofs.Ytbloipnpgncjiaa
open Go.RowKit

def EqvL (xs ys : List Nat) : Prop := xs.length = ys.length ∧ ∀ k (h : k < xs.length) (h' : k < ys.length), Fl.Eqv .f32 xs[k] ys[k]
theorem EqvL.refl (xs : List Nat) : EqvL xs xs := ⟨rfl, fun _ _ _ => Fl.Eqv.refl _ _⟩
theorem EqvL.symm {xs ys : List Nat} (h : EqvL xs ys) : EqvL ys xs := ⟨h.1.symm, fun k a b => (h.2 k b a).symm⟩
theorem EqvL.trans {xs ys zs : List Nat} (h : EqvL xs ys) (h' : EqvL ys zs) : EqvL xs zs := ⟨h.1.trans h'.1, fun k a b => (h.2 k a (by rw [← h.1]; exact a)).trans _ (h'.2 k (by rw [← h.1]; exact a) b)⟩
theorem two_sameE {x y r1 r2 : Nat} (he : Fl.Eqv .f32 x y) (h1 : Fl.Res .f64 (floatToFloatBits .f32 x .f64) r1) (h2 : Fl.Res .f64 (floatToFloatBits .f32 y .f64) r2) : Fl.Eqv .f64 r1 r2 :=
  (Fl.Res.wid h1 he).trans _ (Fl.Res.wid h2 (Fl.Eqv.refl _ _)).symm

set_option maxRecDepth 20000 in
set_option maxHeartbeats 4000000 in
theorem eqE_any (A B : Option Addr) (c d : Nat) (xs ys : List Nat) (w : World) (ha : Sing w w.heap.size A xs) (hb : Sing w w.heap.size B ys) (hE : EqvL xs ys) (hn : xs.length ≤ 1048576) :
    Calls Try.prog 34 #[.slice A xs.length c, .slice B ys.length d] w fun e w' => e = .returned (.bool true) ∧ Below w.heap.size w w' := by
  have HA := hid ha
  have HB := hid hb
  have HL := hid hE.1
  rw [← HL.out]
  have HE := hid hE.2
  clear ha hb hE
  go_enter Try.func34, Try.ntmps34
  go_wp2_with fail
  go_loopw [5] (fun i wr => ∃ k : Nat, k ≤ xs.length ∧ i = .int .i64 k ∧ Drew w wr) (fun i _ => xs.length - (intOf i).toNat)
  case atStart => exact ⟨0, Nat.zero_le _, rfl, 0, rfl⟩
  case round =>
    obtain ⟨k, hk, rfl, n, rfl⟩ := hrel
    by_cases hlt : k < xs.length
    · obtain ⟨ad, rfl, had, hca⟩ := HA.out.at_ hlt
      have hly : k < ys.length := by rw [← HL.out]; exact hlt
      obtain ⟨bd, rfl, hbd, hcb⟩ := HB.out.at_ (k := k) hly
      have HEk := hid (HE.out k hlt hly)
      generalize xs[k] = x at hca HEk
      generalize ys[k] = y at hcb HEk
      clear hly
      have hlz : (k : Int) < (xs.length : Int) := by omega
      go_upto_region 6 with fail
      go_cut [28] (fun v wx => v = .bool false ∧ Drew w wx)
      case first =>
        go_region_with (first | (refine upon_widen some_f32 Try.underlying51 ?_; intro r n hr) | (go_at_call 42; refine (same_any _ _ _ (two_sameE HEk.out (by assumption) (by assumption))).mono ?_; rintro e w' ⟨rfl, m, rfl⟩))
        all_goals (go_wp2_with fail; go_meet; exact ⟨rfl, _, rfl⟩)
      case rest =>
        obtain ⟨rfl, m, rfl⟩ := hcut
        go_wp2_with fail
        go_roundw
        case rel => exact ⟨k + 1, by omega, by go_num, _, rfl⟩
        case measure => simp [intOf]; omega
    · have : k = xs.length := by omega
      subst this
      go_wp2
      go_ret
      exact ⟨rfl, below_drewN (Below.refl _ _) _⟩
end Go.Proofs.Ytbloipnpgncjiaa
