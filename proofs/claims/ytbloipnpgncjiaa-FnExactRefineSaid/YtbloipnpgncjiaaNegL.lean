/- The sign of a float turned: its key is turned, it is a NaN or finite as before. Plain laws. -/
import Derived.Test.YtbloipnpgncjiaaNum
import Derived.Test.YtbloipnpgncjiaaFin
namespace Go.Proofs.Ytbloipnpgncjiaa
open Go.RowKit

theorem rung_turn (k : FloatKind) (b : Nat) : Fl.rung k.format (Op.negFloat k b) = Fl.rung k.format b := by
  unfold Fl.rung Op.negFloat
  show (b ^^^ 2 ^ (k.format.exponentBits + k.format.fractionBits)) % 2 ^ (k.format.exponentBits + k.format.fractionBits) = _
  rw [Nat.xor_mod_two_pow, Nat.mod_self, Nat.xor_zero]; rfl
theorem sign_turn (k : FloatKind) (b : Nat) : Fl.neg k.format (Op.negFloat k b) = !Fl.neg k.format b := by
  have e : ∀ w : Nat, Fl.neg k.format w = w.testBit (k.format.exponentBits + k.format.fractionBits) := by
    intro w
    unfold Fl.neg
    rw [Nat.testBit_eq_decide_div_mod_eq]; rfl
  rw [e, e]
  unfold Op.negFloat
  rw [Nat.testBit_xor, Nat.testBit_two_pow_self]
  cases b.testBit (k.format.exponentBits + k.format.fractionBits) <;> rfl
theorem key_turn (k : FloatKind) (b : Nat) : Fl.ky k (Op.negFloat k b) = -Fl.ky k b := by
  unfold Fl.ky Fl.key
  rw [sign_turn, rung_turn]
  cases Fl.neg k.format b <;> simp
theorem nan_turn (k : FloatKind) (b : Nat) : Fl.nan k (Op.negFloat k b) = Fl.nan k b := by
  unfold Fl.nan Fl.isN
  rw [rung_turn]
theorem fin_turn (k : FloatKind) (b : Nat) : Fl.fin k.format (Op.negFloat k b) = Fl.fin k.format b := by
  unfold Fl.fin
  rw [rung_turn]
theorem neg_fin {x : Nat} (h : fin32 x = true) : fin32 (Op.negFloat .f32 x) = true := (fin_turn .f32 x).trans h
end Go.Proofs.Ytbloipnpgncjiaa
