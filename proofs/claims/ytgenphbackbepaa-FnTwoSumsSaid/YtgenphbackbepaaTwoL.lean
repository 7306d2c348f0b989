/- The sum in order and the sum by halves of at most nine singles differ by less than a million-millionth of the sum of the amounts. Plain laws. -/
import Derived.Test.YtgenphbackbepaaErrL
import Derived.Test.YtgenphbackbepaaMildL
import Derived.Test.YtgenphbackbepaaMean
import Derived.Test.YtgenphbackbepaaPair
namespace Go.Proofs.Ytgenphbackbepaa
open Go.RowKit Ieee Go.Fl

def valS (x : Nat) : Rat := kv single (key single x)
def absS (x : Nat) : Rat := kv single ((key single x).natAbs : Int)
def sumX : List Nat → Rat
  | [] => 0
  | x :: xs => valS x + sumX xs
def sumM : List Nat → Rat
  | [] => 0
  | x :: xs => absS x + sumM xs
theorem kv_nonneg {a : Int} (h : 0 ≤ a) : 0 ≤ kv single a := by rw [← kv_zero single]; exact kv_le single h
theorem abs_cases (x : Nat) : (0 ≤ key single x ∧ absS x = valS x) ∨ (key single x < 0 ∧ absS x = -valS x) := by
  unfold absS valS
  by_cases h : 0 ≤ key single x
  · exact .inl ⟨h, by rw [show ((key single x).natAbs : Int) = key single x by omega]⟩
  · exact .inr ⟨by omega, by rw [show ((key single x).natAbs : Int) = -key single x by omega, kv_neg]⟩
theorem abs_nonneg (x : Nat) : 0 ≤ absS x := kv_nonneg (by omega)
theorem abs_val (x : Nat) : -absS x ≤ valS x ∧ valS x ≤ absS x := by
  have h0 := abs_nonneg x
  rcases abs_cases x with ⟨_, h⟩ | ⟨_, h⟩ <;> constructor <;> grind
theorem sumM_nonneg : ∀ xs, 0 ≤ sumM xs
  | [] => Rat.le_refl
  | x :: xs => by
    have h1 := abs_nonneg x
    have h2 := sumM_nonneg xs
    show 0 ≤ absS x + sumM xs
    grind
theorem sumX_le : ∀ xs, -sumM xs ≤ sumX xs ∧ sumX xs ≤ sumM xs
  | [] => ⟨by simp [sumM, sumX], by simp [sumM, sumX]⟩
  | x :: xs => by
    have h1 := abs_val x
    have h2 := sumX_le xs
    show -(absS x + sumM xs) ≤ valS x + sumX xs ∧ valS x + sumX xs ≤ absS x + sumM xs
    constructor <;> grind
theorem sumX_append : ∀ xs ys, sumX (xs ++ ys) = sumX xs + sumX ys
  | [], ys => by show sumX ys = 0 + sumX ys; grind
  | x :: xs, ys => by
    show valS x + sumX (xs ++ ys) = valS x + sumX xs + sumX ys
    rw [sumX_append xs ys]; grind
theorem sumM_append : ∀ xs ys, sumM (xs ++ ys) = sumM xs + sumM ys
  | [], ys => by show sumM ys = 0 + sumM ys; grind
  | x :: xs, ys => by
    show absS x + sumM (xs ++ ys) = absS x + sumM xs + sumM ys
    rw [sumM_append xs ys]; grind
theorem abs_top {x : Nat} (h : fin32 x = true) : absS x ≤ pw 128 := by
  have h1 : (key single x).natAbs < single.infRung := key_fin h
  rw [show pw 128 = pw ((128 : Nat) : Int) from rfl, ← kvK]
  exact kv_le single (by rw [inf32r] at h1; unfold K; omega)
theorem kvone : kv single 1 = pw (-149) := by
  have h := V_low single 1 (by rw [bin32]; decide)
  rw [least32] at h
  unfold kv
  rw [if_neg (by decide), show (1 : Int).natAbs = 1 from rfl, h]
  unfold mv
  rw [show ((1 : Nat) : Rat) = 1 from rfl, Rat.one_mul]
theorem abs_low {x : Nat} (h : key single x ≠ 0) : pw (-149) ≤ absS x := by
  rw [← kvone]
  exact kv_le single (by omega)
theorem wid_val {x : Nat} (h : fin32 x = true) : kv double (key double (wid x)) = valS x := wid_kv h
theorem sumM_top : ∀ xs : List Nat, (∀ x ∈ xs, fin32 x = true) → sumM xs ≤ (xs.length : Rat) * pw 128
  | [], _ => by show (0 : Rat) ≤ ((0 : Nat) : Rat) * _; rw [show ((0 : Nat) : Rat) = 0 from rfl, Rat.zero_mul]; exact Rat.le_refl
  | x :: xs, h => by
    have h1 := abs_top (h x List.mem_cons_self)
    have h2 := sumM_top xs (fun y hy => h y (List.mem_cons_of_mem _ hy))
    show absS x + sumM xs ≤ ((xs.length + 1 : Nat) : Rat) * pw 128
    rw [show ((xs.length + 1 : Nat) : Rat) = (xs.length : Rat) + 1 from Rat.natCast_add _ 1]
    grind
theorem sumM_low : ∀ xs : List Nat, (∃ x ∈ xs, key single x ≠ 0) → pw (-149) ≤ sumM xs
  | [], h => by obtain ⟨x, hx, _⟩ := h; cases hx
  | x :: xs, h => by
    obtain ⟨y, hy, hk⟩ := h
    have h1 := abs_nonneg x
    have h2 := sumM_nonneg xs
    show pw (-149) ≤ absS x + sumM xs
    rcases List.mem_cons.1 hy with rfl | hy
    · have := abs_low hk; grind
    · have := sumM_low xs ⟨y, hy, hk⟩; grind

theorem small {M : Rat} (m1 : pw (-149) ≤ M) : 0 ≤ pw (-51) * M ∧ 1024 * (pw (-51) * M) ≤ M := by
  have h0 : 0 ≤ M := Rat.le_trans (Rat.le_of_lt (pw_pos _)) m1
  have p := pw_pos (-51)
  refine ⟨Rat.mul_nonneg (Rat.le_of_lt p) h0, ?_⟩
  have e : (1024 : Rat) = pw 10 := by rw [show pw 10 = ((2 ^ 10 : Nat) : Rat) from pw_nat 10]; rfl
  have h1 : pw 10 * pw (-51) ≤ 1 := by
    rw [← pw_add, ← pw_zero]
    exact pw_le (by decide)
  rw [e]
  have := Rat.mul_le_mul_of_nonneg_right h1 h0
  rw [Rat.one_mul] at this
  grind
/-- near: a finite double within t of q -/
def Near (r : Nat) (q t : Rat) : Prop := fin double r = true ∧ q - t ≤ kv double (key double r) ∧ kv double (key double r) ≤ q + t
theorem near_add {M : Rat} (m1 : pw (-149) ≤ M) (m2 : M ≤ pw 200) {x y : Nat} {p q s t : Rat} (hx : Near x p s) (hy : Near y q t) (h1 : -M ≤ p + q) (h2 : p + q ≤ M) (hs : s + t ≤ M) :
    floatBits .add .f64 x y = some (arith .f64 .add x y) ∧ Near (arith .f64 .add x y) (p + q) (s + t + pw (-51) * M) := by
  obtain ⟨r, e, f, a, b⟩ := add_err hx.1 hy.1 m1 m2 (by have := hx.2; have := hy.2; grind) (by have := hx.2; have := hy.2; grind)
  rw [arith_some e]
  exact ⟨e, f, by have := hx.2; have := hy.2; grind, by have := hx.2; have := hy.2; grind⟩
theorem near_sub {M : Rat} (m1 : pw (-149) ≤ M) (m2 : M ≤ pw 200) {x y : Nat} {p q s t : Rat} (hx : Near x p s) (hy : Near y q t) (h1 : -M ≤ p - q) (h2 : p - q ≤ M) (hs : s + t ≤ M) :
    floatBits .sub .f64 x y = some (arith .f64 .sub x y) ∧ Near (arith .f64 .sub x y) (p - q) (s + t + pw (-51) * M) := by
  obtain ⟨r, e, f, a, b⟩ := sub_err hx.1 hy.1 m1 m2 (by have := hx.2; have := hy.2; grind) (by have := hx.2; have := hy.2; grind)
  rw [arith_some e]
  exact ⟨e, f, by have := hx.2; have := hy.2; grind, by have := hx.2; have := hy.2; grind⟩
theorem near_wid {x : Nat} (h : fin32 x = true) : Near (wid x) (valS x) 0 := by
  refine ⟨by rw [wid_fin]; exact h, ?_, ?_⟩ <;> rw [wid_val h] <;> grind
theorem near_zero : Near 0 0 0 := by
  refine ⟨by decide +kernel, ?_, ?_⟩ <;> rw [show key double 0 = 0 from by decide +kernel, kv_zero] <;> grind
theorem sum_near {M : Rat} (m1 : pw (-149) ≤ M) (m2 : M ≤ pw 200) : ∀ (xs : List Nat) (s j : Nat) (a A : Rat), Near s a ((j : Rat) * (pw (-51) * M)) → -A ≤ a → a ≤ A → A + sumM xs ≤ M → j + xs.length ≤ 64 → (∀ x ∈ xs, fin32 x = true) →
    Near (xs.foldl (fun s x => arith .f64 .add s (wid x)) s) (a + sumX xs) (((j + xs.length : Nat) : Rat) * (pw (-51) * M))
  | [], s, j, a, A, h, _, _, _, _, _ => by
    show Near s (a + 0) _
    rw [show a + 0 = a by grind]
    exact h
  | x :: xs, s, j, a, A, h, h1, h2, h3, h4, h5 => by
    have hx := h5 x List.mem_cons_self
    have hM : A + (absS x + sumM xs) ≤ M := h3
    have n1 := sumM_nonneg xs
    have n2 := abs_nonneg x
    have n3 := abs_val x
    obtain ⟨e0, e1⟩ := small m1
    simp only [List.length_cons] at h4
    have hj : (j : Rat) * (pw (-51) * M) ≤ 64 * (pw (-51) * M) := Rat.mul_le_mul_of_nonneg_right (by exact_mod_cast (by omega : j ≤ 64)) e0
    have step := (near_add m1 m2 h (near_wid hx) (by grind) (by grind) (by grind)).2
    have ej : (j : Rat) * (pw (-51) * M) + 0 + pw (-51) * M = ((j + 1 : Nat) : Rat) * (pw (-51) * M) := by
      rw [show ((j + 1 : Nat) : Rat) = (j : Rat) + 1 from Rat.natCast_add _ 1]; grind
    rw [ej] at step
    have := sum_near m1 m2 xs _ (j + 1) (a + valS x) (A + absS x) step (by grind) (by grind) (by grind) (by omega) (fun y hy => h5 y (List.mem_cons_of_mem _ hy))
    rw [show j + 1 + xs.length = j + (x :: xs).length by simp; omega] at this
    show Near _ (a + (valS x + sumX xs)) _
    rw [show a + (valS x + sumX xs) = a + valS x + sumX xs by grind]
    exact this
theorem pair_near {M : Rat} (m1 : pw (-149) ≤ M) (m2 : M ≤ pw 200) : ∀ (f : Nat) (xs : List Nat), xs.length ≤ f + 1 → xs.length ≤ 64 → sumM xs ≤ M → (∀ x ∈ xs, fin32 x = true) → Near (pairF (f + 1) xs) (sumX xs) ((xs.length : Rat) * (pw (-51) * M) - (if xs.length = 0 then 0 else pw (-51) * M))
  | f, xs, hf, h64, hM, hx => by
    obtain ⟨e0, e1⟩ := small m1
    unfold pairF
    split
    · rename_i h0
      have : xs = [] := List.eq_nil_of_length_eq_zero h0
      subst this
      have e : ((([] : List Nat).length : Nat) : Rat) * (pw (-51) * M) - 0 = 0 := by
        rw [show ((([] : List Nat).length : Nat) : Rat) = 0 from rfl]; grind
      try rw [if_pos rfl]
      rw [e]
      exact near_zero
    · rename_i h0
      split
      · rename_i h1
        obtain ⟨x, rfl⟩ := List.length_eq_one_iff.1 h1
        have e : (([x].length : Nat) : Rat) * (pw (-51) * M) - pw (-51) * M = 0 := by
          rw [show (([x].length : Nat) : Rat) = 1 from rfl]; grind
        try rw [if_neg (by simp)]
        rw [e]
        show Near (wid x) (valS x + 0) 0
        rw [show valS x + 0 = valS x by grind]
        exact near_wid (hx x (List.mem_singleton.2 rfl))
      · rename_i h1
        have l1 : (xs.take (xs.length / 2)).length = xs.length / 2 := by rw [List.length_take]; omega
        have l2 : (xs.drop (xs.length / 2)).length = xs.length - xs.length / 2 := by rw [List.length_drop]
        have hsx : sumX (xs.take (xs.length / 2)) + sumX (xs.drop (xs.length / 2)) = sumX xs := by rw [← sumX_append, List.take_append_drop]
        have hsm : sumM (xs.take (xs.length / 2)) + sumM (xs.drop (xs.length / 2)) = sumM xs := by rw [← sumM_append, List.take_append_drop]
        have p1 := sumM_nonneg (xs.take (xs.length / 2))
        have p2 := sumM_nonneg (xs.drop (xs.length / 2))
        obtain ⟨g, rfl⟩ : ∃ g, f = g + 1 := ⟨f - 1, by omega⟩
        have a := pair_near m1 m2 g (xs.take (xs.length / 2)) (by omega) (by omega) (by grind) (fun x m => hx x (List.mem_of_mem_take m))
        have b := pair_near m1 m2 g (xs.drop (xs.length / 2)) (by omega) (by omega) (by grind) (fun x m => hx x (List.mem_of_mem_drop m))
        rw [l1, if_neg (by omega)] at a
        rw [l2, if_neg (by omega)] at b
        have hb := sumX_le xs
        have hlen : ((xs.length / 2 : Nat) : Rat) + ((xs.length - xs.length / 2 : Nat) : Rat) = (xs.length : Rat) := by
          rw [← Rat.natCast_add]; congr 1; omega
        have hL : (xs.length : Rat) * (pw (-51) * M) ≤ 64 * (pw (-51) * M) := Rat.mul_le_mul_of_nonneg_right (by exact_mod_cast h64) e0
        have hsplit : ((xs.length / 2 : Nat) : Rat) * (pw (-51) * M) + ((xs.length - xs.length / 2 : Nat) : Rat) * (pw (-51) * M) = (xs.length : Rat) * (pw (-51) * M) := by rw [← hlen]; grind
        have st := (near_add m1 m2 a b (by rw [hsx]; grind) (by rw [hsx]; grind) (by grind)).2
        rw [hsx] at st
        try rw [if_neg h0]
        have e : ((xs.length / 2 : Nat) : Rat) * (pw (-51) * M) - pw (-51) * M + (((xs.length - xs.length / 2 : Nat) : Rat) * (pw (-51) * M) - pw (-51) * M) + pw (-51) * M = (xs.length : Rat) * (pw (-51) * M) - pw (-51) * M := by rw [← hsplit]; grind
        rw [e] at st
        exact st
/-- the sum of the amounts, as the law reckons it -/
def mostS (m x : Nat) : Nat := if Fl.lt .f32 x 0 then arith .f64 .sub m (wid x) else arith .f64 .add m (wid x)
def mostN (xs : List Nat) : Nat := xs.foldl mostS 0
theorem mostN_snoc (xs : List Nat) {k : Nat} (h : k < xs.length) : mostN (xs.take (k + 1)) = mostS (mostN (xs.take k)) xs[k] := by
  unfold mostN
  rw [List.take_succ_eq_append_getElem h, List.foldl_append]; rfl
theorem lt_zero {x : Nat} (h : fin32 x = true) : Fl.lt .f32 x 0 = decide (key single x < 0) := by
  rw [Fl.lt_ky, Fl.fin_nan .f32 (show Fl.fin single x = true from h), show Fl.nan .f32 0 = false from by decide +kernel, show Fl.ky .f32 0 = 0 from by decide +kernel]
  rfl
theorem most_near {M : Rat} (m1 : pw (-149) ≤ M) (m2 : M ≤ pw 200) : ∀ (xs : List Nat) (s j : Nat) (a : Rat), Near s a ((j : Rat) * (pw (-51) * M)) → 0 ≤ a → a + sumM xs ≤ M → j + xs.length ≤ 64 → (∀ x ∈ xs, fin32 x = true) →
    Near (xs.foldl mostS s) (a + sumM xs) (((j + xs.length : Nat) : Rat) * (pw (-51) * M))
  | [], s, j, a, h, _, _, _, _ => by
    show Near s (a + 0) _
    rw [show a + 0 = a by grind]
    exact h
  | x :: xs, s, j, a, h, h1, h3, h4, h5 => by
    have hx := h5 x List.mem_cons_self
    have hM : a + (absS x + sumM xs) ≤ M := h3
    have n1 := sumM_nonneg xs
    have n2 := abs_nonneg x
    obtain ⟨e0, e1⟩ := small m1
    simp only [List.length_cons] at h4
    have hj : (j : Rat) * (pw (-51) * M) ≤ 64 * (pw (-51) * M) := Rat.mul_le_mul_of_nonneg_right (by exact_mod_cast (by omega : j ≤ 64)) e0
    have ej : (j : Rat) * (pw (-51) * M) + 0 + pw (-51) * M = ((j + 1 : Nat) : Rat) * (pw (-51) * M) := by
      rw [show ((j + 1 : Nat) : Rat) = (j : Rat) + 1 from Rat.natCast_add _ 1]; grind
    have step : Near (mostS s x) (a + absS x) (((j + 1 : Nat) : Rat) * (pw (-51) * M)) := by
      rw [← ej]
      unfold mostS
      rw [lt_zero hx]
      rcases abs_cases x with ⟨hk, ha⟩ | ⟨hk, ha⟩
      · rw [if_neg (by simpa using hk), ha]
        exact (near_add m1 m2 h (near_wid hx) (by grind) (by grind) (by grind)).2
      · rw [if_pos (by simpa using hk), ha]
        have := (near_sub m1 m2 h (near_wid hx) (by grind) (by grind) (by grind)).2
        rw [show a - valS x = a + -valS x by grind] at this
        exact this
    have := most_near m1 m2 xs _ (j + 1) (a + absS x) step (by grind) (by grind) (by omega) (fun y hy => h5 y (List.mem_cons_of_mem _ hy))
    rw [show j + 1 + xs.length = j + (x :: xs).length by simp; omega] at this
    show Near _ (a + (absS x + sumM xs)) _
    rw [show a + (absS x + sumM xs) = a + absS x + sumM xs by grind]
    exact this
end Go.Proofs.Ytgenphbackbepaa
