/- Numbers that are drawn: l01MildComplex, l01Double, l01Complex, l05Number of the reference. -/
import Derived.Test.YtbloipnpgncjiaaStp
import Derived.Test.YtbloipnpgncjiaaSingle
import Derived.Test.YtbloipnpgncjiaaOwnP
namespace Go.Proofs.Ytbloipnpgncjiaa
open Go.RowKit Ieee

theorem v700 : Fl.V double (1723 * 2 ^ 52) = Fl.pw 700 := by
  have h := Fl.V_at double 1722 0 (Nat.zero_le _)
  rw [Fl.bin64, Fl.least64] at h
  rw [show 1723 * 2 ^ 52 = (1722 + 1) * 2 ^ 52 + 0 from rfl, h]
  show Fl.mv (2 ^ 52 + 0) (-1074 + ((1722 : Nat) : Int)) = _
  unfold Fl.mv
  rw [show ((2 ^ 52 + 0 : Nat) : Rat) = Fl.pw 52 from (Fl.pw_nat 52).symm, ← Fl.pw_add]
  rfl
theorem prt_key {x : Nat} (hx : x < 2 ^ 64) (h : (ky64 x).natAbs ≤ 1723 * 2 ^ 52) : Prt x := by
  have hk : Fl.kv double ((1723 * 2 ^ 52 : Nat) : Int) = Fl.pw 700 := by
    unfold Fl.kv
    rw [if_neg (by omega), Int.natAbs_natCast]; exact v700
  refine ⟨hx, Fl.fin_key (show (ky64 x).natAbs < double.infRung by rw [Fl.inf64r]; omega), ?_, ?_⟩
  · rw [← hk, ← Fl.kv_neg]; exact Fl.kv_le double (by omega)
  · rw [← hk]; exact Fl.kv_le double (by omega)
theorem prt_mild {y r : Nat} (h : bnd 8 y = true) (hr : Fl.Res .f64 (floatToFloatBits .f32 y .f64) r) : Prt r := by
  have hf : Fl.fin single y = true := bnd_fin (by decide) h
  obtain ⟨t, e, f, v, _, w⟩ := Fl.widen_fin hf
  have er : r = t := by have := hr.2; rw [e] at this; exact this
  obtain ⟨h1, h2⟩ := bnd_kv h
  have h8 : Fl.pw 8 ≤ Fl.pw 700 := Fl.pw_le (by decide)
  subst er
  refine ⟨w, f, ?_, ?_⟩
  · show _ ≤ Fl.kv double (Fl.key double r)
    rw [v]
    have h1' : -Fl.pw 8 ≤ Fl.kv single (Fl.key single y) := h1
    grind
  · show Fl.kv double (Fl.key double r) ≤ _
    rw [v]
    have h2' : Fl.kv single (Fl.key single y) ≤ Fl.pw 8 := h2
    grind

set_option maxRecDepth 20000 in
set_option maxHeartbeats 1000000 in
theorem mildC_any (p : Nat) (w : World) (hc : Cur w p) :
    Calls Try.prog 111 #[.pointer (some ⟨p, 0, none⟩)] w fun e w' => ∃ x y : Nat, e = .returned (.complex .f64 x y) ∧ Prt x ∧ Prt y ∧ Cur w' p ∧ Upd p w w' := by
  have HC := hid hc
  clear hc
  go_enter Try.func111, Try.ntmps111
  go_wp2_with fail
  refine (mild_any _ _ HC.out).mono ?_
  rintro e w1 ⟨x, rfl, hx, hc1, hu1⟩
  have HX := hid hx
  have HC1 := hid hc1
  have HU1 := hid hu1
  clear hc1 hu1 hx
  go_wp2_with fail
  refine upon_widen some_f32 Try.underlying51 ?_
  intro r n hr
  have HR := hid (prt_mild HX.out hr)
  clear hr
  go_wp2_with fail
  refine (mild_any _ _ (HC1.out.drewN n)).mono ?_
  rintro e w2 ⟨y, rfl, hy, hc2, hu2⟩
  have HY := hid hy
  have HC2 := hid hc2
  have HU2 := hid ((HU1.out.drewN n).trans hu2)
  clear hc2 hu2 hy
  go_wp2_with fail
  refine upon_widen some_f32 Try.underlying51 ?_
  intro i m hi
  have HI := hid (prt_mild HY.out hi)
  clear hi
  go_wp2_with fail
  go_ret
  exact ⟨r, i, rfl, HR.out, HI.out, HC2.out.drewN _, HU2.out.drewN _⟩

set_option maxRecDepth 20000 in
set_option maxHeartbeats 2000000 in
theorem dbl_any (p : Nat) (w : World) (hc : Cur w p) :
    Calls Try.prog 131 #[.pointer (some ⟨p, 0, none⟩)] w fun e w' => ∃ x : Nat, e = .returned (.float .f64 x) ∧ x < 2 ^ 64 ∧ Cur w' p ∧ Upd p w w' := by
  have HC := hid hc
  clear hc
  go_enter Try.func131, Try.ntmps131
  go_wp2_with fail
  refine (below_any _ _ _ HC.out (by decide) (by decide)).mono ?_
  rintro e w1 ⟨a, rfl, a0, a1, hc1, hu1⟩
  have HC1 := hid hc1
  have HU1 := hid hu1
  clear hc1 hu1
  have ha : a = 0 ∨ a = 1 ∨ a = 2 ∨ a = 3 ∨ a = 4 ∨ 5 ≤ a := by omega
  rcases ha with rfl | rfl | rfl | rfl | rfl | ha
  · go_wp2_with fail
    go_ret
    exact ⟨_, rfl, by decide, HC1.out, HU1.out⟩
  · go_wp2_with fail
    go_ret
    exact ⟨_, rfl, by decide, HC1.out, HU1.out⟩
  · go_wp2_with fail
    refine (below_any _ _ _ HC1.out (by decide) (by decide)).mono ?_
    rintro e w2 ⟨b, rfl, b0, b1, hc2, hu2⟩
    have HC2 := hid hc2
    have HU2 := hid (HU1.out.trans hu2)
    clear hc2 hu2
    go_wp2_with fail
    refine upon_arith (.inr (.inr (.inr rfl))) ?_
    intro r n hr
    have HR := hid hr.1
    clear hr
    go_wp2_with fail
    go_ret
    exact ⟨r, rfl, HR.out, HC2.out.drewN _, HU2.out.drewN _⟩
  · go_wp2_with fail
    refine (single_any _ _ HC1.out).mono ?_
    rintro e w2 ⟨x, rfl, hc2, hu2⟩
    have HC2 := hid hc2
    have HU2 := hid (HU1.out.trans hu2)
    clear hc2 hu2
    go_wp2_with fail
    refine upon_widen some_f32 Try.underlying51 ?_
    intro r n hr
    clear hr
    go_wp2_with fail
    refine upon_arith (.inr (.inr (.inl rfl))) ?_
    intro r' n' hr'
    have HR := hid hr'.1
    clear hr'
    go_wp2_with fail
    go_ret
    exact ⟨r', rfl, HR.out, HC2.out.drewN _, HU2.out.drewN _⟩
  · go_wp2_with fail
    refine (mild_any _ _ HC1.out).mono ?_
    rintro e w2 ⟨x, rfl, hx, hc2, hu2⟩
    have HC2 := hid hc2
    have HU2 := hid (HU1.out.trans hu2)
    clear hc2 hu2 hx
    go_wp2_with fail
    refine upon_widen some_f32 Try.underlying51 ?_
    intro r n hr
    clear hr
    go_wp2_with fail
    refine upon_arith (.inr (.inr (.inl rfl))) ?_
    intro r' n' hr'
    have HR := hid hr'.1
    clear hr'
    go_wp2_with fail
    go_ret
    exact ⟨r', rfl, HR.out, HC2.out.drewN _, HU2.out.drewN _⟩
  · have n0 : ¬ (a = 0) := by omega
    have n1 : ¬ (a = 1) := by omega
    have n2 : ¬ (a = 2) := by omega
    have n3 : ¬ (a = 3) := by omega
    have n4 : ¬ (a = 4) := by omega
    clear ha
    go_wp2_with fail
    refine (single_any _ _ HC1.out).mono ?_
    rintro e w2 ⟨x, rfl, hc2, hu2⟩
    have HC2 := hid hc2
    have HU2 := hid (HU1.out.trans hu2)
    clear hc2 hu2
    go_wp2_with fail
    refine upon_widen some_f32 Try.underlying51 ?_
    intro r n hr
    have HR := hid hr.1
    clear hr
    go_wp2_with fail
    go_ret
    exact ⟨r, rfl, HR.out, HC2.out.drewN _, HU2.out.drewN _⟩

set_option maxRecDepth 20000 in
set_option maxHeartbeats 1000000 in
theorem cplx_any (p : Nat) (w : World) (hc : Cur w p) :
    Calls Try.prog 118 #[.pointer (some ⟨p, 0, none⟩)] w fun e w' => ∃ x y : Nat, e = .returned (.complex .f64 x y) ∧ x < 2 ^ 64 ∧ y < 2 ^ 64 ∧ Cur w' p ∧ Upd p w w' := by
  have HC := hid hc
  clear hc
  go_enter Try.func118, Try.ntmps118
  go_wp2_with fail
  refine (dbl_any _ _ HC.out).mono ?_
  rintro e w1 ⟨x, rfl, hx, hc1, hu1⟩
  have HX := hid hx
  have HC1 := hid hc1
  have HU1 := hid hu1
  clear hc1 hu1 hx
  go_wp2_with fail
  refine (dbl_any _ _ HC1.out).mono ?_
  rintro e w2 ⟨y, rfl, hy, hc2, hu2⟩
  have HY := hid hy
  have HC2 := hid hc2
  have HU2 := hid (HU1.out.trans hu2)
  clear hc2 hu2 hy
  go_wp2_with fail
  go_ret
  exact ⟨x, y, rfl, HX.out, HY.out, HC2.out, HU2.out⟩

set_option maxRecDepth 20000 in
set_option maxHeartbeats 1000000 in
theorem num_any (p : Nat) (w : World) (hc : Cur w p) :
    Calls Try.prog 96 #[.pointer (some ⟨p, 0, none⟩)] w fun e w' => ∃ x y : Nat, e = .returned (.complex .f64 x y) ∧ x < 2 ^ 64 ∧ y < 2 ^ 64 ∧ Cur w' p ∧ Upd p w w' := by
  have HC := hid hc
  clear hc
  go_enter Try.func96, Try.ntmps96
  go_wp2_with fail
  refine (once_any _ _ _ HC.out (by decide) (by decide)).mono ?_
  rintro e w1 ⟨b, rfl, hc1, hu1⟩
  have HC1 := hid hc1
  have HU1 := hid hu1
  clear hc1 hu1
  cases b
  · go_wp2_with fail
    refine (mildC_any _ _ HC1.out).mono ?_
    rintro e w2 ⟨x, y, rfl, hx, hy, hc2, hu2⟩
    have HX := hid hx.1
    have HY := hid hy.1
    have HC2 := hid hc2
    have HU2 := hid (HU1.out.trans hu2)
    clear hc2 hu2 hx hy
    go_wp2_with fail
    go_ret
    exact ⟨x, y, rfl, HX.out, HY.out, HC2.out, HU2.out⟩
  · go_wp2_with fail
    refine (cplx_any _ _ HC1.out).mono ?_
    rintro e w2 ⟨x, y, rfl, hx, hy, hc2, hu2⟩
    have HX := hid hx
    have HY := hid hy
    have HC2 := hid hc2
    have HU2 := hid (HU1.out.trans hu2)
    clear hc2 hu2 hx hy
    go_wp2_with fail
    go_ret
    exact ⟨x, y, rfl, HX.out, HY.out, HC2.out, HU2.out⟩
end Go.Proofs.Ytbloipnpgncjiaa
