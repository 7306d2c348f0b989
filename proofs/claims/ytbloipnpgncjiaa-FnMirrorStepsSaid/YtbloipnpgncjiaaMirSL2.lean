/- The mirrored steps, plain: step by step. -/
import Derived.Test.YtbloipnpgncjiaaMirSL
set_option linter.unusedSimpArgs false
namespace Go.Proofs.Ytbloipnpgncjiaa
open Go.RowKit Ieee Go.Fl

theorem prt_neg {x : Nat} (h : Prt x) : Prt (neg64 x) := by
  obtain ⟨h1, h2, h3, h4⟩ := h
  have e : ky64 (neg64 x) = -ky64 x := key_turn .f64 x
  refine ⟨neg_wf h1, fin_neg64 h2, ?_, ?_⟩ <;> rw [e, kv_neg] <;> grind
theorem den_ok {c d : Nat} (hc : Prt c) (hd : Prt d) (h0 : ky64 c ≠ 0) (hle : (ky64 d).natAbs ≤ (ky64 c).natAbs) :
    fin double (arith .f64 .quo d c) = true ∧ fin double (arith .f64 .mul (arith .f64 .quo d c) d) = true ∧ fin double (arith .f64 .add c (arith .f64 .mul (arith .f64 .quo d c) d)) = true ∧ ky64 (arith .f64 .add c (arith .f64 .mul (arith .f64 .quo d c) d)) ≠ 0 := by
  by_cases hp : 0 < ky64 c
  · obtain ⟨a, b, e, f⟩ := den_pos hc hd hp hle
    exact ⟨a, b, e, by omega⟩
  · have ec : ky64 (neg64 c) = -ky64 c := key_turn .f64 c
    have ed : ky64 (neg64 d) = -ky64 d := key_turn .f64 d
    obtain ⟨a, b, e, f⟩ := den_pos (prt_neg hc) (prt_neg hd) (by omega) (by omega)
    have sm : Sn (-1) := .inr rfl
    have rc := (Rel.neg1 hc.2.1).symm sm
    have rd := (Rel.neg1 hd.2.1).symm sm
    have r1 := rel_quo sm sm rd rc (by omega) a
    have r2 := rel_mul (sn_mul sm sm) sm r1 rd b
    rw [show (-1 : Int) * -1 * -1 = -1 from rfl] at r2
    have r3 := rel_add sm rc r2 e
    exact ⟨r1.2.1, r2.2.1, r3.2.1, by have := r3.2.2; omega⟩

/-! the order of two amounts -/
theorem abs_rung (x : Nat) : Op.Complex.abs x = rung double x := by
  show x % 2 ^ 63 = x % double.signWeight
  rw [show double.signWeight = 2 ^ 63 by decide +kernel]
theorem absGe_rung {c d c' d' : Nat} (h1 : rung double c = rung double c') (h2 : rung double d = rung double d') : absGe c d = absGe c' d' := by
  unfold absGe
  rw [abs_rung, abs_rung, abs_rung, abs_rung, h1, h2]
theorem key_abs {x : Nat} : key double (rung double x) = (rung double x : Int) := by
  have h : rung double x < double.signWeight := rung_lt double x
  have e1 : rung double (rung double x) = rung double x := Nat.mod_eq_of_lt h
  have e2 : neg double (rung double x) = false := by
    show (rung double x / double.signWeight % 2 == 1) = false
    rw [Nat.div_eq_of_lt h]; rfl
  unfold key
  rw [e1, e2]; rfl
theorem absGe_true {c d : Nat} (hc : fin double c = true) (hd : fin double d = true) : absGe c d = decide ((ky64 d).natAbs ≤ (ky64 c).natAbs) := by
  have e : ∀ {x : Nat}, fin double x = true → fin double (rung double x) = true := fun {x} h => by
    have : rung double (rung double x) = rung double x := Nat.mod_eq_of_lt (rung_lt double x)
    unfold fin at h ⊢
    rw [this]; exact h
  have o := Fl.order_ky .f64 (Fl.fin_nan .f64 (show Fl.fin FloatKind.f64.format _ = true from e hc)) (Fl.fin_nan .f64 (show Fl.fin FloatKind.f64.format _ = true from e hd))
  unfold absGe
  rw [abs_rung, abs_rung]
  rw [o]
  have k1 : ky .f64 (rung double c) = (rung double c : Int) := key_abs
  have k2 : ky .f64 (rung double d) = (rung double d : Int) := key_abs
  rw [k1, k2]
  have a1 : (ky64 c).natAbs = rung double c := key_rung c
  have a2 : (ky64 d).natAbs = rung double d := key_rung d
  rw [a1, a2]
  rcases (show (rung double c : Int) < rung double d ∨ (rung double c : Int) = rung double d ∨ (rung double d : Int) < rung double c by omega) with h | h | h
  · rw [cmp_lt h]; simp; omega
  · rw [h, show compare (rung double d : Int) (rung double d : Int) = .eq by simp]; simp; omega
  · rw [cmp_gt h]; simp; omega

/-- a conjugate -/
def RZ (z z' : Nat × Nat) : Prop := Rel 1 z.1 z'.1 ∧ Rel (-1) z.2 z'.2
theorem RZ.symm {z z' : Nat × Nat} (h : RZ z z') : RZ z' z := ⟨h.1.symm (.inl rfl), h.2.symm (.inr rfl)⟩
theorem RZ.fin' {z z' : Nat × Nat} (h : RZ z z') : cFin z' = true := by unfold cFin finB; rw [h.1.2.1, h.2.2.1]; rfl
def mirS (s : St) : St := ⟨s.k, s.b, neg64 s.c, (4 - s.q) % 4, s.p⟩
theorem mirS_ok {s : St} (h : StOk s) : StOk (mirS s) := by
  obtain ⟨h1, h7, hb, hc, h4, h5, hq, hp⟩ := h
  have e : ky64 (neg64 s.c) = -ky64 s.c := key_turn .f64 s.c
  refine ⟨h1, h7, hb, prt_neg hc, fun h => ?_, fun h => ?_, fun h => ⟨?_, (hq h).2⟩, fun h => ⟨?_, (hp h).2⟩⟩
  · have := h4 h
    simp only [mirS]; rw [e]; omega
  · have := h5 h
    simp only [mirS]; rw [e]; omega
  · simp only [mirS]; omega
  · have := (hp h).1
    simp only [mirS]; omega
theorem mirS_back {s : St} (h : StOk s) : mirS (mirS s) = s := by
  obtain ⟨k, b, c, q, p⟩ := s
  obtain ⟨_, _, _, _, _, _, hq, hp⟩ := h
  simp only at hq hp
  have hq4 : q < 4 := by
    by_cases e : k = 7
    · exact (hq e).1
    · have := (hp e).1; omega
  simp only [mirS, neg_neg64]
  congr 1
  omega
theorem cFin_iff {z : Nat × Nat} : cFin z = true ↔ fin double z.1 = true ∧ fin double z.2 = true := by unfold cFin finB; rw [Bool.and_eq_true]
theorem quart_mir {q x y x' y' : Nat} (hq : q < 4) (hx : Rel 1 x x') (hy : Rel (-1) y y') : Rel 1 (quart q x y).1 (quart ((4 - q) % 4) x' y').1 ∧ Rel (-1) (quart q x y).2 (quart ((4 - q) % 4) x' y').2 := by
  have hq' : q = 0 ∨ q = 1 ∨ q = 2 ∨ q = 3 := by omega
  rcases hq' with rfl | rfl | rfl | rfl
  · exact ⟨hx, hy⟩
  · exact ⟨hy.negl, hx.negr⟩
  · exact ⟨hx.neg, hy.neg⟩
  · exact ⟨hy.negr, hx.negl⟩

set_option maxHeartbeats 1000000 in
theorem quo_mir {a b a' b' c d : Nat} (hc : Prt c) (hd : Prt d) (h0 : ¬(ky64 c = 0 ∧ ky64 d = 0)) (ha : Rel 1 a a') (hb : Rel (-1) b b') (hf : cFin (quoV a b c d) = true) : RZ (quoV a b c d) (quoV a' b' c (neg64 d)) := by
  have s1 : Sn 1 := .inl rfl
  have sm : Sn (-1) := .inr rfl
  have rc := Rel.refl hc.2.1
  have rd := Rel.neg1 hd.2.1
  have hg : absGe c (neg64 d) = absGe c d := absGe_rung rfl (rel_rung sm rd).symm
  have hG := absGe_true hc.2.1 hd.2.1
  rw [cFin_iff] at hf
  obtain ⟨f1, f2⟩ := hf
  rcases Bool.eq_false_or_eq_true (absGe c d) with hge | hge
  · have e1 : quoV a b c d = (arith .f64 .quo (arith .f64 .add a (arith .f64 .mul b (arith .f64 .quo d c))) (arith .f64 .add c (arith .f64 .mul (arith .f64 .quo d c) d)), arith .f64 .quo (arith .f64 .sub b (arith .f64 .mul a (arith .f64 .quo d c))) (arith .f64 .add c (arith .f64 .mul (arith .f64 .quo d c) d))) := by
      unfold quoV; rw [if_pos hge]
    have e2 : quoV a' b' c (neg64 d) = (arith .f64 .quo (arith .f64 .add a' (arith .f64 .mul b' (arith .f64 .quo (neg64 d) c))) (arith .f64 .add c (arith .f64 .mul (arith .f64 .quo (neg64 d) c) (neg64 d))), arith .f64 .quo (arith .f64 .sub b' (arith .f64 .mul a' (arith .f64 .quo (neg64 d) c))) (arith .f64 .add c (arith .f64 .mul (arith .f64 .quo (neg64 d) c) (neg64 d)))) := by
      unfold quoV; rw [if_pos (by rw [hg]; exact hge)]
    rw [hge] at hG
    have hle : (ky64 d).natAbs ≤ (ky64 c).natAbs := by simpa using hG.symm
    have hc0 : ky64 c ≠ 0 := fun h => h0 ⟨h, by omega⟩
    obtain ⟨d1, d2, d3, d4⟩ := den_ok hc hd hc0 hle
    rw [e1] at f1 f2
    simp only at f1 f2
    have n1 := fin_quo f1
    have n2 := fin_quo f2
    have m1 := (fin_add n1).2
    have m2 := (fin_sub n2).2
    have r1 := rel_quo sm s1 rd rc hc0 d1
    have r2 := rel_mul (sn_mul sm s1) sm r1 rd d2
    rw [show (-1 : Int) * 1 * -1 = 1 from rfl] at r2
    have r3 := rel_add s1 rc r2 d3
    rw [show (-1 : Int) * 1 = -1 from rfl] at r1
    have r4 := rel_mul sm sm hb r1 m1
    rw [show (-1 : Int) * -1 = 1 from rfl] at r4
    have r5 := rel_add s1 ha r4 n1
    have r6 := rel_quo s1 s1 r5 r3 d4 f1
    have r7 := rel_mul s1 sm ha r1 m2
    rw [show (1 : Int) * -1 = -1 from rfl] at r7
    have r8 := rel_sub sm hb r7 n2
    have r9 := rel_quo sm s1 r8 r3 d4 f2
    rw [e1, e2]
    exact ⟨r6, r9⟩
  · have e1 : quoV a b c d = (arith .f64 .quo (arith .f64 .add (arith .f64 .mul a (arith .f64 .quo c d)) b) (arith .f64 .add d (arith .f64 .mul (arith .f64 .quo c d) c)), arith .f64 .quo (arith .f64 .sub (arith .f64 .mul b (arith .f64 .quo c d)) a) (arith .f64 .add d (arith .f64 .mul (arith .f64 .quo c d) c))) := by
      unfold quoV; rw [if_neg (by rw [hge]; decide)]
    have e2 : quoV a' b' c (neg64 d) = (arith .f64 .quo (arith .f64 .add (arith .f64 .mul a' (arith .f64 .quo c (neg64 d))) b') (arith .f64 .add (neg64 d) (arith .f64 .mul (arith .f64 .quo c (neg64 d)) c)), arith .f64 .quo (arith .f64 .sub (arith .f64 .mul b' (arith .f64 .quo c (neg64 d))) a') (arith .f64 .add (neg64 d) (arith .f64 .mul (arith .f64 .quo c (neg64 d)) c))) := by
      unfold quoV; rw [if_neg (by rw [hg, hge]; decide)]
    rw [hge] at hG
    have hlt : (ky64 c).natAbs < (ky64 d).natAbs := by
      have := hG.symm; simp at this; omega
    have hd0 : ky64 d ≠ 0 := by omega
    obtain ⟨d1, d2, d3, d4⟩ := den_ok hd hc hd0 (by omega)
    rw [e1] at f1 f2
    simp only at f1 f2
    have n1 := fin_quo f1
    have n2 := fin_quo f2
    have m1 := (fin_add n1).1
    have m2 := (fin_sub n2).1
    have r1 := rel_quo s1 sm rc rd hd0 d1
    rw [show (1 : Int) * -1 = -1 from rfl] at r1
    have r2 := rel_mul sm s1 r1 rc d2
    rw [show (-1 : Int) * 1 = -1 from rfl] at r2
    have r3 := rel_add sm rd r2 d3
    have r4 := rel_mul s1 sm ha r1 m1
    rw [show (1 : Int) * -1 = -1 from rfl] at r4
    have r5 := rel_add sm r4 hb n1
    have r6 := rel_quo sm sm r5 r3 d4 f1
    rw [show (-1 : Int) * -1 = 1 from rfl] at r6
    have r7 := rel_mul sm sm hb r1 m2
    rw [show (-1 : Int) * -1 = 1 from rfl] at r7
    have r8 := rel_sub s1 r7 ha n2
    have r9 := rel_quo s1 sm r8 r3 d4 f2
    rw [show (1 : Int) * -1 = -1 from rfl] at r9
    rw [e1, e2]
    exact ⟨r6, r9⟩

set_option maxHeartbeats 1000000 in
theorem step_mir {s : St} {z z' : Nat × Nat} (hs : StOk s) (hz : RZ z z') (hf : cFin (stv s z) = true) : RZ (stv s z) (stv (mirS s) z') := by
  have s1 : Sn 1 := .inl rfl
  have sm : Sn (-1) := .inr rfl
  obtain ⟨k, b, c, q, p⟩ := s
  obtain ⟨x, y⟩ := z
  obtain ⟨x', y'⟩ := z'
  obtain ⟨h1, h7, hb, hc, h4, h5, hq, hp⟩ := hs
  obtain ⟨hx, hy⟩ := hz
  simp only at h1 h7 hb hc h4 h5 hq hp hx hy
  have rb := Rel.refl hb.2.1
  have rc := Rel.neg1 hc.2.1
  have hk : k = 1 ∨ k = 2 ∨ k = 3 ∨ k = 4 ∨ k = 5 ∨ k = 6 ∨ k = 7 := by omega
  rcases hk with rfl | rfl | rfl | rfl | rfl | rfl | rfl
  · rw [cFin_iff] at hf
    exact ⟨rel_add s1 hx rb hf.1, rel_add sm hy rc hf.2⟩
  · rw [cFin_iff] at hf
    exact ⟨rel_sub s1 hx rb hf.1, rel_sub sm hy rc hf.2⟩
  · rw [cFin_iff] at hf
    have hf1 : fin double (arith .f64 .sub (arith .f64 .mul x b) (arith .f64 .mul y c)) = true := hf.1
    have hf2 : fin double (arith .f64 .add (arith .f64 .mul x c) (arith .f64 .mul y b)) = true := hf.2
    have r1 := rel_mul s1 s1 hx rb (fin_sub hf1).1
    have r2 := rel_mul sm sm hy rc (fin_sub hf1).2
    rw [show (-1 : Int) * -1 = 1 from rfl] at r2
    have r3 := rel_sub s1 r1 r2 hf1
    have r4 := rel_mul s1 sm hx rc (fin_add hf2).1
    have r5 := rel_mul sm s1 hy rb (fin_add hf2).2
    rw [show (1 : Int) * -1 = -1 from rfl] at r4
    rw [show (-1 : Int) * 1 = -1 from rfl] at r5
    exact ⟨r3, rel_add sm r4 r5 hf2⟩
  · exact quo_mir hb hc (h4 rfl) hx hy hf
  · exact ⟨hx, hy.neg⟩
  · exact ⟨hx.neg, hy.neg⟩
  · obtain ⟨hq4, hpow⟩ := hq rfl
    have rp := Rel.refl (powW_fin hpow)
    obtain ⟨q1, q2⟩ := quart_mir hq4 hx hy
    rw [cFin_iff] at hf
    have r1 := rel_mul s1 s1 q1 rp hf.1
    have r2 := rel_mul sm s1 q2 rp hf.2
    exact ⟨r1, r2⟩
theorem corr_mir : ∀ (ss : List St) (z z' : Nat × Nat), (∀ s ∈ ss, StOk s) → RZ z z' → ∀ u, corr ss z = some u → ∃ u', corr (ss.map mirS) z' = some u' ∧ RZ u u'
  | [], z, z', _, hz, u, h => by cases h; exact ⟨z', rfl, hz⟩
  | s :: ss, z, z', ho, hz, u, h => by
    unfold corr at h
    split at h
    · rename_i hc
      have hm := step_mir (ho s (List.mem_cons_self ..)) hz hc
      obtain ⟨u', h1, h2⟩ := corr_mir ss _ _ (fun t ht => ho t (List.mem_cons_of_mem _ ht)) hm u h
      refine ⟨u', ?_, h2⟩
      show (if cFin (stv (mirS s) z') then corr (ss.map mirS) (stv (mirS s) z') else none) = _
      rw [if_pos hm.fin']; exact h1
    · cases h
theorem map_back {ss : List St} (h : ∀ s ∈ ss, StOk s) : (ss.map mirS).map mirS = ss := by
  induction ss with
  | nil => rfl
  | cons s ss ih => rw [List.map_cons, List.map_cons, mirS_back (h s (List.mem_cons_self ..)), ih (fun t ht => h t (List.mem_cons_of_mem _ ht))]
theorem map_ok {ss : List St} (h : ∀ s ∈ ss, StOk s) : ∀ s ∈ ss.map mirS, StOk s := by
  intro s hs
  obtain ⟨t, ht, rfl⟩ := List.mem_map.1 hs
  exact mirS_ok (h t ht)
theorem corr_both {ss : List St} {z z' : Nat × Nat} (h : ∀ s ∈ ss, StOk s) (hz : RZ z z') :
    (∃ u u', corr ss z = some u ∧ corr (ss.map mirS) z' = some u' ∧ RZ u u') ∨ (corr ss z = none ∧ corr (ss.map mirS) z' = none) := by
  rcases e : corr ss z with _ | u
  · rcases e' : corr (ss.map mirS) z' with _ | u'
    · exact .inr ⟨rfl, rfl⟩
    · obtain ⟨t, ht, _⟩ := corr_mir (ss.map mirS) z' z (map_ok h) hz.symm u' e'
      rw [map_back h, e] at ht
      cases ht
  · obtain ⟨u', h1, h2⟩ := corr_mir ss z z' h hz u e
    exact .inl ⟨u, u', rfl, h1, h2⟩
end Go.Proofs.Ytbloipnpgncjiaa
