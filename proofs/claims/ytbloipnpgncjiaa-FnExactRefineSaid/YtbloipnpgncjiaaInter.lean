/- Interpolate, of the program and of the reference. -/
import Derived.Test.YtbloipnpgncjiaaSeg
import Derived.Deep.RegionWith
import Derived.Deep.DeepCutAuto
namespace Go.Proofs.Ytbloipnpgncjiaa
open Go.RowKit

abbrev ar (op : BinOp) (x y : Nat) : Nat := Fl.arith .f32 op x y
def lineV (a b : Nat × Nat) (x : Nat) : Nat := ar .add a.2 (ar .mul (ar .quo (ar .sub x a.1) (ar .sub b.1 a.1)) (ar .sub b.2 a.2))
def interN (ps : List (Nat × Nat)) (x : Nat) : Nat :=
  match ps.find? (fun p => Fl.eq .f32 p.1 x) with
  | some p => p.2
  | none => lineV (ps.getD (segN ps x) (0, 0)) (ps.getD (segN ps x + 1) (0, 0)) x
/-- it returns a single that is this one (but for which NaN) and a yes or no -/
def RetQ (v : Nat) (b : Bool) (w : World) (e : Ending) (w' : World) : Prop := ∃ r, e = .returned (.tuple #[.float .f32 r, .bool b]) ∧ Fl.Eqv .f32 r v ∧ Below w.heap.size w w'
theorem far_alloc {wr : World} {q : Addr} (h : q.block < wr.heap.size) (w0 : World) (o : Obj) (hs : wr.heap.size ≤ w0.heap.size) : (w0.alloc o).cell? q = w0.cell? q := World.cell?_alloc_lt w0 o q (by omega)
theorem far_set {wr : World} {q : Addr} (h : q.block < wr.heap.size) (w0 : World) (p : Addr) (v : Value) (hs : wr.heap.size ≤ p.block) : (w0.setCell p v).cell? q = w0.cell? q := World.cell?_setCell_other w0 p q v (fun e => by subst e; omega)
def interV (ps : List (Nat × Nat)) (x : Nat) : Nat := if segIn ps x then interN ps x else 0
theorem segF_lt {ps : List (Nat × Nat)} {x : Nat} : ∀ (f k : Nat), k + 1 < ps.length → segF ps x f k + 1 < ps.length
  | 0, k, h => h
  | f + 1, k, h => by
    unfold segF
    split
    · exact segF_lt f (k + 1) (by omega)
    · exact h
theorem segIn_ok {ps : List (Nat × Nat)} {x : Nat} (h : segIn ps x = true) : tabOk ps = true ∧ segN ps x + 1 < ps.length ∧ 2 ≤ ps.length ∧ ps.length ≤ 32 := by
  have h1 := (Bool.and_eq_true_iff.1 h).1
  have h2 := (tabOk_iff.1 h1).1
  exact ⟨h1, segF_lt _ _ (by omega), h2.1, h2.2⟩
theorem find_take {ps : List (Nat × Nat)} {q : Nat × Nat → Bool} {k : Nat} (hk : k < ps.length) (h : (ps.take k).find? q = none) : (q ps[k] = true → ps.find? q = some ps[k]) ∧ (q ps[k] = false → (ps.take (k + 1)).find? q = none) := by
  constructor
  · intro hq
    have e : List.find? q (ps.drop k) = some ps[k] := by
      rw [List.drop_eq_getElem_cons hk]
      exact List.find?_cons_of_pos hq
    have e2 := List.find?_append (xs := ps.take k) (ys := ps.drop k) (p := q)
    rw [List.take_append_drop, h, e] at e2
    exact e2
  · intro hq
    rw [List.take_succ_eq_append_getElem hk, List.find?_append, h]
    simpa using hq

set_option maxRecDepth 20000 in
set_option maxHeartbeats 2000000 in
theorem inter_spec (A : Option Addr) (c : Nat) (ps : List (Nat × Nat)) (x : Nat) (w : World) (ha : Pts w w.heap.size A ps) (hn : ps.length ≤ 1048576) :
    Calls Try.prog 45 #[.slice A ps.length c, .float .f32 x] w (RetQ (interV ps x) (segIn ps x) w) := by
  have HA := hid ha
  clear ha
  rcases Bool.eq_false_or_eq_true (segIn ps x) with hs | hs
  · have HS := hid hs
    have HV := hid (show interV ps x = interN ps x by unfold interV; rw [hs]; rfl)
    have HK := hid (segIn_ok hs)
    have hlz : (ps.length : Int) ≤ 32 := by have := HK.out.2.2; omega
    have hkz : (segN ps x : Int) + 1 < (ps.length : Int) := by have := HK.out.2.1; omega
    have hsv : segV ps x = (segN ps x : Int) := by unfold segV; rw [hs]; rfl
    clear hs
    go_enter Try.func45, Try.ntmps45
    go_wp2_with fail
    refine (seg_spec _ _ _ _ _ HA.out hn).mono ?_
    rintro e w1 ⟨rfl, hb⟩
    rw [hsv]
    have H1 := hid hb
    have HA1 := hid (HA.out.next hb)
    clear hb hsv
    go_wp2_with fail
    go_loopw [7] (fun i wr => ∃ k : Nat, k ≤ ps.length ∧ i = .int .i64 k ∧ (ps.take k).find? (fun p => Fl.eq .f32 p.1 x) = none ∧ Below w1.heap.size w1 wr) (fun i _ => ps.length - (intOf i).toNat)
    case atStart => exact ⟨0, by omega, rfl, by simp, Below.refl _ _⟩
    case round =>
      obtain ⟨k, hk, rfl, hf, hb⟩ := hrel
      have HF := hid hf
      have HB := hid hb
      clear hf
      by_cases hlt : k < ps.length
      · obtain ⟨ad, rfl, had, hca, hca'⟩ := (HA1.out.below hb).at_ hlt
        have hkz : (k : Int) < (ps.length : Int) := by omega
        have HT := hid (find_take hlt HF.out)
        clear hb
        rcases Bool.eq_false_or_eq_true (Fl.eq .f32 ps[k].1 x) with he | he
        · have HE := hid he
          have heq : (FloatKind.f32.format.order ps[k].1 x == some .eq) = true := he
          clear he
          go_wp2_with fail
          go_ret2
          exact ⟨_, by rw [HS.out]; rfl, by rw [HV.out]; unfold interN; rw [HT.out.1 HE.out]; exact Fl.Eqv.refl _ _, bthen H1.out HB.out⟩
        · have HE := hid he
          have heq : (FloatKind.f32.format.order ps[k].1 x == some .eq) = false := he
          clear he
          go_wp2_with fail
          go_roundw
          case rel => exact ⟨k + 1, by omega, by go_num, HT.out.2 HE.out, HB.out⟩
          case measure => simp [intOf]; omega
      · have : k = ps.length := by omega
        subst this
        obtain ⟨ad, xa, ya, rfl, had, hxa, hca, hca'⟩ := (HA1.out.below hb).at2 (k := segN ps x) (by have := HK.out.2.1; omega)
        obtain ⟨ad', xb, yb, had', _, hxb, hcb, hcb'⟩ := (HA1.out.below (hb.alloc hb.size (.cells #[.float .f32 xa, .float .f32 ya] 36))).at2 (k := segN ps x + 1) HK.out.2.1
        cases had'
        have HN := hid (show interN ps x = lineV (xa, ya) (xb, yb) x by
          unfold interN
          have := HF.out
          rw [List.take_length] at this
          rw [this, hxa, hxb])
        have hsz := HB.out.size
        clear hb hxa hxb
        by_cases htrue : True
        · go_wp2_with fail
          refine upon_arith (.inr (.inl rfl)) ?_
          intro r1 n1 hr1
          have E1 := hid (hr1.arith _ (Fl.Eqv.refl _ _) (Fl.Eqv.refl _ _))
          clear hr1
          go_wp2_with fail
          refine upon_arith (.inr (.inl rfl)) ?_
          intro r2 n2 hr2
          have E2 := hid (hr2.arith _ (Fl.Eqv.refl _ _) (Fl.Eqv.refl _ _))
          clear hr2
          go_wp2_with fail
          refine upon_arith (.inr (.inr (.inr rfl))) ?_
          intro r3 n3 hr3
          have E3 := hid (hr3.arith _ E2.out E1.out)
          clear hr3
          go_wp2_with fail
          refine upon_arith (.inr (.inl rfl)) ?_
          intro r4 n4 hr4
          have E4 := hid (hr4.arith _ (Fl.Eqv.refl _ _) (Fl.Eqv.refl _ _))
          clear hr4
          go_wp2_with fail
          refine upon_arith (.inr (.inr (.inl rfl))) ?_
          intro r5 n5 hr5
          have E5 := hid (hr5.arith _ E3.out E4.out)
          clear hr5
          go_wp2_with fail
          refine upon_arith (.inl rfl) ?_
          intro r6 n6 hr6
          have E6 := hid (hr6.arith _ (Fl.Eqv.refl _ _) E5.out)
          clear hr6
          go_wp2_with fail
          go_ret2
          exact ⟨_, by rw [HS.out]; rfl, by rw [HV.out, HN.out]; exact E6.out, bthen H1.out (by first | exact below_drewN ((HB.out.alloc HB.out.size _).alloc (by have := HB.out.size; simp; omega) _) _ | exact below_drewN ((below_drewN (HB.out.alloc HB.out.size _) _).alloc (by have := HB.out.size; simp; omega) _) _)⟩
        · exact absurd trivial htrue
  · have HS := hid hs
    have HV := hid (show interV ps x = 0 by unfold interV; rw [hs]; rfl)
    have hsv : segV ps x = -1 := by unfold segV; rw [hs]; rfl
    clear hs
    go_enter Try.func45, Try.ntmps45
    go_wp2_with fail
    refine (seg_spec _ _ _ _ _ HA.out hn).mono ?_
    rintro e w1 ⟨rfl, hb⟩
    rw [hsv]
    have H1 := hid hb
    clear hb hsv
    go_wp2_with fail
    go_ret2
    exact ⟨0, by rw [HS.out]; rfl, by rw [HV.out]; exact Fl.Eqv.refl _ _, H1.out⟩

set_option maxRecDepth 20000 in
set_option maxHeartbeats 2000000 in
theorem inter_impl (A : Option Addr) (c : Nat) (ps : List (Nat × Nat)) (x : Nat) (w : World) (ha : Pts w w.heap.size A ps) (hn : ps.length ≤ 1048576) :
    Calls Try.prog 22 #[.slice A ps.length c, .float .f32 x] w (RetQ (interV ps x) (segIn ps x) w) := by
  have HA := hid ha
  clear ha
  rcases Bool.eq_false_or_eq_true (segIn ps x) with hs | hs
  · have HS := hid hs
    have HV := hid (show interV ps x = interN ps x by unfold interV; rw [hs]; rfl)
    have HK := hid (segIn_ok hs)
    have hlz : (ps.length : Int) ≤ 32 := by have := HK.out.2.2; omega
    have hkz : (segN ps x : Int) + 1 < (ps.length : Int) := by have := HK.out.2.1; omega
    have hsv : segV ps x = (segN ps x : Int) := by unfold segV; rw [hs]; rfl
    clear hs
    go_enter Try.func22, Try.ntmps22
    go_wp2_with fail
    refine (seg_impl _ _ _ _ _ HA.out hn).mono ?_
    rintro e w1 ⟨rfl, hb⟩
    rw [hsv]
    have H1 := hid hb
    have HA1 := hid (HA.out.next hb)
    clear hb hsv
    go_wp2_with fail
    go_loopw [8, 21] (fun _ i wr => ∃ k : Nat, k ≤ ps.length ∧ i = .int .i64 k ∧ (ps.take k).find? (fun p => Fl.eq .f32 p.1 x) = none ∧ Below w1.heap.size w1 wr) (fun _ i _ => ps.length - (intOf i).toNat)
    case atStart => exact ⟨0, by omega, rfl, by simp, Below.refl _ _⟩
    case round =>
      obtain ⟨k, hk, rfl, hf, hb⟩ := hrel
      have HF := hid hf
      have HB := hid hb
      clear hf
      by_cases hlt : k < ps.length
      · obtain ⟨ad, rfl, had, hca, hca'⟩ := (HA1.out.below hb).at_ hlt
        have hkz : (k : Int) < (ps.length : Int) := by omega
        have HT := hid (find_take hlt HF.out)
        clear hb
        rcases Bool.eq_false_or_eq_true (Fl.eq .f32 ps[k].1 x) with he | he
        · have HE := hid he
          have heq : (FloatKind.f32.format.order ps[k].1 x == some .eq) = true := he
          clear he
          go_wp2_with fail
          go_ret2
          exact ⟨_, by rw [HS.out]; rfl, by rw [HV.out]; unfold interN; rw [HT.out.1 HE.out]; exact Fl.Eqv.refl _ _, bthen H1.out (HB.out.alloc HB.out.size _)⟩
        · have HE := hid he
          have heq : (FloatKind.f32.format.order ps[k].1 x == some .eq) = false := he
          clear he
          go_wp2_with fail
          go_roundw
          case rel => exact ⟨k + 1, by omega, by go_num, HT.out.2 HE.out, (HB.out.alloc HB.out.size _)⟩
          case measure => simp [intOf]; omega
      · have : k = ps.length := by omega
        subst this
        obtain ⟨ad, xa, ya, rfl, had, hxa, hca, hca'⟩ := (HA1.out.below hb).at2 (k := segN ps x) (by have := HK.out.2.1; omega)
        obtain ⟨ad', xb, yb, had', _, hxb, hcb, hcb'⟩ := (HA1.out.below hb).at2 (k := segN ps x + 1) HK.out.2.1
        cases had'
        have HN := hid (show interN ps x = lineV (xa, ya) (xb, yb) x by
          unfold interN
          have := HF.out
          rw [List.take_length] at this
          rw [this, hxa, hxb])
        have hsz := HB.out.size
        clear hb hxa hxb
        by_cases htrue : True
        · go_wp2_with fail
          go_upto_region 10 with fail
          have q1 := far_alloc (wr := wr) (q := ad.add (segN ps x * 2)) (by rw [block_of_add]; omega)
          have q2 := far_alloc (wr := wr) (q := ad.add ((segN ps x + 1) * 2)) (by rw [block_of_add]; omega)
          have q3 := far_alloc (wr := wr) (q := ⟨(ad.add (segN ps x * 2)).block, (ad.add (segN ps x * 2)).off + 1, none⟩) (by show (ad.add _).block < _; rw [block_of_add]; omega)
          have q4 := far_alloc (wr := wr) (q := ⟨(ad.add ((segN ps x + 1) * 2)).block, (ad.add ((segN ps x + 1) * 2)).off + 1, none⟩) (by show (ad.add _).block < _; rw [block_of_add]; omega)
          have s1 := far_set (wr := wr) (q := ad.add (segN ps x * 2)) (by rw [block_of_add]; omega)
          have s2 := far_set (wr := wr) (q := ad.add ((segN ps x + 1) * 2)) (by rw [block_of_add]; omega)
          have s3 := far_set (wr := wr) (q := ⟨(ad.add (segN ps x * 2)).block, (ad.add (segN ps x * 2)).off + 1, none⟩) (by show (ad.add _).block < _; rw [block_of_add]; omega)
          have s4 := far_set (wr := wr) (q := ⟨(ad.add ((segN ps x + 1) * 2)).block, (ad.add ((segN ps x + 1) * 2)).off + 1, none⟩) (by show (ad.add _).block < _; rw [block_of_add]; omega)
          go_cut [9, 10] (fun u v wx => ∃ p q : Nat, u = .pointer (some ⟨p, 0, none⟩) ∧ v = .pointer (some ⟨q, 0, none⟩) ∧ Boxf wx p (.float .f32 xa) (.float .f32 ya) ∧ Boxf wx q (.float .f32 xb) (.float .f32 yb) ∧ Below w1.heap.size w1 wx)
          case first =>
            go_region
            all_goals (go_wp2_with fail; go_meet)
            · have hB := boxf2 wr (.float .f32 xa) (.float .f32 ya) (.float .f32 xb) (.float .f32 yb) 36 36
              exact ⟨_, _, rfl, rfl, hB.1, hB.2, ((HB.out.alloc HB.out.size _).alloc (by have := HB.out.size; simp; omega) _).drew⟩
            · have hB := boxf2 wr (.float .f32 xb) (.float .f32 yb) (.float .f32 xa) (.float .f32 ya) 36 36
              exact ⟨_, _, rfl, rfl, hB.2, hB.1, ((HB.out.alloc HB.out.size _).alloc (by have := HB.out.size; simp; omega) _).drew⟩
          obtain ⟨p, q, rfl, rfl, ⟨hp0, hp1, hp2, _⟩, ⟨hq0, hq1, hq2, _⟩, hbx⟩ := hcut
          have HB := hid hbx
          clear hbx
          go_wp2_with fail
          refine upon_arith (.inr (.inl rfl)) ?_
          intro r1 n1 hr1
          have E1 := hid (hr1.arith _ (Fl.Eqv.refl _ _) (Fl.Eqv.refl _ _))
          clear hr1
          go_wp2_with fail
          refine upon_arith (.inr (.inl rfl)) ?_
          intro r2 n2 hr2
          have E2 := hid (hr2.arith _ (Fl.Eqv.refl _ _) (Fl.Eqv.refl _ _))
          clear hr2
          go_wp2_with fail
          refine upon_arith (.inr (.inr (.inr rfl))) ?_
          intro r3 n3 hr3
          have E3 := hid (hr3.arith _ E1.out E2.out)
          clear hr3
          go_wp2_with fail
          refine upon_arith (.inr (.inl rfl)) ?_
          intro r4 n4 hr4
          have E4 := hid (hr4.arith _ (Fl.Eqv.refl _ _) (Fl.Eqv.refl _ _))
          clear hr4
          go_wp2_with fail
          refine upon_arith (.inr (.inr (.inl rfl))) ?_
          intro r5 n5 hr5
          have E5 := hid (hr5.arith _ E3.out E4.out)
          clear hr5
          go_wp2_with fail
          refine upon_arith (.inl rfl) ?_
          intro r6 n6 hr6
          have E6 := hid (hr6.arith _ (Fl.Eqv.refl _ _) E5.out)
          clear hr6
          go_wp2_with fail
          go_ret2
          exact ⟨_, by rw [HS.out]; rfl, by rw [HV.out, HN.out]; exact E6.out, bthen H1.out (below_drewN HB.out _)⟩
        · exact absurd trivial htrue
  · have HS := hid hs
    have HV := hid (show interV ps x = 0 by unfold interV; rw [hs]; rfl)
    have hsv : segV ps x = -1 := by unfold segV; rw [hs]; rfl
    clear hs
    go_enter Try.func22, Try.ntmps22
    go_wp2_with fail
    refine (seg_impl _ _ _ _ _ HA.out hn).mono ?_
    rintro e w1 ⟨rfl, hb⟩
    rw [hsv]
    have H1 := hid hb
    clear hb hsv
    go_wp2_with fail
    go_ret2
    exact ⟨0, by rw [HS.out]; rfl, by rw [HV.out]; exact Fl.Eqv.refl _ _, H1.out⟩
end Go.Proofs.Ytbloipnpgncjiaa
