/- Exact steps, and what undoes them: UndoSteps, ExactSteps of the program. -/
import Derived.Test.YtbloipnpgncjiaaStpLaw
set_option linter.unusedSimpArgs false
namespace Go.Proofs.Ytbloipnpgncjiaa
open Go.RowKit Ieee

theorem neg_neg64 (x : Nat) : neg64 (neg64 x) = x := by
  show (x ^^^ _) ^^^ _ = x
  rw [Nat.xor_assoc, Nat.xor_self, Nat.xor_zero]
theorem fin_neg64 {x : Nat} (h : Fl.fin double x = true) : Fl.fin double (neg64 x) = true := (fin_turn .f64 x).trans h
theorem word_eq {x y : Nat} (hx : x < 2 ^ 64) (hy : y < 2 ^ 64) (h : ky64 x = ky64 y) (h0 : ky64 x ≠ 0) : x = y := by
  have hw := Fl.word_of double (w := x) hx
  have hw' := Fl.word_of double (w := y) hy
  unfold ky64 Fl.key at h h0
  have hn : Fl.neg double x = Fl.neg double y ∧ Fl.rung double x = Fl.rung double y := by
    cases h1 : Fl.neg double x <;> cases h2 : Fl.neg double y <;> rw [h1] at h h0 <;> rw [h2] at h <;> simp at h h0 ⊢ <;> omega
  rw [← hw, ← hw', hn.1, hn.2]
theorem zero_words {x : Nat} (hx : x < 2 ^ 64) (h : ky64 x = 0) : x = 0 ∨ x = 9223372036854775808 := by
  have hs : double.signWeight = 9223372036854775808 := by decide +kernel
  have hr : Fl.rung double x = 0 := by
    unfold ky64 Fl.key at h
    split at h <;> omega
  unfold Fl.rung at hr
  rw [hs] at hr
  omega
theorem pow_zero : powW 0 = oneW := by decide +kernel
theorem mul_one64 {x : Nat} (hx : x < 2 ^ 64) (hf : Fl.fin double x = true) : Fl.arith .f64 .mul x (powW 0) = x := by
  rw [pow_zero]
  by_cases h0 : ky64 x = 0
  · rcases zero_words hx h0 with rfl | rfl <;> decide +kernel
  · obtain ⟨t, et, vt, nt, wt⟩ := Fl.mul_spec double hf one_spec.1
    have kt : ky64 t = ky64 x := vt.exact double (Fl.key_fin hf) (by rw [one_spec.2, Rat.mul_one]; rfl)
    have : Fl.arith .f64 .mul x oneW = t := Fl.arith_some (k := .f64) (op := .mul) et
    rw [this]
    exact word_eq wt hx kt (by rw [kt]; exact h0)
theorem quart_num {q : Nat} {z : Nat × Nat} (hz : Num z) : Num (quart q z.1 z.2) := by
  have f1 := hz.f1
  have f2 := hz.f2
  have g1 := fin_neg64 f1
  have g2 := fin_neg64 f2
  have w1 := neg_wf hz.1
  have w2 := neg_wf hz.2.1
  unfold quart
  split
  · exact ⟨w2, hz.1, by unfold cFin finB; rw [g2, f1]; rfl⟩
  · split
    · exact ⟨w1, w2, by unfold cFin finB; rw [g1, g2]; rfl⟩
    · split
      · exact ⟨hz.2.1, w1, by unfold cFin finB; rw [f2, g1]; rfl⟩
      · exact hz
/-- the step that undoes an exact one -/
def und (s : St) : St := if s.k = 7 then ⟨7, s.b, s.c, (4 - s.q) % 4, 0⟩ else s
theorem und_ex {s : St} (h : StEx s) : StEx (und s) := by
  obtain ⟨⟨h1, h7, hb, hc, h4, h5, hq, hp⟩, h55, hp0⟩ := h
  unfold und
  by_cases h : s.k = 7
  · rw [if_pos h]
    exact ⟨⟨by dsimp only; omega, by dsimp only; omega, hb, hc, (fun h => by cases h), (fun _ => h5 (by omega)), (fun _ => ⟨by dsimp only; omega, .inl rfl⟩), (fun h => absurd rfl h)⟩, by dsimp only; omega, rfl⟩
  · rw [if_neg h]
    exact ⟨⟨h1, h7, hb, hc, h4, h5, hq, hp⟩, h55, hp0⟩
theorem stv_ex {s : St} {z : Nat × Nat} (h : StEx s) (hz : Num z) : stv s z = if s.k = 5 then (z.1, neg64 z.2) else if s.k = 6 then (neg64 z.1, neg64 z.2) else quart s.q z.1 z.2 := by
  obtain ⟨⟨h1, h7, _⟩, h5, hp⟩ := h
  have hk : s.k = 5 ∨ s.k = 6 ∨ s.k = 7 := by omega
  unfold stv
  simp only []
  rcases hk with e | e | e <;> simp only [e] <;> simp only [Nat.reduceEqDiff, if_false, if_true]
  have hn := quart_num (q := s.q) hz
  rw [hp, mul_one64 hn.1 hn.f1, mul_one64 hn.2.1 hn.f2]
theorem stv_num {s : St} {z : Nat × Nat} (h : StEx s) (hz : Num z) : Num (stv s z) := by
  rw [stv_ex h hz]
  split
  · exact ⟨hz.1, neg_wf hz.2.1, by unfold cFin finB; rw [hz.f1, fin_neg64 hz.f2]; rfl⟩
  · split
    · exact ⟨neg_wf hz.1, neg_wf hz.2.1, by unfold cFin finB; rw [fin_neg64 hz.f1, fin_neg64 hz.f2]; rfl⟩
    · exact quart_num hz
theorem und_back {s : St} {z : Nat × Nat} (h : StEx s) (hz : Num z) : stv (und s) (stv s z) = z := by
  rw [stv_ex (und_ex h) (stv_num h hz), stv_ex h hz]
  obtain ⟨x, y⟩ := z
  have hk : s.k = 5 ∨ s.k = 6 ∨ s.k = 7 := by have := h.1.1; have := h.1.2.1; have := h.2.1; omega
  unfold und
  rcases hk with e | e | e
  · simp [e, neg_neg64]
  · simp [e, neg_neg64]
  · have hq := (h.1.2.2.2.2.2.2.1 e).1
    have hq' : s.q = 0 ∨ s.q = 1 ∨ s.q = 2 ∨ s.q = 3 := by omega
    rcases hq' with e' | e' | e' | e' <;> simp [e, e', quart, neg_neg64]
def undL (ss : List St) : List St := ss.reverse.map und
theorem corr_back : ∀ (ss : List St) (z : Nat × Nat), (∀ s ∈ ss, StEx s) → Num z → ∃ u, corr ss z = some u ∧ Num u ∧ corr (undL ss) u = some z
  | [], z, _, hz => ⟨z, rfl, hz, rfl⟩
  | s :: ss, z, h, hz => by
    have hs := h s (List.mem_cons_self ..)
    have hn := stv_num hs hz
    obtain ⟨u, h1, h2, h3⟩ := corr_back ss (stv s z) (fun t ht => h t (List.mem_cons_of_mem _ ht)) hn
    refine ⟨u, ?_, h2, ?_⟩
    · show (if cFin (stv s z) then corr ss (stv s z) else none) = _
      rw [if_pos hn.2.2]; exact h1
    · have e : undL (s :: ss) = undL ss ++ [und s] := by simp [undL]
      rw [e, corr_app, h3]
      show (if cFin (stv (und s) (stv s z)) then some (stv (und s) (stv s z)) else none) = _
      rw [und_back hs hz, if_pos hz.2.2]
def undT (ss : List St) (t : Nat) : List St := (ss.reverse.take t).map und
theorem undT_len {ss : List St} {t : Nat} (h : t ≤ ss.length) : (undT ss t).length = t := by simp [undT]; omega
theorem undT_snoc {ss : List St} {t j : Nat} (h : j + 1 + t = ss.length) (hj : j < ss.length) : undT ss (t + 1) = undT ss t ++ [und ss[j]] := by
  unfold undT
  rw [List.take_succ_eq_append_getElem (by simp; omega), List.map_append]
  simp only [List.map_cons, List.map_nil, List.getElem_reverse]
  congr 4
  omega
theorem undT_all (ss : List St) : undT ss ss.length = undL ss := by
  unfold undT undL
  rw [List.take_of_length_le (by simp)]

set_option maxRecDepth 20000 in
set_option maxHeartbeats 1000000 in
theorem inv_any (q : Nat) (hq : q < 4) (w : World) :
    Calls Try.prog 103 #[.agg #[.int .i64 q, .int .i64 0]] w fun e w' => e = .returned (.tuple #[.agg #[.int .i64 (((4 - q) % 4 : Nat) : Int), .int .i64 0], .bool true]) ∧ Below w.heap.size w w' := by
  have hq' : q = 0 ∨ q = 1 ∨ q = 2 ∨ q = 3 := by omega
  clear hq
  rcases hq' with rfl | rfl | rfl | rfl
  · go_enter Try.func103, Try.ntmps103
    go_wp2_with fail
    refine (turnOk2_any _ 0 (by decide) (.inl rfl) _).mono ?_
    rintro e w1 ⟨rfl, hb1⟩
    obtain ⟨x0, x1, x2, x3, x4⟩ := (boxf2 w _ _ _ _ 67 67).1.next hb1
    obtain ⟨y0, y1, y2, y3, y4⟩ := (boxf2 w _ _ _ _ 67 67).2.next hb1
    have HB1 := hid (bthen (below2 w _ _) hb1)
    have hsz : w.heap.size ≤ w1.heap.size := HB1.out.size
    clear hb1
    go_wp2_with fail
    refine bodyPost_ret (v := .tuple #[.agg #[.int .i64 0, .int .i64 0], .bool true]) (by simp [results, Try.results103, go_sem, x1, x2, y1, y2]) rfl ?_
    exact ⟨rfl, below_set (below_set HB1.out (by omega) _ _) (by omega) _ _⟩
  · go_enter Try.func103, Try.ntmps103
    go_wp2_with fail
    refine (turnOk2_any _ 0 (by decide) (.inl rfl) _).mono ?_
    rintro e w1 ⟨rfl, hb1⟩
    obtain ⟨x0, x1, x2, x3, x4⟩ := (boxf2 w _ _ _ _ 67 67).1.next hb1
    obtain ⟨y0, y1, y2, y3, y4⟩ := (boxf2 w _ _ _ _ 67 67).2.next hb1
    have HB1 := hid (bthen (below2 w _ _) hb1)
    have hsz : w.heap.size ≤ w1.heap.size := HB1.out.size
    clear hb1
    go_wp2_with fail
    refine bodyPost_ret (v := .tuple #[.agg #[.int .i64 3, .int .i64 0], .bool true]) (by simp [results, Try.results103, go_sem, x1, x2, y1, y2]) rfl ?_
    exact ⟨rfl, below_set (below_set HB1.out (by omega) _ _) (by omega) _ _⟩
  · go_enter Try.func103, Try.ntmps103
    go_wp2_with fail
    refine (turnOk2_any _ 0 (by decide) (.inl rfl) _).mono ?_
    rintro e w1 ⟨rfl, hb1⟩
    obtain ⟨x0, x1, x2, x3, x4⟩ := (boxf2 w _ _ _ _ 67 67).1.next hb1
    obtain ⟨y0, y1, y2, y3, y4⟩ := (boxf2 w _ _ _ _ 67 67).2.next hb1
    have HB1 := hid (bthen (below2 w _ _) hb1)
    have hsz : w.heap.size ≤ w1.heap.size := HB1.out.size
    clear hb1
    go_wp2_with fail
    refine bodyPost_ret (v := .tuple #[.agg #[.int .i64 2, .int .i64 0], .bool true]) (by simp [results, Try.results103, go_sem, x1, x2, y1, y2]) rfl ?_
    exact ⟨rfl, below_set (below_set HB1.out (by omega) _ _) (by omega) _ _⟩
  · go_enter Try.func103, Try.ntmps103
    go_wp2_with fail
    refine (turnOk2_any _ 0 (by decide) (.inl rfl) _).mono ?_
    rintro e w1 ⟨rfl, hb1⟩
    obtain ⟨x0, x1, x2, x3, x4⟩ := (boxf2 w _ _ _ _ 67 67).1.next hb1
    obtain ⟨y0, y1, y2, y3, y4⟩ := (boxf2 w _ _ _ _ 67 67).2.next hb1
    have HB1 := hid (bthen (below2 w _ _) hb1)
    have hsz : w.heap.size ≤ w1.heap.size := HB1.out.size
    clear hb1
    go_wp2_with fail
    refine bodyPost_ret (v := .tuple #[.agg #[.int .i64 1, .int .i64 0], .bool true]) (by simp [results, Try.results103, go_sem, x1, x2, y1, y2]) rfl ?_
    exact ⟨rfl, below_set (below_set HB1.out (by omega) _ _) (by omega) _ _⟩

set_option maxRecDepth 20000 in
set_option maxHeartbeats 1000000 in
theorem exf_any (s : St) (hs : StEx s) (w : World) :
    Calls Try.prog 104 #[stV s] w fun e w' => e = .returned (.bool false) ∧ Below w.heap.size w w' := by
  obtain ⟨k, b, c, q, p⟩ := s
  obtain ⟨_, hk, hp⟩ := hs
  simp only at hk hp
  subst hp
  have hkz : ¬ ((k : Int) < 5) := by omega
  clear hk
  go_enter Try.func104, Try.ntmps104
  go_wp2_with fail
  go_ret
  exact ⟨rfl, below_new _ _⟩

set_option maxRecDepth 20000 in
set_option maxHeartbeats 1000000 in
theorem indexE_any (A : Option Addr) (c : Nat) (ss : List St) (w : World) (ha : Sts w w.heap.size A ss) (hn : ss.length ≤ 20) (hok : ∀ s ∈ ss, StEx s) :
    Calls Try.prog 123 #[.slice A ss.length c, .func (Fn.func 104) #[] #[]] w fun e w' => e = .returned (.int .i64 (-1)) ∧ Below w.heap.size w w' := by
  have HA := hid ha
  have HK := hid hok
  have hlz : (ss.length : Int) ≤ 20 := by omega
  clear ha hok
  go_enter Try.func123, Try.ntmps123
  go_wp2_with fail
  go_loopw [5, 8] (fun _ i wr => ∃ k : Nat, k ≤ ss.length ∧ i = .int .i64 k ∧ Below w.heap.size w wr) (fun _ i _ => ss.length - (intOf i).toNat)
  case atStart => exact ⟨0, Nat.zero_le _, rfl, Below.refl _ _⟩
  case round =>
    obtain ⟨j, hj, rfl, hb⟩ := hrel
    have HB := hid hb
    by_cases hlt : j < ss.length
    · obtain ⟨ad, k, b, cc, q, p, rfl, had, hs, hc0, hc1, hc2, hc3⟩ := (HA.out.below hb).at_ hlt
      have hjz : (j : Int) < (ss.length : Int) := by omega
      have HS := hid (show StEx ⟨k, b, cc, q, p⟩ from hs ▸ HK.out _ (List.getElem_mem hlt))
      clear hb hs
      go_wp2_with fail
      refine (exf_any ⟨k, b, cc, q, p⟩ HS.out _).mono ?_
      rintro e w1 ⟨rfl, hb1⟩
      have HB1 := hid (bthen HB.out hb1)
      clear hb1
      go_wp2_with fail
      go_roundw
      case rel => exact ⟨j + 1, by omega, by go_num, HB1.out⟩
      case measure => simp [intOf]; omega
    · have : j = ss.length := by omega
      subst this
      clear hb
      go_wp2_with fail
      go_ret
      exact ⟨rfl, HB.out⟩

set_option maxHeartbeats 1000000 in
theorem containsE_any (A : Option Addr) (c : Nat) (ss : List St) (w : World) (ha : Sts w w.heap.size A ss) (hn : ss.length ≤ 20) (hok : ∀ s ∈ ss, StEx s) :
    Calls Try.prog 98 #[.slice A ss.length c, .func (Fn.func 104) #[] #[]] w fun e w' => e = .returned (.bool false) ∧ Below w.heap.size w w' := by
  have HI := hid (indexE_any A c ss w ha hn hok)
  clear ha hok
  go_enter Try.func98, Try.ntmps98
  go_wp2_with fail
  refine HI.out.mono ?_
  rintro e w' ⟨rfl, hb⟩
  have HB := hid hb
  clear hb
  go_wp2_with fail
  go_ret
  exact ⟨rfl, HB.out⟩

set_option maxHeartbeats 1000000 in
theorem exact_any (A : Option Addr) (c : Nat) (ss : List St) (w : World) (ha : Sts w w.heap.size A ss) (hn : ss.length ≤ 20) (hok : ∀ s ∈ ss, StEx s) :
    Calls Try.prog 67 #[.slice A ss.length c] w fun e w' => e = .returned (.bool true) ∧ Below w.heap.size w w' := by
  have HA := hid ha
  have HO := hid hok
  clear ha hok
  go_enter Try.func67, Try.ntmps67
  go_wp2_with fail
  refine (stepsOk_any A c ss _ HA.out ⟨hn, fun s hs => (HO.out s hs).1⟩).mono ?_
  rintro e w1 ⟨rfl, hb1⟩
  have HB1 := hid hb1
  have HA1 := hid (HA.out.next hb1)
  clear hb1
  go_wp2_with fail
  refine (containsE_any A c ss _ HA1.out hn HO.out).mono ?_
  rintro e w2 ⟨rfl, hb2⟩
  have HB2 := hid (bthen HB1.out hb2)
  clear hb2
  go_wp2_with fail
  go_ret
  exact ⟨rfl, HB2.out⟩

/-- the steps that undo these -/
def RetU (ss : List St) (w : World) (e : Ending) (w' : World) : Prop :=
  ∃ v, e = .returned (.tuple #[v, .bool true]) ∧ w'.ownsRow w.heap.size 111 4 v (undL ss).length (scells (undL ss)) ∧ Below w.heap.size w w'

set_option maxRecDepth 20000 in
set_option maxHeartbeats 8000000 in
theorem undo_any (A : Option Addr) (c : Nat) (ss : List St) (w : World) (ha : Sts w w.heap.size A ss) (hn : ss.length ≤ 20) (hok : ∀ s ∈ ss, StEx s) :
    Calls Try.prog 66 #[.slice A ss.length c] w (RetU ss w) := by
  have HA := hid ha
  have HK := hid hok
  have hlz : (ss.length : Int) ≤ 20 := by omega
  have HO := hid (World.ownsRow_nil w w.heap.size 111 4)
  clear ha hok
  obtain ⟨i0, hi, hz0, hz1, hz2⟩ := info_parts Try.info_step
  have HI := hid hi
  have HZ := hid (show i0.zero = some (.agg #[.int .i64 0, .complex .f64 0 0, .int .i64 0, .int .i64 0]) ∧ i0.size = 4 ∧ i0.bytes = 40 from ⟨hz0, hz1, hz2⟩)
  clear hi hz0 hz1 hz2
  go_enter Try.func66, Try.ntmps66
  go_wp2_with fail
  refine (stepsOk_any A c ss _ HA.out ⟨hn, fun s hs => (HK.out s hs).1⟩).mono ?_
  rintro e w1 ⟨rfl, hb1⟩
  have HB1 := hid hb1
  have HO1 := hid (own_below HO.out hb1)
  clear hb1
  go_wp2_with fail
  go_loopw [4, 5, 6] (fun v i _ wr => ∃ t : Nat, t ≤ ss.length ∧ i = .int .i64 ((ss.length : Int) - 1 - t) ∧ wr.ownsRow w.heap.size 111 4 v t (scells (undT ss t)) ∧ Below w.heap.size w wr) (fun _ i _ _ => (intOf i + 1).toNat)
  case atStart => exact ⟨0, by omega, by simp, HO1.out, HB1.out⟩
  case round =>
    obtain ⟨t, htl, rfl, hown, hb⟩ := hrel
    have HW := hid hown
    have HB := hid hb
    by_cases hlt : t < ss.length
    · obtain ⟨j, hj⟩ : ∃ j, j + 1 + t = ss.length := ⟨ss.length - 1 - t, by omega⟩
      have hjl : j < ss.length := by omega
      have ek : (ss.length : Int) - 1 - (t : Int) = (j : Int) := by omega
      obtain ⟨ad, k, b, cc, q, p, rfl, had, hs, hc0, hc1, hc2, hc3⟩ := (HA.out.below hb).at_ hjl
      have hjz : (j : Int) < (ss.length : Int) := by omega
      have hsx : StEx ⟨k, b, cc, q, p⟩ := hs ▸ HK.out _ (List.getElem_mem hjl)
      have HSN := hid (show undT ss (t + 1) = undT ss t ++ [und ⟨k, b, cc, q, p⟩] by rw [undT_snoc hj hjl, hs])
      have hp0 : p = 0 := hsx.2.2
      subst hp0
      have hk : k = 5 ∨ k = 6 ∨ k = 7 := by have := hsx.2.1; have := hsx.1.2.1; simp only at *; omega
      have HSX := hid hsx
      have hsz := HB.out.size
      have HJ := hid hj
      rw [ek]
      clear hb hs hown hsx hj
      rcases hk with rfl | rfl | rfl
      · have hbx : Below wr.heap.size wr (wr.alloc (.cells #[.int .i64 5, .complex .f64 b cc, .int .i64 (q : Int), .int .i64 0] 111)) := below_new _ _
        have HBX := hid (bthen HB.out hbx)
        have HOX := hid (own_below HW.out hbx)
        clear hbx
        have hi := HI.out
        have hszw := HBX.out.size
        go_wp2_with (at_builtin; refine wpList_append_own _ rfl _ _ 71 rfl w.heap.size 111 i0 (.agg #[.int .i64 0, .complex .f64 0 0, .int .i64 0, .int .i64 0]) 4 40 Try.underlying71 hi HZ.out.1 HZ.out.2.1 HZ.out.2.2 rfl (by decide) _ _ _ rfl (HOX.out.alloc _) ⟨wr.heap.size + 1, 0, none⟩ 1 1 [.int .i64 5, .complex .f64 b cc, .int .i64 (q : Int), .int .i64 0] rfl rfl ?c1 ?c2 ?c3 ?c4 ?c5 ?_)
        case c1 =>
          intro j u hj
          match j, hj with
          | 0, hj => simp at hj; subst hj; simp [Addr.add]
          | 1, hj => simp at hj; subst hj; simp [Addr.add]
          | 2, hj => simp at hj; subst hj; simp [Addr.add]
          | 3, hj => simp at hj; subst hj; simp [Addr.add]
        case c2 => intro u hu; simp at hu; rcases hu with rfl | rfl | rfl | rfl <;> rfl
        case c3 => unfold maxLen; omega
        case c4 => omega
        case c5 => simp; omega
        intro v' w4 hown' hgrow _
        have HB4 := hid (show Below w.heap.size w w4 from Below.grown (HBX.out.alloc hszw _) hgrow (by simp; omega) (fun k' hk' => (HOX.out.lt _ hk').1))
        have HO4 := hid hown'
        clear hown' hgrow hi hszw
        go_wp2_with fail
        go_roundw
        case rel => exact ⟨t + 1, by omega, by first | (congr 1; done) | (congr 1; omega), by rw [HSN.out, scells_snoc]; exact HO4.out, HB4.out⟩
        case measure => first | (simp [intOf]; done) | (simp [intOf]; omega)
      · have hbx : Below wr.heap.size wr (wr.alloc (.cells #[.int .i64 6, .complex .f64 b cc, .int .i64 (q : Int), .int .i64 0] 111)) := below_new _ _
        have HBX := hid (bthen HB.out hbx)
        have HOX := hid (own_below HW.out hbx)
        clear hbx
        have hi := HI.out
        have hszw := HBX.out.size
        go_wp2_with (at_builtin; refine wpList_append_own _ rfl _ _ 71 rfl w.heap.size 111 i0 (.agg #[.int .i64 0, .complex .f64 0 0, .int .i64 0, .int .i64 0]) 4 40 Try.underlying71 hi HZ.out.1 HZ.out.2.1 HZ.out.2.2 rfl (by decide) _ _ _ rfl (HOX.out.alloc _) ⟨wr.heap.size + 1, 0, none⟩ 1 1 [.int .i64 6, .complex .f64 b cc, .int .i64 (q : Int), .int .i64 0] rfl rfl ?c1 ?c2 ?c3 ?c4 ?c5 ?_)
        case c1 =>
          intro j u hj
          match j, hj with
          | 0, hj => simp at hj; subst hj; simp [Addr.add]
          | 1, hj => simp at hj; subst hj; simp [Addr.add]
          | 2, hj => simp at hj; subst hj; simp [Addr.add]
          | 3, hj => simp at hj; subst hj; simp [Addr.add]
        case c2 => intro u hu; simp at hu; rcases hu with rfl | rfl | rfl | rfl <;> rfl
        case c3 => unfold maxLen; omega
        case c4 => omega
        case c5 => simp; omega
        intro v' w4 hown' hgrow _
        have HB4 := hid (show Below w.heap.size w w4 from Below.grown (HBX.out.alloc hszw _) hgrow (by simp; omega) (fun k' hk' => (HOX.out.lt _ hk').1))
        have HO4 := hid hown'
        clear hown' hgrow hi hszw
        go_wp2_with fail
        go_roundw
        case rel => exact ⟨t + 1, by omega, by first | (congr 1; done) | (congr 1; omega), by rw [HSN.out, scells_snoc]; exact HO4.out, HB4.out⟩
        case measure => first | (simp [intOf]; done) | (simp [intOf]; omega)
      · go_wp2_with fail
        refine (inv_any q (HSX.out.1.2.2.2.2.2.2.1 rfl).1 _).mono ?_
        rintro e w2 ⟨rfl, hb2⟩
        obtain ⟨x0, x1, x2, x3, x4, x5, x6, x7, x8⟩ := (box4_new wr (.int .i64 7) (.complex .f64 b cc) (.int .i64 (q : Int)) (.int .i64 0) 111).next hb2
        generalize hqq : (4 - q) % 4 = q'
        have hsx : w2.heap.size = ((w2.setCell ⟨wr.heap.size, 2, none⟩ (.int .i64 (q' : Int))).setCell ⟨wr.heap.size, 3, none⟩ (.int .i64 0)).heap.size := by simp [World.setCell]
        have HQQ := hid hqq
        have hbx : Below wr.heap.size wr ((w2.setCell ⟨wr.heap.size, 2, none⟩ (.int .i64 (q' : Int))).setCell ⟨wr.heap.size, 3, none⟩ (.int .i64 0)) := by
          refine below_set ?_ (Nat.le_refl _) _ _
          refine below_set ?_ (Nat.le_refl _) _ _
          exact bthen (below_new wr _) hb2
        have HBX := hid (bthen HB.out hbx)
        have HOX := hid (own_below HW.out hbx)
        have HSN := hid (show undT ss (t + 1) = undT ss t ++ [⟨7, b, cc, q', 0⟩] by rw [HSN.out, ← HQQ.out]; rfl)
        have HSXZ := hid hsx
        clear hbx hb2 hqq hsx
        have hi := HI.out
        have hszw := HBX.out.size
        go_wp2_with (at_builtin; refine wpList_append_own _ rfl _ _ 71 rfl w.heap.size 111 i0 (.agg #[.int .i64 0, .complex .f64 0 0, .int .i64 0, .int .i64 0]) 4 40 Try.underlying71 hi HZ.out.1 HZ.out.2.1 HZ.out.2.2 rfl (by decide) _ _ _ rfl (HOX.out.alloc _) ⟨w2.heap.size, 0, none⟩ 1 1 [.int .i64 7, .complex .f64 b cc, .int .i64 (q' : Int), .int .i64 0] rfl rfl ?c1 ?c2 ?c3 ?c4 ?c5 ?_)
        case c1 =>
          intro j u hj
          match j, hj with
          | 0, hj => simp at hj; subst hj; show World.cell? _ ⟨w2.heap.size, 0, none⟩ = _; rw [HSXZ.out]; exact (box4_new _ _ _ _ _ _).2.1
          | 1, hj => simp at hj; subst hj; show World.cell? _ ⟨w2.heap.size, 1, none⟩ = _; rw [HSXZ.out]; exact (box4_new _ _ _ _ _ _).2.2.1
          | 2, hj => simp at hj; subst hj; show World.cell? _ ⟨w2.heap.size, 2, none⟩ = _; rw [HSXZ.out]; exact (box4_new _ _ _ _ _ _).2.2.2.1
          | 3, hj => simp at hj; subst hj; show World.cell? _ ⟨w2.heap.size, 3, none⟩ = _; rw [HSXZ.out]; exact (box4_new _ _ _ _ _ _).2.2.2.2.1
        case c2 => intro u hu; simp at hu; rcases hu with rfl | rfl | rfl | rfl <;> rfl
        case c3 => unfold maxLen; omega
        case c4 => omega
        case c5 => simp; omega
        intro v' w4 hown' hgrow _
        have HB4 := hid (show Below w.heap.size w w4 from Below.grown (HBX.out.alloc hszw _) hgrow (by simp; omega) (fun k' hk' => (HOX.out.lt _ hk').1))
        have HO4 := hid hown'
        clear hown' hgrow hi hszw
        go_wp2_with fail
        go_roundw
        case rel => exact ⟨t + 1, by omega, by first | (congr 1; done) | (congr 1; omega), by rw [HSN.out, scells_snoc]; exact HO4.out, HB4.out⟩
        case measure => first | (simp [intOf]; done) | (simp [intOf]; omega)
    · have : t = ss.length := by omega
      subst this
      have ek : (ss.length : Int) - 1 - (ss.length : Int) = -1 := by omega
      rw [ek]
      clear hown hb
      go_wp2_with fail
      go_ret2
      exact ⟨_, rfl, by rw [← undT_all, undT_len (Nat.le_refl _)]; exact HW.out, HB.out⟩
end Go.Proofs.Ytbloipnpgncjiaa
