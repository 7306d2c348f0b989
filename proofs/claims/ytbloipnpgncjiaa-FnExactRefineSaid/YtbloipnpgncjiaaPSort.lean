/- slices.insertionSortCmpFunc of points by cmp.Compare of their X: the stable sort by insertion, in place. -/
import Derived.Test.YtbloipnpgncjiaaPSortL
import Derived.Test.YtbloipnpgncjiaaMergeL
import Derived.Test.YtbloipnpgncjiaaCur
import Derived.Deep.QuietTactic
import Derived.BigQuiet
import Derived.BigRegion
import Derived.Shelf.SlSortCmp.QuietGrown
namespace Go.Proofs.Ytbloipnpgncjiaa
open Go.RowKit Go.Sort

abbrev fnP : Value := .func (Fn.func 75) #[] #[]
def cmpI (x y : Nat) : Int := if Fl.lt .f32 x y then -1 else if Fl.gt .f32 x y then 1 else 0
theorem cmpI_neg {x y : Nat} : cmpI x y < 0 ↔ Fl.lt .f32 x y = true := by
  unfold cmpI
  cases Fl.lt .f32 x y
  · cases Fl.gt .f32 x y <;> simp
  · simp

set_option maxHeartbeats 400000 in
theorem cisnan (x : Nat) (hx : Fl.nan .f32 x = false) (w : World) :
    Calls Try.prog 110 #[.float .f32 x] w fun e w' => e = .returned (.bool false) ∧ w' = w := by
  have o1 : FloatKind.f32.format.order x x = some .eq := by rw [Fl.order_self, hx]; rfl
  clear hx
  go_enter Try.func110, Try.ntmps110
  go_wp2
  go_ret
  exact ⟨rfl, rfl⟩

set_option maxRecDepth 20000 in
set_option maxHeartbeats 1000000 in
theorem compare_any (x y : Nat) (hx : Fl.nan .f32 x = false) (hy : Fl.nan .f32 y = false) (w : World) :
    Calls Try.prog 76 #[.float .f32 x, .float .f32 y] w fun e w' => e = .returned (.int .i64 (cmpI x y)) ∧ w' = w := by
  have HX := hid hx
  have HY := hid hy
  clear hx hy
  rcases Bool.eq_false_or_eq_true (Fl.lt .f32 x y) with h1 | h1
  · have HC := hid (show cmpI x y = -1 by unfold cmpI; rw [h1]; rfl)
    have l1 : (FloatKind.f32.format.order x y == some .lt) = true := h1
    clear h1
    go_enter Try.func76, Try.ntmps76
    go_wp2_with fail
    refine (cisnan x HX.out w).mono ?_
    rintro e w1 ⟨rfl, rfl⟩
    go_wp2_with fail
    refine (cisnan y HY.out _).mono ?_
    rintro e w2 ⟨rfl, rfl⟩
    go_wp2_with fail
    go_ret
    exact ⟨by rw [HC.out]; rfl, rfl⟩
  · have l1 : (FloatKind.f32.format.order x y == some .lt) = false := h1
    rcases Bool.eq_false_or_eq_true (Fl.gt .f32 x y) with h2 | h2
    · have HC := hid (show cmpI x y = 1 by unfold cmpI; rw [h1, h2]; rfl)
      have l2 : (FloatKind.f32.format.order x y == some .gt) = true := h2
      clear h1 h2
      go_enter Try.func76, Try.ntmps76
      go_wp2_with fail
      refine (cisnan x HX.out w).mono ?_
      rintro e w1 ⟨rfl, rfl⟩
      go_wp2_with fail
      refine (cisnan y HY.out _).mono ?_
      rintro e w2 ⟨rfl, rfl⟩
      go_wp2_with fail
      go_ret
      exact ⟨by rw [HC.out]; rfl, rfl⟩
    · have HC := hid (show cmpI x y = 0 by unfold cmpI; rw [h1, h2]; rfl)
      have l2 : (FloatKind.f32.format.order x y == some .gt) = false := h2
      clear h1 h2
      go_enter Try.func76, Try.ntmps76
      go_wp2_with fail
      refine (cisnan x HX.out w).mono ?_
      rintro e w1 ⟨rfl, rfl⟩
      go_wp2_with fail
      refine (cisnan y HY.out _).mono ?_
      rintro e w2 ⟨rfl, rfl⟩
      go_wp2_with fail
      go_ret
      exact ⟨by rw [HC.out]; rfl, rfl⟩


set_option maxHeartbeats 400000 in
theorem cmpP_any (x y : Nat × Nat) (hx : Fl.nan .f32 x.1 = false) (hy : Fl.nan .f32 y.1 = false) (w : World) :
    Calls Try.prog 75 #[.agg #[.float .f32 x.1, .float .f32 x.2], .agg #[.float .f32 y.1, .float .f32 y.2]] w fun e w' => e = .returned (.int .i64 (cmpI x.1 y.1)) ∧ ∃ q os', w' = grow (w.drewN q) os' := by
  have HX := hid hx
  have HY := hid hy
  clear hx hy
  go_enter Try.func75, Try.ntmps75
  go_wp2_with fail
  refine (compare_any x.1 y.1 HX.out HY.out _).mono ?_
  rintro e w1 ⟨rfl, rfl⟩
  go_wp2_with fail
  go_ret
  exact ⟨rfl, 0, #[_, _], by rw [alloc_eq_grow, alloc_eq_grow, grow_grow]; rfl⟩

/-! a row of points that may be written -/
def pcF (L : List (Nat × Nat)) (j : Nat) : Value := if j % 2 = 0 then .float .f32 (L.getD (j / 2) (0, 0)).1 else .float .f32 (L.getD (j / 2) (0, 0)).2
/-- the row holds this list of points -/
def RowP (w : World) (g n : Nat) (L : List (Nat × Nat)) : Prop := L.length = n ∧ Row w g (n * 2) (pcF L)
theorem pcF_zero (L : List (Nat × Nat)) (i : Nat) : pcF L (i * 2) = .float .f32 (L.getD i (0, 0)).1 := by
  unfold pcF; rw [if_pos (by omega), show i * 2 / 2 = i by omega]
theorem pcF_one (L : List (Nat × Nat)) (i : Nat) : pcF L (i * 2 + 1) = .float .f32 (L.getD i (0, 0)).2 := by
  unfold pcF; rw [if_neg (by omega), show (i * 2 + 1) / 2 = i by omega]
section
variable {w w' : World} {g n : Nat} {L L' : List (Nat × Nat)}
theorem RowP.at_ (h : RowP w g n L) {i : Nat} (hi : i < n) :
    w.cell? ⟨g, i * 2, none⟩ = some (.float .f32 (L.getD i (0, 0)).1) ∧ w.frozen? ⟨g, i * 2, none⟩ = false ∧ w.cell? ⟨g, i * 2 + 1, none⟩ = some (.float .f32 (L.getD i (0, 0)).2) ∧ w.frozen? ⟨g, i * 2 + 1, none⟩ = false := by
  obtain ⟨a, b⟩ := h.2.2 (i * 2) (by omega)
  obtain ⟨c, d⟩ := h.2.2 (i * 2 + 1) (by omega)
  rw [pcF_zero] at a
  rw [pcF_one] at c
  exact ⟨a, b, c, d⟩
theorem RowP.congr (h : RowP w g n L) (hl : L'.length = n) (e : ∀ i, i < n → L.getD i (0, 0) = L'.getD i (0, 0)) : RowP w g n L' :=
  ⟨hl, h.2.congr (fun j hj => by unfold pcF; rw [e (j / 2) (by omega)])⟩
theorem below_grow {B : Nat} {a w : World} (h : Below B a w) (hB : B ≤ w.heap.size) (os : Array Obj) : Below B a (grow w os) :=
  h.trans ⟨rfl, rfl, rfl, by simp, fun k hk => heap_grow_old w os (Nat.lt_of_lt_of_le hk hB)⟩
theorem RowP.grown (h : RowP w g n L) (k : Nat) (os : Array Obj) : RowP (grow (w.drewN k) os) g n L :=
  ⟨h.1, by rw [size_grow]; exact Nat.lt_of_lt_of_le h.2.1 (Nat.le_add_right _ _), fun j hj => ⟨(cell?_grow _ _ _ (by exact h.2.1)).trans (h.2.2 j hj).1, (frozen?_grow _ _ _ (by exact h.2.1)).trans (h.2.2 j hj).2⟩⟩
theorem Upd.grown {p : Nat} (h : Upd p w w') (hp : p ≤ w'.heap.size) (k : Nat) (os : Array Obj) : Upd p w (grow (w'.drewN k) os) :=
  ⟨below_grow (below_drewN h.1 k) hp os, fun j a b => (heap_grow_old _ os (Nat.lt_of_lt_of_le b h.1.size)).trans (h.2 j a b)⟩
theorem RowP.swap (h : RowP w g n L) {u v : Nat} (hu : u < n) (hv : v < n) :
    RowP ((((w.setCell ⟨g, u * 2, none⟩ (.float .f32 (L.getD v (0, 0)).1)).setCell ⟨g, u * 2 + 1, none⟩ (.float .f32 (L.getD v (0, 0)).2)).setCell ⟨g, v * 2, none⟩ (.float .f32 (L.getD u (0, 0)).1)).setCell ⟨g, v * 2 + 1, none⟩ (.float .f32 (L.getD u (0, 0)).2)) g n (swapL (0, 0) L u v) := by
  refine ⟨by rw [swapL_len]; exact h.1, ?_⟩
  refine Row.congr ((((h.2.set (i := u * 2) (by omega) _).set (i := u * 2 + 1) (by omega) _).set (i := v * 2) (by omega) _).set (i := v * 2 + 1) (by omega) _) (fun j hj => ?_)
  show (if j = v * 2 + 1 then _ else if j = v * 2 then _ else if j = u * 2 + 1 then _ else if j = u * 2 then _ else pcF L j) = pcF (swapL (0, 0) L u v) j
  unfold pcF
  rw [swapL_get (0, 0) L (by rw [h.1]; exact hu) (by rw [h.1]; exact hv)]
  rcases Nat.mod_two_eq_zero_or_one j with e | e
  · rw [if_pos e, if_pos e, if_neg (show ¬ j = v * 2 + 1 by omega)]
    by_cases c1 : j / 2 = v
    · rw [if_pos (show j = v * 2 by omega), if_pos c1]
    · rw [if_neg (show ¬ j = v * 2 by omega), if_neg c1, if_neg (show ¬ j = u * 2 + 1 by omega)]
      by_cases c2 : j / 2 = u
      · rw [if_pos (show j = u * 2 by omega), if_pos c2]
      · rw [if_neg (show ¬ j = u * 2 by omega), if_neg c2]
  · rw [if_neg (show ¬ j % 2 = 0 by omega), if_neg (show ¬ j % 2 = 0 by omega)]
    by_cases c1 : j / 2 = v
    · rw [if_pos (show j = v * 2 + 1 by omega), if_pos c1]
    · rw [if_neg (show ¬ j = v * 2 + 1 by omega), if_neg (show ¬ j = v * 2 by omega), if_neg c1]
      by_cases c2 : j / 2 = u
      · rw [if_pos (show j = u * 2 + 1 by omega), if_pos c2]
      · rw [if_neg (show ¬ j = u * 2 + 1 by omega), if_neg (show ¬ j = u * 2 by omega), if_neg c2]
theorem Upd.swap {p : Nat} (h : Upd p w w') (a b c d : Nat) (v1 v2 v3 v4 : Value) : Upd p w ((((w'.setCell ⟨p, a, none⟩ v1).setCell ⟨p, b, none⟩ v2).setCell ⟨p, c, none⟩ v3).setCell ⟨p, d, none⟩ v4) := (((h.set a v1).set b v2).set c v3).set d v4
end

set_option maxRecDepth 20000 in
set_option maxHeartbeats 1500000 in
theorem insP_any (g n c : Nat) (P xs Q : List (Nat × Nat)) (hx : ∀ x ∈ xs, Fl.nan .f32 x.1 = false) (w : World) (hr : RowP w g n (P ++ xs ++ Q)) (hn : n ≤ 1100000) :
    Calls Try.prog 125 #[.slice (some ⟨g, 0, none⟩) n c, .int .i64 P.length, .int .i64 ((P.length + xs.length : Nat) : Int), fnP] w fun e w' => (∃ v, e = .returned v) ∧ RowP w' g n (P ++ isortP xs ++ Q) ∧ Upd g w w' := by
  have HR := hid hr
  have HX := hid hx
  have hlen : P.length + xs.length + Q.length = n := by have := hr.1; simp at this; omega
  clear hr hx
  obtain ⟨a, ha⟩ : ∃ a, P.length = a := ⟨_, rfl⟩
  obtain ⟨b, hb⟩ : ∃ b, P.length + xs.length = b := ⟨_, rfl⟩
  rw [hb, ha]
  have HA := hid ha
  have HB := hid hb
  have haz : (a : Int) ≤ 1100000 := by omega
  have hbz : (b : Int) ≤ 1100000 := by omega
  have hnz : (n : Int) ≤ 1100000 := by omega
  have HL := hid hlen
  clear ha hb hlen
  go_enter Try.func125, Try.ntmps125
  go_wp2_with fail
  go_loopw [8, 9] (fun i _ wr => ∃ t : Nat, 1 ≤ t ∧ (t ≤ xs.length ∨ t = 1) ∧ i = .int .i64 ((a + t : Nat) : Int) ∧ RowP wr g n (P ++ isortP (xs.take t) ++ (xs.drop t ++ Q)) ∧ Upd g w wr) (fun i _ _ => b + 1 - (intOf i).toNat)
  case atStart =>
    refine ⟨1, Nat.le_refl _, .inr rfl, by first | rfl | (congr 1), ?_, Upd.refl _ _⟩
    have e : isortP (xs.take 1) = xs.take 1 := by cases xs <;> rfl
    rw [e, List.append_assoc, ← List.append_assoc (xs.take 1), List.take_append_drop, ← List.append_assoc]
    exact HR.out
  case round =>
    obtain ⟨t, ht1, ht2, rfl, hrow, hu⟩ := hrel
    obtain ⟨it, hit⟩ : ∃ it, a + t = it := ⟨_, rfl⟩
    rw [hit]
    have HIT := hid hit
    clear hit
    have HROW := hid hrow
    have HU := hid hu
    clear hrow hu
    by_cases hlt : t < xs.length
    · have hitz : (it : Int) < (b : Int) := by have := HA.out; have := HB.out; have := HIT.out; omega
      have HLT := hid hlt
      have HT := hid (And.intro ht1 ht2)
      clear ht1 ht2 hlt
      obtain ⟨x, hxe⟩ : ∃ x, xs[t]'HLT.out = x := ⟨_, rfl⟩
      have HXN := hid (show Fl.nan .f32 x.1 = false by rw [← hxe]; exact HX.out _ (List.getElem_mem _))
      obtain ⟨S, hS⟩ : ∃ S, isortP (xs.take t) = S := ⟨_, rfl⟩
      have HSL := hid (show S.length = t by rw [← hS, isortP_len, List.length_take]; have := HLT.out; omega)
      have HSN := hid (show ∀ y ∈ S, Fl.nan .f32 y.1 = false from fun y hy => by rw [← hS] at hy; exact HX.out y (List.mem_of_mem_take (isortP_mem.1 hy)))
      have HNEXT := hid (show isortP (xs.take (t + 1)) = insP S x by rw [List.take_succ_eq_append_getElem HLT.out, isortP_snoc, hS, hxe])
      have HROW2 := hid (show RowP wr g n (midP P S x t (xs.drop (t + 1) ++ Q)) by
        have := HROW.out
        rw [hS, List.drop_eq_getElem_cons HLT.out, hxe] at this
        have e := midP_top (P := P) (S := S) (x := x) (Q := xs.drop (t + 1) ++ Q)
        rw [HSL.out] at e
        rw [e]; exact this)
      clear hxe hS
      obtain ⟨Q', hQ'⟩ : ∃ Q', xs.drop (t + 1) ++ Q = Q' := ⟨_, rfl⟩
      rw [hQ'] at HROW2
      have HQ' := hid hQ'
      clear hQ'
      have FIN := hid (show ∀ (w2 : World) (k : Nat), k ≤ t → posP x S t = k → RowP w2 g n (midP P S x k Q') → RowP w2 g n (P ++ isortP (xs.take (t + 1)) ++ (xs.drop (t + 1) ++ Q)) from fun w2 k hk hp hr => by
        rw [HNEXT.out, HQ'.out]
        unfold insP
        rw [HSL.out, hp]
        unfold midP at hr
        have e : P ++ (S.take k ++ x :: S.drop k) ++ Q' = P ++ S.take k ++ x :: (S.drop k ++ Q') := by simp [List.append_assoc]
        rw [e]; exact hr)
      go_wp2_with fail
      go_loopw [9] (fun j wi => ∃ k : Nat, k ≤ t ∧ j = .int .i64 ((a + k : Nat) : Int) ∧ posP x S t = posP x S k ∧ RowP wi g n (midP P S x k Q') ∧ Upd g w wi) (fun j _ => (intOf j).toNat)
      case atStart => exact ⟨t, Nat.le_refl _, by rw [HIT.out], rfl, HROW2.out, HU.out⟩
      case round =>
        obtain ⟨k, hk, rfl, hp, hrow, hu⟩ := hrel
        have HP := hid hp
        have HK := hid hk
        have HROWK := hid hrow
        have HUK := hid hu
        clear hp hk hrow hu
        cases k with
        | zero =>
          rw [Nat.add_zero]
          have hdf : decide ((a : Int) < (a : Int)) = false := by simp
          go_wp2_with fail
          go_quiet (fail)
          go_wp2_with fail
          go_roundw
          case rel => exact ⟨t + 1, by omega, .inl HLT.out, by have := HIT.out; go_num, FIN.out _ 0 (Nat.zero_le _) HP.out HROWK.out, HUK.out.drewN _⟩
          case measure => have := HIT.out; simp [intOf]; omega
        | succ k =>
          have hmid := (HROWK.out).1
          rw [midP_len (by have := HSL.out; have := HK.out; omega), HSL.out] at hmid
          obtain ⟨jm, hjm⟩ : ∃ jm, a + k = jm := ⟨_, rfl⟩
          obtain ⟨jj, hjj⟩ : ∃ jj, a + (k + 1) = jj := ⟨_, rfl⟩
          have HJ := hid (And.intro hjm hjj)
          obtain ⟨y, hy⟩ : ∃ y, S.getD k (0, 0) = y := ⟨_, rfl⟩
          have e1 : (midP P S x (k + 1) Q').getD jj (0, 0) = x := by rw [← hjj, ← HA.out]; exact midP_at (by have := HSL.out; have := HK.out; omega)
          have e2 : (midP P S x (k + 1) Q').getD jm (0, 0) = y := by rw [← hjm, ← HA.out, ← hy]; exact midP_before (by have := HSL.out; have := HK.out; omega)
          have HA1 := hid (HROWK.out.at_ (i := jj) (by have := HA.out; have := HK.out; omega))
          have HA2 := hid (HROWK.out.at_ (i := jm) (by have := HA.out; have := HK.out; omega))
          rw [e1] at HA1
          rw [e2] at HA2
          have hgs : g < wr.heap.size := HROWK.out.2.1
          have k1 : ∀ n os, (grow (wr.drewN n) os).cell? ⟨g, jj * 2, none⟩ = some (.float .f32 x.1) := cell_grown hgs HA1.out.1
          have k2 : ∀ n os, (grow (wr.drewN n) os).cell? ⟨g, jj * 2 + 1, none⟩ = some (.float .f32 x.2) := cell_grown hgs HA1.out.2.2.1
          have k3 : ∀ n os, (grow (wr.drewN n) os).cell? ⟨g, jm * 2, none⟩ = some (.float .f32 y.1) := cell_grown hgs HA2.out.1
          have k4 : ∀ n os, (grow (wr.drewN n) os).cell? ⟨g, jm * 2 + 1, none⟩ = some (.float .f32 y.2) := cell_grown hgs HA2.out.2.2.1
          have HE1 := hid e1
          have HE2 := hid e2
          clear e1 e2
          have HYN := hid (show Fl.nan .f32 y.1 = false by
            rw [← hy]
            have hks : k < S.length := by have := HSL.out; have := HK.out; omega
            have e : S.getD k (0, 0) = S[k] := by simp [List.getD, hks]
            rw [e]; exact HSN.out _ (List.getElem_mem _))
          have hsub : (jj : Int) - 1 = (jm : Int) := by omega
          have hjn : (jj : Int) < (n : Int) := by have := HA.out; have := HK.out; omega
          have hjmn : (jm : Int) < (n : Int) := by omega
          have hwr : IntKind.i64.wrap (jm : Int) = (jm : Int) := by rw [IntKind.wrap_i64]; omega
          have hwr2 : IntKind.i64.wrap ((jj : Int) - 1) = (jm : Int) := by rw [hsub]; exact hwr
          have hja : (a : Int) < (jj : Int) := by omega
          have HPS := hid (show posP x S (k + 1) = if Fl.lt .f32 x.1 y.1 then posP x S k else k + 1 by rw [← hy]; rfl)
          have HSW := hid (show ∀ i, (midP P S x k Q').getD i (0, 0) = if i = jm then x else if i = jj then y else (midP P S x (k + 1) Q').getD i (0, 0) from fun i => by
            rw [midP_swap (by have := HSL.out; have := HK.out; omega), HA.out, hjm, hjj, hy])
          rw [hjj]
          clear hjj hjm hy hmid
          rcases Bool.eq_false_or_eq_true (Fl.lt .f32 x.1 y.1) with hlt | hlt
          · have hneg : cmpI x.1 y.1 < 0 := cmpI_neg.2 hlt
            have HPK := hid (show posP x S t = posP x S k by rw [HP.out, HPS.out, hlt]; rfl)
            clear hlt
            go_wp2_with fail
            have mixed : Try.prog.follows .mixedOrders = true := by kernel_rfl
            go_quiet_grown (first | (refine Calls.grown_of (cmpP_any x y HXN.out HYN.out _)))
            go_wp2_with fail
            have HRW := hid (HROWK.out.grown nq osq)
            have HUW := hid (HUK.out.grown (Nat.le_of_lt hgs) nq osq)
            clear k1 k2 k3 k4 hgs hneg
            generalize grow (wr.drewN nq) osq = wq at HRW HUW ⊢
            obtain ⟨k1, k2, k3, k4⟩ := HRW.out.at_ (i := jj) (by have := HA.out; have := HK.out; omega)
            obtain ⟨k5, k6, k7, k8⟩ := HRW.out.at_ (i := jm) (by have := HA.out; have := HK.out; omega)
            rw [HE1.out] at k1 k3
            rw [HE2.out] at k5 k7
            go_region
            go_wp2_with fail
            go_roundw
            case rel =>
              have h2 := HRW.out.swap (u := jj) (v := jm) (by have := HA.out; have := HK.out; omega) (by have := HA.out; have := HK.out; omega)
              rw [HE1.out, HE2.out] at h2
              have h1 := HROWK.out.1
              rw [midP_len (by have := HSL.out; have := HK.out; omega)] at h1
              refine ⟨k, by have := HK.out; omega, by have := HJ.out; go_num, HPK.out, h2.congr (by rw [midP_len (by have := HSL.out; have := HK.out; omega)]; exact h1) (fun i _ => ?_), (HUW.out.swap _ _ _ _ _ _ _ _).drewN _⟩
              have hl := HRW.out.1
              rw [swapL_get (0, 0) _ (by rw [hl]; omega) (by rw [hl]; omega), HSW.out i, HE1.out, HE2.out]
            case measure => have := HJ.out; simp [intOf]; omega
          · have hneg : ¬ (cmpI x.1 y.1 < 0) := fun h => by rw [cmpI_neg.1 h] at hlt; cases hlt
            have HPK := hid (show posP x S t = k + 1 by rw [HP.out, HPS.out, hlt]; rfl)
            clear hlt
            go_wp2_with fail
            have mixed : Try.prog.follows .mixedOrders = true := by kernel_rfl
            go_quiet_grown (first | (refine Calls.grown_of (cmpP_any x y HXN.out HYN.out _)))
            go_wp2_with fail
            go_roundw
            case rel => exact ⟨t + 1, by omega, .inl HLT.out, by have := HIT.out; go_num, FIN.out _ (k + 1) HK.out HPK.out (HROWK.out.grown nq osq), HUK.out.grown (Nat.le_of_lt hgs) nq osq⟩
            case measure => have := HIT.out; simp [intOf]; omega
    · have hitz : (b : Int) ≤ (it : Int) := by have := HA.out; have := HB.out; have := HIT.out; omega
      go_wp2_with fail
      go_end0
      refine ⟨⟨_, rfl⟩, ?_, HU.out⟩
      have e1 : xs.take t = xs := List.take_of_length_le (by omega)
      have e2 : xs.drop t = [] := List.drop_of_length_le (by omega)
      have := HROW.out
      rw [e1, e2] at this
      exact this
end Go.Proofs.Ytbloipnpgncjiaa
