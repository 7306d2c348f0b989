/- The cursor of the draws: what it holds, what a draw changes, and the first draws: l01Byte, l01Below, l01New. -/
import Derived.Test.YtbloipnpgncjiaaWords
import Derived.Test.YtbloipnpgncjiaaBox
import Derived.Deep.QuietTactic
namespace Go.Proofs.Ytbloipnpgncjiaa
open Go.RowKit

/-- a draw changes block p alone among the old ones -/
def Upd (p : Nat) (w w' : World) : Prop := Below p w w' ∧ ∀ k, k ≠ p → k < w.heap.size → w'.heap[k]? = w.heap[k]?
section
variable {w w' w'' : World} {p : Nat}
theorem Upd.refl (p : Nat) (w : World) : Upd p w w := ⟨Below.refl _ _, fun _ _ _ => rfl⟩
theorem Upd.trans (h : Upd p w w') (h' : Upd p w' w'') : Upd p w w'' := ⟨h.1.trans h'.1, fun k a b => (h'.2 k a (Nat.lt_of_lt_of_le b h.1.size)).trans (h.2 k a b)⟩
theorem Upd.drewN (h : Upd p w w') (n : Nat) : Upd p w (w'.drewN n) := ⟨below_drewN h.1 n, h.2⟩
theorem Upd.size (h : Upd p w w') : w.heap.size ≤ w'.heap.size := h.1.size
theorem Upd.set (h : Upd p w w') (i : Nat) (v : Value) : Upd p w (w'.setCell ⟨p, i, none⟩ v) :=
  ⟨h.1.setCell (Nat.le_refl _) v, fun k a b => (heap_setCell_other w' ⟨p, i, none⟩ k v (fun e => a e)).trans (h.2 k a b)⟩
theorem Upd.of_below (h : Below w.heap.size w w') (hp : p < w.heap.size) : Upd p w w' := ⟨h.mono (Nat.le_of_lt hp), fun k _ b => h.block k b⟩
theorem Upd.far (h : Upd p w w') {g : Nat} (hg : g ≠ p) (hl : g < w.heap.size) : w'.heap[g]? = w.heap[g]? := h.2 g hg hl
theorem Upd.cell (h : Upd p w w') {a : Addr} (hg : a.block ≠ p) (hl : a.block < w.heap.size) : w'.cell? a = w.cell? a := by
  unfold World.cell?; rw [h.2 _ hg hl]
theorem Upd.frozen (h : Upd p w w') {a : Addr} (hg : a.block ≠ p) (hl : a.block < w.heap.size) : w'.frozen? a = w.frozen? a := by
  unfold World.frozen?; rw [h.2 _ hg hl]
theorem Upd.alloc (h : Upd p w w') (hp : p < w.heap.size) (o : Obj) : Upd p w (w'.alloc o) :=
  h.trans (Upd.of_below (below_new w' o) (Nat.lt_of_lt_of_le hp h.size))
theorem Upd.own {base : Nat} {e : TypeId} {size : Nat} {v : Value} {n : Nat} {xs : List Value} (h : Upd p w w') (ho : w.ownsRow base e size v n xs) (hb : p < base) : w'.ownsRow base e size v n xs := by
  obtain ⟨h1, h2⟩ := ho
  refine ⟨h1, ?_⟩
  rcases h2 with h2 | ⟨g, cap, cur, a, b, c, d⟩
  · exact .inl h2
  · refine .inr ⟨g, cap, cur, a, b, ?_, d⟩
    obtain ⟨hlt, _⟩ := Array.getElem?_eq_some_iff.1 c
    rw [h.2 g (by omega) hlt]; exact c
end
/-- a slice of n bytes that lies below block B -/
def Byts (w : World) (B : Nat) (A : Option Addr) (n : Nat) : Prop := 0 < n → ∃ ad, A = some ad ∧ ad.block < B ∧ ∀ j, j < n → ∃ b : Int, w.cell? (ad.add j) = some (.int .u8 b)
theorem Byts.below {w w' : World} {B : Nat} {A : Option Addr} {n : Nat} (h : Byts w B A n) (hb : Below B w w') : Byts w' B A n := fun hn => by
  obtain ⟨ad, e, hl, hc⟩ := h hn
  exact ⟨ad, e, hl, fun j hj => by obtain ⟨b, h'⟩ := hc j hj; exact ⟨b, (hb.cell (by rw [block_of_add]; exact hl)).trans h'⟩⟩
theorem Byts.more {w : World} {B B' : Nat} {A : Option Addr} {n : Nat} (h : Byts w B A n) (hB : B ≤ B') : Byts w B' A n := fun hn => by
  obtain ⟨ad, e, hl, hc⟩ := h hn
  exact ⟨ad, e, Nat.lt_of_lt_of_le hl hB, hc⟩
/-- the cursor at block p: the bytes, the place among them, a number that follows from them -/
def Cur (w : World) (p : Nat) : Prop := ∃ (A : Option Addr) (n c i : Nat) (h : Int), p < w.heap.size ∧ n ≤ 1048576 ∧ i ≤ n ∧ Byts w p A n ∧
  w.cell? ⟨p, 0, none⟩ = some (.slice A n c) ∧ w.cell? ⟨p, 1, none⟩ = some (.int .i64 i) ∧ w.cell? ⟨p, 2, none⟩ = some (.int .i64 h) ∧ w.frozen? ⟨p, 1, none⟩ = false ∧ w.frozen? ⟨p, 2, none⟩ = false
theorem Cur.lt {w : World} {p : Nat} (h : Cur w p) : p < w.heap.size := by obtain ⟨_, _, _, _, _, h, _⟩ := h; exact h
theorem Cur.next {w w' : World} {p : Nat} (h : Cur w p) (hb : Below w.heap.size w w') : Cur w' p := by
  obtain ⟨A, n, c, i, v, h1, h2, h3, h4, h5, h6, h7, h8, h9⟩ := h
  exact ⟨A, n, c, i, v, Nat.lt_of_lt_of_le h1 hb.size, h2, h3, h4.below (hb.mono (Nat.le_of_lt h1)), (hb.cell (p := ⟨p, 0, none⟩) h1).trans h5, (hb.cell (p := ⟨p, 1, none⟩) h1).trans h6, (hb.cell (p := ⟨p, 2, none⟩) h1).trans h7, (hb.frozen (p := ⟨p, 1, none⟩) h1).trans h8, (hb.frozen (p := ⟨p, 2, none⟩) h1).trans h9⟩
theorem Cur.drewN {w : World} {p : Nat} (h : Cur w p) (n : Nat) : Cur (w.drewN n) p := h
theorem cur_at {w w' : World} {p : Nat} {A : Option Addr} {n c i : Nat} {h : Int} (hu : Upd p w w') (h1 : p < w.heap.size) (h2 : n ≤ 1048576) (h3 : i ≤ n) (h4 : Byts w p A n)
    (d0 : w'.cell? ⟨p, 0, none⟩ = some (.slice A n c)) (d1 : w'.cell? ⟨p, 1, none⟩ = some (.int .i64 i)) (d2 : w'.cell? ⟨p, 2, none⟩ = some (.int .i64 h)) (d3 : w'.frozen? ⟨p, 1, none⟩ = false) (d4 : w'.frozen? ⟨p, 2, none⟩ = false) : Cur w' p :=
  ⟨A, n, c, i, h, Nat.lt_of_lt_of_le h1 hu.size, h2, h3, h4.below hu.1, d0, d1, d2, d3, d4⟩
/-- a number of few bits -/
theorem and255_lt (x : Int) : 0 ≤ bits .and .i64 x 255 ∧ bits .and .i64 x 255 ≤ 255 := by
  have e : bits .and .i64 x 255 = IntKind.i64.wrap ((BitVec.ofInt 64 x &&& BitVec.ofInt 64 255).toNat) := rfl
  rw [e]
  have h : (BitVec.ofInt 64 x &&& BitVec.ofInt 64 255).toNat ≤ 255 := by
    rw [BitVec.toNat_and]
    exact Nat.and_le_right
  generalize (BitVec.ofInt 64 x &&& BitVec.ofInt 64 255).toNat = m at h
  rw [IntKind.wrap_i64]; omega

set_option maxRecDepth 20000 in
set_option maxHeartbeats 1000000 in
theorem byte_any (p : Nat) (w : World) (hc : Cur w p) :
    Calls Try.prog 112 #[.pointer (some ⟨p, 0, none⟩)] w fun e w' => ∃ x : Int, e = .returned (.int .i64 x) ∧ 0 ≤ x ∧ x ≤ 255 ∧ Cur w' p ∧ Upd p w w' := by
  obtain ⟨A, n, c, i, v, h1, h2, h3, h4, h5, h6, h7, h8, h9⟩ := hc
  have HB := hid h4
  clear h4
  go_enter Try.func112, Try.ntmps112
  go_wp2_with fail
  generalize wrap64 (wrap64 (v * 6364136223846793005) + 1442695040888963407) = v1
  have U1 := hid ((Upd.refl p w).set 2 (.int .i64 v1))
  have d0 : (w.setCell ⟨p, 2, none⟩ (.int .i64 v1)).cell? ⟨p, 0, none⟩ = some (.slice A n c) := (World.cell?_setCell_other _ _ _ _ (by simp)).trans h5
  have d1 : (w.setCell ⟨p, 2, none⟩ (.int .i64 v1)).cell? ⟨p, 1, none⟩ = some (.int .i64 i) := (World.cell?_setCell_other _ _ _ _ (by simp)).trans h6
  have d2 : (w.setCell ⟨p, 2, none⟩ (.int .i64 v1)).cell? ⟨p, 2, none⟩ = some (.int .i64 v1) := World.cell?_setCell_same _ _ _ h7
  have d3 : (w.setCell ⟨p, 2, none⟩ (.int .i64 v1)).frozen? ⟨p, 1, none⟩ = false := by rw [World.frozen?_setCell]; exact h8
  have d4 : (w.setCell ⟨p, 2, none⟩ (.int .i64 v1)).frozen? ⟨p, 2, none⟩ = false := by rw [World.frozen?_setCell]; exact h9
  clear h5 h6 h7 h8 h9
  generalize w.setCell ⟨p, 2, none⟩ (.int .i64 v1) = w1 at U1 d0 d1 d2 d3 d4
  have H2 := hid h2
  go_quiet (fail)
  go_wp2_with fail
  generalize hx : bits .and .i64 _ 255 = x
  have hxb : 0 ≤ x ∧ x ≤ 255 := hx ▸ and255_lt _
  clear hx
  have hnz : (n : Int) ≤ 1048576 := by omega
  have hB1 := HB.out.below U1.out.1
  by_cases hi : i < n
  · obtain ⟨ad, rfl, hbl, hby⟩ := hB1 (by omega)
    obtain ⟨b, hb⟩ := hby i hi
    have hiz : (i : Int) < (n : Int) := by omega
    clear hby hB1
    go_quiet (fail)
    go_wp2_with fail
    go_quiet (fail)
    go_wp2_with fail
    generalize hx : bits .and .i64 _ 255 = y
    have hyb : 0 ≤ y ∧ y ≤ 255 := hx ▸ and255_lt _
    clear hx
    go_ret
    refine ⟨y, rfl, hyb.1, hyb.2, ?_, (U1.out.set 1 _).drewN _⟩
    exact (cur_at (U1.out.set 1 (.int .i64 ((i : Int) + 1))) h1 H2.out hi HB.out ((World.cell?_setCell_other _ _ _ _ (by simp)).trans d0) (World.cell?_setCell_same _ _ _ d1) ((World.cell?_setCell_other _ _ _ _ (by simp)).trans d2) (by rw [World.frozen?_setCell]; exact d3) (by rw [World.frozen?_setCell]; exact d4)).drewN _
  · have hiz : (n : Int) ≤ (i : Int) := by omega
    go_quiet (fail)
    go_wp2_with fail
    go_ret
    exact ⟨x, rfl, hxb.1, hxb.2, ((cur_at U1.out h1 H2.out h3 HB.out d0 d1 d2 d3 d4).drewN _).drewN _, (U1.out.drewN _).drewN _⟩

set_option maxRecDepth 20000 in
set_option maxHeartbeats 1000000 in
theorem below_any (p : Nat) (n : Int) (w : World) (hc : Cur w p) (h1 : 1 ≤ n) (h2 : n ≤ 2147483648) :
    Calls Try.prog 89 #[.pointer (some ⟨p, 0, none⟩), .int .i64 n] w fun e w' => ∃ x : Int, e = .returned (.int .i64 x) ∧ 0 ≤ x ∧ x < n ∧ Cur w' p ∧ Upd p w w' := by
  have HC := hid hc
  clear hc
  have h0 : ¬ (n ≤ 0) := by omega
  by_cases hn : n ≤ 256
  · go_enter Try.func89, Try.ntmps89
    go_wp2_with fail
    refine (byte_any _ _ HC.out).mono ?_
    rintro e w1 ⟨x, rfl, x0, x1, hc1, hu1⟩
    have HC1 := hid hc1
    have HU1 := hid hu1
    clear hc1 hu1
    go_wp2_with fail
    go_ret
    exact ⟨x % n, rfl, Int.emod_nonneg _ (by omega), Int.emod_lt_of_pos _ (by omega), HC1.out, HU1.out⟩
  · go_enter Try.func89, Try.ntmps89
    go_wp2_with fail
    refine (byte_any _ _ HC.out).mono ?_
    rintro e w1 ⟨x, rfl, x0, x1, hc1, hu1⟩
    have HC1 := hid hc1
    have HU1 := hid hu1
    clear hc1 hu1
    go_wp2_with fail
    refine (byte_any _ _ HC1.out).mono ?_
    rintro e w2 ⟨y, rfl, y0, y1, hc1, hu1⟩
    have HC2 := hid hc1
    have HU2 := hid (HU1.out.trans hu1)
    clear hc1 hu1
    go_wp2_with fail
    refine (byte_any _ _ HC2.out).mono ?_
    rintro e w3 ⟨z, rfl, z0, z1, hc1, hu1⟩
    have HC3 := hid hc1
    have HU3 := hid (HU2.out.trans hu1)
    clear hc1 hu1
    go_wp2_with fail
    refine (byte_any _ _ HC3.out).mono ?_
    rintro e w4 ⟨t, rfl, t0, t1, hc1, hu1⟩
    have HC4 := hid hc1
    have HU4 := hid (HU3.out.trans hu1)
    clear hc1 hu1
    go_wp2_with fail
    go_ret
    exact ⟨_, rfl, Int.emod_nonneg _ (by omega), Int.emod_lt_of_pos _ (by omega), HC4.out, HU4.out⟩

set_option maxHeartbeats 400000 in
theorem once_any (p : Nat) (n : Int) (w : World) (hc : Cur w p) (h1 : 1 ≤ n) (h2 : n ≤ 2147483648) :
    Calls Try.prog 87 #[.pointer (some ⟨p, 0, none⟩), .int .i64 n] w fun e w' => ∃ b : Bool, e = .returned (.bool b) ∧ Cur w' p ∧ Upd p w w' := by
  have HC := hid hc
  clear hc
  go_enter Try.func87, Try.ntmps87
  go_wp2_with fail
  refine (below_any _ _ _ HC.out h1 h2).mono ?_
  rintro e w1 ⟨x, rfl, x0, x1, hc1, hu1⟩
  have HC1 := hid hc1
  have HU1 := hid hu1
  clear hc1 hu1
  by_cases h : x = 0
  · subst h
    go_wp2_with fail
    go_ret
    exact ⟨_, rfl, HC1.out, HU1.out⟩
  · go_wp2_with fail
    go_ret
    exact ⟨_, rfl, HC1.out, HU1.out⟩

set_option maxRecDepth 20000 in
set_option maxHeartbeats 1000000 in
theorem pick_any (p g n c : Nat) (Q : Int → Prop) (w : World) (hc : Cur w p) (h1 : 1 ≤ n) (h2 : n ≤ 1048576) (hg : g ≠ p) (hl : g < w.heap.size) (hx : ∀ j, j < n → ∃ x : Int, w.cell? ⟨g, j, none⟩ = some (.int .i64 x) ∧ Q x) :
    Calls Try.prog 106 #[.pointer (some ⟨p, 0, none⟩), .slice (some ⟨g, 0, none⟩) n c] w fun e w' => ∃ x : Int, e = .returned (.int .i64 x) ∧ Q x ∧ Cur w' p ∧ Upd p w w' := by
  have HC := hid hc
  have HX := hid hx
  clear hc hx
  have hnz : (n : Int) ≤ 1048576 := by omega
  go_enter Try.func106, Try.ntmps106
  go_wp2_with fail
  refine (below_any _ _ _ HC.out (by omega) (by omega)).mono ?_
  rintro e w1 ⟨x, rfl, x0, x1, hc1, hu1⟩
  obtain ⟨k, rfl⟩ := Int.eq_ofNat_of_zero_le x0
  obtain ⟨v, hv, hq⟩ := HX.out k (by omega)
  have hv1 : w1.cell? ⟨g, k, none⟩ = some (.int .i64 v) := (hu1.cell (a := ⟨g, k, none⟩) hg hl).trans hv
  have HC1 := hid hc1
  have HU1 := hid hu1
  have HQ := hid hq
  have hkn : k < n := by omega
  clear hc1 hu1 hv hq
  go_wp2_with fail
  go_ret
  exact ⟨v, rfl, HQ.out, HC1.out, HU1.out⟩

set_option maxRecDepth 20000 in
set_option maxHeartbeats 1000000 in
theorem new_any (A : Option Addr) (n c : Nat) (w : World) (hb : Byts w w.heap.size A n) (hn : n ≤ 1048576) :
    Calls Try.prog 68 #[.slice A n c] w fun e w' => ∃ p, e = .returned (.pointer (some ⟨p, 0, none⟩)) ∧ w.heap.size ≤ p ∧ Cur w' p ∧ Below w.heap.size w w' := by
  have HB := hid hb
  have hnz : (n : Int) ≤ 1048576 := by omega
  clear hb
  go_enter Try.func68, Try.ntmps68
  go_wp2_with fail
  go_loopw [3, 4] (fun h i wr => ∃ (k : Nat) (v : Int), k ≤ n ∧ i = .int .i64 k ∧ h = .int .i64 v ∧ wr = w) (fun _ i _ => n - (intOf i).toNat)
  case atStart => exact ⟨0, _, by omega, rfl, rfl, rfl⟩
  case round =>
    obtain ⟨k, v, hk, rfl, rfl, rfl⟩ := hrel
    by_cases hlt : k < n ∧ k < 4000
    · have hkz : (k : Int) < (n : Int) := by omega
      have hkz2 : (k : Int) < 4000 := by omega
      obtain ⟨ad, rfl, hbl, hby⟩ := HB.out (by omega)
      obtain ⟨b, hb⟩ := hby k hlt.1
      have hkn := hlt.1
      clear hby hlt
      go_wp2_with fail
      go_roundw
      case rel => exact ⟨k + 1, _, by omega, by go_num, rfl, by first | rfl | trivial⟩
      case measure => simp [intOf]; omega
    · by_cases h1 : k < n
      · have hkz : (k : Int) < (n : Int) := by omega
        have hkz2 : (4000 : Int) ≤ (k : Int) := by omega
        clear hlt
        go_wp2_with fail
        go_ret
        exact ⟨wr.heap.size, rfl, Nat.le_refl _, ⟨A, n, c, 0, v, by simp, hn, Nat.zero_le _, HB.out.below (below_new _ _), by simp, by simp, by simp, by simp [go_sem], by simp [go_sem]⟩, below_new _ _⟩
      · have hkz : (n : Int) ≤ (k : Int) := by omega
        clear hlt
        go_wp2_with fail
        go_ret
        exact ⟨wr.heap.size, rfl, Nat.le_refl _, ⟨A, n, c, 0, v, by simp, hn, Nat.zero_le _, HB.out.below (below_new _ _), by simp, by simp, by simp, by simp [go_sem], by simp [go_sem]⟩, below_new _ _⟩
end Go.Proofs.Ytbloipnpgncjiaa
