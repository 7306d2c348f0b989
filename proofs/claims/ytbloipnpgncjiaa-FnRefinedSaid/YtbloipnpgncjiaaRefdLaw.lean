/- The law of refined tables: it answers true for every code. -/
import Derived.Test.YtbloipnpgncjiaaRefW2
import Derived.Test.YtbloipnpgncjiaaDAt
import Derived.Test.YtbloipnpgncjiaaSame64
import Derived.Test.YtbloipnpgncjiaaOpenB
namespace Go.Proofs.Ytbloipnpgncjiaa
open Go.RowKit

theorem interN_impl (A : Option Addr) (c n : Nat) (ps : List (Nat × Nat)) (x : Nat) (w : World) (hl : ps.length = n) (ha : Pts w w.heap.size A ps) (hn : ps.length ≤ 1048576) :
    Calls Try.prog 22 #[.slice A n c, .float .f32 x] w (RetQ (interV ps x) (segIn ps x) w) := by subst hl; exact inter_impl A c ps x w ha hn
/-- what a refined table tells: at the new X, at the old points; and its length -/
theorem refd_facts {ps out : List (Nat × Nat)} {x : Nat} (ht : tabOk ps = true) (h : RefI ps [x] out) (hs : tabOk (msort kyP out) = true) :
    segIn ps x = true ∧ segIn (msort kyP out) x = true ∧ Fl.Eqv .f32 (interV (msort kyP out) x) (interV ps x) ∧
    (∀ k, k < ps.length → segIn (msort kyP out) (ps.getD k (0, 0)).1 = true ∧ interV (msort kyP out) (ps.getD k (0, 0)).1 = (ps.getD k (0, 0)).2) ∧ (out.length = ps.length ∨ out.length = ps.length + 1) := by
  obtain ⟨hx, o, ho, h⟩ := h
  have ho : o = ps := ho
  subst ho
  have old : ∀ out : List (Nat × Nat), (∀ p ∈ o, p ∈ out) → tabOk (msort kyP out) = true → ∀ k, k < o.length → segIn (msort kyP out) (o.getD k (0, 0)).1 = true ∧ interV (msort kyP out) (o.getD k (0, 0)).1 = (o.getD k (0, 0)).2 := fun out hsub ht' k hk => by
    refine tab_mem ht' (msort_mem.2 (hsub _ ?_)) (eq_self32 (tab_nan ht hk))
    rw [getD_at hk]; exact List.getElem_mem hk
  rcases h with ⟨hq, rfl⟩ | ⟨hq, y, hy, rfl⟩
  · obtain ⟨p, hp, he⟩ := List.any_eq_true.1 hq
    have e1 := tab_mem hs (msort_mem.2 hp) he
    have e2 := tab_mem ht hp he
    exact ⟨hx, e1.1, by rw [e1.2, e2.2]; exact Fl.Eqv.refl _ _, old out (fun _ h => h) hs, .inl rfl⟩
  · have e1 := tab_mem (x := x) (p := (x, y)) hs (msort_mem.2 (List.mem_append_right _ (List.mem_singleton.2 rfl))) (eq_self32 (seg_nan hx))
    exact ⟨hx, e1.1, by rw [e1.2]; exact hy, old _ (fun _ h => List.mem_append_left _ h) hs, .inr (by simp)⟩

set_option maxRecDepth 20000 in
set_option maxHeartbeats 8000000 in
theorem law_refd (A : Option Addr) (l c : Nat) (hx : l ≤ 9223372036854775807) (w : World) (ha : Byts w w.heap.size A l) :
    Calls Try.prog 3 #[.slice A l c] w fun e w' => e = .returned (.bool true) ∧ Below w.heap.size w w' := by
  have HA := hid ha
  clear ha
  by_cases hb : 1048576 < l
  · go_enter Try.func3, Try.ntmps3
    go_wp2_with fail
    refine (big_any A l c w hx).mono ?_
    rintro e w0 ⟨rfl, rfl⟩
    rw [decide_eq_true hb]
    go_wp2_with fail
    go_ret
    exact ⟨rfl, Below.refl _ _⟩
  · go_enter Try.func3, Try.ntmps3
    go_wp2_with fail
    refine (big_any A l c w hx).mono ?_
    rintro e w0 ⟨rfl, hw0⟩
    subst hw0
    rw [decide_eq_false hb]
    go_wp2_with fail
    refine (drawT_any A l c _ HA.out (by omega)).mono ?_
    rintro e w1 ⟨v, x, ps, rfl, hd, own1, hb1⟩
    obtain ⟨A1, c1, g1, rfl, s1, hg1, hA1, _⟩ := own_openP own1
    have hpn : ps.length ≤ 6 := hd.2.1
    have hpz : (ps.length : Int) ≤ 6 := by omega
    have HB1 := hid hb1
    have S1 := hid s1
    have HT := hid (dtab_ok hd)
    clear hd own1 hb1 s1 hA1
    go_wp2_with fail
    refine (inter_impl A1 c1 ps x w1 S1.out (by omega)).mono ?_
    rintro e w2 ⟨y, rfl, hy, hb2⟩
    have HY := hid hy
    have HB2 := hid (bthen HB1.out hb2)
    have S2 := hid (S1.out.next hb2)
    clear hy hb2
    have hnx : Below w2.heap.size w2 (w2.alloc (.cells #[.float .f32 x] 25)) := below_new _ _
    have HNX := hid hnx
    have HX := hid (show Sing (w2.alloc (.cells #[.float .f32 x] 25)) (w2.alloc (.cells #[.float .f32 x] 25)).heap.size (some ⟨w2.heap.size, 0, none⟩) [x] from ⟨rfl, fun _ => ⟨_, rfl, by simp, fun j u hj => by match j, hj with | 0, hj => (simp [fcells] at hj; subst hj; simp [Addr.add])⟩⟩)
    clear hnx
    go_wp2_with fail
    refine (refine_any A1 (some ⟨w2.heap.size, 0, none⟩) c1 1 ps [x] _ (S2.out.next HNX.out) HX.out (by simp; omega)).mono ?_
    rintro e w3 ⟨hr, hb3⟩
    have HB3 := hid (bthen HB2.out (bthen HNX.out hb3))
    have S3 := hid ((S2.out.next HNX.out).next hb3)
    clear hb3
    rcases hr with ⟨rfl, _⟩ | ⟨out, A3, c3, _, hri, hts, rfl, hpt⟩
    · go_wp2_with fail
      refine (tab_impl A1 c1 ps w3 S3.out (by omega)).mono ?_
      rintro e w4 ⟨rfl, hb4⟩
      rw [HT.out]
      have HB4 := hid (bthen HB3.out hb4)
      clear hb4
      go_wp2_with fail
      go_ret
      exact ⟨rfl, HB4.out⟩
    · obtain ⟨f1, f2, f3, f4, f5⟩ := refd_facts HT.out hri hts
      have hsl : (msort kyP out).length = out.length := msort_len out
      obtain ⟨S, hS⟩ : ∃ S, msort kyP out = S := ⟨_, rfl⟩
      rw [hS] at f2 f3 f4 hsl hts hpt
      have HTS := hid hts
      have HF1 := hid f1
      have HF2 := hid f2
      have HF3 := hid f3
      have HF4 := hid f4
      have HF5 := hid f5
      have HSL := hid hsl
      have HPT := hid hpt
      have hoz : (out.length : Int) ≤ 7 := by omega
      have hon : out.length ≤ 7 := by omega
      clear f1 f2 f3 f4 f5 hts hsl hpt hri hS
      go_wp2_with fail
      refine (interN_impl A3 c3 out.length S x w3 HSL.out HPT.out (by have := HSL.out; omega)).mono ?_
      rintro e w4 ⟨z, rfl, hz, hb4⟩
      have HZ := hid hz
      have HB4 := hid (bthen HB3.out hb4)
      have S4 := hid (S3.out.next hb4)
      have P4 := hid (HPT.out.next hb4)
      clear hz hb4
      rw [HF1.out, HF2.out]
      go_wp2_with fail
      refine (s32_any y z _ (HY.out.trans _ (HF3.out.symm.trans _ HZ.out.symm))).mono ?_
      rintro e w5 ⟨rfl, n5, rfl⟩
      go_wp2_with fail
      refine (tabN_impl A3 c3 out.length S _ HSL.out (P4.out.drewN n5) (by have := HSL.out; omega)).mono ?_
      rintro e w6 ⟨rfl, hb6⟩
      rw [HTS.out]
      have HB6 := hid (bthen (below_drewN HB4.out n5) hb6)
      have S6 := hid (Pts.next (S4.out.drewN n5) hb6)
      have P6 := hid (Pts.next (P4.out.drewN n5) hb6)
      clear hb6
      go_wp2_with fail
      go_loopw [11, 12, 13] (fun i _ _ wr => ∃ k : Nat, k ≤ ps.length ∧ i = .int .i64 k ∧ Below w6.heap.size w6 wr) (fun i _ _ _ => ps.length - (intOf i).toNat)
      case atStart => exact ⟨0, Nat.zero_le _, rfl, Below.refl _ _⟩
      case round =>
        obtain ⟨k, hk, rfl, hb⟩ := hrel
        have HW := hid hb
        by_cases hlt : k < ps.length
        · obtain ⟨ad, xk, yk, rfl, had, hxy, hca, hca'⟩ := (S6.out.below hb).at2 hlt
          have hkz : (k : Int) < (ps.length : Int) := by omega
          have hnode := HF4.out k hlt
          rw [hxy] at hnode
          have HN := hid (show segIn S xk = true ∧ interV S xk = yk from hnode)
          clear hnode hb hxy
          go_wp2_with fail
          refine (interN_impl A3 c3 out.length S xk _ HSL.out ((P6.out.below HW.out).more HW.out.size) (by have := HSL.out; omega)).mono ?_
          rintro e w8 ⟨q, rfl, hq, hb8⟩
          rw [HN.out.1]
          have HW2 := hid (bthen HW.out hb8)
          have HQ := hid (show Fl.Eqv .f32 q yk by rw [HN.out.2] at hq; exact hq)
          have hcb : w8.cell? ⟨(ad.add (k * 2)).block, (ad.add (k * 2)).off + 1, none⟩ = some (.float .f32 yk) := (hb8.cell (p := ⟨(ad.add (k * 2)).block, (ad.add (k * 2)).off + 1, none⟩) (by show (ad.add _).block < _; rw [block_of_add]; have := HW.out.size; omega)).trans hca'
          clear hq hb8 hca hca'
          go_wp2_with fail
          refine (s32_any q yk _ HQ.out).mono ?_
          rintro e w9 ⟨rfl, n9, rfl⟩
          go_wp2_with fail
          go_roundw
          case rel => exact ⟨k + 1, by omega, by go_num, below_drewN HW2.out _⟩
          case measure => simp [intOf]; omega
        · have : k = ps.length := by omega
          subst this
          have HBE := hid (bthen HB6.out HW.out)
          clear hb
          rcases HF5.out with h5 | h5
          · have hz5 : (out.length : Int) = (ps.length : Int) := by omega
            have HZ5 := hid h5
            clear h5
            go_wp2_with fail
            go_ret
            exact ⟨rfl, HBE.out⟩
          · have hz5 : (out.length : Int) = (ps.length : Int) + 1 := by omega
            clear h5
            go_wp2_with fail
            go_ret
            exact ⟨rfl, HBE.out⟩
end Go.Proofs.Ytbloipnpgncjiaa
