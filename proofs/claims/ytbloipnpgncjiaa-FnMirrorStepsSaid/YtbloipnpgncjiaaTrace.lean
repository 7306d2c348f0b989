/- TraceSteps and Correct of the program. -/
import Derived.Test.YtbloipnpgncjiaaSts
namespace Go.Proofs.Ytbloipnpgncjiaa
open Go.RowKit Ieee

def trace : List St → Nat × Nat → List (Nat × Nat)
  | [], _ => []
  | s :: ss, z => if cFin (stv s z) then stv s z :: trace ss (stv s z) else []
/-- what the steps come to, where all is finite -/
def corr : List St → Nat × Nat → Option (Nat × Nat)
  | [], z => some z
  | s :: ss, z => if cFin (stv s z) then corr ss (stv s z) else none
def zcells (zs : List (Nat × Nat)) : List Value := zs.map fun z => .complex .f64 z.1 z.2
theorem zcells_snoc (zs : List (Nat × Nat)) (z : Nat × Nat) : zcells (zs ++ [z]) = zcells zs ++ [.complex .f64 z.1 z.2] := by simp [zcells]
theorem trace_le : ∀ (ss : List St) (z : Nat × Nat), (trace ss z).length ≤ ss.length
  | [], _ => Nat.le_refl _
  | s :: ss, z => by
    unfold trace
    split
    · have := trace_le ss (stv s z); simp only [List.length_cons]; omega
    · simp
theorem corr_none : ∀ (ss : List St) (z : Nat × Nat), corr ss z = none → (trace ss z).length < ss.length
  | [], _, h => by cases h
  | s :: ss, z, h => by
    unfold corr at h
    unfold trace
    split at h
    · rename_i hc
      rw [if_pos hc]
      have := corr_none ss (stv s z) h
      simp only [List.length_cons]; omega
    · rename_i hc
      rw [if_neg hc]; simp
theorem corr_some : ∀ (ss : List St) (z u : Nat × Nat), corr ss z = some u → (trace ss z).length = ss.length ∧ u = if ss.length = 0 then z else (trace ss z).getD (ss.length - 1) (0, 0)
  | [], z, u, h => by cases h; exact ⟨rfl, rfl⟩
  | s :: ss, z, u, h => by
    unfold corr at h
    split at h
    · rename_i hc
      obtain ⟨h1, h2⟩ := corr_some ss (stv s z) u h
      refine ⟨by unfold trace; rw [if_pos hc]; simp [h1], ?_⟩
      unfold trace
      rw [if_pos hc, if_neg (by simp), h2]
      cases ss with
      | nil => rfl
      | cons t ss => simp
    · cases h
theorem trace_num : ∀ (ss : List St) (z : Nat × Nat), (∀ s ∈ ss, StOk s) → ∀ u ∈ trace ss z, cFin u = true
  | [], _, _, u, h => by cases h
  | s :: ss, z, ho, u, h => by
    unfold trace at h
    split at h
    · rename_i hc
      rcases List.mem_cons.1 h with rfl | h
      · exact hc
      · exact trace_num ss _ (fun t ht => ho t (List.mem_cons_of_mem _ ht)) u h
    · cases h
theorem Try.info_z : (Try.prog.info? 59).map (fun i => (i.zero, i.size, i.bytes)) = some (some (.complex .f64 0 0), 1, 16) := by kernel_rfl

/-- the numbers after the steps -/
def RetTr (ss : List St) (z : Nat × Nat) (w : World) (e : Ending) (w' : World) : Prop :=
  ∃ v, e = .returned v ∧ w'.ownsRow w.heap.size 59 1 v (trace ss z).length (zcells (trace ss z)) ∧ (∀ u ∈ trace ss z, Num u) ∧ Below w.heap.size w w'

set_option maxRecDepth 20000 in
set_option maxHeartbeats 4000000 in
theorem trace_any (A : Option Addr) (c : Nat) (ss : List St) (z : Nat × Nat) (w : World) (ha : Sts w w.heap.size A ss) (hok : AllOk ss) (hz : Num z) :
    Calls Try.prog 61 #[.slice A ss.length c, .complex .f64 z.1 z.2] w (RetTr ss z w) := by
  have HA := hid ha
  have HK := hid hok
  have HZ := hid hz
  have hlz : (ss.length : Int) ≤ 20 := by have := hok.1; omega
  have hl20 : ss.length ≤ 20 := hok.1
  have HO := hid (World.ownsRow_nil w w.heap.size 59 1)
  clear ha hok hz
  obtain ⟨i0, hi, hz0, hz1, hz2⟩ := info_parts Try.info_z
  have HI := hid hi
  have HZI := hid (show i0.zero = some (.complex .f64 0 0) ∧ i0.size = 1 ∧ i0.bytes = 16 from ⟨hz0, hz1, hz2⟩)
  clear hi hz0 hz1 hz2
  go_enter Try.func61, Try.ntmps61
  go_wp2_with fail
  refine (stepsOk_any A c ss _ HA.out HK.out).mono ?_
  rintro e w1 ⟨rfl, hb1⟩
  have HB1 := hid hb1
  have HO1 := hid (own_below HO.out hb1)
  clear hb1
  go_wp2_with fail
  refine (isfin_any z.1 z.2 HZ.out.1 HZ.out.2.1 _).mono ?_
  rintro e w2 ⟨rfl, rfl⟩
  rw [show (finB z.1 && finB z.2) = true from HZ.out.2.2]
  go_wp2_with fail
  go_loopw [1, 5, 7, 8, 9, 20] (fun x v _ _ _ i wr => ∃ (j : Nat) (y : Nat × Nat) (zs : List (Nat × Nat)), j ≤ ss.length ∧ i = .int .i64 j ∧ x = .complex .f64 y.1 y.2 ∧ Num y ∧ (∀ u ∈ zs, Num u) ∧ zs ++ trace (ss.drop j) y = trace ss z ∧ zs.length ≤ j ∧ wr.ownsRow w.heap.size 59 1 v zs.length (zcells zs) ∧ Below w.heap.size w wr) (fun _ _ _ _ _ i _ => ss.length - (intOf i).toNat)
  case atStart => exact ⟨0, z, [], Nat.zero_le _, rfl, rfl, HZ.out, (fun _ h => by cases h), rfl, Nat.le_refl _, HO1.out, HB1.out⟩
  case round =>
    obtain ⟨j, y, zs, hj, rfl, rfl, hy, hzs, heq, hzl, hown, hb⟩ := hrel
    have HY := hid hy
    have HZS := hid hzs
    have HEQ := hid heq
    have HW := hid hown
    have HB := hid hb
    by_cases hlt : j < ss.length
    · obtain ⟨ad, k, b, cc, q, p, rfl, had, hs, hc0, hc1, hc2, hc3⟩ := (HA.out.below hb).at_ hlt
      have hjz : (j : Int) < (ss.length : Int) := by omega
      have HS := hid (show StOk ⟨k, b, cc, q, p⟩ from hs ▸ HK.out.2 _ (List.getElem_mem hlt))
      have HD := hid (show ss.drop j = ⟨k, b, cc, q, p⟩ :: ss.drop (j + 1) by rw [← hs]; exact List.drop_eq_getElem_cons hlt)
      have hsz := HB.out.size
      clear hb hs hy hzs heq hown
      go_wp2_with fail
      refine (one_any ⟨k, b, cc, q, p⟩ y HS.out HY.out _).mono ?_
      rintro e w2 ⟨rfl, l1, l2, hb2⟩
      have hb3 : Below wr.heap.size wr w2 := bthen (below_new wr (.cells #[.int .i64 (k : Int), .complex .f64 b cc, .int .i64 (q : Int), .int .i64 p] 111)) hb2
      have HB3 := hid (bthen HB.out hb3)
      have HO3 := hid (own_below HW.out hb3)
      rcases Bool.eq_false_or_eq_true (cFin (stv ⟨k, b, cc, q, p⟩ y)) with hf | hf
      · obtain ⟨u, hu, ht, hnum⟩ : ∃ u, oneZ ⟨k, b, cc, q, p⟩ y = u ∧ trace (ss.drop j) y = u :: trace (ss.drop (j + 1)) u ∧ Num u := by
          have ho : oneZ ⟨k, b, cc, q, p⟩ y = stv ⟨k, b, cc, q, p⟩ y := by unfold oneZ; rw [if_pos hf]
          refine ⟨_, rfl, ?_, l1, l2, by rw [ho]; exact hf⟩
          rw [ho, HD.out]
          conv => lhs; unfold trace
          rw [if_pos hf]
        rw [hf, hu]
        have HT := hid ht
        have HN := hid hnum
        clear l1 l2 hb2 hb3 hf hu ht hnum hc0 hc1 hc2 hc3
        obtain ⟨u1, u2⟩ := u
        have hi := HI.out
        have hszw := HB3.out.size
        go_wp2_with (at_builtin; refine wpList_append_own _ rfl _ _ 76 rfl w.heap.size 59 i0 (.complex .f64 0 0) 1 16 Try.underlying76 hi HZI.out.1 HZI.out.2.1 HZI.out.2.2 rfl (by decide) _ _ _ rfl (HO3.out.alloc _) ⟨w2.heap.size, 0, none⟩ 1 1 [.complex .f64 u1 u2] rfl rfl ?c1 ?c2 ?c3 ?c4 ?c5 ?_)
        case c1 =>
          intro j u hj
          match j, hj with
          | 0, hj => simp at hj; subst hj; simp [Addr.add]
        case c2 => intro u hu; simp at hu; rcases hu with rfl; rfl
        case c3 => unfold maxLen; omega
        case c4 => omega
        case c5 => simp; omega
        intro v' w4 hown' hgrow _
        have HB4 := hid (show Below w.heap.size w w4 from Below.grown (HB3.out.alloc hszw _) hgrow (by simp; omega) (fun k' hk' => (HO3.out.lt _ hk').1))
        have HO4 := hid hown'
        clear hown' hgrow hi hszw
        go_wp2_with fail
        go_roundw
        case rel =>
          exact ⟨j + 1, (u1, u2), zs ++ [(u1, u2)], by omega, by go_num, rfl, HN.out, (fun t ht => by
            rcases List.mem_append.1 ht with h | h
            · exact HZS.out t h
            · simp at h; subst h; exact HN.out), by rw [← HEQ.out, HT.out]; simp, by simp; omega, by rw [zcells_snoc, List.length_append]; exact HO4.out, HB4.out⟩
        case measure => simp [intOf]; omega
      · have ht : trace (ss.drop j) y = [] := by
          rw [HD.out]; unfold trace; rw [hf]; rfl
        rw [hf]
        have HT := hid ht
        clear l1 l2 hb2 hb3 hf ht hc0 hc1 hc2 hc3
        go_wp2_with fail
        go_ret
        have e : zs = trace ss z := by
          have := HEQ.out
          rw [HT.out] at this
          simpa using this
        exact ⟨_, rfl, by rw [← e]; exact HO3.out, by rw [← e]; exact HZS.out, HB3.out⟩
    · have : j = ss.length := by omega
      subst this
      clear hb hy hzs heq hown
      go_wp2_with fail
      go_ret
      have e : zs = trace ss z := by
        have := HEQ.out
        rw [List.drop_length] at this
        simpa [trace] using this
      exact ⟨_, rfl, by rw [← e]; exact HW.out, by rw [← e]; exact HZS.out, HB.out⟩

/-- what the steps come to, and whether all is finite -/
def RetC (ss : List St) (z : Nat × Nat) (w : World) (e : Ending) (w' : World) : Prop :=
  ((∃ u, corr ss z = some u ∧ Num u ∧ e = .returned (.tuple #[.complex .f64 u.1 u.2, .bool true])) ∨ (corr ss z = none ∧ e = .returned (.tuple #[.complex .f64 0 0, .bool false]))) ∧ Below w.heap.size w w'

set_option maxRecDepth 20000 in
set_option maxHeartbeats 4000000 in
theorem corr_any (A : Option Addr) (c : Nat) (ss : List St) (z : Nat × Nat) (w : World) (ha : Sts w w.heap.size A ss) (hok : AllOk ss) (hz : Num z) :
    Calls Try.prog 60 #[.slice A ss.length c, .complex .f64 z.1 z.2] w (RetC ss z w) := by
  have HA := hid ha
  have HK := hid hok
  have HZ := hid hz
  have hl20 : ss.length ≤ 20 := hok.1
  have hlz : (ss.length : Int) ≤ 20 := by omega
  clear ha hok hz
  go_enter Try.func60, Try.ntmps60
  go_wp2_with fail
  refine (stepsOk_any A c ss _ HA.out HK.out).mono ?_
  rintro e w1 ⟨rfl, hb1⟩
  have HB1 := hid hb1
  have HA1 := hid (HA.out.next hb1)
  clear hb1
  go_wp2_with fail
  refine (isfin_any z.1 z.2 HZ.out.1 HZ.out.2.1 _).mono ?_
  rintro e w2 ⟨rfl, rfl⟩
  rw [show (finB z.1 && finB z.2) = true from HZ.out.2.2]
  go_wp2_with fail
  refine (trace_any A c ss z _ HA1.out HK.out HZ.out).mono ?_
  rintro e w3 ⟨v, rfl, hown, hnum, hb3⟩
  have HB3 := hid (bthen HB1.out hb3)
  have HN := hid hnum
  have hle := trace_le ss z
  have HS := hid (corr_some ss z)
  have HO := hid (corr_none ss z)
  generalize hT : trace ss z = zs at *
  have hzl : zs.length ≤ ss.length := by first | exact hle | (rw [← hT]; exact trace_le ss z)
  obtain ⟨A1, c1, rfl⟩ : ∃ A1 c1, v = .slice A1 zs.length c1 := by
    obtain ⟨_, h2⟩ := hown
    rcases h2 with ⟨rfl, e⟩ | ⟨g, cap, cur, rfl, _⟩
    · exact ⟨none, 0, by rw [e]⟩
    · exact ⟨_, _, rfl⟩
  have HR := hid (Reads.of_own hown)
  clear hown hb3 hnum hle
  rcases hc : corr ss z with _ | u
  · have hlt := HO.out hc
    have hltz : (zs.length : Int) < (ss.length : Int) := by omega
    have HC := hid hc
    clear hc hlt
    go_wp2_with fail
    go_ret2
    exact ⟨.inr ⟨HC.out, rfl⟩, HB3.out⟩
  · obtain ⟨hlen, hu⟩ := HS.out u hc
    have HC := hid hc
    clear hc
    by_cases h0 : ss.length = 0
    · rw [if_pos h0] at hu
      subst hu
      have hzl0 : zs.length = 0 := by omega
      have hn1 : ¬ ((zs.length : Int) < (ss.length : Int)) := by omega
      have hn2 : ¬ ((0 : Int) < (zs.length : Int)) := by omega
      go_wp2_with fail
      go_ret2
      exact ⟨.inl ⟨_, HC.out, HZ.out, rfl⟩, HB3.out⟩
    · rw [if_neg h0] at hu
      obtain ⟨m, hm⟩ : ∃ m, ss.length = m + 1 := ⟨ss.length - 1, by omega⟩
      rw [hm] at hu hlen
      obtain ⟨ad, v, rfl, had, hv, hcell⟩ := Reads.at_ HR.out (k := m) (by omega)
      obtain ⟨u1, u2⟩ := u
      have hum : (u1, u2) ∈ zs := by
        rw [hu]
        simp only [Nat.add_sub_cancel, List.getD]
        rw [List.getElem?_eq_getElem (by omega)]
        exact List.getElem_mem _
      have hv' : v = .complex .f64 u1 u2 := by
        have hm' : m < zs.length := by omega
        have e : zs[m] = (u1, u2) := by
          rw [hu]; simp only [Nat.add_sub_cancel, List.getD]
          rw [List.getElem?_eq_getElem hm']; rfl
        unfold zcells at hv
        rw [List.getElem?_map, List.getElem?_eq_getElem hm', e] at hv
        simpa using hv.symm
      subst hv'
      have HU := hid (HN.out _ hum)
      have hmz : (m : Int) < (zs.length : Int) := by omega
      have hml : (zs.length : Int) = (m : Int) + 1 := by omega
      have hn1 : ¬ ((zs.length : Int) < (ss.length : Int)) := by omega
      have hn2 : (0 : Int) < (zs.length : Int) := by omega
      have hwr : (zs.length : Int) - 1 = (m : Int) := by omega
      clear hu hv hum h0 HS HO
      go_wp2_with fail
      go_ret2
      exact ⟨.inl ⟨(u1, u2), HC.out, HU.out, rfl⟩, HB3.out⟩
end Go.Proofs.Ytbloipnpgncjiaa
