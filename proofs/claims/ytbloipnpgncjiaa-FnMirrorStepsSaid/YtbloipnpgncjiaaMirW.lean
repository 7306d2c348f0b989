/- The mirrored steps: MirrorSteps of the program. -/
import Derived.Test.YtbloipnpgncjiaaMirSL2
import Derived.Test.YtbloipnpgncjiaaUndLaw
set_option linter.unusedSimpArgs false
namespace Go.Proofs.Ytbloipnpgncjiaa
open Go.RowKit Ieee

def mirV (ss : List St) (t : Nat) : List St := (ss.take t).map mirS
theorem mirV_len {ss : List St} {t : Nat} (h : t ≤ ss.length) : (mirV ss t).length = t := by simp [mirV]; omega
theorem mirV_snoc {ss : List St} {t : Nat} (h : t < ss.length) : mirV ss (t + 1) = mirV ss t ++ [mirS ss[t]] := by
  unfold mirV
  rw [List.take_succ_eq_append_getElem h, List.map_append]
  rfl
def mirSs (ss : List St) : List St := ss.map mirS
theorem mirSs_len (ss : List St) : (mirSs ss).length = ss.length := by simp [mirSs]
theorem mirV_all (ss : List St) : mirV ss ss.length = mirSs ss := by
  unfold mirV mirSs
  rw [List.take_of_length_le (Nat.le_refl _)]
theorem st_q4 {s : St} (h : StOk s) : s.q < 4 := by
  obtain ⟨_, _, _, _, _, _, hq, hp⟩ := h
  by_cases e : s.k = 7
  · exact (hq e).1
  · have := (hp e).1; omega
theorem tmod_q {q : Nat} (h : q < 4) : (4 - (q : Int)).tmod 4 = (((4 - q) % 4 : Nat) : Int) := by
  have hq' : q = 0 ∨ q = 1 ∨ q = 2 ∨ q = 3 := by omega
  rcases hq' with rfl | rfl | rfl | rfl <;> rfl

/-- the mirrored steps -/
def RetM (ss : List St) (w : World) (e : Ending) (w' : World) : Prop :=
  ∃ v, e = .returned (.tuple #[v, .bool true]) ∧ w'.ownsRow w.heap.size 111 4 v (mirSs ss).length (scells (mirSs ss)) ∧ Below w.heap.size w w'

set_option maxRecDepth 20000 in
set_option maxHeartbeats 8000000 in
theorem mirror_any (A : Option Addr) (c : Nat) (ss : List St) (w : World) (ha : Sts w w.heap.size A ss) (hok : AllOk ss) :
    Calls Try.prog 64 #[.slice A ss.length c] w (RetM ss w) := by
  have HA := hid ha
  have HK := hid hok
  have hlz : (ss.length : Int) ≤ 20 := by have := hok.1; omega
  have hl20 : ss.length ≤ 20 := hok.1
  have HO := hid (World.ownsRow_nil w w.heap.size 111 4)
  clear ha hok
  obtain ⟨i0, hi, hz0, hz1, hz2⟩ := info_parts Try.info_step
  have HI := hid hi
  have HZ := hid (show i0.zero = some (.agg #[.int .i64 0, .complex .f64 0 0, .int .i64 0, .int .i64 0]) ∧ i0.size = 4 ∧ i0.bytes = 40 from ⟨hz0, hz1, hz2⟩)
  clear hi hz0 hz1 hz2
  go_enter Try.func64, Try.ntmps64
  go_wp2_with fail
  refine (stepsOk_any A c ss _ HA.out HK.out).mono ?_
  rintro e w1 ⟨rfl, hb1⟩
  have HB1 := hid hb1
  have HO1 := hid (own_below HO.out hb1)
  clear hb1
  go_wp2_with fail
  go_loopw [4, 6, 12] (fun v _ i wr => ∃ t : Nat, t ≤ ss.length ∧ i = .int .i64 (t : Int) ∧ wr.ownsRow w.heap.size 111 4 v t (scells (mirV ss t)) ∧ Below w.heap.size w wr) (fun _ _ i _ => ss.length - (intOf i).toNat)
  case atStart => exact ⟨0, by omega, rfl, HO1.out, HB1.out⟩
  case round =>
    obtain ⟨t, htl, rfl, hown, hb⟩ := hrel
    have HW := hid hown
    have HB := hid hb
    by_cases hlt : t < ss.length
    · obtain ⟨ad, k, b, cc, q, p, rfl, had, hs, hc0, hc1, hc2, hc3⟩ := (HA.out.below hb).at_ hlt
      have hjz : (t : Int) < (ss.length : Int) := by omega
      have HSX := hid (show StOk ⟨k, b, cc, q, p⟩ from hs ▸ HK.out.2 _ (List.getElem_mem hlt))
      have hq4 : q < 4 := st_q4 HSX.out
      obtain ⟨q', hqq⟩ : ∃ q' : Nat, (4 - q) % 4 = q' := ⟨_, rfl⟩
      have htm : (4 - (q : Int)).tmod 4 = (q' : Int) := by rw [tmod_q hq4, hqq]
      have HSN := hid (show mirV ss (t + 1) = mirV ss t ++ [⟨k, b, neg64 cc, q', p⟩] by rw [mirV_snoc hlt, hs, ← hqq]; rfl)
      have hqz : (q : Int) ≤ 3 := by omega
      have hqz' : (q' : Int) ≤ 3 := by omega
      have hsz := HB.out.size
      have hbx : Below wr.heap.size wr (wr.alloc (.cells #[.int .i64 (k : Int), .complex .f64 b (neg64 cc), .int .i64 (q' : Int), .int .i64 p] 111)) := below_new _ _
      have HBX := hid (bthen HB.out hbx)
      have HOX := hid (own_below HW.out hbx)
      clear hb hs hown hqq hbx hq4 hlt htl
      go_wp2_with fail
      refine (conj_any b cc _).mono ?_
      rintro e w2 ⟨rfl, rfl⟩
      have hi := HI.out
      have hszw := HBX.out.size
      go_wp2_with (at_builtin; refine wpList_append_own _ rfl _ _ 71 rfl w.heap.size 111 i0 (.agg #[.int .i64 0, .complex .f64 0 0, .int .i64 0, .int .i64 0]) 4 40 Try.underlying71 hi HZ.out.1 HZ.out.2.1 HZ.out.2.2 rfl (by decide) _ _ _ rfl (HOX.out.alloc _) ⟨wr.heap.size + 1, 0, none⟩ 1 1 [.int .i64 (k : Int), .complex .f64 b (neg64 cc), .int .i64 (q' : Int), .int .i64 p] rfl rfl ?c1 ?c2 ?c3 ?c4 ?c5 ?_)
      case c1 =>
        intro j u hj
        match j, hj with
        | 0, hj => simp at hj; subst hj; simp [Addr.add]
        | 1, hj => simp at hj; subst hj; simp [Addr.add]
        | 2, hj => simp at hj; subst hj; simp [Addr.add]
        | 3, hj => simp at hj; subst hj; simp [Addr.add]
      case c2 => intro u hu; simp at hu; rcases hu with rfl | rfl | rfl | rfl <;> rfl
      case c3 => unfold maxLen; omega
      case c4 => omega
      case c5 => simp; omega
      intro v' w4 hown' hgrow _
      have HB4 := hid (show Below w.heap.size w w4 from Below.grown (HBX.out.alloc hszw _) hgrow (by simp; omega) (fun k' hk' => (HOX.out.lt _ hk').1))
      have HO4 := hid hown'
      clear hown' hgrow hi hszw
      go_wp2_with fail
      go_roundw
      case rel => exact ⟨t + 1, by omega, by go_num, by rw [HSN.out, scells_snoc]; exact HO4.out, HB4.out⟩
      case measure => first | (simp [intOf]; done) | (simp [intOf]; omega)
    · have : t = ss.length := by omega
      subst this
      clear hown hb
      go_wp2_with fail
      go_ret2
      exact ⟨_, rfl, by rw [← mirV_all, mirV_len (Nat.le_refl _)]; exact HW.out, HB.out⟩
end Go.Proofs.Ytbloipnpgncjiaa
