/- Slices of steps: words; StepsOk, TraceSteps and Correct of the program. -/
import Derived.Test.YtbloipnpgncjiaaOneC
import Derived.Test.YtbloipnpgncjiaaWords
import Derived.Test.YtbloipnpgncjiaaDTab
namespace Go.Proofs.Ytbloipnpgncjiaa
open Go.RowKit Ieee

/-- the cells of a list of steps -/
def scells : List St → List Value
  | [] => []
  | s :: ss => .int .i64 (s.k : Int) :: .complex .f64 s.b s.c :: .int .i64 (s.q : Int) :: .int .i64 s.p :: scells ss
theorem scells_length : ∀ ss : List St, (scells ss).length = ss.length * 4
  | [] => rfl
  | s :: ss => by simp only [scells, List.length_cons, scells_length ss]; omega
theorem scells_snoc : ∀ (ss : List St) (s : St), scells (ss ++ [s]) = scells ss ++ [.int .i64 (s.k : Int), .complex .f64 s.b s.c, .int .i64 (s.q : Int), .int .i64 s.p]
  | [], s => rfl
  | t :: ss, s => by simp only [List.cons_append, scells, scells_snoc ss s]
theorem scells_drop : ∀ (k : Nat) (ss : List St), (scells ss).drop (k * 4) = scells (ss.drop k)
  | 0, ss => by simp
  | k + 1, [] => by simp [scells]
  | k + 1, s :: ss => by
    rw [show (k + 1) * 4 = k * 4 + 1 + 1 + 1 + 1 by omega]
    simp only [scells, List.drop_succ_cons]
    exact scells_drop k ss
theorem scells_take : ∀ (k : Nat) (ss : List St), (scells ss).take (k * 4) = scells (ss.take k)
  | 0, ss => by simp [scells]
  | k + 1, [] => by simp [scells]
  | k + 1, s :: ss => by
    rw [show (k + 1) * 4 = k * 4 + 1 + 1 + 1 + 1 by omega]
    simp only [scells, List.take_succ_cons]
    rw [scells_take k ss]
theorem scells_get : ∀ (ss : List St) {k : Nat} (h : k < ss.length), (scells ss)[k * 4]? = some (.int .i64 (ss[k].k : Int)) ∧ (scells ss)[k * 4 + 1]? = some (.complex .f64 ss[k].b ss[k].c) ∧ (scells ss)[k * 4 + 2]? = some (.int .i64 (ss[k].q : Int)) ∧ (scells ss)[k * 4 + 3]? = some (.int .i64 ss[k].p)
  | [], k, h => absurd h (by simp)
  | s :: ss, 0, _ => ⟨rfl, rfl, rfl, rfl⟩
  | s :: ss, k + 1, h => by
    have := scells_get ss (k := k) (by simpa using h)
    rw [show (k + 1) * 4 = k * 4 + 1 + 1 + 1 + 1 by omega]
    exact this
/-- a slice of steps that reads as 'ss', below block 'B' -/
def Sts (w : World) (B : Nat) (A : Option Addr) (ss : List St) : Prop := Reads w B 4 A ss.length (scells ss)
section
variable {w w' : World} {B B' : Nat} {A : Option Addr} {ss : List St}
theorem Sts.at_ (h : Sts w B A ss) {j : Nat} (hj : j < ss.length) : ∃ ad k b c q p, A = some ad ∧ ad.block < B ∧ ss[j] = ⟨k, b, c, q, p⟩ ∧ w.cell? (ad.add (j * 4)) = some (.int .i64 (k : Int)) ∧
    w.cell? ⟨(ad.add (j * 4)).block, (ad.add (j * 4)).off + 1, none⟩ = some (.complex .f64 b c) ∧ w.cell? ⟨(ad.add (j * 4)).block, (ad.add (j * 4)).off + 2, none⟩ = some (.int .i64 (q : Int)) ∧ w.cell? ⟨(ad.add (j * 4)).block, (ad.add (j * 4)).off + 3, none⟩ = some (.int .i64 p) := by
  obtain ⟨ad, e, hb, hc⟩ := h.2 (by omega)
  obtain ⟨g0, g1, g2, g3⟩ := scells_get ss hj
  have e1 : (⟨(ad.add (j * 4)).block, (ad.add (j * 4)).off + 1, none⟩ : Addr) = ad.add (j * 4 + 1) := by rw [← add_of_add]; rfl
  have e2 : (⟨(ad.add (j * 4)).block, (ad.add (j * 4)).off + 2, none⟩ : Addr) = ad.add (j * 4 + 2) := by rw [← add_of_add]; rfl
  have e3 : (⟨(ad.add (j * 4)).block, (ad.add (j * 4)).off + 3, none⟩ : Addr) = ad.add (j * 4 + 3) := by rw [← add_of_add]; rfl
  exact ⟨ad, ss[j].k, ss[j].b, ss[j].c, ss[j].q, ss[j].p, e, hb, rfl, hc _ _ g0, by rw [e1]; exact hc _ _ g1, by rw [e2]; exact hc _ _ g2, by rw [e3]; exact hc _ _ g3⟩
theorem Sts.below (h : Sts w B A ss) (hb : Below B w w') : Sts w' B A ss := Reads.below h hb
theorem Sts.more (h : Sts w B A ss) (hB : B ≤ B') : Sts w B' A ss := Reads.more h hB
theorem Sts.next (h : Sts w w.heap.size A ss) (hb : Below w.heap.size w w') : Sts w' w'.heap.size A ss := (h.below hb).more hb.size
theorem Sts.take (h : Sts w B A ss) {k : Nat} (hk : k ≤ ss.length) : Sts w B A (ss.take k) := by
  refine ⟨by rw [scells_length], fun hn => ?_⟩
  obtain ⟨ad, e, hb, hc⟩ := h.2 (by rw [List.length_take] at hn; omega)
  refine ⟨ad, e, hb, fun j u hu => hc j u ?_⟩
  rw [← scells_take, List.getElem?_take] at hu
  split at hu
  · exact hu
  · cases hu
theorem Sts.drop (h : Sts w B A ss) {k cap : Nat} (hk : k ≤ ss.length) (hc : ss.length ≤ cap) : Sts w B (if cap = k then A else A.map (·.add (k * 4))) (ss.drop k) := by
  have := Reads.cut h hk hc
  rw [scells_drop] at this
  unfold Sts
  rw [List.length_drop]
  exact this
end

/-- all steps are good -/
def AllOk (ss : List St) : Prop := ss.length ≤ 20 ∧ ∀ s ∈ ss, StOk s

set_option maxRecDepth 20000 in
set_option maxHeartbeats 1000000 in
theorem okf_any (s : St) (hs : StOk s) (w : World) :
    Calls Try.prog 99 #[stV s] w fun e w' => e = .returned (.bool false) ∧ Below w.heap.size w w' := by
  have HS := hid hs
  clear hs
  go_enter Try.func99, Try.ntmps99
  go_wp2_with fail
  refine (stepOk_any s HS.out _).mono ?_
  rintro e w1 ⟨rfl, hb1⟩
  have HB1 := hid (bthen (below_new w _) hb1)
  clear hb1
  go_wp2_with fail
  go_ret
  exact ⟨rfl, HB1.out⟩

set_option maxRecDepth 20000 in
set_option maxHeartbeats 1000000 in
theorem indexS_any (A : Option Addr) (c : Nat) (ss : List St) (w : World) (ha : Sts w w.heap.size A ss) (hok : AllOk ss) :
    Calls Try.prog 123 #[.slice A ss.length c, .func (Fn.func 99) #[] #[]] w fun e w' => e = .returned (.int .i64 (-1)) ∧ Below w.heap.size w w' := by
  have HA := hid ha
  have HK := hid hok.2
  have hlz : (ss.length : Int) ≤ 20 := by have := hok.1; omega
  clear ha hok
  go_enter Try.func123, Try.ntmps123
  go_wp2_with fail
  go_loopw [5, 8] (fun _ i wr => ∃ k : Nat, k ≤ ss.length ∧ i = .int .i64 k ∧ Below w.heap.size w wr) (fun _ i _ => ss.length - (intOf i).toNat)
  case atStart => exact ⟨0, Nat.zero_le _, rfl, Below.refl _ _⟩
  case round =>
    obtain ⟨j, hj, rfl, hb⟩ := hrel
    have HB := hid hb
    by_cases hlt : j < ss.length
    · obtain ⟨ad, k, b, cc, q, p, rfl, had, hs, hc0, hc1, hc2, hc3⟩ := (HA.out.below hb).at_ hlt
      have hjz : (j : Int) < (ss.length : Int) := by omega
      have HS := hid (show StOk ⟨k, b, cc, q, p⟩ from hs ▸ HK.out _ (List.getElem_mem hlt))
      clear hb hs
      go_wp2_with fail
      refine (okf_any ⟨k, b, cc, q, p⟩ HS.out _).mono ?_
      rintro e w1 ⟨rfl, hb1⟩
      have HB1 := hid (bthen HB.out hb1)
      clear hb1
      go_wp2_with fail
      go_roundw
      case rel => exact ⟨j + 1, by omega, by go_num, HB1.out⟩
      case measure => simp [intOf]; omega
    · have : j = ss.length := by omega
      subst this
      clear hb
      go_wp2_with fail
      go_ret
      exact ⟨rfl, HB.out⟩

set_option maxHeartbeats 1000000 in
theorem containsS_any (A : Option Addr) (c : Nat) (ss : List St) (w : World) (ha : Sts w w.heap.size A ss) (hok : AllOk ss) :
    Calls Try.prog 98 #[.slice A ss.length c, .func (Fn.func 99) #[] #[]] w fun e w' => e = .returned (.bool false) ∧ Below w.heap.size w w' := by
  have HI := hid (indexS_any A c ss w ha hok)
  clear ha hok
  go_enter Try.func98, Try.ntmps98
  go_wp2_with fail
  refine HI.out.mono ?_
  rintro e w' ⟨rfl, hb⟩
  have HB := hid hb
  clear hb
  go_wp2_with fail
  go_ret
  exact ⟨rfl, HB.out⟩

set_option maxHeartbeats 1000000 in
theorem stepsOk_any (A : Option Addr) (c : Nat) (ss : List St) (w : World) (ha : Sts w w.heap.size A ss) (hok : AllOk ss) :
    Calls Try.prog 62 #[.slice A ss.length c] w fun e w' => e = .returned (.bool true) ∧ Below w.heap.size w w' := by
  have HI := hid (containsS_any A c ss w ha hok)
  have hlz : (ss.length : Int) ≤ 20 := by have := hok.1; omega
  clear ha hok
  go_enter Try.func62, Try.ntmps62
  go_wp2_with fail
  refine HI.out.mono ?_
  rintro e w' ⟨rfl, hb⟩
  have HB := hid hb
  clear hb
  go_wp2_with fail
  go_ret
  exact ⟨rfl, HB.out⟩
end Go.Proofs.Ytbloipnpgncjiaa
