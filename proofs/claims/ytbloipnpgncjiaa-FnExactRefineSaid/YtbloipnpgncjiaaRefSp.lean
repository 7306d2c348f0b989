/- Refine of the reference: the points are put in their places, one after the other. -/
import Derived.Test.YtbloipnpgncjiaaRefG
import Derived.Test.YtbloipnpgncjiaaInter
import Derived.Deep.Onto
set_option linter.unusedSimpArgs false
namespace Go.Proofs.Ytbloipnpgncjiaa
open Go.RowKit

theorem pcells_app : ∀ (a b : List (Nat × Nat)), pcells (a ++ b) = pcells a ++ pcells b
  | [], _ => rfl
  | p :: a, b => by simp only [List.cons_append, pcells, pcells_app a b]
theorem pcells_take (S : List (Nat × Nat)) {p : Nat} (hp : p ≤ S.length) : pcells (S.take p) = (pcells S).take (p * 2) := by
  have e := pcells_app (S.take p) (S.drop p)
  rw [List.take_append_drop] at e
  rw [e, List.take_left' (by rw [pcells_length, List.length_take]; omega)]
theorem pcells_drop (S : List (Nat × Nat)) {p : Nat} (hp : p ≤ S.length) : pcells (S.drop p) = (pcells S).drop (p * 2) := by
  have e := pcells_app (S.take p) (S.drop p)
  rw [List.take_append_drop] at e
  rw [e, List.drop_left' (by rw [pcells_length, List.length_take]; omega)]
/-- where a new point is put -/
theorem ins_place {S : List (Nat × Nat)} {x p : Nat} (hs : Srt kyP S) (hn : ∀ q ∈ S, Fl.nan .f32 q.1 = false) (hx : Fl.nan .f32 x = false) (hp : p ≤ S.length)
    (h1 : ∀ i, i < p → Fl.lt .f32 (S.getD i (0, 0)).1 x = true) (h2 : p = S.length ∨ (Fl.lt .f32 (S.getD p (0, 0)).1 x = false ∧ Fl.eq .f32 (S.getD p (0, 0)).1 x = false)) :
    S.any (hasX x) = false ∧ ∀ y, insP S (x, y) = S.take p ++ (x, y) :: S.drop p := by
  have nn : ∀ i, i < S.length → Fl.nan .f32 (S.getD i (0, 0)).1 = false := fun i hi => by rw [getD_at hi]; exact hn _ (List.getElem_mem hi)
  have lo : ∀ q ∈ S.take p, kyP q < Fl.ky .f32 x := fun q hq => by
    obtain ⟨k, k1, k2, rfl⟩ := mem_take_get (0, 0) hq
    have := h1 k k1
    rw [Fl.lt_ky, nn k k2, hx] at this
    simpa using this
  have hi : ∀ q ∈ S.drop p, Fl.ky .f32 x < kyP q := fun q hq => by
    obtain ⟨k, k1, k2, rfl⟩ := mem_drop_get (0, 0) hq
    rcases h2 with h2 | ⟨h2, h3⟩
    · omega
    · rw [Fl.lt_ky, nn p (by omega), hx] at h2
      rw [Fl.eq_ky, nn p (by omega), hx] at h3
      simp at h2 h3
      have := srt_get hs (0, 0) k1 k2
      show Fl.ky .f32 x < Fl.ky .f32 _
      have : Fl.ky .f32 (S.getD p (0, 0)).1 ≤ Fl.ky .f32 (S.getD k (0, 0)).1 := this
      simp only [List.getD_eq_getElem?_getD] at *
      omega
  refine ⟨?_, fun y => ?_⟩
  · cases ha : S.any (hasX x) with
    | false => rfl
    | true =>
      obtain ⟨q, hq, he⟩ := List.any_eq_true.1 ha
      obtain ⟨_, _, he⟩ := eq_ky32 he
      rw [← List.take_append_drop p S] at hq
      rcases List.mem_append.1 hq with hq | hq
      · have h := lo q hq
        unfold kyP at h
        omega
      · have h := hi q hq
        unfold kyP at h
        omega
  · rw [insP_sm hx hn hs]
    have e := sm_ins (key := kyP) (S1 := S.take p) (S2 := S.drop p) (y := (x, y)) (fun a ha => by have h := lo a ha; exact Int.le_of_lt h) (fun a ha => hi a ha)
    rw [List.take_append_drop] at e
    exact e
/-- an own list of points that is not nil -/
def OwnPt (w : World) (base g c : Nat) (L : List (Nat × Nat)) : Prop := L.length ≤ c ∧ w.ownsRow base 36 2 (.slice (some ⟨g, 0, none⟩) L.length c) L.length (pcells L)
theorem OwnPt.pts {w : World} {base g c : Nat} {L : List (Nat × Nat)} (h : OwnPt w base g c L) : Pts w w.heap.size (some ⟨g, 0, none⟩) L := Reads.of_own h.2
theorem OwnPt.below {w w' : World} {base g c : Nat} {L : List (Nat × Nat)} (h : OwnPt w base g c L) (hb : Below w.heap.size w w') : OwnPt w' base g c L := ⟨h.1, own_below h.2 hb⟩
theorem own_capP {w : World} {base size n c : Nat} {A : Option Addr} {t : TypeId} {xs : List Value} (h : w.ownsRow base t size (.slice A n c) n xs) : n ≤ c := by
  obtain ⟨_, h2⟩ := h
  rcases h2 with ⟨e, rfl⟩ | ⟨g, cap, cur, e, hg, hc, hcap, _⟩
  · omega
  · injection e with _ _ e3
    omega
theorem ownPt_of {w : World} {base n : Nat} {v : Value} {L : List (Nat × Nat)} (h : w.ownsRow base 36 2 v n (pcells L)) (hl : L.length = n) (h0 : 0 < n) : ∃ g c, v = .slice (some ⟨g, 0, none⟩) L.length c ∧ OwnPt w base g c L := by
  subst hl
  obtain ⟨A, c, g, rfl, _, _, hA, _⟩ := own_openP h
  obtain ⟨rfl, hg⟩ := hA h0
  exact ⟨g, c, rfl, ⟨own_capP h, h⟩⟩
theorem OwnPt.open {w : World} {base g c : Nat} {L : List (Nat × Nat)} (h : OwnPt w base g c L) : OpenP w base (.slice (some ⟨g, 0, none⟩) L.length c) L := own_openP h.2
theorem OpenP.nil {w : World} {base g c : Nat} (h : base ≤ g) : OpenP w base (.slice (some ⟨g, 0, none⟩) 0 c) [] := ⟨_, c, g, rfl, ⟨rfl, fun h => absurd h (by simp)⟩, h, fun h => absurd h (by simp), fun h => absurd h (by simp)⟩
theorem refL_false {ps : List (Nat × Nat)} {xs : List Nat} (h : refB ps xs = false) : refL ps xs = [] := by unfold refL; rw [h]; rfl

set_option maxRecDepth 20000 in
set_option maxHeartbeats 8000000 in
theorem refine_spec1 (A B : Option Addr) (c d : Nat) (ps : List (Nat × Nat)) (xs : List Nat) (w : World) (ha : Pts w w.heap.size A ps) (hb : Sing w w.heap.size B xs) (ht : tabOk ps = true) (hxn : xs.length ≤ 1048576) :
    Calls Try.prog 32 #[.slice A ps.length c, .slice B xs.length d] w (RetO (refL ps xs) (refB ps xs) w) := by
  have HA0 := hid ha
  have HX0 := hid hb
  have HT := hid ht
  have hp32 : ps.length ≤ 32 := (tabOk_iff.1 ht).1.2
  have hp2 : 2 ≤ ps.length := (tabOk_iff.1 ht).1.1
  have hpz : (ps.length : Int) ≤ 32 := by omega
  have hxz : (xs.length : Int) ≤ 1048576 := by omega
  obtain ⟨ad, rfl, _⟩ := ha.2 (by omega)
  clear ha hb ht
  obtain ⟨i0, hi, hz0, hz1, hz2⟩ := info_parts Try.info_pt
  have HI := hid hi
  have HZI := hid (show i0.zero = some (.agg #[.float .f32 0, .float .f32 0]) ∧ i0.size = 2 ∧ i0.bytes = 8 from ⟨hz0, hz1, hz2⟩)
  clear hz0 hz1 hz2
  have HNZ := hid (below_new w (.cells #[] 36))
  have HLIT := hid (World.ownsRow_lit w #[] 0 (Nat.le_refl _) (by unfold maxLen; omega) (by simp) : (w.alloc (.cells #[] 36)).ownsRow w.heap.size 36 2 (.slice (some ⟨w.heap.size, 0, none⟩) 0 0) 0 [])
  have HA1 := hid (HA0.out.next HNZ.out)
  go_enter Try.func32, Try.ntmps32
  go_wp2_with (at_builtin; refine wpList_append_own _ rfl _ _ 24 rfl w.heap.size 36 i0 (.agg #[.float .f32 0, .float .f32 0]) 2 8 Try.underlying24 hi HZI.out.1 HZI.out.2.1 HZI.out.2.2 rfl (by decide) _ _ _ rfl HLIT.out ad ps.length c (pcells ps) rfl (pcells_length ps) ?a2 pcells_one ?a4 ?a5 (by simp) ?_)
  case a2 =>
    intro j u hj
    obtain ⟨_, e, _, hcell⟩ := HA1.out.2 (by omega)
    cases e
    exact hcell j u hj
  case a4 => unfold maxLen; omega
  case a5 => omega
  intro v1 w1 hown1 hgrow1 _
  have hB1 : Below w.heap.size w w1 := Below.grown HNZ.out hgrow1 (by simp) (by intro k' hk'; simp [Value.ownBlock] at hk'; omega)
  have hown1' : w1.ownsRow w.heap.size 36 2 v1 ps.length (pcells ps) := by simpa using hown1
  obtain ⟨g1, c1, rfl, hop⟩ := ownPt_of hown1' rfl (by omega)
  have HO1 := hid hop
  have HB1 := hid hB1
  clear hown1 hown1' hgrow1 hB1 hop hi
  go_wp2_with fail
  go_loopw [6, 7, 8, 9, 10, 11] (fun v i _ _ _ _ wr => ∃ (k g1 c1 : Nat) (S : List (Nat × Nat)), k ≤ xs.length ∧ i = .int .i64 k ∧ v = .slice (some ⟨g1, 0, none⟩) S.length c1 ∧ S.length ≤ 32 ∧ RefJ ps (xs.take k).reverse S ∧ OwnPt wr w.heap.size g1 c1 S ∧ Below w.heap.size w wr) (fun _ i _ _ _ _ _ => xs.length - (intOf i).toNat)
  case atStart => exact ⟨0, g1, c1, ps, Nat.zero_le _, rfl, rfl, hp32, rfl, HO1.out, HB1.out⟩
  case round =>
    obtain ⟨k, g1, c1, S, hk, rfl, rfl, hS32, hJ, hown, hb⟩ := hrel
    have HJ := hid hJ
    have HOW := hid hown
    have HB := hid hb
    have HSN := hid (hJ.nan HT.out)
    have HSS := hid (hJ.srt HT.out)
    by_cases hlt : k < xs.length
    · obtain ⟨bd, rfl, hbd, hca⟩ := (HX0.out.below hb).at_ hlt
      have hkz : (k : Int) < (xs.length : Int) := by omega
      obtain ⟨x, hxe⟩ : ∃ x, xs[k] = x := ⟨_, rfl⟩
      rw [hxe] at hca
      have HTR := hid (show (xs.take (k + 1)).reverse = x :: (xs.take k).reverse by rw [take_rev hlt, hxe])
      have HMEM := hid (show x ∈ xs by rw [← hxe]; exact List.getElem_mem _)
      obtain ⟨q, hq⟩ : ∃ q, S.length = q := ⟨_, rfl⟩
      have HQ := hid hq
      have hcap := hown.1
      have hsz := hb.size
      rw [hq] at hcap hS32 ⊢
      have hcapz : (q : Int) ≤ (c1 : Int) := by omega
      have hqz : (q : Int) ≤ 32 := by omega
      have HP := hid ((HA0.out.below hb).more hsz)
      have HCA := hid hca
      have HBD := hid (show bd.block < wr.heap.size by omega)
      have HLT := hid hlt
      clear hJ hown hb hxe hq hlt
      go_wp2_with fail
      refine (inter_spec _ c ps x _ HP.out (by omega)).mono ?_
      rintro e w2 ⟨y, rfl, hy, hb2⟩
      have HY := hid hy
      have HB2 := hid (HB.out.trans (hb2.mono hsz))
      have HOW2 := hid (HOW.out.below hb2)
      have HCA2 := hid (show w2.cell? (bd.add k) = some (.float .f32 x) from (hb2.cell (p := bd.add k) (by rw [block_of_add]; exact HBD.out)).trans HCA.out)
      have HBD2 := hid (Nat.lt_of_lt_of_le HBD.out hb2.size)
      have HSZ2 := hid (Nat.le_trans hsz hb2.size)
      clear hy hb2 hca
      rcases Bool.eq_false_or_eq_true (segIn ps x) with hs | hs
      · rw [hs]
        have HS := hid hs
        have HXN := hid (seg_nan hs)
        clear hs
        go_wp2_with fail
        go_loopw [10] (fun a wi => ∃ p : Nat, p ≤ q ∧ a = .int .i64 p ∧ (∀ i, i < p → Fl.lt .f32 (S.getD i (0, 0)).1 x = true) ∧ Drew w2 wi) (fun a _ => q - (intOf a).toNat)
        case atStart => exact ⟨0, Nat.zero_le _, rfl, fun _ h => absurd h (by omega), 0, rfl⟩
        case round =>
          obtain ⟨p, hp, rfl, hlo, m, rfl⟩ := hrel
          have HLO := hid hlo
          have HPL := hid hp
          have HOW3 := hid (show OwnPt (w2.drewN m) w.heap.size g1 c1 S from HOW2.out)
          have HDR := hid (show Drew w2 (w2.drewN m) from ⟨m, rfl⟩)
          have HB3 := hid (below_drewN HB2.out m)
          have hca3 : (w2.drewN m).cell? (bd.add k) = some (.float .f32 x) := HCA2.out
          have HBD3 := hid (show bd.block < (w2.drewN m).heap.size from HBD2.out)
          have hsz3 : w.heap.size ≤ (w2.drewN m).heap.size := HSZ2.out
          clear hlo hp
          generalize w2.drewN m = wq at HOW3 HDR HB3 hca3 HBD3 hsz3 ⊢
          have HCA3 := hid hca3
          have hpz2 : (p : Int) ≤ (q : Int) := by have := HPL.out; omega
          have hpc : (p : Int) ≤ (c1 : Int) := by omega
          by_cases hpq : p < q
          case' neg =>
            have hd1 : decide ((p : Int) < (q : Int)) = false := decide_eq_false (by omega)
            have hd2 : decide (p < q) = false := decide_eq_false (by omega)
            have HPLACE := hid (ins_place HSS.out HSN.out HXN.out (by have := HQ.out; have := HPL.out; omega) HLO.out (.inl (show p = S.length by have := HQ.out; have := HPL.out; omega)))
            clear hpq
            go_wp2_with fail
            go_quiet (fail)
            obtain ⟨n1, hn1⟩ : ∃ n1, n1 = nq := ⟨nq, rfl⟩
            subst hn1
            go_wp2_with fail
            go_quiet (fail)
          case' pos =>
            have hd1 : (p : Int) < (q : Int) := by omega
            obtain ⟨_, x1, y1, e2, _, hxy, hc1, hc2⟩ := (HOW3.out.pts).at2 (k := p) (by have := HQ.out; omega)
            cases e2
            rw [addr_add0] at hc1
            have HXY := hid hxy
            have HC1 := hid hc1
            have HPQ := hid hpq
            have hd2 : decide (p < q) = true := decide_eq_true hpq
            clear hxy hc2
            rcases Bool.eq_false_or_eq_true (Fl.lt .f32 x1 x) with hl | hl
            case' inl =>
              have o1 : (FloatKind.f32.format.order x1 x == some .lt) = true := hl
              have HLT2 := hid hl
              clear hl
              go_wp2_with fail
              go_quiet (fail)
              go_wp2_with fail
              go_roundw
              case rel =>
                refine ⟨p + 1, HPQ.out, by go_num, fun i hi => ?_, by obtain ⟨m', e⟩ := HDR.out; exact ⟨m' + nq, by rw [e, World.drewN_drewN]⟩⟩
                by_cases e : i = p
                · subst e; rw [HXY.out]; exact HLT2.out
                · exact HLO.out i (by omega)
              case measure => have := HPQ.out; simp [intOf]; omega
            have o1 : (FloatKind.f32.format.order x1 x == some .lt) = false := hl
            rcases Bool.eq_false_or_eq_true (Fl.eq .f32 x1 x) with he | he
            case' inl =>
              have o2 : (FloatKind.f32.format.order x1 x == some .eq) = true := he
              have HANY := hid (show S.any (hasX x) = true from List.any_eq_true.2 ⟨(x1, y1), by
                have hm : p < S.length := by have := HQ.out; have := HPQ.out; omega
                rw [getD_at hm] at HXY
                rw [← HXY.out]; exact List.getElem_mem hm, he⟩)
              clear hl he
              go_wp2_with fail
              go_quiet (fail)
              go_wp2_with fail
              go_quiet (fail)
              go_wp2_with fail
              go_roundw
              case rel => exact ⟨k + 1, g1, c1, S, by have := HLT.out; omega, by go_num, by rw [HQ.out], by rw [HQ.out]; exact hS32, by rw [HTR.out]; exact ⟨HS.out, S, HJ.out, .inl ⟨HANY.out, rfl⟩⟩, HOW3.out, below_drewN HB3.out _⟩
              case measure => have := HLT.out; simp [intOf]; omega
            have o2 : (FloatKind.f32.format.order x1 x == some .eq) = false := he
            have HPLACE := hid (ins_place HSS.out HSN.out HXN.out (by have := HQ.out; have := HPL.out; omega) HLO.out (.inr (by rw [HXY.out]; exact ⟨hl, he⟩)))
            clear hl he
            go_wp2_with fail
            go_quiet (fail)
            obtain ⟨n1, hn1⟩ : ∃ n1, n1 = nq := ⟨nq, rfl⟩
            subst hn1
            go_wp2_with fail
            go_quiet (fail)
          all_goals
            have HOW4 := hid (show OwnPt (wq.drewN (n1 + nq)) w.heap.size g1 c1 S from HOW3.out)
            have HB4 := hid (below_drewN HB3.out (n1 + nq))
            have hca4 : (wq.drewN (n1 + nq)).cell? (bd.add k) = some (.float .f32 x) := HCA3.out
            have HBD4 := hid (show bd.block < (wq.drewN (n1 + nq)).heap.size from HBD3.out)
            have hsz4 : w.heap.size ≤ (wq.drewN (n1 + nq)).heap.size := hsz3
            have hww : (wq.drewN n1).drewN nq = wq.drewN (n1 + nq) := World.drewN_drewN _ _ _
            first
            | rw [hww]
            | skip
            clear hww hsz3 hca3
            generalize wq.drewN (n1 + nq) = wz at HOW4 HB4 hca4 HBD4 hsz4 ⊢
            by_cases h32 : 32 ≤ q
            case' pos =>
              have h32z : (32 : Int) ≤ (q : Int) := by omega
              have HF := hid (HJ.out.long (ps := ps) (xs := xs) (ys := (xs.drop (k + 1)).reverse) (x := x) HT.out (by
                rw [← HTR.out, ← List.reverse_append, List.take_append_drop]) HPLACE.out.1 (by rw [HQ.out]; exact h32))
              clear h32
              go_wp2_with fail
              go_ret2
              exact ⟨_, by rw [HF.out]; rfl, by rw [refL_false HF.out]; exact OpenP.nil hsz4, HB4.out.alloc hsz4 _⟩
            have h32z : ¬ ((32 : Int) ≤ (q : Int)) := by omega
            have HAD := hid HBD4.out
            have HCA4 := hid hca4
            have hlit := (World.ownsRow_lit wz #[] 0 (Nat.le_refl _) (by unfold maxLen; omega) (by simp) : (wz.alloc (.cells #[] 36)).ownsRow wz.heap.size 36 2 (.slice (some ⟨wz.heap.size, 0, none⟩) 0 0) 0 [])
            have HLIT2 := hid hlit
            have HNZ2 := hid (below_new wz (.cells #[] 36))
            have HS4 := hid ((HOW4.out.below HNZ2.out).pts)
            have hi := HI.out
            have HPS := hid (show p ≤ S.length by have := HQ.out; have := HPL.out; omega)
            have HLT1 := hid (show (pcells (S.take p)).length = p * 2 by rw [pcells_length, List.length_take]; have := HPS.out; omega)
            clear hlit h32 hca4
            go_wp2_with (at_builtin; refine wpList_append_own _ rfl _ _ 24 rfl wz.heap.size 36 i0 (.agg #[.float .f32 0, .float .f32 0]) 2 8 Try.underlying24 hi HZI.out.1 HZI.out.2.1 HZI.out.2.2 rfl (by decide) _ _ _ rfl HLIT2.out ⟨g1, 0, none⟩ p c1 (pcells (S.take p)) rfl HLT1.out ?b2 pcells_one ?b4 ?b5 (by simp) ?_)
            case b2 =>
              intro j u hj
              have hjp : j < p * 2 := by
                by_cases h : j < p * 2
                · exact h
                · rw [List.getElem?_eq_none (by have := HLT1.out; omega)] at hj; cases hj
              obtain ⟨_, e, _, hcell⟩ := HS4.out.2 (by have := HPS.out; omega)
              cases e
              have h := hcell j u (by rw [pcells_take S HPS.out, List.getElem?_take, if_pos hjp] at hj; exact hj)
              rw [addr_add0] at h
              exact h
            case b4 => unfold maxLen; omega
            case b5 => omega
            intro v5 w5 hown5 hgrow5 _
            have hB5 : Below wz.heap.size wz w5 := Below.grown HNZ2.out hgrow5 (by simp) (by intro k' hk'; simp [Value.ownBlock] at hk'; omega)
            have HB5 := hid hB5
            have HO5 := hid (show w5.ownsRow wz.heap.size 36 2 v5 p (pcells (S.take p)) by simpa using hown5)
            have hca5 : w5.cell? (bd.add k) = some (.float .f32 x) := (hB5.cell (p := bd.add k) (by rw [block_of_add]; exact HAD.out)).trans HCA4.out
            have hs5 : wz.heap.size ≤ w5.heap.size := hB5.size
            clear hown5 hgrow5 hB5
            go_wp2_with (at_builtin; refine wpList_append_own _ rfl _ _ 24 rfl wz.heap.size 36 i0 (.agg #[.float .f32 0, .float .f32 0]) 2 8 Try.underlying24 hi HZI.out.1 HZI.out.2.1 HZI.out.2.2 rfl (by decide) _ _ _ rfl (HO5.out.alloc _) ⟨w5.heap.size, 0, none⟩ 1 1 [.float .f32 x, .float .f32 y] rfl rfl ?d2 ?d3 ?d4 ?d5 ?d6 ?_)
            case d2 =>
              intro j u hj
              match j, hj with
              | 0, hj => simp at hj; subst hj; simp [Addr.add]
              | 1, hj => simp at hj; subst hj; simp [Addr.add]
            case d3 => intro u hu; simp at hu; rcases hu with rfl | rfl <;> rfl
            case d4 => unfold maxLen; omega
            case d5 => omega
            case d6 => simp; omega
            intro v6 w6 hown6 hgrow6 _
            have hB6 : Below wz.heap.size wz w6 := Below.grown (HB5.out.alloc hs5 _) hgrow6 (by simp; omega) (fun k' hk' => (HO5.out.lt _ hk').1)
            have HB6 := hid hB6
            have HO6 := hid hown6
            have HS6 := hid ((HOW4.out.below hB6).pts)
            have hs6 : wz.heap.size ≤ w6.heap.size := hB6.size
            clear hown6 hgrow6 hB6 hca5 hs5
            obtain ⟨l, hl⟩ : ∃ l, q - p = l := ⟨_, rfl⟩
            have hlz2 : (q : Int) - (p : Int) = (l : Int) := by have := HPL.out; omega
            have HLT2 := hid (show (pcells (S.drop p)).length = l * 2 by rw [pcells_length, List.length_drop]; have := HQ.out; omega)
            have HCE := hid (show Reads w6 w6.heap.size 2 (if c1 = p then some ⟨g1, 0, none⟩ else (some (⟨g1, 0, none⟩ : Addr)).map (·.add (p * 2))) (S.length - p) ((pcells S).drop (p * 2)) from Reads.cut HS6.out HPS.out HOW4.out.1)
            by_cases hck : c1 = p
            all_goals
              have hce := HCE.out
              first | rw [if_pos hck] at hce | rw [if_neg hck] at hce
              have HRD := hid hce
              clear hce
              go_wp2_with (at_builtin; first | refine wpList_append_own _ rfl _ _ 24 rfl wz.heap.size 36 i0 (.agg #[.float .f32 0, .float .f32 0]) 2 8 Try.underlying24 hi HZI.out.1 HZI.out.2.1 HZI.out.2.2 rfl (by decide) _ _ _ rfl HO6.out ⟨g1, p * 2, none⟩ l (c1 - p) (pcells (S.drop p)) rfl HLT2.out ?e2 pcells_one ?e4 ?e5 hs6 ?_ | refine wpList_append_own _ rfl _ _ 24 rfl wz.heap.size 36 i0 (.agg #[.float .f32 0, .float .f32 0]) 2 8 Try.underlying24 hi HZI.out.1 HZI.out.2.1 HZI.out.2.2 rfl (by decide) _ _ _ rfl HO6.out ⟨g1, 0, none⟩ l _ (pcells (S.drop p)) rfl HLT2.out ?e2 pcells_one ?e4 ?e5 hs6 ?_)
              case e2 =>
                intro j u hj
                have h0 : 0 < S.length - p := by
                  by_cases h : 0 < S.length - p
                  · exact h
                  · rw [List.getElem?_eq_none (by rw [pcells_length, List.length_drop]; omega)] at hj; cases hj
                obtain ⟨_, e, _, hcell⟩ := HRD.out.2 h0
                cases e
                have h := hcell j u (by rw [pcells_drop S HPS.out] at hj; exact hj)
                first
                | exact h
                | (have e0 : (⟨g1, 0, none⟩ : Addr).add (p * 2) = ⟨g1, p * 2, none⟩ := addr_add0 g1 (p * 2)
                   rw [← e0]
                   exact h)
              case e4 => unfold maxLen; omega
              case e5 => omega
              intro v7 w7 hown7 hgrow7 _
              have hB7 : Below wz.heap.size wz w7 := Below.grown HB6.out hgrow7 hs6 (fun k' hk' => (HO6.out.lt _ hk').1)
              have HB7 := hid (HB4.out.trans (hB7.mono hsz4))
              have hnum : p + 1 + l = (insP S (x, y)).length := by rw [insP_len]; have := HQ.out; have := HPL.out; omega
              have hcl : pcells (S.take p) ++ .float .f32 x :: .float .f32 y :: pcells (S.drop p) = pcells (insP S (x, y)) := by
                rw [HPLACE.out.2 y, pcells_app]
                rfl
              have hown8 : w7.ownsRow wz.heap.size 36 2 v7 (insP S (x, y)).length (pcells (insP S (x, y))) := by
                rw [← hnum, ← hcl]
                simpa only [List.append_assoc, List.cons_append, List.nil_append] using hown7
              obtain ⟨g7, c7, rfl, hol⟩ := ownPt_of hown8 rfl (by rw [insP_len]; omega)
              have HOL := hid (show OwnPt w7 w.heap.size g7 c7 (insP S (x, y)) from ⟨hol.1, hol.2.mono hsz4⟩)
              clear hown7 hown8 hgrow7 hB7 hnum hcl hol
              go_wp2_with fail
              go_roundw
              case rel => exact ⟨k + 1, g7, c7, insP S (x, y), by have := HLT.out; omega, by go_num, rfl, by rw [insP_len, HQ.out]; omega, by rw [HTR.out]; exact ⟨HS.out, S, HJ.out, .inr ⟨HPLACE.out.1, y, HY.out, rfl⟩⟩, HOL.out, HB7.out⟩
              case measure => have := HLT.out; simp [intOf]; omega
      · rw [hs]
        have HF := hid (refB_seg (ps := ps) ⟨x, HMEM.out, hs⟩)
        clear hs
        go_wp2_with fail
        go_ret2
        exact ⟨_, by rw [HF.out]; rfl, by rw [refL_false HF.out]; exact OpenP.nil HSZ2.out, HB2.out.alloc HSZ2.out _⟩
    · have : k = xs.length := by omega
      subst this
      rw [List.take_of_length_le (Nat.le_refl _)] at HJ
      clear hJ hb
      go_wp2_with fail
      refine (tab_spec _ c1 S _ HOW.out.pts (by omega)).mono ?_
      rintro e w3 ⟨rfl, hd3⟩
      have HD3 := hid (Drew.below hd3 wr.heap.size)
      have HB3 := hid (bthen HB.out HD3.out)
      have HOW3 := hid (HOW.out.below HD3.out)
      clear hd3 hown
      rcases Bool.eq_false_or_eq_true (tabOk S) with hs | hs
      · rw [hs]
        have HD := hid (HJ.out.done HT.out hs)
        clear hs
        go_wp2_with fail
        go_ret2
        exact ⟨_, by rw [HD.out.1]; rfl, by rw [HD.out.2]; exact HOW3.out.open, HB3.out⟩
      · rw [hs]
        have HF := hid (HJ.out.fail HT.out hs)
        clear hs
        go_wp2_with fail
        go_ret2
        exact ⟨_, by rw [HF.out]; rfl, by rw [refL_false HF.out]; exact OpenP.nil HB3.out.size, HB3.out.alloc HB3.out.size _⟩
end Go.Proofs.Ytbloipnpgncjiaa
