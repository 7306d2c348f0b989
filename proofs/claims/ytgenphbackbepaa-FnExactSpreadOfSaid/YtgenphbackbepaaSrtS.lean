/- l06Sorted of the reference: the stable sort by insertion of a good list, as a new list. -/
import Derived.Test.YtgenphbackbepaaMidG
import Derived.Deep.Onto
set_option linter.unusedSimpArgs false
namespace Go.Proofs.Ytgenphbackbepaa
open Go.RowKit

theorem gt_lt {x y : Nat} : Fl.gt .f32 y x = Fl.lt .f32 x y := by
  rw [Fl.gt_ky, Fl.lt_ky, Bool.and_comm (!Fl.nan .f32 y)]
theorem isort_take {xs : List Nat} {k : Nat} (h : k < xs.length) : isort (xs.take (k + 1)) = insS (isort (xs.take k)) xs[k] := by
  rw [List.take_succ_eq_append_getElem h, isort_snoc]
theorem fcells_len (xs : List Nat) : (fcells xs).length = xs.length := by simp [fcells]
theorem fcells_appL (xs ys : List Nat) : fcells (xs ++ ys) = fcells xs ++ fcells ys := by simp [fcells]
theorem own_belowL {w w' : World} {base : Nat} {e : TypeId} {size : Nat} {v : Value} {n : Nat} {xs : List Value} (h : w.ownsRow base e size v n xs) (hb : Below w.heap.size w w') : w'.ownsRow base e size v n xs := by
  obtain ⟨h1, h2⟩ := h
  refine ⟨h1, ?_⟩
  rcases h2 with h2 | ⟨g, cap, cur, a, b, c, d⟩
  · exact .inl h2
  · refine .inr ⟨g, cap, cur, a, b, ?_, d⟩
    obtain ⟨hlt, _⟩ := Array.getElem?_eq_some_iff.1 c
    rw [hb.block g hlt]; exact c
theorem posF_succ {x : Nat} {S : List Nat} {p p' : Nat} (h : p' + 1 = p) : posF x S p = if Fl.lt .f32 x (S.getD p' 0) then posF x S p' else p := by subst h; rfl
theorem Sing.atL {w : World} {B : Nat} {A : Option Addr} {xs : List Nat} (h : Sing w B A xs) {k : Nat} (hk : k < xs.length) : ∃ ad, A = some ad ∧ ad.block < B ∧ w.cell? (ad.add k) = some (.float .f32 (xs.getD k 0)) := by
  obtain ⟨ad, e, hb, hc⟩ := h.at_ hk
  exact ⟨ad, e, hb, by simpa [List.getD, hk] using hc⟩
/-- an own list that is not nil -/
def OwnL (w : World) (base g c : Nat) (L : List Nat) : Prop := L.length ≤ c ∧ w.ownsRow base 23 1 (.slice (some ⟨g, 0, none⟩) L.length c) L.length (fcells L)
theorem OwnL.sing {w : World} {base g c : Nat} {L : List Nat} (h : OwnL w base g c L) : Sing w w.heap.size (some ⟨g, 0, none⟩) L := Reads.of_own h.2
theorem OwnL.below {w w' : World} {base g c : Nat} {L : List Nat} (h : OwnL w base g c L) (hb : Below w.heap.size w w') : OwnL w' base g c L := ⟨h.1, own_belowL h.2 hb⟩
theorem own_capL {w : World} {base n c : Nat} {A : Option Addr} {t : TypeId} {xs : List Value} (h : w.ownsRow base t 1 (.slice A n c) n xs) : n ≤ c := by
  obtain ⟨_, h2⟩ := h
  rcases h2 with ⟨e, rfl⟩ | ⟨g, cap, cur, e, hg, hc, hcap, _⟩
  · omega
  · injection e with _ _ e3
    omega
theorem ownL_of {w : World} {base n : Nat} {v : Value} {L : List Nat} (h : w.ownsRow base 23 1 v n (fcells L)) (hl : L.length = n) (h0 : 0 < n) : ∃ g c, v = .slice (some ⟨g, 0, none⟩) L.length c ∧ OwnL w base g c L ∧ g < w.heap.size := by
  subst hl
  obtain ⟨A, c, g, rfl, _, _, hA, _⟩ := own_open h
  obtain ⟨rfl, hg⟩ := hA h0
  exact ⟨g, c, rfl, ⟨own_capL h, h⟩, hg⟩

/-- a new list -/
def RetSo (L : List Nat) (w : World) (e : Ending) (w' : World) : Prop := ∃ g c, e = .returned (.slice (some ⟨g, 0, none⟩) L.length c) ∧ Sing w' w'.heap.size (some ⟨g, 0, none⟩) L ∧ Below w.heap.size w w'

set_option maxRecDepth 20000 in
set_option maxHeartbeats 8000000 in
theorem sorted_any (A : Option Addr) (c : Nat) (xs : List Nat) (hx : ∀ x ∈ xs, Fl.nan .f32 x = false) (w : World) (ha : Sing w w.heap.size A xs) (hn : xs.length ≤ 64) :
    Calls Try.prog 47 #[.slice A xs.length c] w (RetSo (isort xs) w) := by
  have HA := hid ha
  have HX := hid hx
  have hlz : (xs.length : Int) ≤ 64 := by omega
  clear ha hx
  obtain ⟨i0, hi, hz0, hz1, hz2⟩ := info_parts Try.info_f32
  have HI := hid hi
  have HZ := hid (show i0.zero = some (.float .f32 0) ∧ i0.size = 1 ∧ i0.bytes = 4 from ⟨hz0, hz1, hz2⟩)
  clear hi hz0 hz1 hz2
  have HN := hid (below_new w (.cells #[] 23))
  have HO := hid (World.ownsRow_lit w #[] 0 (Nat.le_refl _) (by unfold maxLen; omega) (by simp) : (w.alloc (.cells #[] 23)).ownsRow w.heap.size 23 1 (.slice (some ⟨w.heap.size, 0, none⟩) 0 0) 0 [])
  go_enter Try.func47, Try.ntmps47
  go_wp2_with fail
  go_loopw [3, 4, 5, 6] (fun v i _ _ wr => ∃ (k g1 c1 : Nat) (S : List Nat), k ≤ xs.length ∧ i = .int .i64 k ∧ v = .slice (some ⟨g1, 0, none⟩) S.length c1 ∧ isort (xs.take k) = S ∧ OwnL wr w.heap.size g1 c1 S ∧ Below w.heap.size w wr) (fun _ i _ _ _ => xs.length - (intOf i).toNat)
  case atStart => exact ⟨0, w.heap.size, 0, [], Nat.zero_le _, rfl, rfl, rfl, ⟨Nat.le_refl _, HO.out⟩, HN.out⟩
  case round =>
    obtain ⟨k, g1, c1, S, hk, rfl, rfl, hS, hown, hb⟩ := hrel
    have HS := hid hS
    have HOW := hid hown
    have HB := hid hb
    have HSN := hid (show ∀ y ∈ S, Fl.nan .f32 y = false from fun y hy => by rw [← hS] at hy; exact HX.out y (List.mem_of_mem_take (isort_mem.1 hy)))
    have hSl : S.length = k := by rw [← hS, isort_len, List.length_take]; omega
    by_cases hlt : k < xs.length
    · obtain ⟨ad, rfl, had, hca⟩ := (HA.out.below hb).at_ hlt
      have hkz : (k : Int) < (xs.length : Int) := by omega
      have HNX := hid (isort_take hlt)
      have hxn := HX.out _ (List.getElem_mem hlt)
      obtain ⟨x, hxe⟩ : ∃ x, xs[k] = x := ⟨_, rfl⟩
      rw [hxe] at hca HNX hxn
      have HXN := hid hxn
      obtain ⟨q, hq⟩ : ∃ q, S.length = q := ⟨_, rfl⟩
      have HQ := hid hq
      have HOS := hid (hown.sing)
      have hcap := hown.1
      have hsz := hb.size
      rw [hq] at hcap ⊢
      have hcapz : (q : Int) ≤ (c1 : Int) := by omega
      have hqz : (q : Int) ≤ 64 := by omega
      have HCP := hid (And.intro hcap hsz)
      clear hS hown hb hxe hxn hq hcap hSl
      go_wp2_with fail
      go_loopw [5] (fun a wi => ∃ p : Nat, p ≤ q ∧ a = .int .i64 p ∧ posF x S q = posF x S p ∧ Drew wr wi) (fun a _ => (intOf a).toNat)
      case atStart => exact ⟨q, Nat.le_refl _, rfl, rfl, 0, rfl⟩
      case round =>
        obtain ⟨p, hp, rfl, hpos, m, rfl⟩ := hrel
        have HPO := hid hpos
        have HPL := hid hp
        have HOW2 := hid (show OwnL (wr.drewN m) w.heap.size g1 c1 S from HOW.out)
        have HOS2 := hid (show Sing (wr.drewN m) (wr.drewN m).heap.size (some ⟨g1, 0, none⟩) S from HOS.out)
        have HDR := hid (show Drew wr (wr.drewN m) from ⟨m, rfl⟩)
        have HB2 := hid (below_drewN HB.out m)
        have hca2 : (wr.drewN m).cell? (ad.add k) = some (.float .f32 x) := hca
        have had2 : ad.block < (wr.drewN m).heap.size := Nat.lt_of_lt_of_le had HCP.out.2
        have hsz2 : w.heap.size ≤ (wr.drewN m).heap.size := HCP.out.2
        clear hpos hp hca
        generalize wr.drewN m = wq at HOW2 HOS2 HDR HB2 hca2 had2 hsz2 ⊢
        have hpz : (p : Int) ≤ (q : Int) := by have := HPL.out; omega
        have hpc : (p : Int) ≤ (c1 : Int) := by omega
        by_cases hp0 : p = 0
        case' pos =>
          have hdf : decide ((0 : Int) < (p : Int)) = false := decide_eq_false (by omega)
          have hdf2 : decide (0 < p) = false := decide_eq_false (by omega)
          have HINS := hid (show insS S x = S.take p ++ x :: S.drop p by
            have h : posF x S q = p := by rw [HPO.out, hp0]; rfl
            unfold insS; rw [HQ.out, h])
          clear hp0
          go_wp2_with fail
          go_quiet (fail)
        case' neg =>
          obtain ⟨p', hp'⟩ : ∃ p', p' + 1 = p := ⟨p - 1, by omega⟩
          have hdt : (0 : Int) < (p : Int) := by omega
          have hdt2 : 0 < p := by omega
          have hpp : (p : Int) - 1 = (p' : Int) := by omega
          have hpq : (p' : Int) < (q : Int) := by omega
          have hwp : IntKind.i64.wrap (p' : Int) = (p' : Int) := by rw [IntKind.wrap_i64]; omega
          obtain ⟨_, e2, _, hcs⟩ := HOS2.out.atL (k := p') (by have := HQ.out; have := HPL.out; omega)
          cases e2
          have HPS := hid (posF_succ (x := x) (S := S) hp')
          obtain ⟨y, hy⟩ : ∃ y, S.getD p' 0 = y := ⟨_, rfl⟩
          rw [hy] at hcs HPS
          rw [addr_add0] at hcs
          have HPP := hid hp'
          clear hy hp' hp0
          rcases Bool.eq_false_or_eq_true (Fl.lt .f32 x y) with hl | hl
          case' inl =>
            have HPK := hid (show posF x S q = posF x S p' by rw [HPO.out, HPS.out, hl]; rfl)
            have o1 : (FloatKind.f32.format.order y x == some .gt) = true := by rw [← hl]; exact gt_lt
            clear hl
            go_wp2_with fail
            go_quiet (fail)
            go_wp2_with fail
            go_roundw
            case rel => exact ⟨p', by have := HPP.out; have := HPL.out; omega, by first | rfl | go_num, HPK.out, by obtain ⟨m', e⟩ := HDR.out; exact ⟨m' + nq, by rw [e, World.drewN_drewN]⟩⟩
            case measure => have := HPP.out; simp [intOf]; omega
          have HINS := hid (show insS S x = S.take p ++ x :: S.drop p by
            have h : posF x S q = p := by rw [HPO.out, HPS.out, hl]; rfl
            unfold insS; rw [HQ.out, h])
          have o1 : (FloatKind.f32.format.order y x == some .gt) = false := by rw [← hl]; exact gt_lt
          clear hl
          go_wp2_with fail
          go_quiet (fail)
        all_goals
          have HOW3 := hid (show OwnL (wq.drewN nq) w.heap.size g1 c1 S from HOW2.out)
          have HB3 := hid (below_drewN HB2.out nq)
          have hca3 : (wq.drewN nq).cell? (ad.add k) = some (.float .f32 x) := hca2
          have had3 : ad.block < (wq.drewN nq).heap.size := had2
          have hsz3 : w.heap.size ≤ (wq.drewN nq).heap.size := hsz2
          clear hca2 had2 hsz2
          generalize wq.drewN nq = wz at HOW3 HB3 hca3 had3 hsz3 ⊢
          have HAD := hid had3
          have HCA := hid hca3
          have hlit := (World.ownsRow_lit wz #[] 0 (Nat.le_refl _) (by unfold maxLen; omega) (by simp) : (wz.alloc (.cells #[] 23)).ownsRow wz.heap.size 23 1 (.slice (some ⟨wz.heap.size, 0, none⟩) 0 0) 0 [])
          have HLIT := hid hlit
          have HNZ := hid (below_new wz (.cells #[] 23))
          have HS4 := hid ((HOW3.out.below HNZ.out).sing)
          have hi := HI.out
          have HLT1 := hid (show (fcells (S.take p)).length = p by rw [fcells_len, List.length_take]; have := HQ.out; have := HPL.out; omega)
          clear hca3 had3 hlit
          go_wp2_with (at_builtin; refine wpList_append_own _ rfl _ _ 22 rfl wz.heap.size 23 i0 (.float .f32 0) 1 4 Try.underlying22 hi HZ.out.1 HZ.out.2.1 HZ.out.2.2 rfl (by decide) _ _ _ rfl HLIT.out ⟨g1, 0, none⟩ p c1 (fcells (S.take p)) rfl (by rw [HLT1.out]; omega) ?a2 ?a3 ?a4 ?a5 (by simp) ?_)
          case a2 =>
            intro j u hj
            have hjp : j < p := by
              by_cases h : j < p
              · exact h
              · rw [List.getElem?_eq_none (by have := HLT1.out; omega)] at hj; cases hj
            obtain ⟨_, e, _, hcell⟩ := HS4.out.2 (by have := HQ.out; have := HPL.out; omega)
            cases e
            have e3 : (fcells (S.take p))[j]? = (fcells S)[j]? := by
              unfold fcells
              rw [List.getElem?_map, List.getElem?_map, List.getElem?_take, if_pos hjp]
            have h := hcell j u (by rw [← hj]; exact e3.symm)
            rw [addr_add0] at h
            exact h
          case a3 => exact fcells_one
          case a4 => unfold maxLen; omega
          case a5 => omega
          intro v5 w5 hown5 hgrow5 _
          have hB5 : Below wz.heap.size wz w5 := Below.grown HNZ.out hgrow5 (by simp) (by intro k' hk'; simp [Value.ownBlock] at hk'; omega)
          have HB5 := hid hB5
          have HO5 := hid (show w5.ownsRow wz.heap.size 23 1 v5 p (fcells (S.take p)) by simpa using hown5)
          have hca5 : w5.cell? (ad.add k) = some (.float .f32 x) := (hB5.cell (p := ad.add k) (by rw [block_of_add]; exact HAD.out)).trans HCA.out
          have hs5 : wz.heap.size ≤ w5.heap.size := hB5.size
          clear hown5 hgrow5 hB5
          go_wp2_with (at_builtin; refine wpList_append_own _ rfl _ _ 22 rfl wz.heap.size 23 i0 (.float .f32 0) 1 4 Try.underlying22 hi HZ.out.1 HZ.out.2.1 HZ.out.2.2 rfl (by decide) _ _ _ rfl (HO5.out.alloc _) ⟨w5.heap.size, 0, none⟩ 1 1 [.float .f32 x] rfl rfl ?b2 ?b3 ?b4 ?b5 ?b6 ?_)
          case b2 =>
            intro j u hj
            match j, hj with
            | 0, hj => simp at hj; subst hj; simp [Addr.add]
          case b3 => intro u hu; simp at hu; rcases hu with rfl; rfl
          case b4 => unfold maxLen; omega
          case b5 => omega
          case b6 => simp; omega
          intro v6 w6 hown6 hgrow6 _
          have hB6 : Below wz.heap.size wz w6 := Below.grown (HB5.out.alloc hs5 _) hgrow6 (by simp; omega) (fun k' hk' => (HO5.out.lt _ hk').1)
          have HB6 := hid hB6
          have HO6 := hid hown6
          have HS6 := hid ((HOW3.out.below hB6).sing)
          have hs6 : wz.heap.size ≤ w6.heap.size := hB6.size
          clear hown6 hgrow6 hB6 hca5 hs5
          obtain ⟨l, hl⟩ : ∃ l, q - p = l := ⟨_, rfl⟩
          have hlz2 : (q : Int) - (p : Int) = (l : Int) := by have := HPL.out; omega
          have HLT2 := hid (show (fcells (S.drop p)).length = l by rw [fcells_len, List.length_drop]; have := HQ.out; omega)
          have HCE := hid (show Reads w6 w6.heap.size 1 (if c1 = p then some ⟨g1, 0, none⟩ else (some (⟨g1, 0, none⟩ : Addr)).map (·.add (p * 1))) (S.length - p) ((fcells S).drop (p * 1)) from Reads.cut HS6.out (by have := HQ.out; have := HPL.out; omega) HOW3.out.1)
          by_cases hck : c1 = p
          all_goals
            have hce := HCE.out
            first | rw [if_pos hck] at hce | rw [if_neg hck] at hce
            have HRD := hid hce
            clear hce
            go_wp2_with (at_builtin; first | refine wpList_append_own _ rfl _ _ 22 rfl wz.heap.size 23 i0 (.float .f32 0) 1 4 Try.underlying22 hi HZ.out.1 HZ.out.2.1 HZ.out.2.2 rfl (by decide) _ _ _ rfl HO6.out ⟨g1, p, none⟩ l (c1 - p) (fcells (S.drop p)) rfl (by rw [HLT2.out]; omega) ?d2 ?d3 ?d4 ?d5 hs6 ?_ | refine wpList_append_own _ rfl _ _ 22 rfl wz.heap.size 23 i0 (.float .f32 0) 1 4 Try.underlying22 hi HZ.out.1 HZ.out.2.1 HZ.out.2.2 rfl (by decide) _ _ _ rfl HO6.out ⟨g1, 0, none⟩ l _ (fcells (S.drop p)) rfl (by rw [HLT2.out]; omega) ?d2 ?d3 ?d4 ?d5 hs6 ?_)
            case d2 =>
              intro j u hj
              have h0 : 0 < S.length - p := by
                by_cases h : 0 < S.length - p
                · exact h
                · rw [List.getElem?_eq_none (by rw [fcells_len, List.length_drop]; omega)] at hj; cases hj
              obtain ⟨_, e, _, hcell⟩ := HRD.out.2 h0
              cases e
              have h := hcell j u (by rw [Nat.mul_one, List.getElem?_drop]; unfold fcells at hj ⊢; rw [List.map_drop, List.getElem?_drop] at hj; exact hj)
              first
              | exact h
              | (have e0 : (⟨g1, 0, none⟩ : Addr).add (p * 1) = ⟨g1, p, none⟩ := by rw [Nat.mul_one]; exact addr_add0 g1 p
                 rw [← e0]
                 exact h)
            case d3 => exact fcells_one
            case d4 => unfold maxLen; omega
            case d5 => omega
            intro v7 w7 hown7 hgrow7 _
            have hB7 : Below wz.heap.size wz w7 := Below.grown HB6.out hgrow7 hs6 (fun k' hk' => (HO6.out.lt _ hk').1)
            have HB7 := hid (HB3.out.trans (hB7.mono hsz3))
            have hnum : p + 1 + l = (insS S x).length := by rw [insS_len]; have := HQ.out; have := HPL.out; omega
            have hcl : fcells (S.take p) ++ .float .f32 x :: fcells (S.drop p) = fcells (insS S x) := by
              rw [HINS.out, fcells_appL]
              rfl
            rw [hnum, hcl] at hown7
            obtain ⟨g7, c7, rfl, hol, _⟩ := ownL_of hown7 rfl (by rw [insS_len]; omega)
            have HOL := hid (show OwnL w7 w.heap.size g7 c7 (insS S x) from ⟨hol.1, hol.2.mono hsz3⟩)
            clear hown7 hgrow7 hB7 hnum hcl hol
            go_wp2_with fail
            go_roundw
            case rel => exact ⟨k + 1, g7, c7, insS S x, by omega, by go_num, rfl, by rw [HNX.out, HS.out], HOL.out, HB7.out⟩
            case measure => simp [intOf]; omega
    · have : k = xs.length := by omega
      subst this
      rw [List.take_of_length_le (Nat.le_refl _)] at HS
      clear hS hown hb
      go_wp2_with fail
      go_ret
      exact ⟨g1, c1, by rw [HS.out]; rfl, by rw [HS.out]; exact HOW.out.sing, HB.out⟩
end Go.Proofs.Ytgenphbackbepaa
