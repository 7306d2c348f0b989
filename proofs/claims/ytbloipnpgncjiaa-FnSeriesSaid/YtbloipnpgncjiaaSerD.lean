/- The drawn series: l03Series, DrawFirstUnequal of the reference; rows of complex singles. -/
import Derived.Test.YtbloipnpgncjiaaSerL
import Derived.Test.YtbloipnpgncjiaaDNum
import Derived.Test.YtbloipnpgncjiaaDrawC
import Derived.Test.YtbloipnpgncjiaaDTab
namespace Go.Proofs.Ytbloipnpgncjiaa
open Go.RowKit Ieee

section
variable {P : Program} {o : Oper} {act : Act} {K : Act → World → Prop} {Q : Exit → Act → World → Prop} {w : World}
/-- narrowed: some single -/
theorem run_nar_any (b : Nat) (w : World) : ∃ x n, (Conv.floatToFloat .f64 b .f32).run P w = .ok (.float .f32 x) (w.drewN n) := by
  cases e : FloatKind.f64.decode b with
  | nan s t =>
    refine ⟨(Question.nanConv .f32 b).cut (w.tape w.drawn (.nanConv .f32 b)), 1, ?_⟩
    simp [Conv.floatToFloat, e, choose, Sem.run, Question.forced]
    rfl
  | infinity s =>
    refine ⟨FloatKind.f32.encode (.infinity s), 0, ?_⟩
    simp [Conv.floatToFloat, e]
    rfl
  | number s m p =>
    cases h : (FloatKind.f32.decode (FloatKind.f32.encode (.number s m p))).isInfinity with
    | true =>
      refine ⟨(Question.floatToFloat b).cut (w.tape w.drawn (.floatToFloat b)), 1, ?_⟩
      simp [Conv.floatToFloat, e, h, choose, Sem.run, Question.forced]
      rfl
    | false =>
      refine ⟨FloatKind.f32.encode (.number s m p), 0, ?_⟩
      simp [Conv.floatToFloat, e, h]
      rfl
theorem upon_cnar_any {src dst : TypeId} {x y : Nat} (hs : (P.underlying src).isSome = true) (hd : P.underlying dst = some (.complex .f32))
    (h : ∀ r i n, o.upon P act K Q (.ok (.value (.complex .f32 r i)) (w.drewN n))) :
    o.upon P act K Q (((convert src dst (.complex .f64 x y)).run P w).andThen fun v w' => .ok (.value v) w') := by
  obtain ⟨r, n, e1⟩ := run_nar_any (P := P) x w
  obtain ⟨i, m, e2⟩ := run_nar_any (P := P) y (w.drewN n)
  obtain ⟨u, hs'⟩ := Option.isSome_iff_exists.1 hs
  have e : (convert src dst (.complex .f64 x y)).run P w = .ok (.complex .f32 r i) (w.drewN (n + m)) := by
    rw [← World.drewN_drewN]
    cases u <;> simp [convert, run_underlying hs', run_underlying hd, Conv.complexToComplex, e1, e2]
  rw [e]
  exact h r i (n + m)
end

/-! rows of complex singles -/
def ccells (zs : List (Nat × Nat)) : List Value := zs.map fun z => .complex .f32 z.1 z.2
theorem ccells_snoc (zs : List (Nat × Nat)) (z : Nat × Nat) : ccells (zs ++ [z]) = ccells zs ++ [.complex .f32 z.1 z.2] := by simp [ccells]
theorem ccells_len (zs : List (Nat × Nat)) : (ccells zs).length = zs.length := by simp [ccells]
def Cs (w : World) (B : Nat) (A : Option Addr) (zs : List (Nat × Nat)) : Prop := Reads w B 1 A zs.length (ccells zs)
section
variable {w w' : World} {B B' : Nat} {A : Option Addr} {zs : List (Nat × Nat)}
theorem Cs.at_ (h : Cs w B A zs) {k : Nat} (hk : k < zs.length) : ∃ ad, A = some ad ∧ ad.block < B ∧ w.cell? (ad.add k) = some (.complex .f32 zs[k].1 zs[k].2) := by
  obtain ⟨ad, u, e, hb, hx, hc⟩ := Reads.at_ h hk
  refine ⟨ad, e, hb, ?_⟩
  have : (ccells zs)[k]? = some (.complex .f32 zs[k].1 zs[k].2) := by simp [ccells, hk]
  rw [this] at hx
  cases hx
  exact hc
theorem Cs.below (h : Cs w B A zs) (hb : Below B w w') : Cs w' B A zs := Reads.below h hb
theorem Cs.more (h : Cs w B A zs) (hB : B ≤ B') : Cs w B' A zs := Reads.more h hB
theorem Cs.drewN (h : Cs w B A zs) (k : Nat) : Cs (w.drewN k) B A zs := h
theorem Cs.next (h : Cs w w.heap.size A zs) (hb : Below w.heap.size w w') : Cs w' w'.heap.size A zs := (h.below hb).more hb.size
end
/-- an owned row, opened -/
theorem own_openC {w : World} {base n : Nat} {t : TypeId} {v : Value} {L : List (Nat × Nat)} (h : w.ownsRow base t 1 v n (ccells L)) (hl : L.length = n) :
    ∃ A c, v = .slice A n c ∧ Cs w w.heap.size A L ∧ n ≤ c ∧ (0 < n → ∃ g, A = some ⟨g, 0, none⟩ ∧ base ≤ g ∧ g < w.heap.size) := by
  subst hl
  have h0 := h
  obtain ⟨h1, h2⟩ := h
  rcases h2 with ⟨rfl, e⟩ | ⟨g, cap, cur, rfl, hg, hc, hcap, hm, hsz, ht⟩
  · exact ⟨none, 0, by rw [e], ⟨h1, fun hn => absurd hn (by omega)⟩, by omega, fun hn => absurd hn (by omega)⟩
  · obtain ⟨hlt, _⟩ := Array.getElem?_eq_some_iff.1 hc
    exact ⟨some ⟨g, 0, none⟩, cap, rfl, Reads.of_own h0, hcap, fun _ => ⟨g, rfl, hg, hlt⟩⟩
theorem Try.info_c64 : (Try.prog.info? 57).map (fun i => (i.zero, i.size, i.bytes)) = some (some (.complex .f32 0 0), 1, 8) := by kernel_rfl

/-- a drawn series -/
def RetLS (p : Nat) (w : World) (e : Ending) (w' : World) : Prop :=
  ∃ g c zs, e = .returned (.slice (some ⟨g, 0, none⟩) zs.length c) ∧ zs.length ≤ 5 ∧ zs.length ≤ c ∧ w'.ownsRow w.heap.size 57 1 (.slice (some ⟨g, 0, none⟩) zs.length c) zs.length (ccells zs) ∧ Cur w' p ∧ Upd p w w'

set_option maxRecDepth 20000 in
set_option maxHeartbeats 4000000 in
theorem series_any (p : Nat) (w : World) (hc : Cur w p) :
    Calls Try.prog 86 #[.pointer (some ⟨p, 0, none⟩)] w (RetLS p w) := by
  have hp := hc.lt
  have HP := hid hp
  have HC := hid (hc.next (below_new w (.cells #[] 57)))
  have HU := hid (Upd.of_below (below_new w (.cells #[] 57)) hp)
  have HO := hid (World.ownsRow_lit w #[] 0 (Nat.le_refl _) (by unfold maxLen; omega) (by simp) : (w.alloc (.cells #[] 57)).ownsRow w.heap.size 57 1 (.slice (some ⟨w.heap.size, 0, none⟩) 0 0) 0 [])
  clear hc hp
  obtain ⟨i0, hi, hz0, hz1, hz2⟩ := info_parts Try.info_c64
  have HI := hid hi
  have HZ := hid (show i0.zero = some (.complex .f32 0 0) ∧ i0.size = 1 ∧ i0.bytes = 8 from ⟨hz0, hz1, hz2⟩)
  clear hi hz0 hz1 hz2
  go_enter Try.func86, Try.ntmps86
  go_wp2_with fail
  refine (below_any _ _ _ HC.out (by decide) (by decide)).mono ?_
  rintro e w1 ⟨a, rfl, a0, a1, hc1, hu1⟩
  have HC1 := hid hc1
  have HO1 := hid (hu1.own HO.out HP.out)
  have HU1 := hid (HU.out.trans hu1)
  clear hc1 hu1
  go_wp2_with fail
  go_loopw [3, 4, 5] (fun v n _ wr => ∃ (zs : List (Nat × Nat)) (r : Nat), n = .int .i64 r ∧ r + zs.length ≤ 5 ∧ (zs.length = 0 → v = .slice (some ⟨w.heap.size, 0, none⟩) 0 0) ∧ wr.ownsRow w.heap.size 57 1 v zs.length (ccells zs) ∧ Cur wr p ∧ Upd p w wr) (fun _ n _ _ => (intOf n).toNat)
  case atStart =>
    obtain ⟨q, rfl⟩ := Int.eq_ofNat_of_zero_le a0
    exact ⟨[], q, rfl, by simp; omega, fun _ => rfl, HO1.out, HC1.out, HU1.out⟩
  case round =>
    obtain ⟨zs, r, rfl, hr5, hnil, hown, hc, hu⟩ := hrel
    have HNIL := hid hnil
    clear hnil
    have HW := hid hown
    have HCC := hid hc
    have HUW := hid hu
    clear hown hc hu
    by_cases hr : 0 < r
    · have hrz : (0 : Int) < (r : Int) := by omega
      go_wp2_with fail
      refine (mildC_any _ _ HCC.out).mono ?_
      rintro e w3 ⟨x, y, rfl, _, _, hc3, hu3⟩
      have HC3 := hid hc3
      have HO3 := hid (hu3.own HW.out HP.out)
      have HU3 := hid (HUW.out.trans hu3)
      clear hc3 hu3
      go_wp2_with fail
      refine (once_any _ _ _ HC3.out (by decide) (by decide)).mono ?_
      rintro e w4 ⟨b, rfl, hc4, hu4⟩
      have HC4 := hid hc4
      have HO4 := hid (hu4.own HO3.out HP.out)
      have HU4 := hid (HU3.out.trans hu4)
      clear hc4 hu4
      have hi := HI.out
      cases b
      case' true =>
        go_wp2_with fail
        refine (narrow_any _ _ HC4.out).mono ?_
        rintro e w5 ⟨x2, y2, rfl, hc5, hu5⟩
        have HC5 := hid hc5
        have HO5 := hid (hu5.own HO4.out HP.out)
        have HU5 := hid (HU4.out.trans hu5)
        clear hc5 hu5
        go_wp2_with fail
        refine upon_cwid some_c64 Try.underlying59 ?_
        intro x3 y3 n3 _ _
        have HC6 := hid (HC5.out.drewN n3)
        have HO6 := hid (show (w5.drewN n3).ownsRow w.heap.size 57 1 _ zs.length (ccells zs) from HO5.out)
        have HU6 := hid (HU5.out.drewN n3)
        generalize w5.drewN n3 = w6 at HC6 HO6 HU6 ⊢
      case' false =>
        have HC6 := HC4
        have HO6 := HO4
        have HU6 := HU4
        generalize hx3 : x = x3
        generalize hy3 : y = y3
        generalize hw6 : w4 = w6 at HC6 HO6 HU6 ⊢
        clear hw6 hx3 hy3
      all_goals
        go_wp2_with fail
        refine upon_cnar_any some_c128 Try.underlying57 ?_
        intro c d n7
        have HC7 := hid (HC6.out.drewN n7)
        have HO7 := hid (show (w6.drewN n7).ownsRow w.heap.size 57 1 _ zs.length (ccells zs) from HO6.out)
        have HU7 := hid (HU6.out.drewN n7)
        generalize w6.drewN n7 = w7 at HC7 HO7 HU7 ⊢
        have hsz := HU7.out.size
        go_wp2_with (at_builtin; refine wpList_append_own _ rfl _ _ 54 rfl w.heap.size 57 i0 (.complex .f32 0 0) 1 8 Try.underlying54 hi HZ.out.1 HZ.out.2.1 HZ.out.2.2 rfl (by decide) _ _ _ rfl (HO7.out.alloc _) ⟨w7.heap.size, 0, none⟩ 1 1 [.complex .f32 c d] rfl rfl ?c1 ?c2 ?c3 ?c4 ?c5 ?_)
        case c1 =>
          intro j u hj
          match j, hj with
          | 0, hj => simp at hj; subst hj; simp [Addr.add]
        case c2 => intro u hu; simp at hu; rcases hu with rfl; rfl
        case c3 => unfold maxLen; omega
        case c4 => omega
        case c5 => simp; omega
        intro v' w8 hown' hgrow _
        have hB8 : Below w.heap.size w7 w8 := Below.grown ((Below.refl _ _).alloc hsz _) hgrow (by simp; omega) (fun k' hk' => (HO7.out.lt _ hk').1)
        have HO8 := hid hown'
        have HC8 := hid (HC7.out.keep hB8 HP.out)
        have HU8 := hid (HU7.out.after hB8 HP.out)
        clear hown' hgrow hB8 hi hsz
        go_wp2_with fail
        go_roundw
        case rel => exact ⟨zs ++ [(c, d)], r - 1, by congr 1; omega, by simp; omega, (fun h => by simp at h), by rw [ccells_snoc, List.length_append]; exact HO8.out, HC8.out, HU8.out⟩
        case measure => simp [intOf]; omega
    · have : r = 0 := by omega
      subst this
      go_wp2_with fail
      go_ret
      by_cases h0 : zs.length = 0
      · have hv := HNIL.out h0
        have hw := HW.out
        subst hv
        exact ⟨w.heap.size, 0, zs, by rw [h0]; rfl, by omega, by omega, by rw [h0] at hw ⊢; exact hw, HCC.out, HUW.out⟩
      · obtain ⟨A, c, rfl, _, hcap, hg⟩ := own_openC HW.out rfl
        obtain ⟨g, rfl, _⟩ := hg (by omega)
        exact ⟨g, c, zs, rfl, by omega, hcap, HW.out, HCC.out, HUW.out⟩
end Go.Proofs.Ytbloipnpgncjiaa
