/- Words for boxes of two cells and for what stays as it was. -/
import Derived.Test.YtbloipnpgncjiaaFin
namespace Go.Proofs.Ytbloipnpgncjiaa
open Go.RowKit

theorem bcell {W w1 : World} (hb : Below W.heap.size W w1) : (∀ b o, b < W.heap.size → w1.cell? ⟨b, o, none⟩ = W.cell? ⟨b, o, none⟩) ∧ (∀ b o, b < W.heap.size → w1.frozen? ⟨b, o, none⟩ = W.frozen? ⟨b, o, none⟩) :=
  ⟨fun b o h => hb.cell (p := ⟨b, o, none⟩) h, fun b o h => hb.frozen (p := ⟨b, o, none⟩) h⟩

/-- a box of two cells -/
def Box2 (w : World) (B : Nat) (a b : Value) : Prop := B < w.heap.size ∧ w.cell? ⟨B, 0, none⟩ = some a ∧ w.cell? ⟨B, 1, none⟩ = some b
theorem Box2.next {W w1 : World} {B : Nat} {a b : Value} (h : Box2 W B a b) (hb : Below W.heap.size W w1) : Box2 w1 B a b :=
  ⟨Nat.lt_of_lt_of_le h.1 hb.size, (hb.cell (p := ⟨B, 0, none⟩) h.1).trans h.2.1, (hb.cell (p := ⟨B, 1, none⟩) h.1).trans h.2.2⟩
theorem box2_new (w : World) (a b : Value) (t : TypeId) : Box2 (w.alloc (.cells #[a, b] t)) w.heap.size a b := ⟨by simp, by simp, by simp⟩
theorem below_new (w : World) (o : Obj) : Below w.heap.size w (w.alloc o) := (Below.refl _ _).alloc (Nat.le_refl _) o
theorem bthen {w w1 w2 : World} (h : Below w.heap.size w w1) (h' : Below w1.heap.size w1 w2) : Below w.heap.size w w2 := h.trans (h'.mono h.size)

theorem below2 (w : World) (o o' : Obj) : Below w.heap.size w ((w.alloc o).alloc o') := ((Below.refl _ _).alloc (Nat.le_refl _) o).alloc (by simp) o'
theorem below3 (w : World) (o o' o'' : Obj) : Below w.heap.size w (((w.alloc o).alloc o').alloc o'') := (below2 w o o').alloc (by simp; omega) o''

def negB (x : Nat) : Nat := Op.negFloat .f32 x
/-- it returns a float that is this one (but for which NaN), and what was there is as it was -/
def RetF (k : FloatKind) (v : Nat) (w : World) (e : Ending) (w' : World) : Prop := ∃ r, e = .returned (.float k r) ∧ Fl.Wf k r ∧ Fl.Eqv k r v ∧ Below w.heap.size w w'

/-- a box of two cells that may be written -/
def Boxf (w : World) (B : Nat) (a b : Value) : Prop := B < w.heap.size ∧ w.cell? ⟨B, 0, none⟩ = some a ∧ w.cell? ⟨B, 1, none⟩ = some b ∧ w.frozen? ⟨B, 0, none⟩ = false ∧ w.frozen? ⟨B, 1, none⟩ = false
theorem Boxf.next {W w1 : World} {B : Nat} {a b : Value} (h : Boxf W B a b) (hb : Below W.heap.size W w1) : Boxf w1 B a b :=
  ⟨Nat.lt_of_lt_of_le h.1 hb.size, (hb.cell (p := ⟨B, 0, none⟩) h.1).trans h.2.1, (hb.cell (p := ⟨B, 1, none⟩) h.1).trans h.2.2.1, (hb.frozen (p := ⟨B, 0, none⟩) h.1).trans h.2.2.2.1, (hb.frozen (p := ⟨B, 1, none⟩) h.1).trans h.2.2.2.2⟩
theorem boxf_new (w : World) (a b : Value) (t : TypeId) : Boxf (w.alloc (.cells #[a, b] t)) w.heap.size a b := ⟨by simp, by simp, by simp, by simp [go_sem], by simp [go_sem]⟩
theorem Boxf.set {w : World} {B : Nat} {a b : Value} (h : Boxf w B a b) {p : Addr} (hp : p.block ≠ B) (u : Value) : Boxf (w.setCell p u) B a b :=
  ⟨by simpa [World.setCell] using h.1, (World.cell?_setCell_other w p ⟨B, 0, none⟩ u (fun e => hp (by subst e; rfl))).trans h.2.1, (World.cell?_setCell_other w p ⟨B, 1, none⟩ u (fun e => hp (by subst e; rfl))).trans h.2.2.1, by simpa using h.2.2.2.1, by simpa using h.2.2.2.2⟩
theorem Boxf.alloc {w : World} {B : Nat} {a b : Value} (h : Boxf w B a b) (o : Obj) : Boxf (w.alloc o) B a b := h.next (below_new w o)
theorem boxf3 (w : World) (a b c d e f : Value) (t t' t'' : TypeId) : Boxf (((w.alloc (.cells #[a, b] t)).alloc (.cells #[c, d] t')).alloc (.cells #[e, f] t'')) w.heap.size a b ∧
    Boxf (((w.alloc (.cells #[a, b] t)).alloc (.cells #[c, d] t')).alloc (.cells #[e, f] t'')) (w.heap.size + 1) c d ∧ Boxf (((w.alloc (.cells #[a, b] t)).alloc (.cells #[c, d] t')).alloc (.cells #[e, f] t'')) (w.heap.size + 1 + 1) e f :=
  ⟨((boxf_new _ _ _ _).alloc _).alloc _, by have := (boxf_new (w.alloc (.cells #[a, b] t)) c d t').alloc (.cells #[e, f] t''); simpa using this, by have := boxf_new ((w.alloc (.cells #[a, b] t)).alloc (.cells #[c, d] t')) e f t''; simpa using this⟩

theorem boxf2 (w : World) (a b c d : Value) (t t' : TypeId) : Boxf ((w.alloc (.cells #[a, b] t)).alloc (.cells #[c, d] t')) w.heap.size a b ∧ Boxf ((w.alloc (.cells #[a, b] t)).alloc (.cells #[c, d] t')) (w.heap.size + 1) c d :=
  ⟨(boxf_new _ _ _ _).alloc _, by have := boxf_new (w.alloc (.cells #[a, b] t)) c d t'; simpa using this⟩

/-- it returns a float that is this one (but for which NaN) and a yes or no, and what was there is as it was -/
def RetFB (k : FloatKind) (v : Nat) (b : Bool) (w : World) (e : Ending) (w' : World) : Prop := ∃ r, e = .returned (.tuple #[.float k r, .bool b]) ∧ Fl.Wf k r ∧ Fl.Eqv k r v ∧ Below w.heap.size w w'
theorem wf0 (k : FloatKind) : Fl.Wf k 0 := Nat.two_pow_pos _
end Go.Proofs.Ytbloipnpgncjiaa
