/- How whole numbers, strings and deeds lie in memory below a block; nothing of the program is used here. -/
import Derived.WalkKit
import Derived.WalkSpells
import Derived.WalkLawsBesides
import Derived.BigQuiet
import Derived.Deep.QuietTactic
import Derived.Lib.Hide
import Derived.Shelf.Abstract
import Derived.Laws.Rows
namespace Go.Proofs.YtbldegmanbmpmaaGreatDoor
open Go.RowKit Go.Shelf
theorem bcell {W w1 : World} (hb : Below W.heap.size W w1) : (∀ b o, b < W.heap.size → w1.cell? ⟨b, o, none⟩ = W.cell? ⟨b, o, none⟩) ∧ (∀ b o, b < W.heap.size → w1.frozen? ⟨b, o, none⟩ = W.frozen? ⟨b, o, none⟩) :=
  ⟨fun b o h => hb.cell (p := ⟨b, o, none⟩) h, fun b o h => hb.frozen (p := ⟨b, o, none⟩) h⟩
theorem up_of {B B' : Nat} {w w' : World} (h : Below B w w') (hB : B' ≤ B) : Below B' w w' := h.mono hB
/-- A block of the call's own, whole. -/
def Box (W : World) (B : Nat) (T : TypeId) (cs : List Value) : Prop := W.heap[B]? = some (.cells cs.toArray T (0, 0))
section
variable {W W' : World} {B n : Nat} {T : TypeId} {cs : List Value}
theorem Box.lt (h : Box W B T cs) : B < W.heap.size := (Array.getElem?_eq_some_iff.1 h).1
theorem Box.cell (h : Box W B T cs) (i : Nat) : W.cell? ⟨B, i, none⟩ = cs[i]? := by simp [World.cell?, show W.heap[B]? = _ from h]
theorem Box.free (h : Box W B T cs) (i : Nat) : W.frozen? ⟨B, i, none⟩ = false := by simp [World.frozen?, show W.heap[B]? = _ from h]
theorem Box.keepB (h : Box W B T cs) (hb : Below n W W') (hB : B < n) : Box W' B T cs := (hb.block B hB).trans h
theorem Box.keep (h : Box W B T cs) (hb : Below W.heap.size W W') : Box W' B T cs := h.keepB hb h.lt
theorem Box.new (W : World) (T : TypeId) (cs : List Value) : Box (W.alloc (.cells cs.toArray T)) W.heap.size T cs := heap_alloc_new W _
theorem Box.alloc (h : Box W B T cs) (o : Obj) : Box (W.alloc o) B T cs := (Below.heap_alloc W o B h.lt).trans h
theorem Box.drew (h : Box W B T cs) : Box W.drew B T cs := h
theorem Box.drewN (h : Box W B T cs) (m : Nat) : Box (W.drewN m) B T cs := h
theorem Box.set (h : Box W B T cs) (i : Nat) (u : Value) : Box (W.setCell ⟨B, i, none⟩ u) B T (cs.set i u) := by
  have he : W.heap[B]? = some (.cells cs.toArray T (0, 0)) := h
  have : (W.setCell ⟨B, i, none⟩ u).heap[B]? = some (.cells (cs.toArray.setIfInBounds i u) T (0, 0)) := by simp [World.setCell, Array.getElem?_modify, he]
  simpa [Box] using this
theorem Box.other (h : Box W B T cs) {p : Addr} (hp : B ≠ p.block) (u : Value) : Box (W.setCell p u) B T cs := (Below.heap_setCell W p u B hp).trans h
theorem Box.of_cells {c : Array Value} (h : W.heap[B]? = some (.cells c T (0, 0))) : Box W B T c.toList := h
theorem Box.facts1 {x : Value} (h : Box W B T [x]) : W.cell? ⟨B, 0, none⟩ = some x ∧ W.frozen? ⟨B, 0, none⟩ = false := ⟨h.cell 0, h.free 0⟩
theorem Box.facts2 {x y : Value} (h : Box W B T [x, y]) : W.cell? ⟨B, 0, none⟩ = some x ∧ W.cell? ⟨B, 1, none⟩ = some y ∧ W.frozen? ⟨B, 0, none⟩ = false ∧ W.frozen? ⟨B, 1, none⟩ = false := ⟨h.cell 0, h.cell 1, h.free 0, h.free 1⟩
theorem Box.facts3 {x y z : Value} (h : Box W B T [x, y, z]) : W.cell? ⟨B, 0, none⟩ = some x ∧ W.cell? ⟨B, 1, none⟩ = some y ∧ W.cell? ⟨B, 2, none⟩ = some z ∧ W.frozen? ⟨B, 0, none⟩ = false ∧ W.frozen? ⟨B, 1, none⟩ = false ∧ W.frozen? ⟨B, 2, none⟩ = false := ⟨h.cell 0, h.cell 1, h.cell 2, h.free 0, h.free 1, h.free 2⟩
theorem Box.read6 {a b c d e f : Value} (h : Box W B T [a, b, c, d, e, f]) : W.cell? ⟨B, 0, none⟩ = some a ∧ W.cell? ⟨B, 1, none⟩ = some b ∧ W.cell? ⟨B, 2, none⟩ = some c ∧ W.cell? ⟨B, 3, none⟩ = some d ∧ W.cell? ⟨B, 4, none⟩ = some e ∧ W.cell? ⟨B, 5, none⟩ = some f := ⟨h.cell 0, h.cell 1, h.cell 2, h.cell 3, h.cell 4, h.cell 5⟩
end
/-- What a function holds as it goes: nothing that lay there before it began has turned; blocks of its own, whole. -/
def Inv (w0 W : World) (bs : List (Nat × TypeId × List Value)) : Prop := Below w0.heap.size w0 W ∧ ∀ x ∈ bs, Box W x.1 x.2.1 x.2.2
section
variable {w0 W W' : World} {B : Nat} {T : TypeId} {cs : List Value} {bs : List (Nat × TypeId × List Value)}
theorem Inv.start (w0 : World) : Inv w0 w0 [] := ⟨Below.refl _ _, fun _ h => by cases h⟩
theorem Inv.call (h : Inv w0 W bs) (hk : Below W.heap.size W W') : Inv w0 W' bs := ⟨h.1.trans (hk.mono h.1.size), fun x hx => (h.2 x hx).keep hk⟩
theorem Inv.alloc (h : Inv w0 W bs) (o : Obj) : Inv w0 (W.alloc o) bs := ⟨h.1.alloc h.1.size o, fun x hx => (h.2 x hx).alloc o⟩
theorem Inv.drew (h : Inv w0 W bs) : Inv w0 W.drew bs := ⟨⟨h.1.os, h.1.tape, h.1.output, h.1.size, h.1.block⟩, fun x hx => h.2 x hx⟩
theorem Inv.alloc_drew (h : Inv w0 W.drew bs) (o : Obj) : Inv w0 (W.alloc o).drew bs := Inv.alloc (W := W.drew) h o
theorem Inv.drewN (h : Inv w0 W bs) (n : Nat) : Inv w0 (W.drewN n) bs := ⟨⟨h.1.os, h.1.tape, h.1.output, h.1.size, h.1.block⟩, fun x hx => h.2 x hx⟩
theorem Inv.new (h : Inv w0 W bs) (T : TypeId) (cs : List Value) : Inv w0 (W.alloc (.cells cs.toArray T)) ((W.heap.size, T, cs) :: bs) :=
  ⟨(h.alloc _).1, fun x hx => by
    rcases List.mem_cons.1 hx with rfl | hx
    · exact Box.new W T cs
    · exact (h.2 x hx).alloc _⟩
/-- A block is forgotten. -/
theorem Inv.tail {x : Nat × TypeId × List Value} (h : Inv w0 W (x :: bs)) : Inv w0 W bs := ⟨h.1, fun y hy => h.2 y (List.mem_cons_of_mem _ hy)⟩
theorem Inv.swap {x y : Nat × TypeId × List Value} (h : Inv w0 W (x :: y :: bs)) : Inv w0 W (y :: x :: bs) := ⟨h.1, fun z hz => h.2 z (by simp only [List.mem_cons] at hz ⊢; rcases hz with h | h | h <;> simp [h])⟩
theorem Inv.box (h : Inv w0 W ((B, T, cs) :: bs)) : Box W B T cs := h.2 (B, T, cs) (by simp)
theorem Inv.box2 {x : Nat × TypeId × List Value} (h : Inv w0 W (x :: (B, T, cs) :: bs)) : Box W B T cs := h.tail.box
theorem Inv.box3 {x y : Nat × TypeId × List Value} (h : Inv w0 W (x :: y :: (B, T, cs) :: bs)) : Box W B T cs := h.tail.tail.box
theorem Inv.set (h : Inv w0 W ((B, T, cs) :: bs)) (hB : w0.heap.size ≤ B) (hne : ∀ x ∈ bs, x.1 ≠ B) (i : Nat) (u : Value) : Inv w0 (W.setCell ⟨B, i, none⟩ u) ((B, T, cs.set i u) :: bs) :=
  ⟨h.1.setCell (p := ⟨B, i, none⟩) hB u, fun x hx => by
    rcases List.mem_cons.1 hx with rfl | hx
    · exact h.box.set i u
    · exact (h.2 x (List.mem_cons_of_mem _ hx)).other (p := ⟨B, i, none⟩) (hne x hx) u⟩
theorem Inv.size (h : Inv w0 W bs) : w0.heap.size ≤ W.heap.size := h.1.size
end
/-- Some whole numbers lie in memory below B. -/
def SlI (B : Nat) (w : World) (A : Option Addr) (n : Nat) (xs : List Int) : Prop :=
  xs.length = n ∧ n ≤ 4611686018427387904 ∧ (0 < n → ∃ b o, A = some ⟨b, o, none⟩ ∧ b < B ∧ ∀ j, j < n → w.cell? ⟨b, o + j, none⟩ = some (.int .i64 (xs.getD j 0)))
theorem SlI.below {B B' : Nat} {w w' : World} {A : Option Addr} {n : Nat} {xs : List Int} (h : SlI B w A n xs) (hb : Below B' w w') (hB : B ≤ B') : SlI B w' A n xs := by
  refine ⟨h.1, h.2.1, fun hn => ?_⟩
  obtain ⟨b, o, rfl, hlt, hc⟩ := h.2.2 hn
  exact ⟨b, o, rfl, hlt, fun j hj => (hb.cell (p := ⟨b, o + j, none⟩) (Nat.lt_of_lt_of_le hlt hB)).trans (hc j hj)⟩
theorem SlI.up {B B' : Nat} {w : World} {A : Option Addr} {n : Nat} {xs : List Int} (h : SlI B w A n xs) (hB : B ≤ B') : SlI B' w A n xs := by
  refine ⟨h.1, h.2.1, fun hn => ?_⟩
  obtain ⟨b, o, rfl, hlt, hc⟩ := h.2.2 hn
  exact ⟨b, o, rfl, Nat.lt_of_lt_of_le hlt hB, hc⟩
theorem SlI.one {w : World} {x : Int} {b : Nat} (hb : w.cell? ⟨b, 0, none⟩ = some (.int .i64 x)) (h : b < w.heap.size) : SlI w.heap.size w (some ⟨b, 0, none⟩) 1 [x] := by
  refine ⟨rfl, by omega, fun _ => ⟨b, 0, rfl, h, fun j hj => ?_⟩⟩
  have e : j = 0 := by omega
  subst e
  exact hb
theorem SlI.two {w : World} {x y : Int} {b : Nat} (hb : w.cell? ⟨b, 0, none⟩ = some (.int .i64 x)) (hb' : w.cell? ⟨b, 1, none⟩ = some (.int .i64 y)) (h : b < w.heap.size) : SlI w.heap.size w (some ⟨b, 0, none⟩) 2 [x, y] := by
  refine ⟨rfl, by omega, fun _ => ⟨b, 0, rfl, h, fun j hj => ?_⟩⟩
  match j, hj with
  | 0, _ => exact hb
  | 1, _ => exact hb'
/-- Some strings lie in memory below B. -/
def SlB (B : Nat) (w : World) (A : Option Addr) (n : Nat) (xs : List ByteArray) : Prop :=
  xs.length = n ∧ n ≤ 4611686018427387904 ∧ (0 < n → ∃ b o, A = some ⟨b, o, none⟩ ∧ b < B ∧ ∀ j, j < n → w.cell? ⟨b, o + j, none⟩ = some (.string (xs.getD j .empty)))
theorem SlB.below {B B' : Nat} {w w' : World} {A : Option Addr} {n : Nat} {xs : List ByteArray} (h : SlB B w A n xs) (hb : Below B' w w') (hB : B ≤ B') : SlB B w' A n xs := by
  refine ⟨h.1, h.2.1, fun hn => ?_⟩
  obtain ⟨b, o, rfl, hlt, hc⟩ := h.2.2 hn
  exact ⟨b, o, rfl, hlt, fun j hj => (hb.cell (p := ⟨b, o + j, none⟩) (Nat.lt_of_lt_of_le hlt hB)).trans (hc j hj)⟩
theorem SlB.up {B B' : Nat} {w : World} {A : Option Addr} {n : Nat} {xs : List ByteArray} (h : SlB B w A n xs) (hB : B ≤ B') : SlB B' w A n xs := by
  refine ⟨h.1, h.2.1, fun hn => ?_⟩
  obtain ⟨b, o, rfl, hlt, hc⟩ := h.2.2 hn
  exact ⟨b, o, rfl, Nat.lt_of_lt_of_le hlt hB, hc⟩
/-- A deed: its word and its numbers. -/
structure De where
  word : ByteArray
  nums : List Int
def noDe : De := ⟨.empty, []⟩
/-- One deed lies at a place. -/
def De.lies (B : Nat) (w : World) (b o j : Nat) (x : De) : Prop :=
  w.cell? ⟨b, o + j * 2, none⟩ = some (.string x.word) ∧ (∃ A' m c, w.cell? ⟨b, o + j * 2 + 1, none⟩ = some (.slice A' m c) ∧ SlI B w A' m x.nums)
theorem De.lies.below {B B' : Nat} {w w' : World} {b o j : Nat} {x : De} (h : De.lies B w b o j x) (hb : Below B' w w') (hB : B ≤ B') (hlt : b < B) : De.lies B w' b o j x := by
  obtain ⟨h0, A', m, c, h1, h2⟩ := h
  have C : ∀ k, w'.cell? ⟨b, o + j * 2 + k, none⟩ = w.cell? ⟨b, o + j * 2 + k, none⟩ := fun k => hb.cell (p := ⟨b, o + j * 2 + k, none⟩) (Nat.lt_of_lt_of_le hlt hB)
  exact ⟨(C 0).trans h0, A', m, c, (C 1).trans h1, h2.below hb hB⟩
theorem De.lies.up {B B' : Nat} {w : World} {b o j : Nat} {x : De} (h : De.lies B w b o j x) (hB : B ≤ B') : De.lies B' w b o j x := by
  obtain ⟨h0, A', m, c, h1, h2⟩ := h
  exact ⟨h0, A', m, c, h1, h2.up hB⟩
/-- A log of deeds lies in memory below B. -/
def SlD (B : Nat) (w : World) (A : Option Addr) (n : Nat) (xs : List De) : Prop :=
  xs.length = n ∧ n ≤ 4611686018427387904 ∧ (0 < n → ∃ b o, A = some ⟨b, o, none⟩ ∧ b < B ∧ ∀ j, j < n → De.lies B w b o j (xs.getD j noDe))
theorem SlD.below {B B' : Nat} {w w' : World} {A : Option Addr} {n : Nat} {xs : List De} (h : SlD B w A n xs) (hb : Below B' w w') (hB : B ≤ B') : SlD B w' A n xs := by
  refine ⟨h.1, h.2.1, fun hn => ?_⟩
  obtain ⟨b, o, rfl, hlt, hc⟩ := h.2.2 hn
  exact ⟨b, o, rfl, hlt, fun j hj => (hc j hj).below hb hB hlt⟩
theorem SlD.up {B B' : Nat} {w : World} {A : Option Addr} {n : Nat} {xs : List De} (h : SlD B w A n xs) (hB : B ≤ B') : SlD B' w A n xs := by
  refine ⟨h.1, h.2.1, fun hn => ?_⟩
  obtain ⟨b, o, rfl, hlt, hc⟩ := h.2.2 hn
  exact ⟨b, o, rfl, Nat.lt_of_lt_of_le hlt hB, fun j hj => (hc j hj).up hB⟩
theorem drop_getD {α : Type} (xs : List α) (k : Nat) (d : α) (h : k < xs.length) : xs.drop k = xs.getD k d :: xs.drop (k + 1) := by
  rw [List.drop_eq_getElem_cons h]; simp [List.getD, h]
theorem _root_.Go.Calls.as {P : Program} {f : FuncId} {args : Array Value} {w : World} {R : World → Prop} {x v : Bool} (h : Calls P f args w fun e w' => e = .returned (.bool x) ∧ R w') (hv : x = v) : Calls P f args w fun e w' => e = .returned (.bool v) ∧ R w' := hv ▸ h
theorem ret_bool {a b : Bool} (h : a = b) : Ending.returned (.bool a) = .returned (.bool b) := by rw [h]
theorem ret_int {k : IntKind} {a b : Int} (h : a = b) : Ending.returned (.int k a) = .returned (.int k b) := by rw [h]
theorem ret_str {a b : ByteArray} (h : a = b) : Ending.returned (.string a) = .returned (.string b) := by rw [h]
end Go.Proofs.YtbldegmanbmpmaaGreatDoor
