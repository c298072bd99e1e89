/- A slice of the call's own that grows, beside blocks of its own: words. -/
import Derived.Test.YtbldegmanbmpmaaGreatDoorA0
import Derived.Laws.OwnMore
namespace Go.Proofs.YtbldegmanbmpmaaGreatDoor
open Go.RowKit Go.Shelf
theorem grown_of_below {W W' : World} (h : Below W.heap.size W W') (row : Option Nat) : W.grownBy W' row := ⟨h.os, h.tape, h.output, h.size, fun k hk _ => h.block k hk⟩
theorem own_call {W W' : World} {base : Nat} {e : TypeId} {size : Nat} {v : Value} {n : Nat} {xs : List Value} (h : W.ownsRow base e size v n xs) (hk : Below W.heap.size W W') : W'.ownsRow base e size v n xs :=
  h.kept (grown_of_below hk none) (by cases hv : v.ownBlock <;> simp)
theorem own_drew {W : World} {base : Nat} {e : TypeId} {size : Nat} {v : Value} {n : Nat} {xs : List Value} (h : W.ownsRow base e size v n xs) : W.drew.ownsRow base e size v n xs := h
theorem own_set {W : World} {base : Nat} {e : TypeId} {size : Nat} {v : Value} {n : Nat} {xs : List Value} (h : W.ownsRow base e size v n xs) {p : Addr} (hp : p.block < base) (u : Value) : (W.setCell p u).ownsRow base e size v n xs := ownsRow_setCell_below h hp u
theorem Inv.grown {w0 W W' : World} {bs : List (Nat × TypeId × List Value)} {row : Option Nat} {B : Nat} (h : Inv w0 W bs) (hg : W.grownBy W' row) (hr : ∀ k, row = some k → B ≤ k) (hB : w0.heap.size ≤ B) (hb : ∀ x ∈ bs, x.1 < B) : Inv w0 W' bs :=
  ⟨h.1.grown hg h.1.size (fun k e => Nat.le_trans hB (hr k e)), fun x hx => (hg.block x.1 (h.2 x hx).lt (fun e => by have := hr _ e.symm; have := hb x hx; omega)).trans (h.2 x hx)⟩
/-- Blocks of the call's own, and a slice of its own that grows (its row lies at or beyond B). -/
def Gro (w0 W : World) (bs : List (Nat × TypeId × List Value)) (B : Nat) (e : TypeId) (size : Nat) (v : Value) (n : Nat) (xs : List Value) : Prop := Inv w0 W bs ∧ W.ownsRow B e size v n xs
section
variable {w0 W W' : World} {bs : List (Nat × TypeId × List Value)} {B : Nat} {e : TypeId} {size : Nat} {v : Value} {n : Nat} {xs : List Value}
theorem Gro.call (h : Gro w0 W bs B e size v n xs) (hk : Below W.heap.size W W') : Gro w0 W' bs B e size v n xs := ⟨h.1.call hk, own_call h.2 hk⟩
theorem Gro.alloc (h : Gro w0 W bs B e size v n xs) (o : Obj) : Gro w0 (W.alloc o) bs B e size v n xs := ⟨h.1.alloc o, h.2.alloc o⟩
theorem Gro.drew (h : Gro w0 W bs B e size v n xs) : Gro w0 W.drew bs B e size v n xs := ⟨h.1.drew, h.2⟩
theorem Gro.start (h : Inv w0 W bs) (B : Nat) (e : TypeId) (size : Nat) : Gro w0 W bs B e size (.slice none 0 0) 0 [] := ⟨h, W.ownsRow_nil B e size⟩
/-- Behind an append. -/
theorem Gro.app {v' : Value} {n' : Nat} {ys : List Value} (h : Gro w0 W bs B e size v n xs) (hB : w0.heap.size ≤ B) (hb : ∀ x ∈ bs, x.1 < B) (ho : W'.ownsRow B e size v' n' ys) (hg : W.grownBy W' v.ownBlock) : Gro w0 W' bs B e size v' n' ys :=
  ⟨h.1.grown hg (fun k e => (h.2.lt k e).1) hB hb, ho⟩
end
end Go.Proofs.YtbldegmanbmpmaaGreatDoor
