/- The program's reader of a line: what it returns. -/
import Derived.RangeFuncNested
import Derived.RangeFuncBound
import Derived.RangeFuncCalls
import Derived.RangeFuncLeaves
import Derived.Shelf.Abstract
import Derived.Shelf.RegionOpen
import Derived.WalkKit
import Derived.OwnWalkIn
import Derived.TacticsInMore
import Derived.LoopNIn
import Derived.LoopIn
import Derived.Test.YtbldegmanbmpmaaGreatDoorD2
import Derived.Test.YtbldegmanbmpmaaGreatDoorA6
import Derived.Test.YtbldegmanbmpmaaGreatDoorA7
namespace Go.Proofs.YtbldegmanbmpmaaGreatDoor
open Go.RowKit Go.Shelf
attribute [local go_sem] Oper.semAt_some
def DeedIs (n : Int) (t : List UInt8) (whole : Bool) (w : World) (e : Ending) (w' : World) : Prop :=
  ∃ word A m c sl b, e = .returned (.tuple #[.agg #[.string word, .slice A m c], .int .i64 sl, .bool b]) ∧
    (b = true → ∃ xs, whole = true ∧ deedOf n t = some (⟨word, xs⟩, sl) ∧ SlI w'.heap.size w' A m xs ∧ ∀ a, A = some a → w.heap.size ≤ a.block ∧ a.block < w'.heap.size) ∧
    (b = false → whole = false ∨ deedOf n t = none) ∧ Below w.heap.size w w'
/-- The cells of the three results. -/
structure FS (w W : World) (u v x y : Value) : Prop where
  below : Below w.heap.size w W
  deed : Box W (w.heap.size + 1) 37 [u, v]
  num : Box W (w.heap.size + 1 + 1) 3 [x]
  good : Box W (w.heap.size + 1 + 1 + 1) 4 [y]
section
variable {w W W' : World} {u v x y : Value}
theorem FS.call (h : FS w W u v x y) (hk : Below W.heap.size W W') : FS w W' u v x y := ⟨h.below.trans (hk.mono h.below.size), h.deed.keep hk, h.num.keep hk, h.good.keep hk⟩
theorem FS.drew (h : FS w W u v x y) : FS w W.drew u v x y := h.call (Below.refl _ _).drew
theorem FS.put {D : Nat} (h : FS w W u v x y) (hD : w.heap.size + 1 + 1 + 1 < D) (o : Obj) : FS w (W.putObj D o) u v x y :=
  ⟨h.below.grown (grownBy_putObj' W D o) h.below.size (fun k e => by cases e; omega), ((grownBy_putObj' W D o).block _ h.deed.lt (fun e => by cases e; omega)).trans h.deed, ((grownBy_putObj' W D o).block _ h.num.lt (fun e => by cases e; omega)).trans h.num, ((grownBy_putObj' W D o).block _ h.good.lt (fun e => by cases e; omega)).trans h.good⟩
theorem FS.set1 (h : FS w W u v x y) (u' : Value) : FS w (W.setCell ⟨w.heap.size + 1, 0, none⟩ u') u' v x y :=
  ⟨h.below.setCell (p := ⟨w.heap.size + 1, 0, none⟩) (by dsimp only; omega) _, h.deed.set 0 _, h.num.other (by dsimp only; omega) _, h.good.other (by dsimp only; omega) _⟩
theorem FS.set1' (h : FS w W u v x y) (v' : Value) : FS w (W.setCell ⟨w.heap.size + 1, 1, none⟩ v') u v' x y :=
  ⟨h.below.setCell (p := ⟨w.heap.size + 1, 1, none⟩) (by dsimp only; omega) _, h.deed.set 1 _, h.num.other (by dsimp only; omega) _, h.good.other (by dsimp only; omega) _⟩
theorem FS.set2 (h : FS w W u v x y) (x' : Value) : FS w (W.setCell ⟨w.heap.size + 1 + 1, 0, none⟩ x') u v x' y :=
  ⟨h.below.setCell (p := ⟨w.heap.size + 1 + 1, 0, none⟩) (by dsimp only; omega) _, h.deed.other (by dsimp only; omega) _, h.num.set 0 _, h.good.other (by dsimp only; omega) _⟩
theorem FS.set3 (h : FS w W u v x y) (y' : Value) : FS w (W.setCell ⟨w.heap.size + 1 + 1 + 1, 0, none⟩ y') u v x y' :=
  ⟨h.below.setCell (p := ⟨w.heap.size + 1 + 1 + 1, 0, none⟩) (by dsimp only; omega) _, h.deed.other (by dsimp only; omega) _, h.num.other (by dsimp only; omega) _, h.good.set 0 _⟩
theorem FS.stored (h : FS w W u v x y) (x' y' : Value) : FS w ((((W.setCell ⟨w.heap.size + 1, 0, none⟩ u).setCell ⟨w.heap.size + 1, 1, none⟩ v).setCell ⟨w.heap.size + 1 + 1, 0, none⟩ x').setCell ⟨w.heap.size + 1 + 1 + 1, 0, none⟩ y') u v x' y' :=
  (((h.set1 u).set1' v).set2 x').set3 y'
end
def NoDeed (n : Int) (t : List UInt8) (whole : Bool) : Prop := whole = false ∨ deedOf n t = none
theorem deed_no {n : Int} {t : List UInt8} {whole : Bool} {w w' : World} {word : ByteArray} {A : Option Addr} {m c : Nat} {sl : Int} (h : NoDeed n t whole) (hb : Below w.heap.size w w') : DeedIs n t whole w (.returned (.tuple #[.agg #[.string word, .slice A m c], .int .i64 sl, .bool false])) w' :=
  ⟨_, _, _, _, _, _, rfl, fun e => (by cases e), fun _ => h, hb⟩
theorem split_list (s : ByteArray) : (Lib.splitB ⟨#[124]⟩ 0 (Lib.countB s ⟨#[124]⟩) s).map (·.data.toList) = parts 124 s.data.toList := by
  rw [Lib.splitB_data]; exact split_eq 124 s.data.toList
theorem split_count (s : ByteArray) : Lib.countB s ⟨#[124]⟩ + 1 = (parts 124 s.data.toList).length := by
  rw [← split_list, List.length_map, Lib.splitB_all ⟨#[124]⟩ (by decide) 0 _ s rfl]
theorem split_cell (s : ByteArray) (w : World) (j : Nat) (p : List UInt8) (h : (parts 124 s.data.toList)[j]? = some p) :
    (w.alloc (.cells ((Lib.splitB ⟨#[124]⟩ 0 (Lib.countB s ⟨#[124]⟩) s).map Value.string).toArray 9)).cell? ⟨w.heap.size, j, none⟩ = some (.string ⟨p.toArray⟩) := by
  rw [(Box.new w 9 _).cell j, List.getElem?_map]
  rw [← split_list, List.getElem?_map] at h
  cases hx : (Lib.splitB ⟨#[124]⟩ 0 (Lib.countB s ⟨#[124]⟩) s)[j]? with
  | none => rw [hx] at h; cases h
  | some x =>
    rw [hx] at h
    simp only [Option.map_some, Option.some.injEq] at h
    subst h
    rfl
theorem canons_all (P : List (List UInt8)) : ∀ (acc xs : List Int), P.map canon = xs.map some → canonsFrom acc P = some (acc ++ xs) := by
  induction P with
  | nil => intro acc xs h; cases xs with
    | nil => simp [canonsFrom]
    | cons x xs => cases h
  | cons p P ih => intro acc xs h; cases xs with
    | nil => cases h
    | cons x xs =>
      simp only [List.map_cons, List.cons.injEq] at h
      rw [canonsFrom, h.1]
      simp only []
      rw [ih _ xs h.2]; simp
theorem KpB.grown {lo b1 b2 : Nat} {W W' : World} {row : Option Nat} (hg : W.grownBy W' row) (hr : ∀ r, row = some r → lo ≤ r ∧ (r < b1 ∨ b2 < r)) : KpB lo b1 b2 W W' :=
  ⟨hg.size, fun b hb hl => hg.block b hl (fun e => by have := hr b e.symm; omega)⟩
theorem KpB.call {lo b1 b2 : Nat} {W W' : World} (hk : Below W.heap.size W W') : KpB lo b1 b2 W W' := KpB.grown (grown_of_below hk none) (fun r e => by cases e)
theorem KpB.setc {lo b1 b2 : Nat} (W : World) (p : Addr) (u : Value) (h : lo ≤ p.block) (h2 : p.block < b1 ∨ b2 < p.block) : KpB lo b1 b2 W (W.setCell p u) :=
  ⟨by simp [World.setCell], fun b hb hl => Below.heap_setCell W p u b (by omega)⟩
theorem KeepsFrom.call {B : Nat} {W W' : World} (hk : Below W.heap.size W W') : KeepsFrom B W W' := KeepsFrom.of_grownBy (grown_of_below hk none) (fun r e => by cases e)
theorem KeepsFrom.own {B base : Nat} {W W' : World} {v : Value} {e : TypeId} {size n : Nat} {cs : List Value} (h : W.ownsRow base e size v n cs) (hg : W.grownBy W' v.ownBlock) : KeepsFrom B W W' := by
  refine ⟨hg.size, fun k o hB hk ho => (hg.block k (Array.getElem?_eq_some_iff.1 hk).1 (fun e => ?_)).trans hk⟩
  rcases h.2 with ⟨rfl, _⟩ | ⟨g, cap, cur, rfl, _, hgg, _⟩
  · cases e
  · have e' : k = g := by simpa [Value.ownBlock] using e
    subst e'
    rw [hgg] at hk; cases hk; cases ho
theorem KeepsFrom.setc {B : Nat} (W : World) (p : Addr) (u : Value) : KeepsFrom B W (W.setCell p u) := (KeepsOthers.setCell W p u).from B
/-- What the reader of a line holds between two numbers. -/
structure LpS (w w3 W : World) (Bt : Nat) (word : ByteArray) (v : Value) (xs : List Int) : Prop where
  below : Below w.heap.size w W
  size : w3.heap.size ≤ W.heap.size
  frame : ∀ b, b < w3.heap.size → b ≠ w.heap.size + 1 → b ≠ Bt → W.heap[b]? = w3.heap[b]?
  box : Box W (w.heap.size + 1) 37 [.string word, v]
  own : W.ownsRow w3.heap.size 3 1 v xs.length (xs.map (Value.int .i64))
section
variable {w w3 W W' : World} {Bt : Nat} {word : ByteArray} {v : Value} {xs : List Int}
theorem LpS.call (h : LpS w w3 W Bt word v xs) (hk : Below W.heap.size W W') : LpS w w3 W' Bt word v xs :=
  ⟨h.below.trans (hk.mono h.below.size), Nat.le_trans h.size hk.size, fun b hb hD hT => (hk.block b (Nat.lt_of_lt_of_le hb h.size)).trans (h.frame b hb hD hT), h.box.keep hk, own_call h.own hk⟩
theorem LpS.alloc (h : LpS w w3 W Bt word v xs) (o : Obj) : LpS w w3 (W.alloc o) Bt word v xs := h.call ((Below.refl _ _).alloc (Nat.le_refl _) o)
theorem own_ab {row : Option Nat} {base : Nat} {e : TypeId} {size n : Nat} {cs : List Value} (h : W.ownsRow base e size v n cs) (hg : W.grownBy W' row) (hr : ∀ r, row = some r → r < base ∨ ∃ o : Obj, W.heap[r]? = some o ∧ o.isCells = false) : W'.ownsRow base e size v n cs := by
  refine h.kept hg ?_
  rcases h.2 with ⟨rfl, _⟩ | ⟨g, cap, cur, rfl, hB, hgg, _⟩
  · exact .inl rfl
  · refine .inr (fun e => ?_)
    have e' : row = some g := e.symm
    rcases hr g e' with h1 | ⟨o, h1, h2⟩
    · omega
    · rw [hgg] at h1; cases h1; cases h2
theorem LpS.ab {row : Option Nat} (h : LpS w w3 W Bt word v xs) (hT : w.heap.size + 1 < Bt) (hT3 : Bt < w3.heap.size) (hg : W.grownBy W' row) (hr : ∀ r, row = some r → r = Bt ∨ (w3.heap.size ≤ r ∧ ∃ o : Obj, W.heap[r]? = some o ∧ o.isCells = false)) : LpS w w3 W' Bt word v xs := by
  refine ⟨h.below.grown hg h.below.size (fun k e => by rcases hr k e with h | ⟨h, _⟩ <;> omega), Nat.le_trans h.size hg.size, fun b hb hD hbT => ?_, ?_, own_ab h.own hg (fun r e => by rcases hr r e with h | ⟨_, h⟩; exact .inl (by omega); exact .inr h)⟩
  · exact (hg.block b (Nat.lt_of_lt_of_le hb h.size) (fun e => by rcases hr b e.symm with h | ⟨h, _⟩ <;> omega)).trans (h.frame b hb hD hbT)
  · exact (hg.block _ h.box.lt (fun e => by rcases hr _ e.symm with h | ⟨h, _⟩ <;> omega)).trans h.box
theorem LpS.boxAt {o : Obj} (h : LpS w w3 W Bt word v xs) (hD3 : w.heap.size + 1 < w3.heap.size) (hg : (W.alloc o).grownBy W' v.ownBlock) : Box W' (w.heap.size + 1) 37 [.string word, v] :=
  (hg.block _ (h.alloc o).box.lt (fun e => by have := (h.own.lt _ e.symm).1; omega)).trans (h.alloc o).box
theorem LpS.app {v' : Value} {x : Int} (h : LpS w w3 W Bt word v xs) (hT3 : w.heap.size + 1 < w3.heap.size) (ho : W'.ownsRow w3.heap.size 3 1 v' (xs.length + 1) (xs.map (Value.int .i64) ++ [.int .i64 x])) (hg : W.grownBy W' v.ownBlock) :
    LpS w w3 (W'.setCell ⟨w.heap.size + 1, 1, none⟩ v') Bt word v' (xs ++ [x]) := by
  have hr : ∀ k, v.ownBlock = some k → w3.heap.size ≤ k := fun k e => (h.own.lt k e).1
  have B1 : Box W' (w.heap.size + 1) 37 [.string word, v] := (hg.block _ h.box.lt (fun e => by have := hr _ e.symm; omega)).trans h.box
  refine ⟨(h.below.grown hg h.below.size (fun k e => by have := hr k e; omega)).setCell (p := ⟨w.heap.size + 1, 1, none⟩) (by dsimp only; omega) _, ?_, ?_, by simpa using B1.set 1 v', ?_⟩
  · have := hg.size; have := h.size; simp [World.setCell]; omega
  · intro b hb hbD hbT
    rw [Below.heap_setCell _ _ _ _ hbD]
    exact (hg.block b (Nat.lt_of_lt_of_le hb h.size) (fun e => by have := hr b e.symm; omega)).trans (h.frame b hb hbD hbT)
  · rw [List.length_append, List.length_singleton, List.map_append]
    exact own_set ho (p := ⟨w.heap.size + 1, 1, none⟩) (by dsimp only; omega) v'
theorem LpS.fs {u v' : Value} (h : LpS w w3 W Bt word v xs) (hF : FS w w3 u v' (.int .i64 0) (.bool false)) (hT : w.heap.size + 1 + 1 + 1 < Bt) : FS w W (.string word) v (.int .i64 0) (.bool false) :=
  ⟨h.below, h.box, (h.frame _ hF.num.lt (by omega) (by omega)).trans hF.num, (h.frame _ hF.good.lt (by omega) (by omega)).trans hF.good⟩
theorem FS.ab {row : Option Nat} {B : Nat} {u v x y : Value} (h : FS w W u v x y) (hT : w.heap.size + 1 + 1 + 1 < Bt) (hT3 : w.heap.size + 1 + 1 + 1 < B) (hg : W.grownBy W' row) (hr : ∀ r, row = some r → r = Bt ∨ (B ≤ r ∧ ∃ o : Obj, W.heap[r]? = some o ∧ o.isCells = false)) : FS w W' u v x y := by
  refine ⟨h.below.grown hg h.below.size (fun k e => by rcases hr k e with h | ⟨h, _⟩ <;> omega), (hg.block _ h.deed.lt (fun e => by rcases hr _ e.symm with h | ⟨h, _⟩ <;> omega)).trans h.deed, (hg.block _ h.num.lt (fun e => by rcases hr _ e.symm with h | ⟨h, _⟩ <;> omega)).trans h.num, (hg.block _ h.good.lt (fun e => by rcases hr _ e.symm with h | ⟨h, _⟩ <;> omega)).trans h.good⟩
end
/-- What the reader of a line holds behind the loop. -/
structure DnS (w w3 W : World) (D : Nat) (word : ByteArray) (v x y : Value) (xs : List Int) : Prop where
  fs : FS w W (.string word) v x y
  own : W.ownsRow w3.heap.size 3 1 v xs.length (xs.map (Value.int .i64))
  dfr : W.heap[D]? = some (.deferred (some []))
section
variable {w w3 W W' : World} {D : Nat} {word : ByteArray} {v x y : Value} {xs : List Int}
theorem DnS.call (h : DnS w w3 W D word v x y xs) (hk : Below W.heap.size W W') : DnS w w3 W' D word v x y xs := ⟨h.fs.call hk, own_call h.own hk, (hk.block D (Array.getElem?_eq_some_iff.1 h.dfr).1).trans h.dfr⟩
theorem DnS.alloc (h : DnS w w3 W D word v x y xs) (o : Obj) : DnS w w3 (W.alloc o) D word v x y xs := h.call ((Below.refl _ _).alloc (Nat.le_refl _) o)
theorem DnS.drew (h : DnS w w3 W D word v x y xs) : DnS w w3 W.drew D word v x y xs := h.call (Below.refl _ _).drew
theorem DnS.set1 (h : DnS w w3 W D word v x y xs) (h3 : w.heap.size + 1 + 1 + 1 < w3.heap.size) (hD : w3.heap.size ≤ D) : DnS w w3 ((W.setCell ⟨w.heap.size + 1, 0, none⟩ (.string word)).setCell ⟨w.heap.size + 1, 1, none⟩ v) D word v x y xs :=
  ⟨(h.fs.set1 _).set1' _, own_set (own_set h.own (p := ⟨w.heap.size + 1, 0, none⟩) (by dsimp only; omega) _) (p := ⟨w.heap.size + 1, 1, none⟩) (by dsimp only; omega) _, (Below.heap_setCell _ _ _ _ (by dsimp only; omega)).trans ((Below.heap_setCell _ _ _ _ (by dsimp only; omega)).trans h.dfr)⟩
theorem DnS.set2 (h : DnS w w3 W D word v x y xs) (h3 : w.heap.size + 1 + 1 + 1 < w3.heap.size) (hD : w3.heap.size ≤ D) (x' : Value) : DnS w w3 (W.setCell ⟨w.heap.size + 1 + 1, 0, none⟩ x') D word v x' y xs :=
  ⟨h.fs.set2 _, own_set h.own (p := ⟨w.heap.size + 1 + 1, 0, none⟩) (by dsimp only; omega) _, (Below.heap_setCell _ _ _ _ (by dsimp only; omega)).trans h.dfr⟩
theorem DnS.set3 (h : DnS w w3 W D word v x y xs) (h3 : w.heap.size + 1 + 1 + 1 < w3.heap.size) (hD : w3.heap.size ≤ D) (y' : Value) : DnS w w3 (W.setCell ⟨w.heap.size + 1 + 1 + 1, 0, none⟩ y') D word v x y' xs :=
  ⟨h.fs.set3 _, own_set h.own (p := ⟨w.heap.size + 1 + 1 + 1, 0, none⟩) (by dsimp only; omega) _, (Below.heap_setCell _ _ _ _ (by dsimp only; omega)).trans h.dfr⟩
theorem DnS.ends (h : DnS w w3 W D word v x y xs) (h3 : w.heap.size + 1 + 1 + 1 < w3.heap.size) (hD : w3.heap.size ≤ D) : FS w (W.putObj D (.deferred none)) (.string word) v x y ∧ (W.putObj D (.deferred none)).ownsRow w3.heap.size 3 1 v xs.length (xs.map (Value.int .i64)) :=
  ⟨h.fs.put (by omega) _, own_ab h.own (grownBy_putObj' W D _) (fun r e => by cases e; exact .inr ⟨_, h.dfr, rfl⟩)⟩
theorem LpS.dn {Bt : Nat} {u v' : Value} (h : LpS w w3 W Bt word v xs) (hF : FS w w3 u v' (.int .i64 0) (.bool false)) (hT : w.heap.size + 1 + 1 + 1 < Bt) (hK : W.heap[D]? = some (.deferred (some []))) : DnS w w3 W D word v (.int .i64 0) (.bool false) xs := ⟨h.fs hF hT, h.own, hK⟩
end
theorem DnS.sli {w w3 W : World} {D : Nat} {word : ByteArray} {x y : Value} {xs : List Int} {A : Option Addr} {c : Nat} (h : DnS w w3 W D word (.slice A xs.length c) x y xs) (hn : xs.length ≤ 20001) : SlI W.heap.size W A xs.length xs := by
  obtain ⟨A', c', e, hs, _⟩ := sli_of_own h.own (by omega)
  injection e with e1 e2 e3
  subst e1
  exact hs
theorem inAll_one (lo hi x : Int) : inAll lo hi [x] = inn lo hi x := by simp [inAll]
theorem deed_yes {n : Int} {t : List UInt8} {w w3 W : World} {word : ByteArray} {v : Value} {ns : Int} {fin : Bool} {ys : List Int} {A : Option Addr} {c : Nat} (hv : v = .slice A ys.length c) (hF : FS w W (.string word) v (.int .i64 ns) (.bool fin)) (ho : W.ownsRow w3.heap.size 3 1 v ys.length (ys.map (Value.int .i64))) (hw : w.heap.size ≤ w3.heap.size) (hn : ys.length ≤ 20001)
    (h1 : fin = true → deedOf n t = some (⟨word, ys⟩, ns)) (h2 : fin = false → deedOf n t = none) : DeedIs n t true w (.returned (.tuple #[.agg #[.string word, .slice A ys.length c], .int .i64 ns, .bool fin])) W := by
  subst hv
  obtain ⟨A', c', e, hs, hf⟩ := sli_of_own ho (by omega)
  injection e with e1 e2 e3
  subst e1 e3
  exact ⟨word, A, ys.length, c, ns, fin, rfl, fun h => ⟨ys, rfl, h1 h, hs, fun a ea => by have := hf a ea; exact ⟨by omega, this.2⟩⟩, fun h => .inr (h2 h), hF.below⟩
set_option maxRecDepth 100000 in
set_option maxHeartbeats 4000000 in
theorem c22 (s : ByteArray) (whole : Bool) (n : Nat) (hs : s.size ≤ 20000) (hn : n ≤ 20001) (w : World) (hok : Ok w) :
    Calls Tryz.prog 22 #[.agg #[.string s, .bool whole], .int .i64 n] w (DeedIs n s.data.toList whole w) := by
  have HO := Lib.hid hok
  clear hok
  refine (callsIn_wide (n := 5)).1 ?_
  refine callsIn_of_wp_marks Tryz.func22 rfl trivial ?_ rfl
  simp only [Tryz.ntmps22, List.size_toArray, List.length_cons, List.length_nil, Nat.reduceAdd, Nat.reduceSub, Array.replicate_succ, Array.replicate_zero, List.push_toArray, List.append_toArray, List.nil_append, List.cons_append]
  refine wpIn_wide.2 ?_
  obtain ⟨m, hm⟩ := HO.out.most
  have I0 := (((Inv.start w).new 56 [.string s, .bool whole]).new 37 [.string { data := #[] }, .slice none 0 0]).new 3 [.int .i64 0]
  have I1 := I0.new 4 [.bool false]
  have HI := Lib.hid I1
  have hm4 := (I1.1.cell (p := ⟨1, 0, none⟩) (cell_lt hm)).trans hm
  have HM := Lib.hid hm4
  clear I0 I1 hm hm4
  go_wp2_with (fail)
  refine (Tryz.strings_Split s ⟨#[124]⟩ m _ (by omega) HM.out (by decide)).mono ?_
  rintro e wa ⟨rfl, hwa⟩
  have HCS : Hid (∀ j p, (parts 124 s.data.toList)[j]? = some p → wa.cell? ⟨w.heap.size + 1 + 1 + 1 + 1, j, none⟩ = some (.string ⟨p.toArray⟩)) := by rw [hwa]; intro j p h; have := split_cell s ((((w.alloc (.cells #[.string s, .bool whole] 56)).alloc (.cells #[.string { data := #[] }, .slice none 0 0] 37)).alloc (.cells #[.int .i64 0] 3)).alloc (.cells #[.bool false] 4)) j p h; simpa only [World.size_alloc] using this
  have hkA : Below ((((w.alloc (.cells #[.string s, .bool whole] 56)).alloc (.cells #[.string { data := #[] }, .slice none 0 0] 37)).alloc (.cells #[.int .i64 0] 3)).alloc (.cells #[.bool false] 4)).heap.size ((((w.alloc (.cells #[.string s, .bool whole] 56)).alloc (.cells #[.string { data := #[] }, .slice none 0 0] 37)).alloc (.cells #[.int .i64 0] 3)).alloc (.cells #[.bool false] 4)) wa := by rw [hwa]; exact (Below.refl _ _).alloc (Nat.le_refl _) _
  have hszA : w.heap.size + 1 + 1 + 1 + 1 < wa.heap.size := by rw [hwa]; simp
  have I1 := HI.out.call hkA
  have FA : FS w wa (.string { data := #[] }) (.slice none 0 0) (.int .i64 0) (.bool false) := by
    refine ⟨I1.1, ?_, ?_, ?_⟩
    · have := I1.box3; simpa using this
    · have := I1.box2; simpa using this
    · have := I1.box; simpa using this
  have BA : Box wa w.heap.size 56 [.string s, .bool whole] := I1.2 (w.heap.size, 56, [.string s, .bool whole]) (by simp)
  rw [split_count]
  simp only [World.size_alloc]
  clear hwa hkA I1 HI
  have HFL := Lib.hid (fun (W : World) (hW : Below wa.heap.size wa W) => (hW.cell (p := ⟨w.heap.size, 1, none⟩) BA.lt).trans (BA.cell 1))
  have hlen := parts_len 124 s.data.toList
  rw [← Lib.size_eq] at hlen
  have HOA : Hid (Ok wa) := HO.out.below (FA.below)
  have hszw : w.heap.size < wa.heap.size := by omega
  clear BA HM
  cases whole
  · have HD : Hid (NoDeed (n : Int) s.data.toList false) := Or.inl rfl
    generalize (parts 124 s.data.toList).length = L at *
    go_wp2_with (fail)
    refine wp_region_seq (fun W => Below wa.heap.size wa W) [(0, true), (1, true), (2, true), (3, true), (4, true), (5, true), (6, true), (7, true), (8, true), (9, true), (10, true), (11, true), (12, true), (13, false), (14, true), (15, true)] (by kernel_rfl) (by kernel_rfl) rfl (by kernel_rfl) ((Below.refl _ _).drew) (fun K1 hK1 hS => ?_)
    repeat (first | (refine seq_skip (by simp only [List.getElem?_toArray, List.getElem?_cons_succ, List.getElem?_cons_zero] <;> rfl) (by rfl) (by assumption) ?_; simp only [Act.put, List.setIfInBounds_toArray, List.set_cons_zero, List.set_cons_succ]) | (refine seq_take (v := ?_) (by simp only [List.getElem?_toArray, List.getElem?_cons_succ, List.getElem?_cons_zero] <;> rfl) (by rfl) (fun W hW => ?_) ?_; rotate_left; (· have q0 := HFL.out W hW; go_simp; with_reducible rfl); simp only [Act.put, List.setIfInBounds_toArray, List.set_cons_zero, List.set_cons_succ]))
    refine seq_end hK1 ?_; clear hK1 K1
    clear hS
    have F9 := Lib.hid (FA)
    obtain ⟨x0, x1, x2, x3⟩ := F9.out.deed.facts2
    obtain ⟨x4, x5⟩ := F9.out.num.facts1
    obtain ⟨x6, x7⟩ := F9.out.good.facts1
    go_wp2
    clear x0 x1 x2 x3 x4 x5 x6 x7
    have G9 := (F9.out.stored (.int .i64 0) (.bool false)).drew
    obtain ⟨b0, b1, _, _⟩ := G9.deed.facts2
    obtain ⟨b2, _⟩ := G9.num.facts1
    obtain ⟨b3, _⟩ := G9.good.facts1
    refine ⟨.tuple #[.agg #[.string { data := #[] }, .slice none 0 0], .int .i64 0, .bool false], by simp [results, Tryz.results22, go_sem, b0, b1, b2, b3], deed_no HD.out G9.below⟩
  by_cases h4 : (parts 124 s.data.toList).length = 4
  · obtain ⟨a, b, c, d, hp⟩ := four h4
    have hla := hlen.2 a (by rw [hp]; simp)
    have hlb := hlen.2 b (by rw [hp]; simp)
    have hlc := hlen.2 c (by rw [hp]; simp)
    have hld := hlen.2 d (by rw [hp]; simp)
    have HP := Lib.hid hp
    have HC1 : Hid (∀ j p, [a, b, c, d][j]? = some p → wa.cell? ⟨w.heap.size + 1 + 1 + 1 + 1, j, none⟩ = some (.string ⟨p.toArray⟩)) := by rw [← hp]; exact HCS
    have p0 := HC1.out 0 a rfl
    have HCW := Lib.hid (fun (W : World) (hW : Below wa.heap.size wa W) => (hW.cell (p := ⟨w.heap.size + 1 + 1 + 1 + 1, 0, none⟩) hszA).trans p0)
    rw [hp]
    clear hp h4 hlen HCS p0
    by_cases ha : a = Lib.itoa n
    · have ee : (a == Lib.itoa (n : Int)) = true := by rw [beq_iff_eq]; exact ha
      have HA := Lib.hid ha
      clear ha
      go_wp2_with (fail)
      refine wp_region_seq (fun W => Below wa.heap.size wa W) [(0, true), (1, true), (2, true), (3, true), (4, true), (5, true), (6, true), (7, true), (8, true), (9, true), (10, true), (11, true), (12, true), (13, false), (14, true), (15, true)] (by kernel_rfl) (by kernel_rfl) rfl (by kernel_rfl) ((Below.refl _ _).drew) (fun K1 hK1 hS => ?_)
      repeat (first | (refine seq_skip (by simp only [List.getElem?_toArray, List.getElem?_cons_succ, List.getElem?_cons_zero] <;> rfl) (by rfl) (by assumption) ?_; simp only [Act.put, List.setIfInBounds_toArray, List.set_cons_zero, List.set_cons_succ]) | (refine seq_take (v := ?_) (by simp only [List.getElem?_toArray, List.getElem?_cons_succ, List.getElem?_cons_zero] <;> rfl) (by rfl) (fun W hW => ?_) ?_; rotate_left; (· have q0 := HFL.out W hW; have q1 := HCW.out W hW; go_simp; with_reducible rfl); simp only [Act.put, List.setIfInBounds_toArray, List.set_cons_zero, List.set_cons_succ]))
      (refine seq_do (by simp only [List.getElem?_toArray, List.getElem?_cons_succ, List.getElem?_cons_zero] <;> rfl) (by rfl) (fun K hK => ?_); go_simp; refine (c14 (n : Int) (by constructor <;> omega) _ (HOA.out.below ‹Below wa.heap.size wa _›)).mono ?_; rintro e w1 ⟨rfl, hk⟩; refine hK _ _ (‹Below wa.heap.size wa _›.trans (hk.mono (by simp))) (fun hS => ?_); clear hK K; try simp only [Act.put, List.setIfInBounds_toArray, List.set_cons_zero, List.set_cons_succ])
      repeat (first | (refine seq_skip (by simp only [List.getElem?_toArray, List.getElem?_cons_succ, List.getElem?_cons_zero] <;> rfl) (by rfl) (by assumption) ?_; simp only [Act.put, List.setIfInBounds_toArray, List.set_cons_zero, List.set_cons_succ]) | (refine seq_take (v := ?_) (by simp only [List.getElem?_toArray, List.getElem?_cons_succ, List.getElem?_cons_zero] <;> rfl) (by rfl) (fun W hW => ?_) ?_; rotate_left; (· have q0 := HFL.out W hW; have q1 := HCW.out W hW; go_simp; with_reducible rfl); simp only [Act.put, List.setIfInBounds_toArray, List.set_cons_zero, List.set_cons_succ]))
      refine seq_end hK1 ?_; clear hK1 K1
      have hwb := ‹Below wa.heap.size wa _›
      have FB := FA.call hwb
      have HCB : Hid (∀ j p, [a, b, c, d][j]? = some p → w1.cell? ⟨w.heap.size + 1 + 1 + 1 + 1, j, none⟩ = some (.string ⟨p.toArray⟩)) := fun j p h => (hwb.cell (p := ⟨w.heap.size + 1 + 1 + 1 + 1, j, none⟩) hszA).trans (HC1.out j p h)
      have HOB : Hid (Ok w1) := HOA.out.below hwb
      have hszB : w.heap.size + 1 + 1 + 1 + 1 < w1.heap.size := Nat.lt_of_lt_of_le hszA hwb.size
      clear hS hwb ee HCW HC1 FA HFL HOA hszA hszw
      have q1 := HCB.out 1 b rfl
      have q2 := HCB.out 2 c rfl
      have HFB := Lib.hid FB
      obtain ⟨x0, x1, x2, x3⟩ := FB.deed.facts2
      clear FB
      go_wp2_with (fail)
      clear x0 x1 x2 x3 q1 q2
      have HFC := Lib.hid (HFB.out.set1 (.string ⟨b.toArray⟩))
      have HCC : Hid ((w1.setCell ⟨w.heap.size + 1, 0, none⟩ (.string ⟨b.toArray⟩)).cell? ⟨w.heap.size + 1 + 1 + 1 + 1, 3, none⟩ = some (.string ⟨d.toArray⟩)) := (World.cell?_of_block (Below.heap_setCell w1 _ _ _ (by dsimp only; omega))).trans (HCB.out 3 d rfl)
      have HOC : Hid (Ok (w1.setCell ⟨w.heap.size + 1, 0, none⟩ (.string ⟨b.toArray⟩))) := HO.out.below (HFC.out.below)
      have hszC : w.heap.size + 1 + 1 + 1 + 1 < (w1.setCell ⟨w.heap.size + 1, 0, none⟩ (.string ⟨b.toArray⟩)).heap.size := by simpa [World.setCell] using hszB
      generalize w1.setCell ⟨w.heap.size + 1, 0, none⟩ (.string ⟨b.toArray⟩) = w2 at HFC HCC HOC hszC ⊢
      clear HFB HCB HOB hszB
      clear hk w1
      refine (c35 ⟨c.toArray⟩ ⟨#[44]⟩ _).mono ?_
      rintro e w3 ⟨rfl, hw3⟩
      have y0 : w3.heap[w2.heap.size]? = some (.cells #[.string ⟨c.toArray⟩] 9 (0, 0)) := by rw [← hw3]; exact (Below.heap_alloc _ _ _ (by simp; omega)).trans ((Below.heap_alloc _ _ _ (by simp)).trans (World.alloc_heap_new w2 _))
      have y1 : w3.heap[w2.heap.size + 1]? = some (.cells #[.string ⟨#[44]⟩] 9 (0, 0)) := by
        rw [← hw3]; have := World.alloc_heap_new (w2.alloc (.cells #[.string ⟨c.toArray⟩] 9)) (.cells #[.string ⟨#[44]⟩] 9); rw [World.size_alloc] at this; exact (Below.heap_alloc _ _ _ (by simp)).trans this
      have y2 : w3.heap[w2.heap.size + 2]? = some (.cells #[.int .i64 0] 3 (0, 0)) := by
        rw [← hw3]; have := World.alloc_heap_new ((w2.alloc (.cells #[.string ⟨c.toArray⟩] 9)).alloc (.cells #[.string ⟨#[44]⟩] 9)) (.cells #[.int .i64 0] 3); rw [World.size_alloc, World.size_alloc] at this; exact this
      have hk3 : Below w2.heap.size w2 w3 := by rw [← hw3]; exact (((Below.refl _ _).alloc (Nat.le_refl _) _).alloc (by simp) _).alloc (by simp; omega) _
      have hsz3 : w3.heap.size = w2.heap.size + 3 := by rw [← hw3]; simp
      clear hw3
      have HF3 := Lib.hid (HFC.out.call hk3)
      have hcd := (hk3.cell (p := ⟨w.heap.size + 1 + 1 + 1 + 1, 3, none⟩) hszC).trans HCC.out
      have HC3 := Lib.hid hcd
      have HO3 : Hid (Ok w3) := HOC.out.below hk3
      have hseq := c71 (5 - 1) w.heap.size w2.heap.size ⟨c.toArray⟩ (by rw [mk_size]; omega) w3 (by omega) (by omega) y0 y1 y2
      clear y0 y1 y2 hk3 hcd HFC HCC HOC
      have hwT : w.heap.size + 1 + 1 + 1 + 1 < w2.heap.size := hszC
      have hT3 : w2.heap.size + 2 < w3.heap.size := by omega
      generalize w2.heap.size = Bt at hseq hwT hT3 hsz3 ⊢
      clear hszC hsz3
      go_wp2_with (fail)
      refine (wpIn_wide (n := 5)).1 ?_
      refine wpIn_rangeC rfl (by decide) (gf := 71) (lb := #[.pointer (some ⟨Bt + 1, 0, none⟩), .pointer (some ⟨Bt, 0, none⟩), .pointer (some ⟨Bt + 2, 0, none⟩)]) rfl trivial (enters_of Tryz.func71 (by kernel_rfl) rfl) hseq (by omega) KpB.trans (fun W l o o' h _ => KpB.put W l o' (by omega) (by omega)) (fun _ => rfl)
        (fun pre W => ∃ v xs, LpS w w3 W Bt ⟨b.toArray⟩ v xs ∧ Hid (pre.map canon = xs.map some))
        (fun cc _ W => cc = .ret ∧ NoDeed (n : Int) s.data.toList true ∧ ∃ u v, FS w W (.string u) v (.int .i64 0) (.bool false) ∧ ∃ A m c, v = .slice A m c)
        (fun pre X Y row ⟨v, xs, hL, hx⟩ hg hr => ⟨v, xs, hL.ab (by omega) (by omega) hg hr, hx⟩)
        (fun cc pre X Y row ⟨h1, h2, u, v, hF, hv⟩ hg hr => ⟨h1, h2, u, v, hF.ab (by omega) (B := w3.heap.size) (by omega) hg hr, hv⟩)
        ⟨_, [], ⟨HF3.out.below, Nat.le_refl _, fun _ _ _ _ => rfl, HF3.out.deed, w3.ownsRow_nil _ _ _⟩, rfl⟩
        (β := Unit) (fun x _ t => (t.setIfInBounds 39 (strV x)).setIfInBounds 8 (strV x))
        (fun pre x _ W => ∃ v xs, LpS w w3 W Bt ⟨b.toArray⟩ v xs ∧ Hid (pre.map canon = xs.map some))
        (fun pre x y _ X Y row ⟨v, xs, hL, hx⟩ hg hr => ⟨v, xs, hL.ab (by omega) (by omega) hg hr, hx⟩) ?assign ?body ?done ?stop
      case assign =>
        intro l pre x W K hI hK
        simp only [List.zip_toArray, List.zip_cons_cons, List.zip_nil_left, List.zip_nil_right, List.foldl_toArray, List.foldl_cons, List.foldl_nil, List.setIfInBounds_toArray, List.set_cons_zero, List.set_cons_succ] at hK ⊢
        gi_wp2
        exact hK () _ (KeepsFrom.refl _ _) ⟨Nat.le_refl _, fun _ _ _ => rfl⟩ hI
      case body =>
        rintro l pre x - W ⟨v, xs, hL, HX⟩ hpf
        simp only [List.setIfInBounds_toArray, List.set_cons_zero, List.set_cons_succ]
        have hxm : x ∈ parts 44 c := hpf.subset (by simp)
        have hplen : pre.length < 20001 := by
          have h1 := hpf.length_le
          have h2 := (parts_len 44 c).1
          simp only [List.length_append, List.length_singleton, show (⟨c.toArray⟩ : ByteArray).data.toList = c from rfl] at h1
          omega
        have hxl : x.length ≤ 20000 := Nat.le_trans ((parts_len 44 c).2 x hxm) (by omega)
        have hxs : xs.length = pre.length := by have := congrArg List.length HX.out; simpa using this.symm
        have hxl3 : xs.length < 20001 := by omega
        have HXM := Lib.hid hxm
        have HL := Lib.hid hL
        clear hxm hpf hL hxs
        gi_wp2_with (fail)
        refine ⟨trivial, CallsIn.inRound l ((callsIn_wide.2 (c36 ⟨x.toArray⟩ (by rw [mk_size]; exact hxl) _ (HO.out.below HL.out.below))).mono ?_)⟩
        rintro e W1 ⟨nn, bb, rfl, hy, hn0, hk1⟩
        simp only [show (⟨x.toArray⟩ : ByteArray).data.toList = x from rfl] at hy hn0
        have HL1 := Lib.hid (HL.out.call hk1)
        have HK1 := Lib.hid hk1
        clear hk1 HL
        cases bb
        · have HD : Hid (NoDeed (n : Int) s.data.toList true) := Or.inr (deed_num HP.out HXM.out (by unfold numTold; rw [hn0 rfl]; rfl))
          have F9 := Lib.hid (HL1.out.fs HF3.out (by omega))
          obtain ⟨x0, x1, x2, x3⟩ := F9.out.deed.facts2
          obtain ⟨x4, x5⟩ := F9.out.num.facts1
          obtain ⟨x6, x7⟩ := F9.out.good.facts1
          obtain ⟨Av, cv, hv, _⟩ := sli_of_own HL1.out.own (by omega)
          subst hv
          clear hy hn0
          gi_wp2
          clear x0 x1 x2 x3 x4 x5 x6 x7
          exact ⟨(KeepsFrom.call HK1.out).trans ((((KeepsFrom.setc _ _ _).trans (KeepsFrom.setc _ _ _)).trans (KeepsFrom.setc _ _ _)).trans (KeepsFrom.setc _ _ _)), rfl, HD.out, ⟨b.toArray⟩, _, F9.out.stored (.int .i64 0) (.bool false), _, _, _, rfl⟩
        · have HX' : Hid ((pre ++ [x]).map canon = (xs ++ [nn]).map some) := by show _ = _; rw [List.map_append, List.map_append, HX.out]; simp [hy rfl]
          obtain ⟨d0, d1, d2, d3⟩ := HL1.out.box.facts2
          have a1 := Lib.hid (cell_one_new W1 (.int .i64 nn) 3)
          have a2 : Hid (∀ u ∈ [Value.int .i64 nn], u.oneCell' = true) := by show ∀ u ∈ _, _; simp [Value.oneCell']
          have a3 : Hid (xs.length + 1 ≤ maxLen) := by show _ ≤ _; unfold maxLen; omega
          have a4 : Hid ((xs.length + 1) * 8 ≤ 140737488355328) := by show _ ≤ _; omega
          have a5 : Hid (w3.heap.size ≤ (W1.alloc (.cells #[.int .i64 nn] 3)).heap.size) := by show _ ≤ _; have := HL1.out.size; simp; omega
          obtain ⟨i0, hi, hz0, hz1, hz2⟩ := info_parts info3
          clear hy hn0 HX
          gi_wp2_with ((gi_at_builtin; refine wpListIn_append_own _ rfl _ _ 35 rfl w3.heap.size 3 i0 (.int .i64 0) 1 8 Tryz.underlying35 hi hz0 hz1 hz2 rfl (by decide) _ _ _ rfl (HL1.out.own.alloc _) ⟨W1.heap.size, 0, none⟩ 1 1 [.int .i64 nn] rfl rfl a1.out a2.out a3.out a4.out a5.out ?_; intro v' w5 hown hgrow _; obtain ⟨g', cap', rfl⟩ := ownsRow_succ hown; have B5 := HL1.out.boxAt (by omega) hgrow; obtain ⟨f0, f1, f2, f3⟩ := B5.facts2; have L2 := Lib.hid ((HL1.out.alloc _).app (by omega) hown hgrow); have KF := Lib.hid (KeepsFrom.own (B := w3.heap.size) (HL1.out.own.alloc _) hgrow); have KP := Lib.hid (KpB.grown (lo := w.heap.size) (b1 := Bt) (b2 := Bt + 2) hgrow (fun r e => by have := (HL1.out.own.lt r e).1; omega)); clear hown hgrow d0 d1 d2 d3 B5))
          exact ⟨(KeepsFrom.call HK1.out).trans (((KeepsOthers.alloc _ _).from _).trans (KF.out.trans (KeepsFrom.setc _ _ _))), (KpB.call HK1.out).trans ((KpB.call ((Below.refl _ _).alloc (Nat.le_refl _) _)).trans (KP.out.trans (KpB.setc _ _ _ (by dsimp only; omega) (by dsimp only; omega)))), _, _, L2.out, HX'⟩
      case done =>
        rintro D xs W hD rfl ⟨v, ys, hL, HX⟩ hK
        have HL := Lib.hid hL
        have HKK := Lib.hid hK
        have hlen2 := (parts_len 44 c).1
        have hys : ys.length ≤ 20001 := by
                                          have h9 : (parts 44 c).length = ys.length := by simpa using congrArg List.length HX.out
                                          omega
        have HXC : Hid (canonsFrom [] (parts 44 c) = some ys) := by show _ = _; rw [canons_all _ [] ys HX.out]; rfl
        have q3 := (World.cell?_of_block (a := ⟨w.heap.size + 1 + 1 + 1 + 1, 3, none⟩) (hL.frame _ (by dsimp only; omega) (by dsimp only; omega) (by dsimp only; omega))).trans HC3.out
        clear hK hL HX hlen2
        go_wp2_with (fail)
        clear q3
        refine (c36 ⟨d.toArray⟩ (by rw [mk_size]; omega) _ (HO.out.below HL.out.below)).mono ?_
        rintro e W1 ⟨ns, bb, rfl, hy, hn0, hk1⟩
        simp only [show (⟨d.toArray⟩ : ByteArray).data.toList = d from rfl] at hy hn0
        have h33 : w.heap.size + 1 + 1 + 1 < w3.heap.size := by omega
        have E0 := Lib.hid ((HL.out.dn HF3.out (by omega) HKK.out).call hk1)
        have HYS := Lib.hid hys
        obtain ⟨Av, cv, hv, _⟩ := sli_of_own E0.out.own (by omega)
        subst hv
        obtain ⟨x4, x5⟩ := E0.out.fs.num.facts1
        obtain ⟨x6, x7⟩ := E0.out.fs.good.facts1
        clear HL hk1 HKK
        cases bb
        · have HDN : Hid (deedOf (n : Int) s.data.toList = none) := deed_seal HP.out (by unfold numTold; rw [hn0 rfl]; rfl)
          clear hy hn0
          go_wp2_with (fail)
          clear x4 x5 x6 x7
          have E1 := (E0.out.set2 h33 hD (.int .i64 ns)).set3 h33 hD (.bool false)
          generalize (W1.setCell ⟨w.heap.size + 1 + 1, 0, none⟩ (.int .i64 ns)).setCell ⟨w.heap.size + 1 + 1 + 1, 0, none⟩ (.bool false) = WE at E1 ⊢
          clear E0
          refine wp_region_seqZ (fun W => DnS w w3 W D ⟨b.toArray⟩ (.slice Av ys.length cv) (.int .i64 ns) (.bool false) ys) 14 [(0, true), (1, true), (2, true), (3, true), (4, true), (5, false), (6, false), (7, true), (8, true), (9, true), (10, false), (11, true), (12, false), (13, false), (14, false)] (by kernel_rfl) (by kernel_rfl) rfl (by kernel_rfl) E1.drew (fun K1 hK1 hS => ?_); generalize WE.drew = WF at hS ⊢
          repeat (first | (refine zseq_skip (by simp only [List.getElem?_toArray, List.getElem?_cons_succ, List.getElem?_cons_zero] <;> rfl) (by rfl) (by assumption) ?_; simp only [Act.put, List.setIfInBounds_toArray, List.set_cons_zero, List.set_cons_succ]) | (refine zseq_take (v := ?_) (by simp only [List.getElem?_toArray, List.getElem?_cons_succ, List.getElem?_cons_zero] <;> rfl) (by rfl) (fun W hW => ?_) ?_; rotate_left; (· obtain ⟨q0, q1, q2, q3⟩ := hW.fs.deed.facts2; obtain ⟨q4, q5⟩ := hW.fs.num.facts1; obtain ⟨q6, q7⟩ := hW.fs.good.facts1; go_simp; with_reducible rfl); simp only [Act.put, List.setIfInBounds_toArray, List.set_cons_zero, List.set_cons_succ]))
          (obtain ⟨q0, q1, q2, q3⟩ := hS.fs.deed.facts2; obtain ⟨q4, q5⟩ := hS.fs.num.facts1; obtain ⟨q6, q7⟩ := hS.fs.good.facts1; refine zseq_do (by simp only [List.getElem?_toArray, List.getElem?_cons_succ, List.getElem?_cons_zero] <;> rfl) (by rfl) (fun K hK => ?_); go_simp; refine hK _ _ (hS.set1 h33 hD) (fun hS2 => ?_); clear hK K q0 q1 q2 q3 q4 q5 q6 q7; replace hS := hS2; clear hS2; try simp only [Act.put, List.setIfInBounds_toArray, List.set_cons_zero, List.set_cons_succ])
          (obtain ⟨q0, q1, q2, q3⟩ := hS.fs.deed.facts2; obtain ⟨q4, q5⟩ := hS.fs.num.facts1; obtain ⟨q6, q7⟩ := hS.fs.good.facts1; refine zseq_do (by simp only [List.getElem?_toArray, List.getElem?_cons_succ, List.getElem?_cons_zero] <;> rfl) (by rfl) (fun K hK => ?_); go_simp; refine hK _ _ (hS.set2 h33 hD _) (fun hS2 => ?_); clear hK K q0 q1 q2 q3 q4 q5 q6 q7; replace hS := hS2; clear hS2; try simp only [Act.put, List.setIfInBounds_toArray, List.set_cons_zero, List.set_cons_succ])
          (obtain ⟨q0, q1, q2, q3⟩ := hS.fs.deed.facts2; obtain ⟨q4, q5⟩ := hS.fs.num.facts1; obtain ⟨q6, q7⟩ := hS.fs.good.facts1; refine zseq_last (by simp only [List.getElem?_toArray, List.getElem?_cons_succ, List.getElem?_cons_zero] <;> rfl) (by rfl) (fun K hK => ?_); go_simp; refine hK _ _ ?_; clear hK K q0 q1 q2 q3 q4 q5 q6 q7; try simp only [Act.put, List.setIfInBounds_toArray, List.set_cons_zero, List.set_cons_succ])
          refine zseq_end hK1 ?_; clear hK1 K1
          go_wp2
          have E2 := hS.set3 h33 hD (.bool false)
          obtain ⟨F9, O9⟩ := E2.ends h33 hD
          obtain ⟨b0, b1, _, _⟩ := F9.deed.facts2
          obtain ⟨b2, _⟩ := F9.num.facts1
          obtain ⟨b3, _⟩ := F9.good.facts1
          refine ⟨by simp, .inl ⟨_, _, rfl, run_takeDeferred E2.dfr, ?_⟩⟩
          exact ⟨.tuple #[.agg #[.string ⟨b.toArray⟩, .slice Av ys.length cv], .int .i64 ns, .bool false], by simp [results, Tryz.results22, go_sem, b0, b1, b2, b3], deed_yes rfl F9 O9 (by omega) HYS.out (fun h => (by cases h)) (fun _ => HDN.out)⟩
        · generalize hgi : inn 0 65520 ns = gi
          generalize hgk : knownW ⟨⟨b.toArray⟩, ys⟩ = gk
          have HDL := Lib.hid (deed_last HP.out HA.out HXC.out (hy rfl))
          rw [hgi, hgk] at HDL
          have HGI : Hid (inAll 0 65520 [ns] = gi) := by show _ = _; rw [inAll_one]; exact hgi
          have HGK := Lib.hid hgk
          clear hy hn0 hgi hgk
          go_wp2_with (fail)
          clear x4 x5 x6 x7
          have E1 := (E0.out.set2 h33 hD (.int .i64 ns)).set3 h33 hD (.bool true)
          generalize (W1.setCell ⟨w.heap.size + 1 + 1, 0, none⟩ (.int .i64 ns)).setCell ⟨w.heap.size + 1 + 1 + 1, 0, none⟩ (.bool true) = WE at E1 ⊢
          clear E0
          cases gi
          · have HDN : Hid (deedOf (n : Int) s.data.toList = none) := by show _ = _; rw [HDL.out]; rfl
            refine wp_region_seqZ (fun W => DnS w w3 W D ⟨b.toArray⟩ (.slice Av ys.length cv) (.int .i64 ns) (.bool true) ys) 14 [(0, true), (1, true), (2, true), (3, true), (4, true), (5, false), (6, false), (7, true), (8, true), (9, true), (10, false), (11, true), (12, false), (13, false), (14, false)] (by kernel_rfl) (by kernel_rfl) rfl (by kernel_rfl) E1.drew (fun K1 hK1 hS => ?_); generalize WE.drew = WF at hS ⊢
            repeat (first | (refine zseq_skip (by simp only [List.getElem?_toArray, List.getElem?_cons_succ, List.getElem?_cons_zero] <;> rfl) (by rfl) (by assumption) ?_; simp only [Act.put, List.setIfInBounds_toArray, List.set_cons_zero, List.set_cons_succ]) | (refine zseq_take (v := ?_) (by simp only [List.getElem?_toArray, List.getElem?_cons_succ, List.getElem?_cons_zero] <;> rfl) (by rfl) (fun W hW => ?_) ?_; rotate_left; (· obtain ⟨q0, q1, q2, q3⟩ := hW.fs.deed.facts2; obtain ⟨q4, q5⟩ := hW.fs.num.facts1; obtain ⟨q6, q7⟩ := hW.fs.good.facts1; go_simp; with_reducible rfl); simp only [Act.put, List.setIfInBounds_toArray, List.set_cons_zero, List.set_cons_succ]))
            (refine zseq_do (by simp only [List.getElem?_toArray, List.getElem?_cons_succ, List.getElem?_cons_zero] <;> rfl) (by rfl) (fun K hK => ?_); go_simp; refine hK _ _ (hS.alloc _) (fun hS2 => ?_); clear hK K; have HCN := Lib.hid (cell_one_new WF (.int .i64 ns) 3 0 _ rfl); replace hS := hS2; clear hS2; try simp only [Act.put, List.setIfInBounds_toArray, List.set_cons_zero, List.set_cons_succ])
            (refine zseq_do (by simp only [List.getElem?_toArray, List.getElem?_cons_succ, List.getElem?_cons_zero] <;> rfl) (by rfl) (fun K hK => ?_); go_simp; refine ((c37 0 65520 (some ⟨WF.heap.size, 0, none⟩) 1 1 [ns] _ (SlI.one (by simp) (by simp))).as HGI.out).mono ?_; rintro e WG ⟨rfl, hk⟩; refine hK _ _ (hS.call hk) (fun hS2 => ?_); clear hK K; replace hS := hS2; clear hS2; try simp only [Act.put, List.setIfInBounds_toArray, List.set_cons_zero, List.set_cons_succ])
            repeat (first | (refine zseq_skip (by simp only [List.getElem?_toArray, List.getElem?_cons_succ, List.getElem?_cons_zero] <;> rfl) (by rfl) (by assumption) ?_; simp only [Act.put, List.setIfInBounds_toArray, List.set_cons_zero, List.set_cons_succ]) | (refine zseq_take (v := ?_) (by simp only [List.getElem?_toArray, List.getElem?_cons_succ, List.getElem?_cons_zero] <;> rfl) (by rfl) (fun W hW => ?_) ?_; rotate_left; (· obtain ⟨q0, q1, q2, q3⟩ := hW.fs.deed.facts2; obtain ⟨q4, q5⟩ := hW.fs.num.facts1; obtain ⟨q6, q7⟩ := hW.fs.good.facts1; go_simp; with_reducible rfl); simp only [Act.put, List.setIfInBounds_toArray, List.set_cons_zero, List.set_cons_succ]))
            (obtain ⟨q0, q1, q2, q3⟩ := hS.fs.deed.facts2; obtain ⟨q4, q5⟩ := hS.fs.num.facts1; obtain ⟨q6, q7⟩ := hS.fs.good.facts1; refine zseq_do (by simp only [List.getElem?_toArray, List.getElem?_cons_succ, List.getElem?_cons_zero] <;> rfl) (by rfl) (fun K hK => ?_); go_simp; refine hK _ _ (hS.set1 h33 hD) (fun hS2 => ?_); clear hK K q0 q1 q2 q3 q4 q5 q6 q7; replace hS := hS2; clear hS2; try simp only [Act.put, List.setIfInBounds_toArray, List.set_cons_zero, List.set_cons_succ])
            (obtain ⟨q0, q1, q2, q3⟩ := hS.fs.deed.facts2; obtain ⟨q4, q5⟩ := hS.fs.num.facts1; obtain ⟨q6, q7⟩ := hS.fs.good.facts1; refine zseq_do (by simp only [List.getElem?_toArray, List.getElem?_cons_succ, List.getElem?_cons_zero] <;> rfl) (by rfl) (fun K hK => ?_); go_simp; refine hK _ _ (hS.set2 h33 hD _) (fun hS2 => ?_); clear hK K q0 q1 q2 q3 q4 q5 q6 q7; replace hS := hS2; clear hS2; try simp only [Act.put, List.setIfInBounds_toArray, List.set_cons_zero, List.set_cons_succ])
            (obtain ⟨q0, q1, q2, q3⟩ := hS.fs.deed.facts2; obtain ⟨q4, q5⟩ := hS.fs.num.facts1; obtain ⟨q6, q7⟩ := hS.fs.good.facts1; refine zseq_last (by simp only [List.getElem?_toArray, List.getElem?_cons_succ, List.getElem?_cons_zero] <;> rfl) (by rfl) (fun K hK => ?_); go_simp; refine hK _ _ ?_; clear hK K q0 q1 q2 q3 q4 q5 q6 q7; try simp only [Act.put, List.setIfInBounds_toArray, List.set_cons_zero, List.set_cons_succ])
            refine zseq_end hK1 ?_; clear hK1 K1
            go_wp2
            have E2 := hS.set3 h33 hD (.bool false)
            obtain ⟨F9, O9⟩ := E2.ends h33 hD
            obtain ⟨b0, b1, _, _⟩ := F9.deed.facts2
            obtain ⟨b2, _⟩ := F9.num.facts1
            obtain ⟨b3, _⟩ := F9.good.facts1
            refine ⟨by simp, .inl ⟨_, _, rfl, run_takeDeferred E2.dfr, ?_⟩⟩
            exact ⟨.tuple #[.agg #[.string ⟨b.toArray⟩, .slice Av ys.length cv], .int .i64 ns, .bool false], by simp [results, Tryz.results22, go_sem, b0, b1, b2, b3], deed_yes rfl F9 O9 (by omega) HYS.out (fun h => (by cases h)) (fun _ => HDN.out)⟩
          · cases gk
            · have HDN : Hid (deedOf (n : Int) s.data.toList = none) := by show _ = _; rw [HDL.out]; rfl
              refine wp_region_seqZ (fun W => DnS w w3 W D ⟨b.toArray⟩ (.slice Av ys.length cv) (.int .i64 ns) (.bool true) ys) 14 [(0, true), (1, true), (2, true), (3, true), (4, true), (5, false), (6, false), (7, true), (8, true), (9, true), (10, false), (11, true), (12, false), (13, false), (14, false)] (by kernel_rfl) (by kernel_rfl) rfl (by kernel_rfl) E1.drew (fun K1 hK1 hS => ?_); generalize WE.drew = WF at hS ⊢
              repeat (first | (refine zseq_skip (by simp only [List.getElem?_toArray, List.getElem?_cons_succ, List.getElem?_cons_zero] <;> rfl) (by rfl) (by assumption) ?_; simp only [Act.put, List.setIfInBounds_toArray, List.set_cons_zero, List.set_cons_succ]) | (refine zseq_take (v := ?_) (by simp only [List.getElem?_toArray, List.getElem?_cons_succ, List.getElem?_cons_zero] <;> rfl) (by rfl) (fun W hW => ?_) ?_; rotate_left; (· obtain ⟨q0, q1, q2, q3⟩ := hW.fs.deed.facts2; obtain ⟨q4, q5⟩ := hW.fs.num.facts1; obtain ⟨q6, q7⟩ := hW.fs.good.facts1; go_simp; with_reducible rfl); simp only [Act.put, List.setIfInBounds_toArray, List.set_cons_zero, List.set_cons_succ]))
              (refine zseq_do (by simp only [List.getElem?_toArray, List.getElem?_cons_succ, List.getElem?_cons_zero] <;> rfl) (by rfl) (fun K hK => ?_); go_simp; refine hK _ _ (hS.alloc _) (fun hS2 => ?_); clear hK K; have HCN := Lib.hid (cell_one_new WF (.int .i64 ns) 3 0 _ rfl); replace hS := hS2; clear hS2; try simp only [Act.put, List.setIfInBounds_toArray, List.set_cons_zero, List.set_cons_succ])
              (refine zseq_do (by simp only [List.getElem?_toArray, List.getElem?_cons_succ, List.getElem?_cons_zero] <;> rfl) (by rfl) (fun K hK => ?_); go_simp; refine ((c37 0 65520 (some ⟨WF.heap.size, 0, none⟩) 1 1 [ns] _ (SlI.one (by simp) (by simp))).as HGI.out).mono ?_; rintro e WG ⟨rfl, hk⟩; refine hK _ _ (hS.call hk) (fun hS2 => ?_); clear hK K; replace hS := hS2; clear hS2; try simp only [Act.put, List.setIfInBounds_toArray, List.set_cons_zero, List.set_cons_succ])
              repeat (first | (refine zseq_skip (by simp only [List.getElem?_toArray, List.getElem?_cons_succ, List.getElem?_cons_zero] <;> rfl) (by rfl) (by assumption) ?_; simp only [Act.put, List.setIfInBounds_toArray, List.set_cons_zero, List.set_cons_succ]) | (refine zseq_take (v := ?_) (by simp only [List.getElem?_toArray, List.getElem?_cons_succ, List.getElem?_cons_zero] <;> rfl) (by rfl) (fun W hW => ?_) ?_; rotate_left; (· obtain ⟨q0, q1, q2, q3⟩ := hW.fs.deed.facts2; obtain ⟨q4, q5⟩ := hW.fs.num.facts1; obtain ⟨q6, q7⟩ := hW.fs.good.facts1; go_simp; with_reducible rfl); simp only [Act.put, List.setIfInBounds_toArray, List.set_cons_zero, List.set_cons_succ]))
              (refine zseq_do (by simp only [List.getElem?_toArray, List.getElem?_cons_succ, List.getElem?_cons_zero] <;> rfl) (by rfl) (fun K hK => ?_); go_simp; refine ((c10 ⟨⟨b.toArray⟩, ys⟩ Av ys.length cv _ (hS.sli HYS.out)).as HGK.out).mono ?_; rintro e WG ⟨rfl, hk⟩; refine hK _ _ (hS.call hk) (fun hS2 => ?_); clear hK K; replace hS := hS2; clear hS2; try simp only [Act.put, List.setIfInBounds_toArray, List.set_cons_zero, List.set_cons_succ])
              repeat (first | (refine zseq_skip (by simp only [List.getElem?_toArray, List.getElem?_cons_succ, List.getElem?_cons_zero] <;> rfl) (by rfl) (by assumption) ?_; simp only [Act.put, List.setIfInBounds_toArray, List.set_cons_zero, List.set_cons_succ]) | (refine zseq_take (v := ?_) (by simp only [List.getElem?_toArray, List.getElem?_cons_succ, List.getElem?_cons_zero] <;> rfl) (by rfl) (fun W hW => ?_) ?_; rotate_left; (· obtain ⟨q0, q1, q2, q3⟩ := hW.fs.deed.facts2; obtain ⟨q4, q5⟩ := hW.fs.num.facts1; obtain ⟨q6, q7⟩ := hW.fs.good.facts1; go_simp; with_reducible rfl); simp only [Act.put, List.setIfInBounds_toArray, List.set_cons_zero, List.set_cons_succ]))
              (obtain ⟨q0, q1, q2, q3⟩ := hS.fs.deed.facts2; obtain ⟨q4, q5⟩ := hS.fs.num.facts1; obtain ⟨q6, q7⟩ := hS.fs.good.facts1; refine zseq_do (by simp only [List.getElem?_toArray, List.getElem?_cons_succ, List.getElem?_cons_zero] <;> rfl) (by rfl) (fun K hK => ?_); go_simp; refine hK _ _ (hS.set1 h33 hD) (fun hS2 => ?_); clear hK K q0 q1 q2 q3 q4 q5 q6 q7; replace hS := hS2; clear hS2; try simp only [Act.put, List.setIfInBounds_toArray, List.set_cons_zero, List.set_cons_succ])
              (obtain ⟨q0, q1, q2, q3⟩ := hS.fs.deed.facts2; obtain ⟨q4, q5⟩ := hS.fs.num.facts1; obtain ⟨q6, q7⟩ := hS.fs.good.facts1; refine zseq_do (by simp only [List.getElem?_toArray, List.getElem?_cons_succ, List.getElem?_cons_zero] <;> rfl) (by rfl) (fun K hK => ?_); go_simp; refine hK _ _ (hS.set2 h33 hD _) (fun hS2 => ?_); clear hK K q0 q1 q2 q3 q4 q5 q6 q7; replace hS := hS2; clear hS2; try simp only [Act.put, List.setIfInBounds_toArray, List.set_cons_zero, List.set_cons_succ])
              (obtain ⟨q0, q1, q2, q3⟩ := hS.fs.deed.facts2; obtain ⟨q4, q5⟩ := hS.fs.num.facts1; obtain ⟨q6, q7⟩ := hS.fs.good.facts1; refine zseq_last (by simp only [List.getElem?_toArray, List.getElem?_cons_succ, List.getElem?_cons_zero] <;> rfl) (by rfl) (fun K hK => ?_); go_simp; refine hK _ _ ?_; clear hK K q0 q1 q2 q3 q4 q5 q6 q7; try simp only [Act.put, List.setIfInBounds_toArray, List.set_cons_zero, List.set_cons_succ])
              refine zseq_end hK1 ?_; clear hK1 K1
              go_wp2
              have E2 := hS.set3 h33 hD (.bool false)
              obtain ⟨F9, O9⟩ := E2.ends h33 hD
              obtain ⟨b0, b1, _, _⟩ := F9.deed.facts2
              obtain ⟨b2, _⟩ := F9.num.facts1
              obtain ⟨b3, _⟩ := F9.good.facts1
              refine ⟨by simp, .inl ⟨_, _, rfl, run_takeDeferred E2.dfr, ?_⟩⟩
              exact ⟨.tuple #[.agg #[.string ⟨b.toArray⟩, .slice Av ys.length cv], .int .i64 ns, .bool false], by simp [results, Tryz.results22, go_sem, b0, b1, b2, b3], deed_yes rfl F9 O9 (by omega) HYS.out (fun h => (by cases h)) (fun _ => HDN.out)⟩
            · have HDN : Hid (deedOf (n : Int) s.data.toList = some (⟨⟨b.toArray⟩, ys⟩, ns)) := by show _ = _; rw [HDL.out]; rfl
              refine wp_region_seqZ (fun W => DnS w w3 W D ⟨b.toArray⟩ (.slice Av ys.length cv) (.int .i64 ns) (.bool true) ys) 14 [(0, true), (1, true), (2, true), (3, true), (4, true), (5, false), (6, false), (7, true), (8, true), (9, true), (10, false), (11, true), (12, false), (13, false), (14, false)] (by kernel_rfl) (by kernel_rfl) rfl (by kernel_rfl) E1.drew (fun K1 hK1 hS => ?_); generalize WE.drew = WF at hS ⊢
              repeat (first | (refine zseq_skip (by simp only [List.getElem?_toArray, List.getElem?_cons_succ, List.getElem?_cons_zero] <;> rfl) (by rfl) (by assumption) ?_; simp only [Act.put, List.setIfInBounds_toArray, List.set_cons_zero, List.set_cons_succ]) | (refine zseq_take (v := ?_) (by simp only [List.getElem?_toArray, List.getElem?_cons_succ, List.getElem?_cons_zero] <;> rfl) (by rfl) (fun W hW => ?_) ?_; rotate_left; (· obtain ⟨q0, q1, q2, q3⟩ := hW.fs.deed.facts2; obtain ⟨q4, q5⟩ := hW.fs.num.facts1; obtain ⟨q6, q7⟩ := hW.fs.good.facts1; go_simp; with_reducible rfl); simp only [Act.put, List.setIfInBounds_toArray, List.set_cons_zero, List.set_cons_succ]))
              (refine zseq_do (by simp only [List.getElem?_toArray, List.getElem?_cons_succ, List.getElem?_cons_zero] <;> rfl) (by rfl) (fun K hK => ?_); go_simp; refine hK _ _ (hS.alloc _) (fun hS2 => ?_); clear hK K; have HCN := Lib.hid (cell_one_new WF (.int .i64 ns) 3 0 _ rfl); replace hS := hS2; clear hS2; try simp only [Act.put, List.setIfInBounds_toArray, List.set_cons_zero, List.set_cons_succ])
              (refine zseq_do (by simp only [List.getElem?_toArray, List.getElem?_cons_succ, List.getElem?_cons_zero] <;> rfl) (by rfl) (fun K hK => ?_); go_simp; refine ((c37 0 65520 (some ⟨WF.heap.size, 0, none⟩) 1 1 [ns] _ (SlI.one (by simp) (by simp))).as HGI.out).mono ?_; rintro e WG ⟨rfl, hk⟩; refine hK _ _ (hS.call hk) (fun hS2 => ?_); clear hK K; replace hS := hS2; clear hS2; try simp only [Act.put, List.setIfInBounds_toArray, List.set_cons_zero, List.set_cons_succ])
              repeat (first | (refine zseq_skip (by simp only [List.getElem?_toArray, List.getElem?_cons_succ, List.getElem?_cons_zero] <;> rfl) (by rfl) (by assumption) ?_; simp only [Act.put, List.setIfInBounds_toArray, List.set_cons_zero, List.set_cons_succ]) | (refine zseq_take (v := ?_) (by simp only [List.getElem?_toArray, List.getElem?_cons_succ, List.getElem?_cons_zero] <;> rfl) (by rfl) (fun W hW => ?_) ?_; rotate_left; (· obtain ⟨q0, q1, q2, q3⟩ := hW.fs.deed.facts2; obtain ⟨q4, q5⟩ := hW.fs.num.facts1; obtain ⟨q6, q7⟩ := hW.fs.good.facts1; go_simp; with_reducible rfl); simp only [Act.put, List.setIfInBounds_toArray, List.set_cons_zero, List.set_cons_succ]))
              (refine zseq_do (by simp only [List.getElem?_toArray, List.getElem?_cons_succ, List.getElem?_cons_zero] <;> rfl) (by rfl) (fun K hK => ?_); go_simp; refine ((c10 ⟨⟨b.toArray⟩, ys⟩ Av ys.length cv _ (hS.sli HYS.out)).as HGK.out).mono ?_; rintro e WG ⟨rfl, hk⟩; refine hK _ _ (hS.call hk) (fun hS2 => ?_); clear hK K; replace hS := hS2; clear hS2; try simp only [Act.put, List.setIfInBounds_toArray, List.set_cons_zero, List.set_cons_succ])
              repeat (first | (refine zseq_skip (by simp only [List.getElem?_toArray, List.getElem?_cons_succ, List.getElem?_cons_zero] <;> rfl) (by rfl) (by assumption) ?_; simp only [Act.put, List.setIfInBounds_toArray, List.set_cons_zero, List.set_cons_succ]) | (refine zseq_take (v := ?_) (by simp only [List.getElem?_toArray, List.getElem?_cons_succ, List.getElem?_cons_zero] <;> rfl) (by rfl) (fun W hW => ?_) ?_; rotate_left; (· obtain ⟨q0, q1, q2, q3⟩ := hW.fs.deed.facts2; obtain ⟨q4, q5⟩ := hW.fs.num.facts1; obtain ⟨q6, q7⟩ := hW.fs.good.facts1; go_simp; with_reducible rfl); simp only [Act.put, List.setIfInBounds_toArray, List.set_cons_zero, List.set_cons_succ]))
              (obtain ⟨q0, q1, q2, q3⟩ := hS.fs.deed.facts2; obtain ⟨q4, q5⟩ := hS.fs.num.facts1; obtain ⟨q6, q7⟩ := hS.fs.good.facts1; refine zseq_do (by simp only [List.getElem?_toArray, List.getElem?_cons_succ, List.getElem?_cons_zero] <;> rfl) (by rfl) (fun K hK => ?_); go_simp; refine hK _ _ (hS.set1 h33 hD) (fun hS2 => ?_); clear hK K q0 q1 q2 q3 q4 q5 q6 q7; replace hS := hS2; clear hS2; try simp only [Act.put, List.setIfInBounds_toArray, List.set_cons_zero, List.set_cons_succ])
              (obtain ⟨q0, q1, q2, q3⟩ := hS.fs.deed.facts2; obtain ⟨q4, q5⟩ := hS.fs.num.facts1; obtain ⟨q6, q7⟩ := hS.fs.good.facts1; refine zseq_do (by simp only [List.getElem?_toArray, List.getElem?_cons_succ, List.getElem?_cons_zero] <;> rfl) (by rfl) (fun K hK => ?_); go_simp; refine hK _ _ (hS.set2 h33 hD _) (fun hS2 => ?_); clear hK K q0 q1 q2 q3 q4 q5 q6 q7; replace hS := hS2; clear hS2; try simp only [Act.put, List.setIfInBounds_toArray, List.set_cons_zero, List.set_cons_succ])
              (obtain ⟨q0, q1, q2, q3⟩ := hS.fs.deed.facts2; obtain ⟨q4, q5⟩ := hS.fs.num.facts1; obtain ⟨q6, q7⟩ := hS.fs.good.facts1; refine zseq_last (by simp only [List.getElem?_toArray, List.getElem?_cons_succ, List.getElem?_cons_zero] <;> rfl) (by rfl) (fun K hK => ?_); go_simp; refine hK _ _ ?_; clear hK K q0 q1 q2 q3 q4 q5 q6 q7; try simp only [Act.put, List.setIfInBounds_toArray, List.set_cons_zero, List.set_cons_succ])
              refine zseq_end hK1 ?_; clear hK1 K1
              go_wp2
              have E2 := hS.set3 h33 hD (.bool true)
              obtain ⟨F9, O9⟩ := E2.ends h33 hD
              obtain ⟨b0, b1, _, _⟩ := F9.deed.facts2
              obtain ⟨b2, _⟩ := F9.num.facts1
              obtain ⟨b3, _⟩ := F9.good.facts1
              refine ⟨by simp, .inl ⟨_, _, rfl, run_takeDeferred E2.dfr, ?_⟩⟩
              exact ⟨.tuple #[.agg #[.string ⟨b.toArray⟩, .slice Av ys.length cv], .int .i64 ns, .bool true], by simp [results, Tryz.results22, go_sem, b0, b1, b2, b3], deed_yes rfl F9 O9 (by omega) HYS.out (fun _ => HDN.out) (fun h => (by cases h))⟩
      case stop =>
        rintro D cc pre W hD hpf ⟨rfl, HD, u, v, hF, A, m, c, rfl⟩ hK
        have HF := Lib.hid hF
        have HD := Lib.hid HD
        refine wpIn_wide.2 ?_
        clear hF
        go_wp2
        have G9 := HF.out.put (D := D) (by omega) (.deferred none)
        obtain ⟨b0, b1, _, _⟩ := G9.deed.facts2
        obtain ⟨b2, _⟩ := G9.num.facts1
        obtain ⟨b3, _⟩ := G9.good.facts1
        refine ⟨by simp, .inl ⟨_, _, rfl, run_takeDeferred hK, ?_⟩⟩
        exact ⟨.tuple #[.agg #[.string u, .slice A m c], .int .i64 0, .bool false], by simp [results, Tryz.results22, go_sem, b0, b1, b2, b3], deed_no HD.out G9.below⟩
    · have HD : Hid (NoDeed (n : Int) s.data.toList true) := Or.inr (deed_head HP.out ha)
      have ee : (a == Lib.itoa (n : Int)) = false := by rw [beq_eq_false_iff_ne]; exact ha
      go_wp2_with (fail)
      refine wp_region_seq (fun W => Below wa.heap.size wa W) [(0, true), (1, true), (2, true), (3, true), (4, true), (5, true), (6, true), (7, true), (8, true), (9, true), (10, true), (11, true), (12, true), (13, false), (14, true), (15, true)] (by kernel_rfl) (by kernel_rfl) rfl (by kernel_rfl) ((Below.refl _ _).drew) (fun K1 hK1 hS => ?_)
      repeat (first | (refine seq_skip (by simp only [List.getElem?_toArray, List.getElem?_cons_succ, List.getElem?_cons_zero] <;> rfl) (by rfl) (by assumption) ?_; simp only [Act.put, List.setIfInBounds_toArray, List.set_cons_zero, List.set_cons_succ]) | (refine seq_take (v := ?_) (by simp only [List.getElem?_toArray, List.getElem?_cons_succ, List.getElem?_cons_zero] <;> rfl) (by rfl) (fun W hW => ?_) ?_; rotate_left; (· have q0 := HFL.out W hW; have q1 := HCW.out W hW; go_simp; with_reducible rfl); simp only [Act.put, List.setIfInBounds_toArray, List.set_cons_zero, List.set_cons_succ]))
      (refine seq_do (by simp only [List.getElem?_toArray, List.getElem?_cons_succ, List.getElem?_cons_zero] <;> rfl) (by rfl) (fun K hK => ?_); go_simp; refine (c14 (n : Int) (by constructor <;> omega) _ (HOA.out.below ‹Below wa.heap.size wa _›)).mono ?_; rintro e w1 ⟨rfl, hk⟩; refine hK _ _ (‹Below wa.heap.size wa _›.trans (hk.mono (by simp))) (fun hS => ?_); clear hK K; try simp only [Act.put, List.setIfInBounds_toArray, List.set_cons_zero, List.set_cons_succ])
      repeat (first | (refine seq_skip (by simp only [List.getElem?_toArray, List.getElem?_cons_succ, List.getElem?_cons_zero] <;> rfl) (by rfl) (by assumption) ?_; simp only [Act.put, List.setIfInBounds_toArray, List.set_cons_zero, List.set_cons_succ]) | (refine seq_take (v := ?_) (by simp only [List.getElem?_toArray, List.getElem?_cons_succ, List.getElem?_cons_zero] <;> rfl) (by rfl) (fun W hW => ?_) ?_; rotate_left; (· have q0 := HFL.out W hW; have q1 := HCW.out W hW; go_simp; with_reducible rfl); simp only [Act.put, List.setIfInBounds_toArray, List.set_cons_zero, List.set_cons_succ]))
      refine seq_end hK1 ?_; clear hK1 K1
      have hwb := ‹Below wa.heap.size wa _›
      have FB := FA.call hwb
      clear hS hwb ee HCW
      have F9 := Lib.hid (FB)
      obtain ⟨x0, x1, x2, x3⟩ := F9.out.deed.facts2
      obtain ⟨x4, x5⟩ := F9.out.num.facts1
      obtain ⟨x6, x7⟩ := F9.out.good.facts1
      go_wp2
      clear x0 x1 x2 x3 x4 x5 x6 x7
      have G9 := (F9.out.stored (.int .i64 0) (.bool false))
      obtain ⟨b0, b1, _, _⟩ := G9.deed.facts2
      obtain ⟨b2, _⟩ := G9.num.facts1
      obtain ⟨b3, _⟩ := G9.good.facts1
      refine ⟨.tuple #[.agg #[.string { data := #[] }, .slice none 0 0], .int .i64 0, .bool false], by simp [results, Tryz.results22, go_sem, b0, b1, b2, b3], deed_no HD.out G9.below⟩
  · have HD : Hid (NoDeed (n : Int) s.data.toList true) := Or.inr (deed_len h4)
    have dd : (((parts 124 s.data.toList).length : Int) == 4) = false := by rw [beq_eq_false_iff_ne]; omega
    have dd2 : (((parts 124 s.data.toList).length : Int) != 4) = true := by rw [bne, dd]; rfl
    generalize (parts 124 s.data.toList).length = L at *
    clear h4 hlen
    go_wp2_with (fail)
    refine wp_region_seq (fun W => Below wa.heap.size wa W) [(0, true), (1, true), (2, true), (3, true), (4, true), (5, true), (6, true), (7, true), (8, true), (9, true), (10, true), (11, true), (12, true), (13, false), (14, true), (15, true)] (by kernel_rfl) (by kernel_rfl) rfl (by kernel_rfl) ((Below.refl _ _).drew) (fun K1 hK1 hS => ?_)
    repeat (first | (refine seq_skip (by simp only [List.getElem?_toArray, List.getElem?_cons_succ, List.getElem?_cons_zero] <;> rfl) (by rfl) (by assumption) ?_; simp only [Act.put, List.setIfInBounds_toArray, List.set_cons_zero, List.set_cons_succ]) | (refine seq_take (v := ?_) (by simp only [List.getElem?_toArray, List.getElem?_cons_succ, List.getElem?_cons_zero] <;> rfl) (by rfl) (fun W hW => ?_) ?_; rotate_left; (· have q0 := HFL.out W hW; go_simp; with_reducible rfl); simp only [Act.put, List.setIfInBounds_toArray, List.set_cons_zero, List.set_cons_succ]))
    refine seq_end hK1 ?_; clear hK1 K1
    clear hS dd dd2
    have F9 := Lib.hid (FA)
    obtain ⟨x0, x1, x2, x3⟩ := F9.out.deed.facts2
    obtain ⟨x4, x5⟩ := F9.out.num.facts1
    obtain ⟨x6, x7⟩ := F9.out.good.facts1
    go_wp2
    clear x0 x1 x2 x3 x4 x5 x6 x7
    have G9 := (F9.out.stored (.int .i64 0) (.bool false)).drew
    obtain ⟨b0, b1, _, _⟩ := G9.deed.facts2
    obtain ⟨b2, _⟩ := G9.num.facts1
    obtain ⟨b3, _⟩ := G9.good.facts1
    refine ⟨.tuple #[.agg #[.string { data := #[] }, .slice none 0 0], .int .i64 0, .bool false], by simp [results, Tryz.results22, go_sem, b0, b1, b2, b3], deed_no HD.out G9.below⟩
end Go.Proofs.YtbldegmanbmpmaaGreatDoor
