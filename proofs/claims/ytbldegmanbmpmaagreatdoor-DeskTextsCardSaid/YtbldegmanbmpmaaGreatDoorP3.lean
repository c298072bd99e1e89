/- A log's text, read line by line; and what the program's reader of a text holds as it goes. -/
import Derived.Test.YtbldegmanbmpmaaGreatDoorD3
import Derived.Test.YtbldegmanbmpmaaGreatDoorA8
namespace Go.Proofs.YtbldegmanbmpmaaGreatDoor
open Go.RowKit Go.Shelf
def rdLines (log : List De) (s : Int) : List (Nat × List UInt8 × Bool) → List De × Int × Int
  | [] => (log, 0, 0)
  | x :: r =>
    if x.2.2 = false ∨ 150 < x.1 then ([], (x.1 : Int), 113)
    else if (lineW x.1 s x.2.1).1 = 0 then rdLines (log ++ [(lineW x.1 s x.2.1).2.1]) (lineW x.1 s x.2.1).2.2 r
    else ([], (x.1 : Int), (lineW x.1 s x.2.1).1)
theorem rd_lines (l : List UInt8) : ∀ (log : List De) (s : Int) (cur : List UInt8), rdFrom log s cur l = rdLines log s (linesFrom (log.length + 1) cur l) := by
  induction l with
  | nil =>
    intro log s cur
    rw [rdFrom, linesFrom]
    by_cases h : cur = []
    · rw [if_pos h, if_pos h]; rfl
    · rw [if_neg h, if_neg h, rdLines, if_pos (.inl rfl)]; simp
  | cons c l ih =>
    intro log s cur
    rw [rdFrom, linesFrom]
    by_cases h : c = 10
    · rw [if_pos h, if_pos h, rdLines]
      have e : ((log.length + 1 : Nat) : Int) = (log.length : Int) + 1 := by omega
      simp only [e]
      by_cases h2 : 150 < log.length + 1
      · rw [if_pos h2, if_pos (.inr h2)]
      · have h4 : ¬ (true = false ∨ 150 < log.length + 1) := by simp; omega
        rw [if_neg h2, if_neg h4]
        by_cases h3 : (lineW ((log.length : Int) + 1) s cur).1 = 0
        · rw [if_pos h3, if_pos h3, ih]; simp
        · rw [if_neg h3, if_neg h3]
    · rw [if_neg h, if_neg h, ih]
theorem lines_bd (l : List UInt8) : ∀ (n : Nat) (cur : List UInt8), ∀ x ∈ linesFrom n cur l, x.1 ≤ n + l.length ∧ x.2.1.length ≤ cur.length + l.length := by
  induction l with
  | nil =>
    intro n cur x hx
    rw [linesFrom] at hx
    split at hx
    · cases hx
    · simp only [List.mem_singleton] at hx; subst hx; simp
  | cons c l ih =>
    intro n cur x hx
    rw [linesFrom] at hx
    split at hx
    · rcases List.mem_cons.1 hx with rfl | hx
      · simp
      · have := ih _ _ x hx; simp at this ⊢; omega
    · have := ih _ _ x hx; simp at this ⊢; omega
theorem lines_len (l : List UInt8) : ∀ (n : Nat) (cur : List UInt8), (linesFrom n cur l).length ≤ l.length + 1 := by
  induction l with
  | nil => intro n cur; rw [linesFrom]; split <;> simp
  | cons c l ih =>
    intro n cur
    rw [linesFrom]
    split
    · have := ih (n + 1) []; simp; omega
    · have := ih n (cur ++ [c]); simp; omega
theorem readW_lines {t : List UInt8} (h : ¬ 12000 < t.length) : readW t = rdLines [] 0 (linesFrom 1 [] t) := by rw [readW_small h, rd_lines]; rfl
theorem rdl_bad {log : List De} {s : Int} {x : Nat × List UInt8 × Bool} {r : List (Nat × List UInt8 × Bool)} (h : x.2.2 = false ∨ 150 < x.1) : rdLines log s (x :: r) = ([], (x.1 : Int), 113) := by rw [rdLines, if_pos h]
theorem rdl_none {log : List De} {s : Int} {x : Nat × List UInt8 × Bool} {r : List (Nat × List UInt8 × Bool)} (h : deedOf x.1 x.2.1 = none) : rdLines log s (x :: r) = ([], (x.1 : Int), 113) := by
  rw [rdLines, line_bad h]
  split
  · rfl
  · rw [if_neg (by decide)]
theorem rdl_seal {log : List De} {s sl : Int} {d : De} {x : Nat × List UInt8 × Bool} {r : List (Nat × List UInt8 × Bool)} (hb : x.2.2 = true) (hn : ¬ 150 < x.1) (h : deedOf x.1 x.2.1 = some (d, sl)) (hs : sl ≠ sealW s (bodyW x.1 d)) : rdLines log s (x :: r) = ([], (x.1 : Int), 114) := by
  rw [rdLines, line_some h, if_neg (by rw [hb]; simp; omega), if_neg hs, if_neg (by decide)]
theorem rdl_ok {log : List De} {s sl : Int} {d : De} {x : Nat × List UInt8 × Bool} {r : List (Nat × List UInt8 × Bool)} (hb : x.2.2 = true) (hn : ¬ 150 < x.1) (h : deedOf x.1 x.2.1 = some (d, sl)) (hs : sl = sealW s (bodyW x.1 d)) : rdLines log s (x :: r) = rdLines (log ++ [d]) sl r := by
  rw [rdLines, line_some h, if_neg (by rw [hb]; simp; omega), if_pos hs, if_pos rfl]
theorem SlI.ab {W W' : World} {A : Option Addr} {m : Nat} {xs : List Int} {row : Option Nat} (h : SlI W.heap.size W A m xs) (hg : W.grownBy W' row) (hr : ∀ r a, row = some r → A = some a → r ≠ a.block ∨ ∃ o : Obj, W.heap[r]? = some o ∧ o.isCells = false) : SlI W'.heap.size W' A m xs := by
  refine ⟨h.1, h.2.1, fun hn => ?_⟩
  obtain ⟨b, o, rfl, hlt, hc⟩ := h.2.2 hn
  refine ⟨b, o, rfl, Nat.lt_of_lt_of_le hlt hg.size, fun j hj => (World.cell?_of_block (a := ⟨b, o + j, none⟩) (hg.block b hlt (fun e => ?_))).trans (hc j hj)⟩
  rcases hr b _ e.symm rfl with h1 | ⟨ob, h1, h2⟩
  · exact h1 rfl
  · obtain ⟨ob', g1, g2⟩ := cells_of_cell (hc j hj)
    dsimp only at g1
    rw [h1] at g1; cases g1; rw [h2] at g2; cases g2
theorem DAt.ab {B : Nat} {W W' : World} {v : Value} {log : List De} {row : Option Nat} (h : DAt B W v log) (hg : W.grownBy W' row) (hr : ∀ r, row = some r → r < B ∨ ∃ o : Obj, W.heap[r]? = some o ∧ o.isCells = false) : DAt B W' v log := by
  obtain ⟨cs, h1, h2⟩ := h
  refine ⟨cs, own_ab h1 hg hr, fun j hj => ?_⟩
  obtain ⟨p, A, m, c, q, r, s⟩ := h2 j hj
  refine ⟨p, A, m, c, q, r.ab hg (fun r a e ea => ?_), s.size hg.size⟩
  rcases hr r e with h | h
  · have := (s a ea).1; exact .inl (by omega)
  · exact .inr h
/-- What the reader of a text holds between two lines. -/
structure RdS (w w3 W : World) (Bt : Nat) (v : Value) (log : List De) (before : Int) : Prop where
  below : Below w.heap.size w W
  size : w3.heap.size ≤ W.heap.size
  frame : ∀ b, b < w3.heap.size → b ≠ w.heap.size → b ≠ w.heap.size + 1 + 1 + 1 → b ≠ Bt → W.heap[b]? = w3.heap[b]?
  logb : Box W w.heap.size 22 [v]
  sealb : Box W (w.heap.size + 1 + 1 + 1) 3 [.int .i64 before]
  dat : DAt w3.heap.size W v log
/-- The cells of the three results of the reader of a text. -/
structure XS (w W : World) (v x y : Value) : Prop where
  below : Below w.heap.size w W
  logb : Box W w.heap.size 22 [v]
  num : Box W (w.heap.size + 1) 3 [x]
  err : Box W (w.heap.size + 1 + 1) 24 [y]
section
variable {w w3 W W' : World} {Bt : Nat} {v : Value} {log : List De} {before : Int}
theorem RdS.call (h : RdS w w3 W Bt v log before) (hk : Below W.heap.size W W') : RdS w w3 W' Bt v log before :=
  ⟨h.below.trans (hk.mono h.below.size), Nat.le_trans h.size hk.size, fun b hb h1 h2 h3 => (hk.block b (Nat.lt_of_lt_of_le hb h.size)).trans (h.frame b hb h1 h2 h3), h.logb.keep hk, h.sealb.keep hk, h.dat.call hk⟩
theorem RdS.alloc (h : RdS w w3 W Bt v log before) (o : Obj) : RdS w w3 (W.alloc o) Bt v log before := h.call ((Below.refl _ _).alloc (Nat.le_refl _) o)
theorem RdS.drew (h : RdS w w3 W Bt v log before) : RdS w w3 W.drew Bt v log before := h.call (Below.refl _ _).drew
theorem RdS.ab {row : Option Nat} (h : RdS w w3 W Bt v log before) (hT : w.heap.size + 1 + 1 + 1 < Bt) (hT3 : Bt < w3.heap.size) (hg : W.grownBy W' row) (hr : ∀ r, row = some r → r = Bt ∨ (w3.heap.size ≤ r ∧ ∃ o : Obj, W.heap[r]? = some o ∧ o.isCells = false)) : RdS w w3 W' Bt v log before := by
  refine ⟨h.below.grown hg h.below.size (fun k e => by rcases hr k e with h | ⟨h, _⟩ <;> omega), Nat.le_trans h.size hg.size, fun b hb h1 h2 hbT => ?_, ?_, ?_, h.dat.ab hg (fun r e => by rcases hr r e with h | ⟨_, h⟩; exact .inl (by omega); exact .inr h)⟩
  · exact (hg.block b (Nat.lt_of_lt_of_le hb h.size) (fun e => by rcases hr b e.symm with h | ⟨h, _⟩ <;> omega)).trans (h.frame b hb h1 h2 hbT)
  · exact (hg.block _ h.logb.lt (fun e => by rcases hr _ e.symm with h | ⟨h, _⟩ <;> omega)).trans h.logb
  · exact (hg.block _ h.sealb.lt (fun e => by rcases hr _ e.symm with h | ⟨h, _⟩ <;> omega)).trans h.sealb
theorem RdS.boxes {o : Obj} (h : RdS w w3 W Bt v log before) (hT : w.heap.size + 1 + 1 + 1 < w3.heap.size) (hg : (W.alloc o).grownBy W' v.ownBlock) (hvb : ∀ k, v.ownBlock = some k → w3.heap.size ≤ k) :
    Box W' w.heap.size 22 [v] ∧ Box W' (w.heap.size + 1 + 1 + 1) 3 [.int .i64 before] := by
  have h1 := h.alloc o
  exact ⟨(hg.block _ h1.logb.lt (fun e => by have := hvb _ e.symm; omega)).trans h1.logb, (hg.block _ h1.sealb.lt (fun e => by have := hvb _ e.symm; omega)).trans h1.sealb⟩
theorem RdS.app {o : Obj} {v' : Value} {d : De} {sl : Int} (h : RdS w w3 W Bt v log before) (hT : w.heap.size + 1 + 1 + 1 < w3.heap.size) (hg : (W.alloc o).grownBy W' v.ownBlock) (hvb : ∀ k, v.ownBlock = some k → w3.heap.size ≤ k) (hd : DAt w3.heap.size W' v' (log ++ [d])) :
    RdS w w3 ((W'.setCell ⟨w.heap.size + 1 + 1 + 1, 0, none⟩ (.int .i64 sl)).setCell ⟨w.heap.size, 0, none⟩ v') Bt v' (log ++ [d]) sl := by
  have h1 := h.alloc o
  have B0 : Box W' w.heap.size 22 [v] := (hg.block _ h1.logb.lt (fun e => by have := hvb _ e.symm; omega)).trans h1.logb
  have B3 : Box W' (w.heap.size + 1 + 1 + 1) 3 [.int .i64 before] := (hg.block _ h1.sealb.lt (fun e => by have := hvb _ e.symm; omega)).trans h1.sealb
  refine ⟨((h1.below.grown hg h1.below.size (fun k e => by have := hvb k e; omega)).setCell (p := ⟨w.heap.size + 1 + 1 + 1, 0, none⟩) (by dsimp only; omega) _).setCell (p := ⟨w.heap.size, 0, none⟩) (by dsimp only; omega) _, ?_, ?_, ?_, ?_, (hd.set (p := ⟨w.heap.size + 1 + 1 + 1, 0, none⟩) (by dsimp only; omega) _).set (p := ⟨w.heap.size, 0, none⟩) (by dsimp only; omega) _⟩
  · have := hg.size; have := h1.size; simp [World.setCell] at *; omega
  · intro b hb g1 g2 g3
    rw [Below.heap_setCell _ _ _ _ g1, Below.heap_setCell _ _ _ _ g2]
    exact (hg.block b (Nat.lt_of_lt_of_le hb h1.size) (fun e => by have := hvb b e.symm; omega)).trans (h1.frame b hb g1 g2 g3)
  · simpa using (B0.other (p := ⟨w.heap.size + 1 + 1 + 1, 0, none⟩) (by dsimp only; omega) _).set 0 v'
  · simpa using (B3.set 0 (.int .i64 sl)).other (p := ⟨w.heap.size, 0, none⟩) (by dsimp only; omega) v'
theorem XS.ab {row : Option Nat} {B : Nat} {v x y : Value} (h : XS w W v x y) (hT : w.heap.size + 1 + 1 + 1 < Bt) (hT3 : Bt < B) (hg : W.grownBy W' row) (hr : ∀ r, row = some r → r = Bt ∨ (B ≤ r ∧ ∃ o : Obj, W.heap[r]? = some o ∧ o.isCells = false)) : XS w W' v x y := by
  refine ⟨h.below.grown hg h.below.size (fun k e => by rcases hr k e with h | ⟨h, _⟩ <;> omega), (hg.block _ h.logb.lt (fun e => by rcases hr _ e.symm with h | ⟨h, _⟩ <;> omega)).trans h.logb, (hg.block _ h.num.lt (fun e => by rcases hr _ e.symm with h | ⟨h, _⟩ <;> omega)).trans h.num, (hg.block _ h.err.lt (fun e => by rcases hr _ e.symm with h | ⟨h, _⟩ <;> omega)).trans h.err⟩
theorem XS.call {v x y : Value} (h : XS w W v x y) (hk : Below W.heap.size W W') : XS w W' v x y := ⟨h.below.trans (hk.mono h.below.size), h.logb.keep hk, h.num.keep hk, h.err.keep hk⟩
theorem XS.drew {v x y : Value} (h : XS w W v x y) : XS w W.drew v x y := h.call (Below.refl _ _).drew
theorem XS.set0 {v x y : Value} (h : XS w W v x y) (v' : Value) : XS w (W.setCell ⟨w.heap.size, 0, none⟩ v') v' x y :=
  ⟨h.below.setCell (p := ⟨w.heap.size, 0, none⟩) (by dsimp only; omega) _, h.logb.set 0 _, h.num.other (by dsimp only; omega) _, h.err.other (by dsimp only; omega) _⟩
theorem XS.set1 {v x y : Value} (h : XS w W v x y) (x' : Value) : XS w (W.setCell ⟨w.heap.size + 1, 0, none⟩ x') v x' y :=
  ⟨h.below.setCell (p := ⟨w.heap.size + 1, 0, none⟩) (by dsimp only; omega) _, h.logb.other (by dsimp only; omega) _, h.num.set 0 _, h.err.other (by dsimp only; omega) _⟩
theorem XS.set2 {v x y : Value} (h : XS w W v x y) (y' : Value) : XS w (W.setCell ⟨w.heap.size + 1 + 1, 0, none⟩ y') v x y' :=
  ⟨h.below.setCell (p := ⟨w.heap.size + 1 + 1, 0, none⟩) (by dsimp only; omega) _, h.logb.other (by dsimp only; omega) _, h.num.other (by dsimp only; omega) _, h.err.set 0 _⟩
theorem XS.put {v x y : Value} {D : Nat} (h : XS w W v x y) (hD : w.heap.size + 1 + 1 + 1 < D) (o : Obj) : XS w (W.putObj D o) v x y :=
  ⟨h.below.grown (grownBy_putObj' W D o) h.below.size (fun k e => by cases e; omega), ((grownBy_putObj' W D o).block _ h.logb.lt (fun e => by cases e; omega)).trans h.logb, ((grownBy_putObj' W D o).block _ h.num.lt (fun e => by cases e; omega)).trans h.num, ((grownBy_putObj' W D o).block _ h.err.lt (fun e => by cases e; omega)).trans h.err⟩
theorem RdS.xs {u x y : Value} (h : RdS w w3 W Bt v log before) (hX : XS w w3 u x y) (hT : w.heap.size + 1 + 1 + 1 < Bt) : XS w W v x y :=
  ⟨h.below, h.logb, (h.frame _ hX.num.lt (by omega) (by omega) (by omega)).trans hX.num, (h.frame _ hX.err.lt (by omega) (by omega) (by omega)).trans hX.err⟩
end
end Go.Proofs.YtbldegmanbmpmaaGreatDoor
