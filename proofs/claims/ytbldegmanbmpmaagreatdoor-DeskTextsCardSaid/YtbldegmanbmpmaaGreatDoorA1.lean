/- A region that draws its order and in which the operations that do more than yield a value wait for one another: it is walked in one order. -/
import Derived.OrdersHeld
import Derived.Deep.RegionHeld3
import Derived.Test.YtbldegmanbmpmaaGreatDoorA0
namespace Go.Proofs.YtbldegmanbmpmaaGreatDoor
open Go.RowKit Go.Shelf
section
variable {P : Program} {ops : Array Oper} {Q : Exit → Act → World → Prop} {S : World → Prop}
/-- A region walked in an order: 'true': the operation yields a value in each world that meets S; 'false': it is carried out, and S is shown anew. -/
def wpSeq (P : Program) (ops : Array Oper) (Q : Exit → Act → World → Prop) (S : World → Prop) : List (Nat × Bool) → Act → World → Prop
  | [], a, w => Q .normal a w
  | (i, true) :: rest, a, w => ∃ o v, ops[i]? = some o ∧ YieldsIf P ops S o v a ∧ wpSeq P ops Q S rest (a.put o.dst v) w
  | (i, false) :: rest, a, w => wpOp P ops Q i (fun a' w' => S w' ∧ wpSeq P ops Q S rest a' w') a w
/-- The order is one that serves. -/
def seqOk (ops : Array Oper) : List (Nat × Bool) → Array Bool → Bool
  | [], listed => (Region.ready .any ops listed).isEmpty
  | (i, true) :: rest, listed => Region.free .any ops listed i && ((Region.ready .any ops listed).contains i && seqOk ops rest (listed.setIfInBounds i true))
  | (i, false) :: rest, listed => (Region.ready .any ops listed == [i]) && seqOk ops rest (listed.setIfInBounds i true)
theorem wpAnyH_of_seq (hs : Region.noSelect ops = true) (hQ : ∀ d v c a w, Q (.panic c) (Act.put a d v) w → Q (.panic c) a w) :
    ∀ (order : List (Nat × Bool)) (listed : Array Bool) (a : Act) (w : World), seqOk ops order listed = true → S w → wpSeq P ops Q S order a w → wpAnyH P .any ops Q S order.length listed a w := by
  intro order
  induction order with
  | nil =>
    intro listed a w hok _ h
    exact wpAnyH_done (by simpa [seqOk] using hok) h 0
  | cons x rest ih =>
    intro listed a w hok hS h
    obtain ⟨i, b⟩ := x
    cases b with
    | true =>
      obtain ⟨o, v, ho, hy, h⟩ := h
      simp only [seqOk, Bool.and_eq_true] at hok
      exact wpAnyH_take ho hs hok.1 hok.2.1 (fun c a w => hQ _ _ c a w) hy hS (ih _ _ _ hok.2.2 hS h)
    | false =>
      simp only [seqOk, Bool.and_eq_true, beq_iff_eq] at hok
      refine wpAnyH_all (rs := [i]) hok.1 (by simp) (fun j hj => ?_)
      obtain rfl : j = i := by simpa using hj
      exact wpOp_mono (fun a' w' h' => ⟨h'.1, ih _ _ _ hok.2 h'.1 h'.2⟩) h
/-- What follows a region, and nothing else. -/
def JustK (K : Act → World → Prop) : Exit → Act → World → Prop
  | .normal, a, w => K a w
  | _, _, _ => False
theorem wp_region_seq (S : World → Prop) (order : List (Nat × Bool)) {id : Nat} {a : Act} {w : World} (hm : P.follows .mixedOrders = true) (hs : Region.noSelect ops = true)
    (hn : order.length = ops.size) (hok : seqOk ops order (Array.replicate ops.size false) = true)
    (hS : S w.drew) (h : ∀ K : Act → World → Prop, Hid (∀ a w, Q .normal a w → K a w) → S w.drew → wpSeq P ops (JustK K) S order a w.drew) : (Code.region id ops true).wp P Q a w := by
  refine Code.wp_mono (Q := JustK (Q .normal)) (fun e a w he => by cases e <;> first | exact he | exact False.elim he) ?_
  refine wp_region_held hm (S := S) ?_
  have := wpAnyH_of_seq (S := S) hs (fun _ _ _ _ _ h => h.elim) order (Array.replicate ops.size false) a w.drew hok hS (h (Q .normal) (fun _ _ h => h) hS)
  rw [hn] at this
  exact this
theorem seq_take {i : Nat} {rest : List (Nat × Bool)} {a : Act} {w : World} {o : Oper} {v : Value} (ho : ops[i]? = some o) (hw : Region.wanted o (yielded ops a.tmps) = true)
    (hv : ∀ W, S W → (execOp a.eval o).run P W = .ok (.value v) W) (h : wpSeq P ops Q S rest (a.put o.dst v) w) : wpSeq P ops Q S ((i, true) :: rest) a w := ⟨o, v, ho, .inl ⟨hw, hv⟩, h⟩
theorem seq_skip {i : Nat} {b : Bool} {rest : List (Nat × Bool)} {a : Act} {w : World} {o : Oper} (ho : ops[i]? = some o) (hw : Region.wanted o (yielded ops a.tmps) = false) (hS : S w)
    (h : wpSeq P ops Q S rest (a.put o.dst undef) w) : wpSeq P ops Q S ((i, b) :: rest) a w := by
  cases b with
  | true => exact ⟨o, undef, ho, .inr ⟨hw, rfl⟩, h⟩
  | false => simp only [wpSeq, wpOp, ho, hw]; exact ⟨hS, h⟩
theorem seq_do {i : Nat} {rest : List (Nat × Bool)} {a : Act} {w : World} {o : Oper} (ho : ops[i]? = some o) (hw : Region.wanted o (yielded ops a.tmps) = true)
    (h : ∀ K : Act → World → Prop, (∀ a' w', S w' → (S w' → wpSeq P ops Q S rest a' w') → K a' w') → o.wp P a w K Q) : wpSeq P ops Q S ((i, false) :: rest) a w := by
  simp only [wpSeq, wpOp, ho, hw, if_true]
  exact .inl (h _ fun a' w' hS hh => ⟨hS, hh hS⟩)
theorem seq_end {K : Act → World → Prop} {a : Act} {w : World} (hK : Hid (∀ a w, Q .normal a w → K a w)) (h : Q .normal a w) : wpSeq P ops (JustK K) S [] a w := hK _ _ h
/-- A region in which, behind some operations that yield values, either of two comes first. -/
def wpFork (P : Program) (ops : Array Oper) (Q : Exit → Act → World → Prop) (S : World → Prop) (i : Nat) (ri : List (Nat × Bool)) (j : Nat) (rj : List (Nat × Bool)) : List Nat → Act → World → Prop
  | [], a, w => wpSeq P ops Q S ((i, false) :: ri) a w ∧ wpSeq P ops Q S ((j, false) :: rj) a w
  | k :: rest, a, w => ∃ o v, ops[k]? = some o ∧ YieldsIf P ops S o v a ∧ wpFork P ops Q S i ri j rj rest (a.put o.dst v) w
def forkOk (ops : Array Oper) (i : Nat) (ri : List (Nat × Bool)) (j : Nat) (rj : List (Nat × Bool)) : List Nat → Array Bool → Bool
  | [], listed => (Region.ready .any ops listed == [i, j]) && ((ri.length == rj.length) && (seqOk ops ri (listed.setIfInBounds i true) && seqOk ops rj (listed.setIfInBounds j true)))
  | k :: rest, listed => Region.free .any ops listed k && ((Region.ready .any ops listed).contains k && forkOk ops i ri j rj rest (listed.setIfInBounds k true))
theorem wpAnyH_of_fork (hs : Region.noSelect ops = true) (hQ : ∀ d v c a w, Q (.panic c) (Act.put a d v) w → Q (.panic c) a w) {i j : Nat} {ri rj : List (Nat × Bool)} :
    ∀ (pre : List Nat) (listed : Array Bool) (a : Act) (w : World), forkOk ops i ri j rj pre listed = true → S w → wpFork P ops Q S i ri j rj pre a w → wpAnyH P .any ops Q S (pre.length + (ri.length + 1)) listed a w := by
  intro pre
  induction pre with
  | nil =>
    intro listed a w hok _ h
    simp only [forkOk, Bool.and_eq_true, beq_iff_eq] at hok
    obtain ⟨hr, hl, h1, h2⟩ := hok
    rw [List.length_nil, Nat.zero_add]
    refine wpAnyH_all (rs := [i, j]) hr (by simp) (fun k hk => ?_)
    simp only [List.mem_cons, List.mem_nil_iff, or_false] at hk
    rcases hk with rfl | rfl
    · exact wpOp_mono (fun a' w' h' => ⟨h'.1, wpAnyH_of_seq hs hQ _ _ _ _ h1 h'.1 h'.2⟩) h.1
    · rw [hl]
      exact wpOp_mono (fun a' w' h' => ⟨h'.1, wpAnyH_of_seq hs hQ _ _ _ _ h2 h'.1 h'.2⟩) h.2
  | cons k rest ih =>
    intro listed a w hok hS h
    obtain ⟨o, v, ho, hy, h⟩ := h
    simp only [forkOk, Bool.and_eq_true] at hok
    rw [List.length_cons, Nat.add_right_comm]
    exact wpAnyH_take ho hs hok.1 hok.2.1 (fun c a w => hQ _ _ c a w) hy hS (ih _ _ _ hok.2.2 hS h)
theorem wp_region_fork (S : World → Prop) (pre : List Nat) (i : Nat) (ri : List (Nat × Bool)) (j : Nat) (rj : List (Nat × Bool)) {id : Nat} {a : Act} {w : World} (hm : P.follows .mixedOrders = true) (hs : Region.noSelect ops = true)
    (hn : pre.length + (ri.length + 1) = ops.size) (hok : forkOk ops i ri j rj pre (Array.replicate ops.size false) = true)
    (hS : S w.drew) (h : ∀ K : Act → World → Prop, Hid (∀ a w, Q .normal a w → K a w) → S w.drew → wpFork P ops (JustK K) S i ri j rj pre a w.drew) : (Code.region id ops true).wp P Q a w := by
  refine Code.wp_mono (Q := JustK (Q .normal)) (fun e a w he => by cases e <;> first | exact he | exact False.elim he) ?_
  refine wp_region_held hm (S := S) ?_
  have := wpAnyH_of_fork (S := S) hs (fun _ _ _ _ _ h => h.elim) pre (Array.replicate ops.size false) a w.drew hok hS (h (Q .normal) (fun _ _ h => h) hS)
  rw [hn] at this
  exact this
theorem fork_take {i : Nat} {ri : List (Nat × Bool)} {j : Nat} {rj : List (Nat × Bool)} {k : Nat} {rest : List Nat} {a : Act} {w : World} {o : Oper} {v : Value} (ho : ops[k]? = some o) (hw : Region.wanted o (yielded ops a.tmps) = true)
    (hv : ∀ W, S W → (execOp a.eval o).run P W = .ok (.value v) W) (h : wpFork P ops Q S i ri j rj rest (a.put o.dst v) w) : wpFork P ops Q S i ri j rj (k :: rest) a w := ⟨o, v, ho, .inl ⟨hw, hv⟩, h⟩
theorem fork_two {i : Nat} {ri : List (Nat × Bool)} {j : Nat} {rj : List (Nat × Bool)} {a : Act} {w : World} (h1 : wpSeq P ops Q S ((i, false) :: ri) a w) (h2 : wpSeq P ops Q S ((j, false) :: rj) a w) : wpFork P ops Q S i ri j rj [] a w := ⟨h1, h2⟩
end
end Go.Proofs.YtbldegmanbmpmaaGreatDoor
