/- A region that draws its order, in which either of two operations comes first, and in which what is known of the world grows as it goes. -/
import Derived.Test.YtbldegmanbmpmaaGreatDoorA1
namespace Go.Proofs.YtbldegmanbmpmaaGreatDoor
open Go.RowKit Go.Shelf
section
variable {P : Program} {ops : Array Oper} {Q : Exit → Act → World → Prop} {S S' : World → Prop}
theorem wpAnyH_strong (hS : ∀ W, S' W → S W) : ∀ (fuel : Nat) (listed : Array Bool) (a : Act) (w : World), wpAnyH P .any ops Q S' fuel listed a w → wpAnyH P .any ops Q S fuel listed a w
  | 0, _, _, _, h => h
  | fuel + 1, _, _, _, h => ⟨h.1, fun i hi => wpOp_mono (fun a' w' h' => ⟨hS _ h'.1, wpAnyH_strong hS fuel _ a' w' h'.2⟩) (h.2 i hi)⟩
def wpSeqG (P : Program) (ops : Array Oper) (Q : Exit → Act → World → Prop) : List (Nat × Bool) → (World → Prop) → Act → World → Prop
  | [], _, a, w => Q .normal a w
  | (i, true) :: rest, S, a, w => ∃ o v, ops[i]? = some o ∧ YieldsIf P ops S o v a ∧ wpSeqG P ops Q rest S (a.put o.dst v) w
  | (i, false) :: rest, S, a, w => wpOp P ops Q i (fun a' w' => ∃ S' : World → Prop, (∀ W, S' W → S W) ∧ S' w' ∧ wpSeqG P ops Q rest S' a' w') a w
def wpForkG (P : Program) (ops : Array Oper) (Q : Exit → Act → World → Prop) (S : World → Prop) (i : Nat) (ri : List (Nat × Bool)) (j : Nat) (rj : List (Nat × Bool)) : List Nat → Act → World → Prop
  | [], a, w => wpSeqG P ops Q ((i, false) :: ri) S a w ∧ wpSeqG P ops Q ((j, false) :: rj) S a w
  | k :: rest, a, w => ∃ o v, ops[k]? = some o ∧ YieldsIf P ops S o v a ∧ wpForkG P ops Q S i ri j rj rest (a.put o.dst v) w
theorem wpAnyH_of_seqG (hs : Region.noSelect ops = true) (hQ : ∀ d v c a w, Q (.panic c) (Act.put a d v) w → Q (.panic c) a w) :
    ∀ (order : List (Nat × Bool)) (S : World → Prop) (listed : Array Bool) (a : Act) (w : World), seqOk ops order listed = true → S w → wpSeqG P ops Q order S a w → wpAnyH P .any ops Q S order.length listed a w := by
  intro order
  induction order with
  | nil =>
    intro S listed a w hok _ h
    exact wpAnyH_done (by simpa [seqOk] using hok) h 0
  | cons x rest ih =>
    intro S listed a w hok hS h
    obtain ⟨i, b⟩ := x
    cases b with
    | true =>
      obtain ⟨o, v, ho, hy, h⟩ := h
      simp only [seqOk, Bool.and_eq_true] at hok
      exact wpAnyH_take ho hs hok.1 hok.2.1 (fun c a w => hQ _ _ c a w) hy hS (ih _ _ _ _ hok.2.2 hS h)
    | false =>
      simp only [seqOk, Bool.and_eq_true, beq_iff_eq] at hok
      refine wpAnyH_all (rs := [i]) hok.1 (by simp) (fun j hj => ?_)
      obtain rfl : j = i := by simpa using hj
      refine wpOp_mono (fun a' w' h' => ?_) h
      obtain ⟨S', h1, h2, h3⟩ := h'
      exact ⟨h1 _ h2, wpAnyH_strong h1 _ _ _ _ (ih _ _ _ _ hok.2 h2 h3)⟩
theorem wpAnyH_of_forkG (hs : Region.noSelect ops = true) (hQ : ∀ d v c a w, Q (.panic c) (Act.put a d v) w → Q (.panic c) a w) {i j : Nat} {ri rj : List (Nat × Bool)} :
    ∀ (pre : List Nat) (listed : Array Bool) (a : Act) (w : World), forkOk ops i ri j rj pre listed = true → S w → wpForkG P ops Q S i ri j rj pre a w → wpAnyH P .any ops Q S (pre.length + (ri.length + 1)) listed a w := by
  intro pre
  induction pre with
  | nil =>
    intro listed a w hok _ h
    simp only [forkOk, Bool.and_eq_true, beq_iff_eq] at hok
    obtain ⟨hr, hl, h1, h2⟩ := hok
    rw [List.length_nil, Nat.zero_add]
    refine wpAnyH_all (rs := [i, j]) hr (by simp) (fun k hk => ?_)
    simp only [List.mem_cons, List.mem_nil_iff, or_false] at hk
    rcases hk with rfl | rfl
    · refine wpOp_mono (fun a' w' h' => ?_) h.1
      obtain ⟨S', g1, g2, g3⟩ := h'
      exact ⟨g1 _ g2, wpAnyH_strong g1 _ _ _ _ (wpAnyH_of_seqG hs hQ _ _ _ _ _ h1 g2 g3)⟩
    · rw [hl]
      refine wpOp_mono (fun a' w' h' => ?_) h.2
      obtain ⟨S', g1, g2, g3⟩ := h'
      exact ⟨g1 _ g2, wpAnyH_strong g1 _ _ _ _ (wpAnyH_of_seqG hs hQ _ _ _ _ _ h2 g2 g3)⟩
  | cons k rest ih =>
    intro listed a w hok hS h
    obtain ⟨o, v, ho, hy, h⟩ := h
    simp only [forkOk, Bool.and_eq_true] at hok
    rw [List.length_cons, Nat.add_right_comm]
    exact wpAnyH_take ho hs hok.1 hok.2.1 (fun c a w => hQ _ _ c a w) hy hS (ih _ _ _ hok.2.2 hS h)
theorem wp_region_forkG (S : World → Prop) (pre : List Nat) (i : Nat) (ri : List (Nat × Bool)) (j : Nat) (rj : List (Nat × Bool)) {id : Nat} {a : Act} {w : World} (hm : P.follows .mixedOrders = true) (hs : Region.noSelect ops = true)
    (hn : pre.length + (ri.length + 1) = ops.size) (hok : forkOk ops i ri j rj pre (Array.replicate ops.size false) = true)
    (hS : S w.drew) (h : ∀ K : Act → World → Prop, Hid (∀ a w, Q .normal a w → K a w) → wpForkG P ops (JustK K) S i ri j rj pre a w.drew) : (Code.region id ops true).wp P Q a w := by
  refine Code.wp_mono (Q := JustK (Q .normal)) (fun e a w he => by cases e <;> first | exact he | exact False.elim he) ?_
  refine wp_region_held hm (S := S) ?_
  have := wpAnyH_of_forkG (S := S) hs (fun _ _ _ _ _ h => h.elim) pre (Array.replicate ops.size false) a w.drew hok hS (h (Q .normal) (fun _ _ h => h))
  rw [hn] at this
  exact this
theorem gfork_take {i : Nat} {ri : List (Nat × Bool)} {j : Nat} {rj : List (Nat × Bool)} {k : Nat} {rest : List Nat} {a : Act} {w : World} {o : Oper} {v : Value} (ho : ops[k]? = some o) (hw : Region.wanted o (yielded ops a.tmps) = true)
    (hv : ∀ W, S W → (execOp a.eval o).run P W = .ok (.value v) W) (h : wpForkG P ops Q S i ri j rj rest (a.put o.dst v) w) : wpForkG P ops Q S i ri j rj (k :: rest) a w := ⟨o, v, ho, .inl ⟨hw, hv⟩, h⟩
theorem gseq_take {i : Nat} {rest : List (Nat × Bool)} {a : Act} {w : World} {o : Oper} {v : Value} (ho : ops[i]? = some o) (hw : Region.wanted o (yielded ops a.tmps) = true)
    (hv : ∀ W, S W → (execOp a.eval o).run P W = .ok (.value v) W) (h : wpSeqG P ops Q rest S (a.put o.dst v) w) : wpSeqG P ops Q ((i, true) :: rest) S a w := ⟨o, v, ho, .inl ⟨hw, hv⟩, h⟩
theorem gseq_do {i : Nat} {rest : List (Nat × Bool)} {a : Act} {w : World} {o : Oper} (ho : ops[i]? = some o) (hw : Region.wanted o (yielded ops a.tmps) = true)
    (h : ∀ K : Act → World → Prop, (∀ a' w', (∃ S' : World → Prop, (∀ W, S' W → S W) ∧ S' w' ∧ wpSeqG P ops Q rest S' a' w') → K a' w') → o.wp P a w K Q) : wpSeqG P ops Q ((i, false) :: rest) S a w := by
  simp only [wpSeqG, wpOp, ho, hw, if_true]
  exact .inl (h _ fun a' w' hh => hh)
theorem gseq_end {K : Act → World → Prop} {a : Act} {w : World} (hK : Hid (∀ a w, Q .normal a w → K a w)) (h : Q .normal a w) : wpSeqG P ops (JustK K) [] S a w := hK _ _ h
end
end Go.Proofs.YtbldegmanbmpmaaGreatDoor
