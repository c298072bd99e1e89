/- A region that draws its order, in a round of a range over a function: it is walked as outside one. -/
import Derived.OwnWalkIn
import Derived.OrdersIn
import Derived.RangeFuncCalls
import Derived.Test.YtbldegmanbmpmaaGreatDoorA6
namespace Go.Proofs.YtbldegmanbmpmaaGreatDoor
open Go.RowKit Go.Shelf
def noDefer (ops : Array Oper) : Bool := ops.all fun o => match o.op with | .defer _ => false | _ => true
section
variable {P : Program} {ops : Array Oper} {l n : Nat}
theorem op_round {o : Oper} {a : Act} {w : World} {K K' : Act → World → Prop} {J : Act → World → Prop} (ho : ∀ c, o.op ≠ .defer c) (hK : ∀ a w, K a w → K' a w) (h : o.wp P a w K (JustK J)) : o.wpIn (Fence.wide.inRound l) n P a w K' (JustK J) := by
  refine ⟨fun f _ => trivial, ?_⟩
  rw [Oper.semAt_plain _ _ _ ho]
  unfold Oper.wp at h
  generalize (execOp a.eval o).run P w = r at h ⊢
  cases r with
  | ok x w' =>
    cases x <;> simp only [Oper.upon, Oper.uponIn] at h ⊢
    case value v => exact hK _ _ h
    case skip => exact hK _ _ h
    case defer d => exact hK _ _ h
    case enter f args =>
      refine ⟨fun e => (by cases e), CallsIn.inRound l ((callsIn_wide.2 h).mono fun e w'' he => ?_)⟩
      cases e with
      | returned v => exact hK _ _ he
      | panicked c => exact he
      | outgrown => exact he
    case row row args =>
      refine ⟨fun e => (by cases e), fun c cs _ => ?_⟩
      obtain ⟨v, w'', r, s⟩ := h c cs
      exact ⟨v, w'', hK _ _ r, stepsIn_wide.2 s⟩
  | halt x w' => cases x <;> simp only [Oper.upon, Oper.uponIn] at h ⊢ <;> exact h
theorem ops_round {J : Act → World → Prop} (hd : noDefer ops = true) : ∀ (li : List Nat) (a : Act) (w : World), wpOps P ops (JustK J) li a w → wpOpsIn (Fence.wide.inRound l) n P ops (JustK J) li a w := by
  intro li
  induction li with
  | nil => exact fun a w h => h
  | cons i rest ih =>
    intro a w h
    simp only [wpOps, wpOpsIn] at h ⊢
    cases ho : ops[i]? with
    | none => rw [ho] at h; exact ih _ _ h
    | some o =>
      rw [ho] at h
      simp only at h ⊢
      by_cases hw : Region.wanted o (yielded ops a.tmps) = true
      · rw [if_pos hw] at h ⊢
        rcases h with h | ⟨_, a', w', hf⟩
        · refine op_round (fun c hc => ?_) ih h
          have hm := (Array.all_eq_true'.1 hd) o (Array.mem_of_getElem? ho)
          rw [hc] at hm; cases hm
        · exact hf.elim
      · rw [if_neg hw] at h ⊢
        exact ⟨fun f _ => trivial, ih _ _ h⟩
theorem wp_region_round {Q : Exit → Act → World → Prop} (S : World → Prop) (order : List (Nat × Bool)) {id : Nat} {a : Act} {w : World} (hm : P.follows .mixedOrders = true) (hd : noDefer ops = true) (hs : Region.noSelect ops = true)
    (hn : order.length = ops.size) (hok : seqOk ops order (Array.replicate ops.size false) = true)
    (hS : S w.drew) (h : ∀ K : Act → World → Prop, Hid (∀ a w, Q .normal a w → K a w) → S w.drew → wpSeq P ops (JustK K) S order a w.drew) : (Code.region id ops true).wpIn (Fence.wide.inRound l) n P Q a w := by
  refine wpIn_mono (Q := JustK (Q .normal)) ?_ (fun e a w he => by cases e <;> first | exact he | exact False.elim he)
  refine wpIn_region_draw fun t => ?_
  refine ops_round hd _ _ _ ?_
  have := wpAnyH_of_seq (S := S) hs (fun _ _ _ _ _ h => h.elim) order (Array.replicate ops.size false) a w.drew hok hS (h (Q .normal) (fun _ _ h => h) hS)
  rw [hn] at this
  simp only [Region.schedule, hm, Bool.true_or, if_true]
  exact wpAny_sound ops.size t _ a _ (wpAny_of_held _ _ _ _ this)
end
end Go.Proofs.YtbldegmanbmpmaaGreatDoor
