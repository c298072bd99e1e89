/- A region that draws its order and whose last operation may turn what the others looked at: behind it nothing need hold. -/
import Derived.Test.YtbldegmanbmpmaaGreatDoorA3
namespace Go.Proofs.YtbldegmanbmpmaaGreatDoor
open Go.RowKit Go.Shelf
section
variable {P : Program} {ops : Array Oper} {Q : Exit → Act → World → Prop} {S : World → Prop} {z : Nat}
/-- Operation z waits for operation i, by a chain. -/
def anc (ops : Array Oper) : Nat → Nat → Nat → Bool
  | 0, _, _ => false
  | f + 1, z, i => match ops[z]? with
    | none => false
    | some o => o.after.any (fun e => Region.binds .any e && (e.on == i || anc ops f e.on i))
/-- With an operation, all that it waits for has come up. -/
def Shut (ops : Array Oper) (listed : Array Bool) : Prop :=
  ∀ k ok, ops[k]? = some ok → listed.getD k false = true → ∀ e ∈ ok.after, Region.binds .any e = true → listed.getD e.on false = true
theorem unlisted {listed : Array Bool} {i : Nat} (h : listed.getD i true = false) : listed.getD i false = false := by
  rcases Nat.lt_or_ge i listed.size with h' | h'
  · simp [h'] at h ⊢; exact h
  · simp [Array.getElem?_eq_none h'] at h
theorem anc_listed {listed : Array Bool} {i : Nat} (hc : Shut ops listed) : ∀ (f z : Nat) (o : Oper), anc ops f z i = true → ops[z]? = some o → (∀ e ∈ o.after, Region.binds .any e = true → listed.getD e.on false = true) → listed.getD i false = true := by
  intro f
  induction f with
  | zero => intro z o h; cases h
  | succ f ih =>
    intro z o h ho hall
    simp only [anc, ho, Array.any_eq_true'] at h
    obtain ⟨e, he, hb⟩ := h
    simp only [Bool.and_eq_true, Bool.or_eq_true, beq_iff_eq] at hb
    obtain ⟨hb, rfl | h2⟩ := hb
    · exact hall e he hb
    · cases ho2 : ops[e.on]? with
      | none => cases f with
        | zero => cases h2
        | succ f => simp [anc, ho2] at h2
      | some o2 => exact ih e.on o2 h2 ho2 (hc e.on o2 ho2 (hall e he hb))
theorem Shut.set {listed : Array Bool} {j : Nat} (hc : Shut ops listed) (hj : j ∈ Region.ready .any ops listed) : Shut ops (listed.setIfInBounds j true) := by
  obtain ⟨h0, oj, hoj, hall⟩ := mem_ready.1 hj
  intro k ok hk hl e he hb
  by_cases hjk : j = k
  · subst hjk
    rw [hoj] at hk; cases hk
    exact getD_set_true (hall e he hb)
  · rw [getD_set_ne false hjk] at hl
    exact getD_set_true (hc k ok hk hl e he hb)
theorem Shut.start (n : Nat) : Shut ops (Array.replicate n false) := by
  intro k ok _ hl
  simp [Array.getElem?_replicate] at hl
  split at hl <;> simp_all
def wpAnyZ (P : Program) (ops : Array Oper) (Q : Exit → Act → World → Prop) (S : World → Prop) (z : Nat) : Nat → Array Bool → Act → World → Prop
  | 0, listed, a, w => Region.ready .any ops listed = [] ∧ Q .normal a w
  | fuel + 1, listed, a, w =>
    (Region.ready .any ops listed = [] → Q .normal a w) ∧
    ∀ i ∈ Region.ready .any ops listed, wpOp P ops Q i (fun a' w' => (i ≠ z → S w') ∧ wpAnyZ P ops Q S z fuel (listed.setIfInBounds i true) a' w') a w
theorem wpAny_of_Z : ∀ (fuel : Nat) (listed : Array Bool) (a : Act) (w : World), wpAnyZ P ops Q S z fuel listed a w → wpAny P .any ops Q fuel listed a w
  | 0, _, _, _, h => h
  | fuel + 1, _, _, _, h => ⟨h.1, fun i hi => wpOp_mono (fun a' w' h' => wpAny_of_Z fuel _ a' w' h'.2) (h.2 i hi)⟩
theorem wpAnyZ_first {i m : Nat} {oi : Oper} {v : Value} (hi : ops[i]? = some oi) (hsel : ∀ (j : Nat) (o : Oper) cs b, ops[j]? = some o → o.op ≠ .select cs b)
    (hQ : ∀ c a w, Q (.panic c) (a.put oi.dst v) w → Q (.panic c) a w) (hz : anc ops m z i = true) (hzi : i ≠ z) :
    ∀ (fuel : Nat) (listed : Array Bool) (a : Act) (w : World), Shut ops listed →
      (∀ j oj, ops[j]? = some oj → j ≠ i → listed.getD j true = false → (∀ e ∈ oj.after, Region.binds .any e = true → e.on ≠ i) → oi.apart ops oj = true) →
      i ∈ Region.ready .any ops listed → YieldsIf P ops S oi v a → S w →
      wpAnyZ P ops Q S z fuel (listed.setIfInBounds i true) (a.put oi.dst v) w → wpAnyZ P ops Q S z (fuel + 1) listed a w := by
  intro fuel
  induction fuel with
  | zero =>
    intro listed a w _ _ hr hy hS H
    refine ⟨fun h => (by rw [h] at hr; cases hr), fun j hj => ?_⟩
    by_cases hji : j = i
    · subst hji; exact hy.wpOp hi hS ⟨fun _ => hS, H⟩
    · have := ready_mono hj hji
      rw [H.1] at this
      cases this
  | succ fuel ih =>
    intro listed a w hc hfree hr hy hS H
    refine ⟨fun h => (by rw [h] at hr; cases hr), fun j hj => ?_⟩
    by_cases hji : j = i
    · subst hji; exact hy.wpOp hi hS ⟨fun _ => hS, H⟩
    · have h1 := H.2 j (ready_mono hj hji)
      obtain ⟨hjun, oj, hoj, hall⟩ := mem_ready.1 hj
      have hun := unlisted (mem_ready.1 hr).1
      have hjz : j ≠ z := fun e => by
        subst e
        have := anc_listed hc m j oj hz hoj hall
        rw [hun] at this; cases this
      have hnot : ∀ e ∈ oj.after, Region.binds .any e = true → e.on ≠ i := fun e he hb heq => by
        have h1 := hall e he hb
        rw [heq, hun] at h1; cases h1
      have h2 := wpOp_putIf hoj (hfree j oj hoj hji hjun hnot) (fun cs b => hsel i oi cs b hi) (fun cs b => hsel j oj cs b hoj) hQ hy h1
      have hfree' : ∀ k ok, ops[k]? = some ok → k ≠ i → (listed.setIfInBounds j true).getD k true = false →
          (∀ e ∈ ok.after, Region.binds .any e = true → e.on ≠ i) → oi.apart ops ok = true := fun k ok hk hki hun hno => by
        refine hfree k ok hk hki ?_ hno
        by_cases hjk : j = k
        · subst hjk; exact hjun
        · rw [getD_set_ne true hjk] at hun; exact hun
      refine wpOp_mono (fun a' w' h3 => ⟨h3.2.1, ih (listed.setIfInBounds j true) a' w' (hc.set hj) hfree' (ready_mono hr (Ne.symm hji)) h3.1 (h3.2.1 hjz) ?_⟩) h2
      rw [Array.setIfInBounds_comm _ _ hji]
      exact h3.2.2
def wpSeqZ (P : Program) (ops : Array Oper) (Q : Exit → Act → World → Prop) (S : World → Prop) (z : Nat) : List (Nat × Bool) → Act → World → Prop
  | [], a, w => Q .normal a w
  | (i, true) :: rest, a, w => ∃ o v, ops[i]? = some o ∧ YieldsIf P ops S o v a ∧ wpSeqZ P ops Q S z rest (a.put o.dst v) w
  | (i, false) :: rest, a, w => wpOp P ops Q i (fun a' w' => (i ≠ z → S w') ∧ wpSeqZ P ops Q S z rest a' w') a w
/-- The order is one that serves. -/
def seqOkZ (ops : Array Oper) (z : Nat) : List (Nat × Bool) → Array Bool → Bool
  | [], listed => (Region.ready .any ops listed).isEmpty
  | (i, true) :: rest, listed => (anc ops 20 z i && i != z) && (Region.free .any ops listed i && ((Region.ready .any ops listed).contains i && seqOkZ ops z rest (listed.setIfInBounds i true)))
  | (i, false) :: rest, listed => (Region.ready .any ops listed == [i]) && ((i != z || rest.isEmpty) && seqOkZ ops z rest (listed.setIfInBounds i true))
theorem wpAnyZ_of_seq (hs : Region.noSelect ops = true) (hQ : ∀ d v c a w, Q (.panic c) (Act.put a d v) w → Q (.panic c) a w) :
    ∀ (order : List (Nat × Bool)) (listed : Array Bool) (a : Act) (w : World), Shut ops listed → seqOkZ ops z order listed = true → S w → wpSeqZ P ops Q S z order a w → wpAnyZ P ops Q S z order.length listed a w := by
  intro order
  induction order with
  | nil =>
    intro listed a w _ hok _ h
    exact ⟨by simpa [seqOkZ] using hok, h⟩
  | cons x rest ih =>
    intro listed a w hc hok hS h
    obtain ⟨i, b⟩ := x
    cases b with
    | true =>
      obtain ⟨o, v, ho, hy, h⟩ := h
      simp only [seqOkZ, Bool.and_eq_true, bne_iff_ne] at hok
      obtain ⟨⟨h1, h2⟩, h3, h4, h5⟩ := hok
      have hr : i ∈ Region.ready .any ops listed := by simpa using h4
      exact wpAnyZ_first ho (Region.noSelect_spec hs) (fun c a w => hQ _ _ c a w) h1 h2 _ _ _ _ hc (Region.free_spec ho h3) hr hy hS (ih _ _ _ (hc.set hr) h5 hS h)
    | false =>
      simp only [seqOkZ, Bool.and_eq_true, Bool.or_eq_true, bne_iff_ne, beq_iff_eq] at hok
      obtain ⟨hr, h2, h3⟩ := hok
      refine ⟨fun h0 => (by rw [hr] at h0; cases h0), fun j hj => ?_⟩
      have hi : i ∈ Region.ready .any ops listed := by rw [hr]; simp
      have hji : j = i := by rw [hr] at hj; simpa using hj
      subst hji
      refine wpOp_mono (fun a' w' h' => ⟨h'.1, ?_⟩) h
      rcases h2 with h2 | h2
      · exact ih _ _ _ (hc.set hi) h3 (h'.1 h2) h'.2
      · have : rest = [] := by simpa using h2
        subst this
        exact ⟨by simpa [seqOkZ] using h3, h'.2⟩
theorem wp_region_seqZ (S : World → Prop) (z : Nat) (order : List (Nat × Bool)) {id : Nat} {a : Act} {w : World} (hm : P.follows .mixedOrders = true) (hs : Region.noSelect ops = true)
    (hn : order.length = ops.size) (hok : seqOkZ ops z order (Array.replicate ops.size false) = true)
    (hS : S w.drew) (h : ∀ K : Act → World → Prop, Hid (∀ a w, Q .normal a w → K a w) → S w.drew → wpSeqZ P ops (JustK K) S z order a w.drew) : (Code.region id ops true).wp P Q a w := by
  refine Code.wp_mono (Q := JustK (Q .normal)) (fun e a w he => by cases e <;> first | exact he | exact False.elim he) ?_
  have := wpAnyZ_of_seq (S := S) (z := z) hs (fun _ _ _ _ _ h => h.elim) order (Array.replicate ops.size false) a w.drew (Shut.start _) hok hS (h (Q .normal) (fun _ _ h => h) hS)
  rw [hn] at this
  exact wp_region_any hm (wpAny_of_Z _ _ _ _ this)
theorem zseq_take {i : Nat} {rest : List (Nat × Bool)} {a : Act} {w : World} {o : Oper} {v : Value} (ho : ops[i]? = some o) (hw : Region.wanted o (yielded ops a.tmps) = true)
    (hv : ∀ W, S W → (execOp a.eval o).run P W = .ok (.value v) W) (h : wpSeqZ P ops Q S z rest (a.put o.dst v) w) : wpSeqZ P ops Q S z ((i, true) :: rest) a w := ⟨o, v, ho, .inl ⟨hw, hv⟩, h⟩
theorem zseq_skip {i : Nat} {b : Bool} {rest : List (Nat × Bool)} {a : Act} {w : World} {o : Oper} (ho : ops[i]? = some o) (hw : Region.wanted o (yielded ops a.tmps) = false) (hS : S w)
    (h : wpSeqZ P ops Q S z rest (a.put o.dst undef) w) : wpSeqZ P ops Q S z ((i, b) :: rest) a w := by
  cases b with
  | true => exact ⟨o, undef, ho, .inr ⟨hw, rfl⟩, h⟩
  | false => simp only [wpSeqZ, wpOp, ho, hw]; exact ⟨fun _ => hS, h⟩
theorem zseq_do {i : Nat} {rest : List (Nat × Bool)} {a : Act} {w : World} {o : Oper} (ho : ops[i]? = some o) (hw : Region.wanted o (yielded ops a.tmps) = true)
    (h : ∀ K : Act → World → Prop, (∀ a' w', S w' → (S w' → wpSeqZ P ops Q S z rest a' w') → K a' w') → o.wp P a w K Q) : wpSeqZ P ops Q S z ((i, false) :: rest) a w := by
  simp only [wpSeqZ, wpOp, ho, hw, if_true]
  exact .inl (h _ fun a' w' hS hh => ⟨fun _ => hS, hh hS⟩)
theorem zseq_last {a : Act} {w : World} {o : Oper} (ho : ops[z]? = some o) (hw : Region.wanted o (yielded ops a.tmps) = true)
    (h : ∀ K : Act → World → Prop, (∀ a' w', wpSeqZ P ops Q S z [] a' w' → K a' w') → o.wp P a w K Q) : wpSeqZ P ops Q S z [(z, false)] a w := by
  simp only [wpSeqZ, wpOp, ho, hw, if_true]
  exact .inl (h _ fun a' w' hh => ⟨fun e => (e rfl).elim, hh⟩)
theorem zseq_end {K : Act → World → Prop} {a : Act} {w : World} (hK : Hid (∀ a w, Q .normal a w → K a w)) (h : Q .normal a w) : wpSeqZ P ops (JustK K) S z [] a w := hK _ _ h
end
end Go.Proofs.YtbldegmanbmpmaaGreatDoor
