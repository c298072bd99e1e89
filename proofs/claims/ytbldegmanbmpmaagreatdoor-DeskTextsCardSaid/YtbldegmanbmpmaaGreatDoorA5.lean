/- A log of deeds that grows in memory: words. -/
import Derived.Test.YtbldegmanbmpmaaGreatDoorA4
namespace Go.Proofs.YtbldegmanbmpmaaGreatDoor
open Go.RowKit Go.Shelf
theorem SlI.grown {W W' : World} {A : Option Addr} {m : Nat} {xs : List Int} {row : Option Nat} (h : SlI W.heap.size W A m xs) (hg : W.grownBy W' row) (hne : ∀ a, A = some a → row ≠ some a.block) : SlI W'.heap.size W' A m xs := by
  refine ⟨h.1, h.2.1, fun hn => ?_⟩
  obtain ⟨b, o, rfl, hlt, hc⟩ := h.2.2 hn
  exact ⟨b, o, rfl, Nat.lt_of_lt_of_le hlt hg.size, fun j hj => (World.cell?_of_block (a := ⟨b, o + j, none⟩) (hg.block b hlt (fun e => hne _ rfl e.symm))).trans (hc j hj)⟩
/-- A row lies at or beyond B, in the world, and in a block other than v's. -/
def Far (B : Nat) (W : World) (v : Value) (A : Option Addr) : Prop := ∀ a, A = some a → B ≤ a.block ∧ a.block < W.heap.size ∧ v.ownBlock ≠ some a.block
theorem Far.size {B : Nat} {W W' : World} {v : Value} {A : Option Addr} (h : Far B W v A) (hs : W.heap.size ≤ W'.heap.size) : Far B W' v A := fun a e => by
  obtain ⟨h1, h2, h3⟩ := h a e
  exact ⟨h1, by omega, h3⟩
/-- A log of deeds that a call makes: its row, and its deeds' rows, lie at or beyond B. -/
def DAt (B : Nat) (W : World) (v : Value) (log : List De) : Prop :=
  ∃ cs, W.ownsRow B 37 2 v log.length cs ∧ ∀ j, j < log.length → cs[j * 2]? = some (.string (log.getD j noDe).word) ∧
    ∃ A m c, cs[j * 2 + 1]? = some (.slice A m c) ∧ SlI W.heap.size W A m (log.getD j noDe).nums ∧ Far B W v A
theorem DAt.nil (B : Nat) (W : World) : DAt B W (.slice none 0 0) [] := ⟨[], W.ownsRow_nil B 37 2, fun j hj => by cases hj⟩
theorem DAt.call {B : Nat} {W W' : World} {v : Value} {log : List De} (h : DAt B W v log) (hk : Below W.heap.size W W') : DAt B W' v log := by
  obtain ⟨cs, h1, h2⟩ := h
  refine ⟨cs, own_call h1 hk, fun j hj => ?_⟩
  obtain ⟨p, A, m, c, q, r, s⟩ := h2 j hj
  exact ⟨p, A, m, c, q, (r.below hk (Nat.le_refl _)).up hk.size, s.size hk.size⟩
theorem DAt.alloc {B : Nat} {W : World} {v : Value} {log : List De} (h : DAt B W v log) (o : Obj) : DAt B (W.alloc o) v log := h.call ((Below.refl _ _).alloc (Nat.le_refl _) o)
theorem DAt.drew {B : Nat} {W : World} {v : Value} {log : List De} (h : DAt B W v log) : DAt B W.drew v log := h
theorem DAt.set {B : Nat} {W : World} {v : Value} {log : List De} (h : DAt B W v log) {p : Addr} (hp : p.block < B) (u : Value) : DAt B (W.setCell p u) v log := by
  obtain ⟨cs, h1, h2⟩ := h
  refine ⟨cs, own_set h1 hp u, fun j hj => ?_⟩
  obtain ⟨x, A, m, c, q, r, s⟩ := h2 j hj
  have hg : W.grownBy (W.setCell p u) (some p.block) := ⟨rfl, rfl, rfl, by simp [World.setCell], fun k _ hk => Below.heap_setCell W p u k (fun e => hk (by rw [e]))⟩
  exact ⟨x, A, m, c, q, r.grown hg (fun a e => by have := (s a e).1; intro e'; injection e' with e'; omega), s.size hg.size⟩
/-- Behind an append of one deed. -/
theorem DAt.app {B : Nat} {W W' : World} {v v' : Value} {log : List De} {d : De} {A : Option Addr} {m c : Nat} {o : Obj} {cs : List Value} (h1 : W.ownsRow B 37 2 v log.length cs)
    (h2 : ∀ j, j < log.length → cs[j * 2]? = some (.string (log.getD j noDe).word) ∧ ∃ A m c, cs[j * 2 + 1]? = some (.slice A m c) ∧ SlI W.heap.size W A m (log.getD j noDe).nums ∧ Far B W v A)
    (hs : SlI W.heap.size W A m d.nums) (hA : Far B W v A)
    (ho : W'.ownsRow B 37 2 v' (log.length + 1) (cs ++ [.string d.word, .slice A m c])) (hg : (W.alloc o).grownBy W' v.ownBlock) (hv : v'.ownBlock = v.ownBlock ∨ v'.ownBlock = some (W.alloc o).heap.size) : DAt B W' v' (log ++ [d]) := by
  have hlen : cs.length = log.length * 2 := h1.1
  have fix : ∀ (A' : Option Addr) (m' : Nat) (xs : List Int), SlI W.heap.size W A' m' xs → Far B W v A' → SlI W'.heap.size W' A' m' xs ∧ Far B W' v' A' := by
    intro A' m' xs hs' hA'
    have hs2 : SlI (W.alloc o).heap.size (W.alloc o) A' m' xs := (hs'.below ((Below.refl _ _).alloc (Nat.le_refl _) o) (Nat.le_refl _)).up (by simp)
    refine ⟨hs2.grown hg (fun a e => (hA' a e).2.2), fun a e => ?_⟩
    obtain ⟨e1, e2, e3⟩ := hA' a e
    have hz := hg.size
    simp at hz
    refine ⟨e1, by omega, ?_⟩
    rcases hv with hv | hv
    · rw [hv]; exact e3
    · rw [hv]
      intro e4
      injection e4 with e4
      simp at e4
      omega
  refine ⟨cs ++ [.string d.word, .slice A m c], by rw [List.length_append, List.length_singleton]; exact ho, fun j hj => ?_⟩
  rw [List.length_append, List.length_singleton] at hj
  by_cases hjl : j < log.length
  · obtain ⟨x, A', m', c', q, r, s⟩ := h2 j hjl
    obtain ⟨r', s'⟩ := fix A' m' _ r s
    have eg : (log ++ [d]).getD j noDe = log.getD j noDe := by simp [List.getD, List.getElem?_append_left hjl]
    rw [eg]
    exact ⟨by rw [List.getElem?_append_left (by omega)]; exact x, A', m', c', by rw [List.getElem?_append_left (by omega)]; exact q, r', s'⟩
  · have : j = log.length := by omega
    subst this
    obtain ⟨r', s'⟩ := fix A m _ hs hA
    have eg : (log ++ [d]).getD log.length noDe = d := by simp [List.getD]
    rw [eg]
    exact ⟨by rw [← hlen, List.getElem?_append_right (Nat.le_refl _)]; simp, A, m, c, by rw [← hlen, List.getElem?_append_right (by omega)]; simp, r', s'⟩
theorem DAt.lies {B : Nat} {W : World} {v : Value} {log : List De} (h : DAt B W v log) (hn : log.length ≤ 4611686018427387904) : ∃ A c, v = .slice A log.length c ∧ SlD W.heap.size W A log.length log := by
  obtain ⟨cs, h1, h2⟩ := h
  rcases h1.2 with ⟨rfl, h0⟩ | ⟨g, cap, cur, rfl, hB, hg, _⟩
  · exact ⟨none, 0, by rw [h0], rfl, hn, fun hp => by omega⟩
  · have hcell : ∀ j u, cs[j]? = some u → W.cell? ⟨g, 0 + j, none⟩ = some u := by
      intro j u hu
      have hc := h1.cells (g := g) rfl j u hu
      rw [Nat.zero_add]
      by_cases hj : j = 0
      · subst hj; simpa [Addr.add] using hc
      · simpa [Addr.add, hj] using hc
    refine ⟨some ⟨g, 0, none⟩, cap, rfl, rfl, hn, fun _ => ⟨g, 0, rfl, (Array.getElem?_eq_some_iff.1 hg).1, fun j hj => ?_⟩⟩
    obtain ⟨x, A, m, c, q, r, _⟩ := h2 j hj
    exact ⟨hcell _ _ x, A, m, c, hcell _ _ q, r⟩
end Go.Proofs.YtbldegmanbmpmaaGreatDoor
