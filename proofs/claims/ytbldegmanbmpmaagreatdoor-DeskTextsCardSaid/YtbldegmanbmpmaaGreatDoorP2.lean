/- When a line of a log's text is one, in plain Lean: no program in sight. -/
import Derived.Test.YtbldegmanbmpmaaGreatDoorP1
namespace Go.Proofs.YtbldegmanbmpmaaGreatDoor
open Go.Lib
theorem four {α : Type} {l : List α} (h : l.length = 4) : ∃ a b c d, l = [a, b, c, d] := by
  match l, h with
  | [a, b, c, d], _ => exact ⟨a, b, c, d, rfl⟩
theorem deed_len {n : Int} {t : List UInt8} (h : (parts 124 t).length ≠ 4) : deedOf n t = none := by
  unfold deedOf
  split
  · rename_i hp; rw [hp] at h; exact absurd rfl h
  · rfl
theorem deed_four {n : Int} {t a b c d : List UInt8} (h : parts 124 t = [a, b, c, d]) : deedOf n t = if a = itoa n then
      match canonsFrom [] (parts 44 c) with
      | some xs => match canon d with
        | some s => if inn 0 65520 s && knownW ⟨⟨b.toArray⟩, xs⟩ then some (⟨⟨b.toArray⟩, xs⟩, s) else none
        | none => none
      | none => none
    else none := by
  unfold deedOf; rw [h]; rfl
theorem deed_head {n : Int} {t a b c d : List UInt8} (h : parts 124 t = [a, b, c, d]) (h1 : a ≠ itoa n) : deedOf n t = none := by rw [deed_four h, if_neg h1]
theorem canons_mem (l : List (List UInt8)) : ∀ (acc xs : List Int), canonsFrom acc l = some xs → (∀ x ∈ acc, x ∈ xs) ∧ ∀ t ∈ l, ∃ v ∈ xs, canon t = some v := by
  induction l with
  | nil => intro acc xs h; simp only [canonsFrom, Option.some.injEq] at h; subst h; exact ⟨fun x hx => hx, fun t ht => by cases ht⟩
  | cons y l ih =>
    intro acc xs h
    rw [canonsFrom] at h
    cases hc : canon y with
    | none => rw [hc] at h; cases h
    | some v =>
      rw [hc] at h
      obtain ⟨h1, h2⟩ := ih _ _ h
      refine ⟨fun x hx => h1 x (by simp [hx]), fun t ht => ?_⟩
      rcases List.mem_cons.1 ht with rfl | ht
      · exact ⟨v, h1 v (by simp), hc⟩
      · exact h2 t ht
theorem deed_num {n : Int} {t a b c d u : List UInt8} (h : parts 124 t = [a, b, c, d]) (hu : u ∈ parts 44 c) (h1 : numTold u = none) : deedOf n t = none := by
  rw [deed_four h]
  split
  · cases hx : canonsFrom [] (parts 44 c) with
    | none => rfl
    | some xs =>
      cases canon d with
      | none => rfl
      | some s =>
        obtain ⟨v, hv, hc⟩ := (canons_mem _ _ _ hx).2 u hu
        have ht : told1 v = false := by
          unfold numTold at h1
          rw [hc] at h1
          by_cases hb : told1 v = true
          · simp [hb] at h1
          · simpa using hb
        have hk : knownW ⟨⟨b.toArray⟩, xs⟩ = false := by
          have ha : inAll (-1000000000) 1000000000 xs = false := by
            unfold inAll
            rw [List.all_eq_false]
            exact ⟨v, hv, by rw [← told1_inn, ht]; simp⟩
          simp [knownW, ha]
        show (if (inn 0 65520 s && knownW ⟨⟨b.toArray⟩, xs⟩) = true then _ else none) = none
        rw [hk]; simp
  · rfl
theorem deed_nocanon {n : Int} {t a b c d u : List UInt8} (h : parts 124 t = [a, b, c, d]) (hu : u ∈ parts 44 c) (h1 : canon u = none) : deedOf n t = none :=
  deed_num h hu (by unfold numTold; rw [h1]; rfl)
theorem deed_seal {n : Int} {t a b c d : List UInt8} (h : parts 124 t = [a, b, c, d]) (h1 : numTold d = none) : deedOf n t = none := by
  rw [deed_four h]
  split
  · cases canonsFrom [] (parts 44 c) with
    | none => rfl
    | some xs =>
      cases hc : canon d with
      | none => rfl
      | some s =>
        have ht : told1 s = false := by
          unfold numTold at h1
          rw [hc] at h1
          by_cases hb : told1 s = true
          · simp [hb] at h1
          · simpa using hb
        have hi : inn 0 65520 s = false := by
          rw [told1_inn, inn_not] at ht
          rw [inn_not]; omega
        show (if (inn 0 65520 s && knownW ⟨⟨b.toArray⟩, xs⟩) = true then _ else none) = none
        rw [hi]; simp
  · rfl
theorem deed_nocanon2 {n : Int} {t a b c d : List UInt8} (h : parts 124 t = [a, b, c, d]) (h1 : canon d = none) : deedOf n t = none :=
  deed_seal h (by unfold numTold; rw [h1]; rfl)
theorem deed_last {n s : Int} {t a b c d : List UInt8} {xs : List Int} (h : parts 124 t = [a, b, c, d]) (h1 : a = itoa n) (h2 : canonsFrom [] (parts 44 c) = some xs) (h3 : canon d = some s) :
    deedOf n t = if inn 0 65520 s && knownW ⟨⟨b.toArray⟩, xs⟩ then some (⟨⟨b.toArray⟩, xs⟩, s) else none := by
  rw [deed_four h, if_pos h1, h2, h3]
theorem line_bad {n b : Int} {t : List UInt8} (h : deedOf n t = none) : lineW n b t = (113, noDe, 0) := by unfold lineW; rw [h]
theorem line_some {n b s : Int} {t : List UInt8} {d : De} (h : deedOf n t = some (d, s)) : lineW n b t = if s = sealW b (bodyW n d) then (0, d, s) else (114, noDe, 0) := by unfold lineW; rw [h]
theorem canons_step {acc : List Int} {t : List UInt8} {l : List (List UInt8)} {v : Int} (h : canon t = some v) : canonsFrom acc (t :: l) = canonsFrom (acc ++ [v]) l := by rw [canonsFrom, h]
theorem canons_stop {acc : List Int} {t : List UInt8} {l : List (List UInt8)} (h : canon t = none) : canonsFrom acc (t :: l) = none := by rw [canonsFrom, h]
/-- What a deed of a line is good for. -/
theorem deed_bd {n s : Int} {t : List UInt8} {d : De} (h : deedOf n t = some (d, s)) : knownW d = true ∧ 0 ≤ s ∧ s ≤ 65520 := by
  unfold deedOf at h
  split at h
  · split at h
    · split at h
      · split at h
        · rename_i xs _ s' _
          split at h
          · rename_i hk
            simp only [Bool.and_eq_true] at hk
            injection h with h
            injection h with h1 h2
            subst h1; subst h2
            have := inn_iff.1 hk.1
            exact ⟨hk.2, this.1, this.2⟩
          · cases h
        · cases h
      · cases h
    · cases h
  · cases h
theorem parts_len (c : UInt8) (l : List UInt8) : (parts c l).length ≤ l.length + 1 ∧ ∀ p ∈ parts c l, p.length ≤ l.length := by
  induction l with
  | nil => simp [parts]
  | cons b l ih =>
    rw [parts]
    split
    · refine ⟨by simp; exact ih.1, fun p hp => ?_⟩
      rcases List.mem_cons.1 hp with rfl | hp
      · simp
      · have := ih.2 p hp; simp; omega
    · split
      · rename_i hp; simp
      · rename_i x r hp
        rw [hp] at ih
        refine ⟨by simpa using Nat.le_succ_of_le ih.1, fun p hp' => ?_⟩
        rcases List.mem_cons.1 hp' with rfl | hp'
        · have := ih.2 x (by simp); simp; omega
        · have := ih.2 p (by simp [hp']); simp; omega
end Go.Proofs.YtbldegmanbmpmaaGreatDoor
