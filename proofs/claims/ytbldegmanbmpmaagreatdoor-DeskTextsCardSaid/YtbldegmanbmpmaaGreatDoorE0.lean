/- The comparisons of two logs, where they hold the same deeds; and the law's own measure of a log. -/
import Derived.Test.YtbldegmanbmpmaaGreatDoorD4
namespace Go.Proofs.YtbldegmanbmpmaaGreatDoor
open Go.RowKit Go.Shelf
set_option maxHeartbeats 2000000 in
theorem c24 (A A' : Option Addr) (n c c' : Nat) (xs : List Int) (w : World) (hs : SlI w.heap.size w A n xs) (hs' : SlI w.heap.size w A' n xs) :
    Calls Tryz.prog 24 #[.slice A n c, .slice A' n c'] w fun e w' => e = .returned (.bool true) ∧ Below w.heap.size w w' := by
  have HS := Lib.hid hs
  have HS' := Lib.hid hs'
  have hn := hs.2.1
  clear hs hs'
  go_enter Tryz.func24, Tryz.ntmps24
  go_wp2
  go_loopw [5] (fun i W => ∃ k : Nat, k ≤ n ∧ i = .int .i64 k ∧ Below w.heap.size w W) (fun i _ => n - (intOf i).toNat)
  case atStart => exact ⟨0, Nat.zero_le _, rfl, Below.refl _ _⟩
  case round =>
    obtain ⟨k, hk, rfl, hb⟩ := hrel
    by_cases hlt : k < n
    · obtain ⟨b, o, rfl, hB, hc⟩ := HS.out.2.2 (by omega)
      obtain ⟨b', o', rfl, hB', hc'⟩ := HS'.out.2.2 (by omega)
      have g0 := hc k hlt
      have g1 := hc' k hlt
      generalize xs.getD k 0 = x at g0 g1
      have HCW := Lib.hid (fun (W : World) (hW : Below w.heap.size w W) => And.intro ((hW.cell (p := ⟨b, o + k, none⟩) hB).trans g0) ((hW.cell (p := ⟨b', o' + k, none⟩) hB').trans g1))
      clear hc hc' g0 g1
      have ex : (x == x) = true := by simp
      have ex2 : (x != x) = false := by simp
      go_wp2_with (fail)
      refine wp_region_seq (fun W => Below w.heap.size w W) [(0, true), (1, true), (2, true), (3, true), (4, true), (5, true), (6, true), (7, true), (8, true)] (by kernel_rfl) (by kernel_rfl) rfl (by kernel_rfl) (hb.drew) (fun K1 hK1 hS => ?_)
      repeat (first | (refine seq_skip (by simp only [List.getElem?_toArray, List.getElem?_cons_succ, List.getElem?_cons_zero] <;> rfl) (by rfl) (by assumption) ?_; simp only [Act.put, List.setIfInBounds_toArray, List.set_cons_zero, List.set_cons_succ]) | (refine seq_take (v := ?_) (by simp only [List.getElem?_toArray, List.getElem?_cons_succ, List.getElem?_cons_zero] <;> rfl) (by rfl) (fun W hW => ?_) ?_; rotate_left; (· obtain ⟨q0, q1⟩ := HCW.out W hW; go_simp; with_reducible rfl); simp only [Act.put, List.setIfInBounds_toArray, List.set_cons_zero, List.set_cons_succ]))
      refine seq_end hK1 ?_; clear hK1 K1
      have HB2 := Lib.hid hS
      clear hS hb
      go_wp2
      go_roundw
      case rel => exact ⟨k + 1, by omega, by go_num, HB2.out⟩
      case measure => simp [intOf]; omega
    · go_wp2
      go_ret
      exact ⟨rfl, hb⟩
set_option maxRecDepth 100000 in
set_option maxHeartbeats 4000000 in
theorem c9 (A A' : Option Addr) (n c c' : Nat) (xs : List De) (w : World) (hs : SlD w.heap.size w A n xs) (hs' : SlD w.heap.size w A' n xs) :
    Calls Tryz.prog 9 #[.slice A n c, .slice A' n c'] w fun e w' => e = .returned (.bool true) ∧ Below w.heap.size w w' := by
  have HS := Lib.hid hs
  have HS' := Lib.hid hs'
  have hn := hs.2.1
  clear hs hs'
  go_enter Tryz.func9, Tryz.ntmps9
  go_wp2
  go_loopw [5] (fun i W => ∃ k : Nat, k ≤ n ∧ i = .int .i64 k ∧ Below w.heap.size w W) (fun i _ => n - (intOf i).toNat)
  case atStart => exact ⟨0, Nat.zero_le _, rfl, Below.refl _ _⟩
  case round =>
    obtain ⟨k, hk, rfl, hb⟩ := hrel
    by_cases hlt : k < n
    · obtain ⟨b, o, rfl, hB, hc⟩ := HS.out.2.2 (by omega)
      obtain ⟨b', o', rfl, hB', hc'⟩ := HS'.out.2.2 (by omega)
      obtain ⟨g0, A1, m1, c1, g1, hn1⟩ := hc k hlt
      obtain ⟨g2, A2, m2, c2, g3, hn2⟩ := hc' k hlt
      generalize xs.getD k noDe = d at g0 g2 hn1 hn2
      obtain ⟨word, nums⟩ := d
      have hm : m1 = m2 := hn1.1.symm.trans hn2.1
      subst hm
      have HN1 := Lib.hid hn1
      have HN2 := Lib.hid hn2
      have HCW := Lib.hid (fun (W : World) (hW : Below w.heap.size w W) => And.intro ((hW.cell (p := ⟨b, o + k * 2, none⟩) hB).trans g0) (And.intro ((hW.cell (p := ⟨b, o + k * 2 + 1, none⟩) hB).trans g1) (And.intro ((hW.cell (p := ⟨b', o' + k * 2, none⟩) hB').trans g2) ((hW.cell (p := ⟨b', o' + k * 2 + 1, none⟩) hB').trans g3))))
      clear hc hc' g0 g1 g2 g3 hn1 hn2
      have ex : (word.toList == word.toList) = true := by simp
      go_wp2_with (fail)
      refine wp_region_seq (fun W => Below w.heap.size w W) [(0, true), (1, true), (2, true), (3, true), (4, true), (5, true), (6, true), (7, true), (8, true), (9, true), (10, true), (11, true), (12, true), (13, true), (14, true), (15, true), (16, true), (17, true), (18, true), (19, true), (20, true), (21, true), (22, false), (23, true), (24, true)] (by kernel_rfl) (by kernel_rfl) rfl (by kernel_rfl) (hb.drew) (fun K1 hK1 hS => ?_)
      repeat (first | (refine seq_skip (by simp only [List.getElem?_toArray, List.getElem?_cons_succ, List.getElem?_cons_zero] <;> rfl) (by rfl) (by assumption) ?_; simp only [Act.put, List.setIfInBounds_toArray, List.set_cons_zero, List.set_cons_succ]) | (refine seq_take (v := ?_) (by simp only [List.getElem?_toArray, List.getElem?_cons_succ, List.getElem?_cons_zero] <;> rfl) (by rfl) (fun W hW => ?_) ?_; rotate_left; (· obtain ⟨q0, q1, q2, q3⟩ := HCW.out W hW; go_simp; with_reducible rfl); simp only [Act.put, List.setIfInBounds_toArray, List.set_cons_zero, List.set_cons_succ]))
      (refine seq_do (by simp only [List.getElem?_toArray, List.getElem?_cons_succ, List.getElem?_cons_zero] <;> rfl) (by rfl) (fun K hK => ?_); go_simp; refine (c24 A1 A2 m1 c1 c2 nums _ ((HN1.out.below ‹Below w.heap.size w _› (Nat.le_refl _)).up ‹Below w.heap.size w _›.size) ((HN2.out.below ‹Below w.heap.size w _› (Nat.le_refl _)).up ‹Below w.heap.size w _›.size)).mono ?_; rintro e w1 ⟨rfl, hk⟩; refine hK _ _ (‹Below w.heap.size w _›.trans (hk.mono ‹Below w.heap.size w _›.size)) (fun hS => ?_); clear hK K; try simp only [Act.put, List.setIfInBounds_toArray, List.set_cons_zero, List.set_cons_succ])
      repeat (first | (refine seq_skip (by simp only [List.getElem?_toArray, List.getElem?_cons_succ, List.getElem?_cons_zero] <;> rfl) (by rfl) (by assumption) ?_; simp only [Act.put, List.setIfInBounds_toArray, List.set_cons_zero, List.set_cons_succ]) | (refine seq_take (v := ?_) (by simp only [List.getElem?_toArray, List.getElem?_cons_succ, List.getElem?_cons_zero] <;> rfl) (by rfl) (fun W hW => ?_) ?_; rotate_left; (· obtain ⟨q0, q1, q2, q3⟩ := HCW.out W hW; go_simp; with_reducible rfl); simp only [Act.put, List.setIfInBounds_toArray, List.set_cons_zero, List.set_cons_succ]))
      refine seq_end hK1 ?_; clear hK1 K1
      have HB2 := Lib.hid ‹Below w.heap.size w w1›
      clear hS hb
      go_wp2
      go_roundw
      case rel => exact ⟨k + 1, by omega, by go_num, HB2.out⟩
      case measure => simp [intOf]; omega
    · go_wp2
      go_ret
      exact ⟨rfl, hb⟩
theorem c4 (A : Option Addr) (n c : Nat) (xs : List De) (w : World) (hs : SlD w.heap.size w A n xs) :
    Calls Tryz.prog 4 #[.slice A n c] w fun e w' => (∃ b, e = .returned (.bool b)) ∧ Below w.heap.size w w' := by
  have HS := Lib.hid hs
  have hn := hs.2.1
  clear hs
  by_cases hlong : 200 < n
  · have hd : decide ((200 : Int) < (n : Int)) = true := by simp; omega
    go_enter Tryz.func4, Tryz.ntmps4
    go_wp2
    go_ret
    exact ⟨⟨_, rfl⟩, Below.refl _ _⟩
  have hd : decide ((200 : Int) < (n : Int)) = false := by simp; omega
  go_enter Tryz.func4, Tryz.ntmps4
  go_wp2
  clear hd
  go_loopw [3] (fun i W => ∃ k : Nat, k ≤ n ∧ i = .int .i64 k ∧ Below w.heap.size w W) (fun i _ => n - (intOf i).toNat)
  case atStart => exact ⟨0, Nat.zero_le _, rfl, Below.refl _ _⟩
  case round =>
    obtain ⟨k, hk, rfl, hb⟩ := hrel
    by_cases hlt : k < n
    · obtain ⟨b, o, rfl, hB, hc⟩ := HS.out.2.2 (by omega)
      obtain ⟨g0, A1, m1, c1, g1, hn1⟩ := hc k hlt
      generalize xs.getD k noDe = d at g0 hn1
      obtain ⟨word, nums⟩ := d
      have hm1 := hn1.2.1
      have q0 := (hb.cell (p := ⟨b, o + k * 2, none⟩) hB).trans g0
      have q1 := (hb.cell (p := ⟨b, o + k * 2 + 1, none⟩) hB).trans g1
      clear hc g0 g1 hn1
      dsimp only at q0
      by_cases h30 : 30 < m1
      · have h1 : decide ((30 : Int) < (m1 : Int)) = true := by simp; omega
        go_wp2
        go_ret
        exact ⟨⟨_, rfl⟩, hb⟩
      have h1 : decide ((30 : Int) < (m1 : Int)) = false := by simp; omega
      by_cases h31 : 30 < word.size
      · have h2 : decide ((30 : Int) < (word.size : Int)) = true := by simp; omega
        go_wp2
        go_ret
        exact ⟨⟨_, rfl⟩, hb⟩
      have h2 : decide ((30 : Int) < (word.size : Int)) = false := by simp; omega
      go_wp2
      go_roundw
      case rel => exact ⟨k + 1, by omega, by go_num, hb⟩
      case measure => simp [intOf]; omega
    · go_wp2
      go_ret
      exact ⟨⟨_, rfl⟩, hb⟩
end Go.Proofs.YtbldegmanbmpmaaGreatDoor
