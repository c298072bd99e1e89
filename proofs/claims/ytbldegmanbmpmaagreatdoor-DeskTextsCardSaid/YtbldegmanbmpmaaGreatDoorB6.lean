/- The program's body of a line: what it returns. -/
import Derived.Test.YtbldegmanbmpmaaGreatDoorA4
import Derived.Test.YtbldegmanbmpmaaGreatDoorB5
import Derived.Maps.AppendAt
import Derived.OwnWalk
namespace Go.Proofs.YtbldegmanbmpmaaGreatDoor
open Go.RowKit Go.Shelf
theorem info9 : (Tryz.prog.info? 9).map (fun i => (i.zero, i.size, i.bytes)) = some (some (.string .empty), 1, 16) := by kernel_rfl
theorem lit1 (c : UInt8) : ({ data := #[c] } : ByteArray).size = 1 := rfl
theorem body_cat (n : Int) (d : De) : (⟨(Lib.itoa n).toArray⟩ ++ { data := #[124] } ++ d.word ++ { data := #[124] } ++ ⟨(Lib.join (d.nums.map Lib.itoa) [44]).toArray⟩ ++ { data := #[124] } : ByteArray) = ⟨(bodyW n d).toArray⟩ := by
  have hw : d.word = ⟨d.word.data.toList.toArray⟩ := (Lib.mk_data d.word).symm
  have h1 : ({ data := #[124] } : ByteArray) = ⟨[124].toArray⟩ := rfl
  rw [h1, cat_mk]
  conv => lhs; rw [hw]
  rw [cat_mk, cat_mk, cat_mk, cat_mk]
  simp [bodyW]
def strV (t : List UInt8) : Value := .string ⟨t.toArray⟩
theorem one_str (t : List UInt8) : ∀ u ∈ [strV t], u.oneCell' = true := by simp [strV, Value.oneCell']
/-- strings.Join of a slice of the call's own. -/
theorem joinC (v : Value) (B : Nat) (xs : List (List UInt8)) (sep : List UInt8) (W : World) (h : W.ownsRow B 9 1 v xs.length (xs.map strV)) (hN : xs.length ≤ 100000) (hl : (Lib.join xs sep).length ≤ 100000000) :
    Calls Tryz.prog 27 #[v, .string ⟨sep.toArray⟩] W fun e w' => e = .returned (.string ⟨(Lib.join xs sep).toArray⟩) ∧ Below W.heap.size W w' := by
  rcases h.2 with ⟨rfl, h0⟩ | ⟨g, cap, cur, rfl, hB, hg, hnc, hcm, hsz, htake⟩
  · have : xs = [] := List.eq_nil_of_length_eq_zero h0
    subst this
    exact (Tryz.strings_Join_none none 0 ⟨sep.toArray⟩ W).mono fun e w' ⟨he, hw⟩ => ⟨he, by rw [hw]; exact Below.refl _ _⟩
  · have hm : (xs.map fun t => (⟨t.toArray⟩ : ByteArray)).map (·.data.toList) = xs := by rw [List.map_map]; exact (List.map_congr_left (fun t _ => rfl)).trans (List.map_id xs)
    have hj := Tryz.strings_Join g 0 cap (xs.map fun t => (⟨t.toArray⟩ : ByteArray)) ⟨sep.toArray⟩ W (fun j x hx => by
      have hc := h.cells (g := g) rfl j (.string x) (by
        rw [List.getElem?_map] at hx ⊢
        obtain ⟨t, ht, rfl⟩ := Option.map_eq_some_iff.1 hx
        rw [ht]; rfl)
      by_cases hj : j = 0
      · subst hj; simpa [Addr.add] using hc
      · simpa [Addr.add, hj] using hc) (Array.getElem?_eq_some_iff.1 hg).1 (by rw [List.length_map]; omega) (by rw [List.length_map]; exact hnc) (by rw [hm]; simp only []; omega)
    rw [hm, List.length_map] at hj
    exact hj
set_option maxRecDepth 100000 in
set_option maxHeartbeats 2000000 in
theorem c11 (n : Int) (hn : fits n) (d : De) (A : Option Addr) (m c : Nat) (w : World) (hok : Ok w) (hs : SlI w.heap.size w A m d.nums) (hw : d.word.size ≤ 1000) (hm : m ≤ 1000) (hf : ∀ x ∈ d.nums, fits x) :
    Calls Tryz.prog 11 #[.int .i64 n, .agg #[.string d.word, .slice A m c]] w fun e w' => e = .returned (.string ⟨(bodyW n d).toArray⟩) ∧ Below w.heap.size w w' := by
  obtain ⟨BS, hBS⟩ : ∃ bs : List (Nat × TypeId × List Value), bs = [(w.heap.size, 37, [.string d.word, .slice A m c])] := ⟨_, rfl⟩
  have I0 := (Inv.start w).new 37 [.string d.word, .slice A m c]
  rw [← hBS] at I0
  have K1 : ∀ W, Inv w W BS → Box W w.heap.size 37 [.string d.word, .slice A m c] := fun W I => by subst hBS; exact I.box
  have K2 : ∀ x ∈ BS, x.1 < w.heap.size + 1 := by subst hBS; simp
  have HK := Lib.hid K1
  have HK2 := Lib.hid K2
  have HI := Lib.hid I0
  have HS := Lib.hid hs
  have HF := Lib.hid hf
  have HO := Lib.hid hok
  have HN := Lib.hid hn
  clear hBS K1 K2 I0 hs hf hok hn
  obtain ⟨q0, q1, _, _⟩ := (HK.out _ HI.out).facts2
  obtain ⟨i0, hi, hz0, hz1, hz2⟩ := info_parts info9
  go_enter Tryz.func11, Tryz.ntmps11
  go_wp2
  go_loopw [5, 11] (fun v i W => ∃ k : Nat, k ≤ m ∧ i = .int .i64 k ∧ Gro w W BS (w.heap.size + 1) 9 1 v k ((d.nums.take k).map fun x => strV (Lib.itoa x))) (fun _ i _ => m - (intOf i).toNat)
  case atStart => exact ⟨0, Nat.zero_le _, rfl, Gro.start HI.out _ _ _⟩
  case round =>
    obtain ⟨k, hk, rfl, G⟩ := hrel
    clear q0 q1
    by_cases hlt : k < m
    · obtain ⟨b, o, rfl, hB, hc⟩ := HS.out.2.2 (by omega)
      have hck := (G.1.1.cell (p := ⟨b, o + k, none⟩) hB).trans (hc k hlt)
      clear hc
      have HX := Lib.hid (HF.out (d.nums.getD k 0) (by rw [List.getD_eq_getElem?_getD, List.getElem?_eq_getElem (by rw [HS.out.1]; exact hlt)]; exact List.getElem_mem _))
      have HT : Hid (d.nums.take (k + 1) = d.nums.take k ++ [d.nums.getD k 0]) := by show _ = _; rw [List.take_succ_eq_append_getElem (by rw [HS.out.1]; exact hlt)]; simp [List.getD, HS.out.1, hlt]
      generalize hx : d.nums.getD k 0 = x at *
      clear hx
      go_wp2_with (fail)
      clear hck
      refine (c14 x HX.out _ (HO.out.inv G.1)).mono ?_
      rintro e w1 ⟨rfl, hk1⟩
      have G1 := G.call hk1
      clear hk1 G
      have a1 := Lib.hid (cell_one_new w1 (strV (Lib.itoa x)) 9)
      have a2 := Lib.hid (one_str (Lib.itoa x))
      have a3 : Hid (k + 1 ≤ maxLen) := by show k + 1 ≤ maxLen; unfold maxLen; omega
      have a4 : Hid ((k + 1) * 16 ≤ 140737488355328) := by show _ ≤ _; omega
      have a5 : Hid (w.heap.size + 1 ≤ (w1.alloc (.cells #[strV (Lib.itoa x)] 9)).heap.size) := by show _ ≤ _; have := G1.1.size; simp; omega
      go_wp2_with ((at_builtin; refine wpList_append_own _ rfl _ _ 63 rfl (w.heap.size + 1) 9 i0 (.string .empty) 1 16 Tryz.underlying63 hi hz0 hz1 hz2 rfl (by decide) _ _ _ rfl (G1.2.alloc _) ⟨w1.heap.size, 0, none⟩ 1 1 [strV (Lib.itoa x)] rfl rfl a1.out a2.out a3.out a4.out a5.out ?_; intro v' w2 hown hgrow _; have G2 := (G1.alloc _).app (Nat.le_succ _) HK2.out hown hgrow; clear hown hgrow G1))
      go_roundw
      case rel => exact ⟨k + 1, by omega, by go_num, by rw [HT.out, List.map_append]; exact G2⟩
      case measure => simp [intOf]; omega
    · have HL : Hid (d.nums.take k = d.nums ∧ k = (d.nums.map Lib.itoa).length) := by
        show _ ∧ _
        rw [List.length_map, HS.out.1]
        exact ⟨List.take_of_length_le (by rw [HS.out.1]; omega), by omega⟩
      have G1 : Gro w wr BS (w.heap.size + 1) 9 1 u5 (d.nums.map Lib.itoa).length ((d.nums.map Lib.itoa).map strV) := by
        rw [← HL.out.2, List.map_map]; rw [HL.out.1] at G; exact G
      have HG := Lib.hid G1
      have j1 : (d.nums.map Lib.itoa).length ≤ 1000 := by rw [List.length_map, HS.out.1]; exact hm
      have j2 : (Lib.join (d.nums.map Lib.itoa) [44]).length ≤ 22000 := by
        have := join_itoa_len d.nums HF.out
        rw [HS.out.1] at this; omega
      have j3 := itoa_len HN.out.1 HN.out.2
      have s1 := cat_ok (a := ⟨(Lib.itoa n).toArray⟩) (b := { data := #[124] }) (by simp only [ByteArray.size_append, mk_size, lit1, List.length_cons, List.length_nil]; omega)
      have s2 := cat_ok (a := ⟨(Lib.itoa n).toArray⟩ ++ { data := #[124] }) (b := d.word) (by simp only [ByteArray.size_append, mk_size, lit1, List.length_cons, List.length_nil]; omega)
      have s3 := cat_ok (a := ⟨(Lib.itoa n).toArray⟩ ++ { data := #[124] } ++ d.word) (b := { data := #[124] }) (by simp only [ByteArray.size_append, mk_size, lit1, List.length_cons, List.length_nil]; omega)
      have s4 := cat_ok (a := ⟨(Lib.itoa n).toArray⟩ ++ { data := #[124] } ++ d.word ++ { data := #[124] }) (b := ⟨(Lib.join (d.nums.map Lib.itoa) [44]).toArray⟩) (by simp only [ByteArray.size_append, mk_size, lit1, List.length_cons, List.length_nil]; omega)
      have s5 := cat_ok (a := ⟨(Lib.itoa n).toArray⟩ ++ { data := #[124] } ++ d.word ++ { data := #[124] } ++ ⟨(Lib.join (d.nums.map Lib.itoa) [44]).toArray⟩) (b := { data := #[124] }) (by simp only [ByteArray.size_append, mk_size, lit1, List.length_cons, List.length_nil]; omega)
      clear G1 G
      go_wp2
      refine wp_region_seq (fun W => Gro w W BS (w.heap.size + 1) 9 1 u5 (d.nums.map Lib.itoa).length ((d.nums.map Lib.itoa).map strV)) [(0, true), (3, true), (4, true), (7, true), (1, false), (2, true), (5, true), (6, true), (8, false), (9, true), (10, true), (11, true)] (by kernel_rfl) (by kernel_rfl) rfl (by kernel_rfl) (HG.out.drew) (fun K1 hK1 hS => ?_)
      repeat (first | (refine seq_skip (by simp only [List.getElem?_toArray, List.getElem?_cons_succ, List.getElem?_cons_zero] <;> rfl) (by rfl) (by assumption) ?_; simp only [Act.put, List.setIfInBounds_toArray, List.set_cons_zero, List.set_cons_succ]) | (refine seq_take (v := ?_) (by simp only [List.getElem?_toArray, List.getElem?_cons_succ, List.getElem?_cons_zero] <;> rfl) (by rfl) (fun W hW => ?_) ?_; rotate_left; (· obtain ⟨q0, q1, _, _⟩ := (HK.out W hW.1).facts2; go_simp; with_reducible rfl); simp only [Act.put, List.setIfInBounds_toArray, List.set_cons_zero, List.set_cons_succ]))
      (refine seq_do (by simp only [List.getElem?_toArray, List.getElem?_cons_succ, List.getElem?_cons_zero] <;> rfl) (by rfl) (fun K hK => ?_); go_simp; refine (c14 n HN.out _ (HO.out.inv (‹Gro w _ BS _ _ _ _ _ _›).1)).mono ?_; rintro e w1 ⟨rfl, hk⟩; refine hK _ _ (Gro.call ‹Gro w _ BS _ _ _ _ _ _› hk) (fun hS => ?_); clear hK K; try simp only [Act.put, List.setIfInBounds_toArray, List.set_cons_zero, List.set_cons_succ])
      repeat (first | (refine seq_skip (by simp only [List.getElem?_toArray, List.getElem?_cons_succ, List.getElem?_cons_zero] <;> rfl) (by rfl) (by assumption) ?_; simp only [Act.put, List.setIfInBounds_toArray, List.set_cons_zero, List.set_cons_succ]) | (refine seq_take (v := ?_) (by simp only [List.getElem?_toArray, List.getElem?_cons_succ, List.getElem?_cons_zero] <;> rfl) (by rfl) (fun W hW => ?_) ?_; rotate_left; (· obtain ⟨q0, q1, _, _⟩ := (HK.out W hW.1).facts2; go_simp; with_reducible rfl); simp only [Act.put, List.setIfInBounds_toArray, List.set_cons_zero, List.set_cons_succ]))
      (refine seq_do (by simp only [List.getElem?_toArray, List.getElem?_cons_succ, List.getElem?_cons_zero] <;> rfl) (by rfl) (fun K hK => ?_); go_simp; refine (joinC _ _ (d.nums.map Lib.itoa) [44] _ (‹Gro w _ BS _ _ _ _ _ _›).2 (by omega) (by omega)).mono ?_; rintro e w1 ⟨rfl, hk⟩; refine hK _ _ (Gro.call ‹Gro w _ BS _ _ _ _ _ _› hk) (fun hS => ?_); clear hK K; try simp only [Act.put, List.setIfInBounds_toArray, List.set_cons_zero, List.set_cons_succ])
      repeat (first | (refine seq_skip (by simp only [List.getElem?_toArray, List.getElem?_cons_succ, List.getElem?_cons_zero] <;> rfl) (by rfl) (by assumption) ?_; simp only [Act.put, List.setIfInBounds_toArray, List.set_cons_zero, List.set_cons_succ]) | (refine seq_take (v := ?_) (by simp only [List.getElem?_toArray, List.getElem?_cons_succ, List.getElem?_cons_zero] <;> rfl) (by rfl) (fun W hW => ?_) ?_; rotate_left; (· obtain ⟨q0, q1, _, _⟩ := (HK.out W hW.1).facts2; go_simp; with_reducible rfl); simp only [Act.put, List.setIfInBounds_toArray, List.set_cons_zero, List.set_cons_succ]))
      refine seq_end hK1 ?_; clear hK1 K1
      go_wp2
      go_ret
      exact ⟨ret_str (body_cat n d), (‹Gro w _ BS _ _ _ _ _ _›).1.1⟩
end Go.Proofs.YtbldegmanbmpmaaGreatDoor
