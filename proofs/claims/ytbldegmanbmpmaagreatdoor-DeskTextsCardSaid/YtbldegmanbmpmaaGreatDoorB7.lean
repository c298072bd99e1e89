/- The reference's body of a line: what it returns. -/
import Derived.Test.YtbldegmanbmpmaaGreatDoorB6
namespace Go.Proofs.YtbldegmanbmpmaaGreatDoor
open Go.RowKit Go.Shelf
/-- A line up to its second bar, and k of its numbers. -/
def headW (n : Int) (d : De) (k : Nat) : List UInt8 := Lib.itoa n ++ (124 :: (d.word.data.toList ++ (124 :: Lib.join ((d.nums.take k).map Lib.itoa) [44])))
theorem headW_zero (n : Int) (d : De) : headW n d 0 = Lib.itoa n ++ (124 :: (d.word.data.toList ++ [124])) := by simp [headW, Lib.join, List.intercalate]
theorem join_snoc (xs : List (List UInt8)) (y sep : List UInt8) (h : xs ≠ []) : Lib.join (xs ++ [y]) sep = Lib.join xs sep ++ (sep ++ y) := by
  cases xs with
  | nil => exact absurd rfl h
  | cons x l =>
    rw [List.cons_append, Lib.join_cons, Lib.join_cons]
    simp [Lib.joinTail]
theorem headW_first (n : Int) (d : De) (x : Int) (h : d.nums.take 1 = [x]) : headW n d 1 = headW n d 0 ++ Lib.itoa x := by
  rw [headW_zero]; simp [headW, h, Lib.join_one]
theorem headW_next (n : Int) (d : De) (k : Nat) (x : Int) (h : d.nums.take (k + 1) = d.nums.take k ++ [x]) (hk : d.nums.take k ≠ []) : headW n d (k + 1) = (headW n d k ++ [44]) ++ Lib.itoa x := by
  have : (d.nums.take k).map Lib.itoa ≠ [] := by simpa using hk
  unfold headW
  rw [h, List.map_append, List.map_cons, List.map_nil, join_snoc _ _ _ this]
  simp
theorem headW_all (n : Int) (d : De) (k : Nat) (h : d.nums.take k = d.nums) : headW n d k ++ [124] = bodyW n d := by simp [headW, bodyW, h]
theorem headW_len {n : Int} {d : De} (k : Nat) (hn : fits n) (h : ∀ x ∈ d.nums, fits x) : (headW n d k).length ≤ 23 + d.word.size + 22 * d.nums.length := by
  have h1 := itoa_len hn.1 hn.2
  have h2 := join_itoa_len (d.nums.take k) (fun x hx => h x (List.mem_of_mem_take hx))
  have h3 : (d.nums.take k).length ≤ d.nums.length := List.length_take_le' _ _
  simp only [headW, List.length_append, List.length_cons, ← Lib.size_eq]
  omega
theorem head_cat (n : Int) (d : De) : (⟨(Lib.itoa n).toArray⟩ ++ { data := #[124] } ++ d.word ++ { data := #[124] } : ByteArray) = ⟨(headW n d 0).toArray⟩ := by
  have hw : d.word = ⟨d.word.data.toList.toArray⟩ := (Lib.mk_data d.word).symm
  have h1 : ({ data := #[124] } : ByteArray) = ⟨[124].toArray⟩ := rfl
  rw [h1, cat_mk]
  conv => lhs; rw [hw]
  rw [cat_mk, cat_mk, headW_zero]
  simp
set_option maxRecDepth 100000 in
set_option maxHeartbeats 2000000 in
theorem c18 (n : Int) (hn : -4611686018427387904 ≤ n ∧ n ≤ 4611686018427387904) (d : De) (A : Option Addr) (m c : Nat) (w : World) (hs : SlI w.heap.size w A m d.nums) (hw : d.word.size ≤ 1000) (hm : m ≤ 1000) (hf : ∀ x ∈ d.nums, -4611686018427387904 ≤ x ∧ x ≤ 4611686018427387904) :
    Calls Tryz.prog 18 #[.int .i64 n, .agg #[.string d.word, .slice A m c]] w fun e w' => e = .returned (.string ⟨(bodyW n d).toArray⟩) ∧ Below w.heap.size w w' := by
  obtain ⟨BS, hBS⟩ : ∃ bs : List (Nat × TypeId × List Value), bs = [(w.heap.size, 37, [.string d.word, .slice A m c])] := ⟨_, rfl⟩
  have I0 := (Inv.start w).new 37 [.string d.word, .slice A m c]
  rw [← hBS] at I0
  have K1 : ∀ W, Inv w W BS → Box W w.heap.size 37 [.string d.word, .slice A m c] := fun W I => by subst hBS; exact I.box
  have HK := Lib.hid K1
  have HI := Lib.hid I0
  have HS := Lib.hid hs
  have hf2 : ∀ x ∈ d.nums, fits x := fun x hx => by have := hf x hx; unfold fits; omega
  have HF := Lib.hid hf
  have HF2 := Lib.hid hf2
  have HN := Lib.hid hn
  have HN2 : Hid (fits n) := by show fits n; unfold fits; omega
  have j3 := itoa_len HN2.out.1 HN2.out.2
  have s1 := cat_ok (a := ⟨(Lib.itoa n).toArray⟩) (b := { data := #[124] }) (by simp only [ByteArray.size_append, mk_size, lit1, List.length_cons, List.length_nil]; omega)
  have s2 := cat_ok (a := ⟨(Lib.itoa n).toArray⟩ ++ { data := #[124] }) (b := d.word) (by simp only [ByteArray.size_append, mk_size, lit1, List.length_cons, List.length_nil]; omega)
  have s3 := cat_ok (a := ⟨(Lib.itoa n).toArray⟩ ++ { data := #[124] } ++ d.word) (b := { data := #[124] }) (by simp only [ByteArray.size_append, mk_size, lit1, List.length_cons, List.length_nil]; omega)
  clear hBS K1 I0 hs hf hf2 hn j3
  go_enter Tryz.func18, Tryz.ntmps18
  go_wp2
  refine wp_region_seq (fun W => Inv w W BS) [(0, true), (3, true), (4, true), (1, false), (2, true), (5, true), (6, true), (7, true)] (by kernel_rfl) (by kernel_rfl) rfl (by kernel_rfl) (HI.out.drew) (fun K1 hK1 hS => ?_)
  repeat (first | (refine seq_skip (by simp only [List.getElem?_toArray, List.getElem?_cons_succ, List.getElem?_cons_zero] <;> rfl) (by rfl) (by assumption) ?_; simp only [Act.put, List.setIfInBounds_toArray, List.set_cons_zero, List.set_cons_succ]) | (refine seq_take (v := ?_) (by simp only [List.getElem?_toArray, List.getElem?_cons_succ, List.getElem?_cons_zero] <;> rfl) (by rfl) (fun W hW => ?_) ?_; rotate_left; (· obtain ⟨q0, q1, _, _⟩ := (HK.out W hW).facts2; go_simp; with_reducible rfl); simp only [Act.put, List.setIfInBounds_toArray, List.set_cons_zero, List.set_cons_succ]))
  (refine seq_do (by simp only [List.getElem?_toArray, List.getElem?_cons_succ, List.getElem?_cons_zero] <;> rfl) (by rfl) (fun K hK => ?_); go_simp; refine (c20 n HN.out _).mono ?_; rintro e w1 ⟨rfl, hk⟩; refine hK _ _ (Inv.call ‹Inv w _ BS› hk) (fun hS => ?_); clear hK K; try simp only [Act.put, List.setIfInBounds_toArray, List.set_cons_zero, List.set_cons_succ])
  repeat (first | (refine seq_skip (by simp only [List.getElem?_toArray, List.getElem?_cons_succ, List.getElem?_cons_zero] <;> rfl) (by rfl) (by assumption) ?_; simp only [Act.put, List.setIfInBounds_toArray, List.set_cons_zero, List.set_cons_succ]) | (refine seq_take (v := ?_) (by simp only [List.getElem?_toArray, List.getElem?_cons_succ, List.getElem?_cons_zero] <;> rfl) (by rfl) (fun W hW => ?_) ?_; rotate_left; (· obtain ⟨q0, q1, _, _⟩ := (HK.out W hW).facts2; go_simp; with_reducible rfl); simp only [Act.put, List.setIfInBounds_toArray, List.set_cons_zero, List.set_cons_succ]))
  refine seq_end hK1 ?_; clear hK1 K1
  clear s1 s2 s3
  have HI1 := Lib.hid (‹Inv w _ BS›)
  clear hS
  go_wp2
  go_loopw [5, 6] (fun v i W => ∃ k : Nat, k ≤ m ∧ i = .int .i64 k ∧ Inv w W BS ∧ v = .string ⟨(headW n d k).toArray⟩) (fun _ i _ => m - (intOf i).toNat)
  case atStart => exact ⟨0, Nat.zero_le _, rfl, HI1.out, by rw [head_cat]⟩
  case round =>
    obtain ⟨k, hk, rfl, I, rfl⟩ := hrel
    have hl := headW_len (d := d) k HN2.out HF2.out
    have hlm : d.nums.length = m := HS.out.1
    obtain ⟨q0, q1, _, _⟩ := (HK.out _ I).facts2
    by_cases hlt : k < m
    · obtain ⟨b, o, rfl, hB, hc⟩ := HS.out.2.2 (by omega)
      have hck := (I.1.cell (p := ⟨b, o + k, none⟩) hB).trans (hc k hlt)
      clear hc
      have HX := Lib.hid (HF.out (d.nums.getD k 0) (by rw [List.getD_eq_getElem?_getD, List.getElem?_eq_getElem (by rw [HS.out.1]; exact hlt)]; exact List.getElem_mem _))
      have HX2 := Lib.hid (HF2.out (d.nums.getD k 0) (by rw [List.getD_eq_getElem?_getD, List.getElem?_eq_getElem (by rw [HS.out.1]; exact hlt)]; exact List.getElem_mem _))
      have HT : Hid (d.nums.take (k + 1) = d.nums.take k ++ [d.nums.getD k 0]) := by show _ = _; rw [List.take_succ_eq_append_getElem (by rw [HS.out.1]; exact hlt)]; simp [List.getD, HS.out.1, hlt]
      generalize hx : d.nums.getD k 0 = x at *
      clear hx
      have j4 := itoa_len HX2.out.1 HX2.out.2
      have HLM := Lib.hid hlm
      by_cases h0 : 0 < k
      · have hd : decide ((0 : Int) < (k : Int)) = true := by simp; omega
        have s1 := cat_ok (a := ⟨(headW n d k).toArray⟩) (b := { data := #[44] }) (by simp only [ByteArray.size_append, mk_size, lit1, List.length_cons, List.length_nil]; omega)
        have s2 := cat_ok (a := ⟨(headW n d k).toArray⟩ ++ { data := #[44] }) (b := ⟨(Lib.itoa x).toArray⟩) (by simp only [ByteArray.size_append, mk_size, lit1, List.length_cons, List.length_nil]; omega)
        have HW : Hid ((⟨(headW n d k).toArray⟩ ++ { data := #[44] } ++ ⟨(Lib.itoa x).toArray⟩ : ByteArray) = ⟨(headW n d (k + 1)).toArray⟩) := by
          show _ = _
          rw [headW_next n d k x HT.out (by intro e; have := congrArg List.length e; rw [List.length_take, hlm] at this; simp at this; omega), show ({ data := #[44] } : ByteArray) = ⟨[44].toArray⟩ from rfl, cat_mk, cat_mk]
        clear hlm hl j4
        go_wp2_with (fail)
        clear q0 q1 hck
        refine (c20 x HX.out _).mono ?_
        rintro e w1 ⟨rfl, hk1⟩
        have I1 := I.call hk1
        clear hk1
        go_wp2
        go_roundw
        case rel => exact ⟨k + 1, by omega, by go_num, I1, by rw [HW.out]⟩
        case measure => simp [intOf]; omega
      · have hk0 : k = 0 := by omega
        subst hk0
        have s2 := cat_ok (a := ⟨(headW n d 0).toArray⟩) (b := ⟨(Lib.itoa x).toArray⟩) (by simp only [ByteArray.size_append, mk_size, lit1, List.length_cons, List.length_nil]; omega)
        have HW : Hid ((⟨(headW n d 0).toArray⟩ ++ ⟨(Lib.itoa x).toArray⟩ : ByteArray) = ⟨(headW n d (0 + 1)).toArray⟩) := by
          show _ = _
          rw [headW_first n d x (by have := HT.out; simpa using this), cat_mk]
        have hm0 : (0 : Int) < (m : Int) := by omega
        clear hlm hl j4
        simp only [Nat.add_zero] at hck
        go_wp2_with (fail)
        clear q0 q1 hck
        refine (c20 x HX.out _).mono ?_
        rintro e w1 ⟨rfl, hk1⟩
        have I1 := I.call hk1
        clear hk1
        go_wp2
        go_roundw
        case rel => exact ⟨0 + 1, by omega, by go_num, I1, by rw [HW.out]⟩
        case measure => simp [intOf]; omega
    · have s2 := cat_ok (a := ⟨(headW n d k).toArray⟩) (b := { data := #[124] }) (by simp only [ByteArray.size_append, mk_size, lit1, List.length_cons, List.length_nil]; omega)
      have HW : Hid ((⟨(headW n d k).toArray⟩ ++ { data := #[124] } : ByteArray) = ⟨(bodyW n d).toArray⟩) := by
        show _ = _
        rw [show ({ data := #[124] } : ByteArray) = ⟨[124].toArray⟩ from rfl, cat_mk, headW_all n d k (List.take_of_length_le (by rw [hlm]; omega))]
      clear hlm hl
      go_wp2
      go_ret
      exact ⟨ret_str HW.out, I.1⟩
end Go.Proofs.YtbldegmanbmpmaaGreatDoor
