/- The reference's reader of a number: what it returns. -/
import Derived.Test.YtbldegmanbmpmaaGreatDoorC0
namespace Go.Proofs.YtbldegmanbmpmaaGreatDoor
open Go.RowKit Go.Shelf
def ValIs (s : ByteArray) (w : World) (e : Ending) (w' : World) : Prop := ∃ (n : Int) (b : Bool), e = .returned (.tuple #[.int .i64 n, .bool b]) ∧ NumIs s.data.toList n b ∧ -10000000009 ≤ n ∧ n ≤ 10000000009 ∧ Below w.heap.size w w'
theorem itoa_eqb (n : Int) (s : ByteArray) : (Lib.itoa n == s.toList) = decide (Lib.itoa n = s.data.toList) := by
  rw [Lib.toList_data]; rw [Bool.eq_iff_iff]; simp
theorem itoa_eqb2 (n : Int) (s : ByteArray) : ((⟨(Lib.itoa n).toArray⟩ : ByteArray).toList == s.toList) = decide (Lib.itoa n = s.data.toList) := by
  rw [Lib.toList_data, ← itoa_eqb]
theorem val_end {s : ByteArray} {w w' : World} {n : Int} (h : refVal s.data.toList = some n) (hb : Below w.heap.size w w') : ValIs s w (.returned (.tuple #[.int .i64 n, .bool (decide (Lib.itoa n = s.data.toList))])) w' :=
  ⟨n, _, rfl, refVal_some h, (refVal_bd h).1, (refVal_bd h).2, hb⟩
theorem val_no {s : ByteArray} {w w' : World} (h : refVal s.data.toList = none) (hb : Below w.heap.size w w') : ValIs s w (.returned (.tuple #[.int .i64 0, .bool false])) w' :=
  ⟨0, false, rfl, refVal_none h 0, by omega, by omega, hb⟩
theorem val_step {acc : Nat} {c : UInt8} {l : List UInt8} (h : 48 ≤ c.toNat ∧ c.toNat ≤ 57) (ha : acc ≤ 1000000000) : valFrom acc (c :: l) = valFrom (acc * 10 + (c.toNat - 48)) l := by rw [valFrom, if_pos ⟨h, ha⟩]
theorem val_stop {acc : Nat} {c : UInt8} {l : List UInt8} (h : ¬ ((48 ≤ c.toNat ∧ c.toNat ≤ 57) ∧ acc ≤ 1000000000)) : valFrom acc (c :: l) = none := by rw [valFrom, if_neg h]
def sgn (neg : Bool) (u : Nat) : Int := if neg then -(u : Int) else (u : Int)
theorem ref_neg {s : ByteArray} (h : 0 < s.size) (h0 : s[0] = 45) : refVal s.data.toList = (valFrom 0 (s.data.toList.drop 1)).map (sgn true) := by
  have hd := drop_byte s 0 h
  rw [List.drop_zero] at hd
  rw [hd, refVal, if_pos h0]; rfl
theorem ref_pos {s : ByteArray} (h : 0 < s.size) (h0 : ¬ s[0] = 45) : refVal s.data.toList = (valFrom 0 (s.data.toList.drop 0)).map (sgn false) := by
  have hd := drop_byte s 0 h
  rw [List.drop_zero] at hd
  rw [List.drop_zero, hd, refVal, if_neg h0]; rfl
theorem ref_nil {s : ByteArray} (h : s.size = 0) : refVal s.data.toList = some 0 := by
  have : s.data.toList = [] := List.eq_nil_of_length_eq_zero (by rw [← Lib.size_eq]; exact h)
  rw [this]; rfl
set_option maxRecDepth 100000 in
set_option maxHeartbeats 4000000 in
theorem c39_neg (s : ByteArray) (h : 0 < s.size) (h0 : s[0] = 45) (hs : s.size ≤ 100000) (w : World) : Calls Tryz.prog 39 #[.string s] w (ValIs s w) := by
  have HR := Lib.hid (ref_neg h h0)
  have m0 : decide ((0 : Int) < (s.size : Int)) = true := by simp; omega
  have m1 : ((s[0].toNat : Int) == 45) = true := by rw [h0]; rfl
  clear h0
  go_enter Tryz.func39, Tryz.ntmps39
  go_wp2
  clear m0 m1
  go_loop [4, 6] (fun v i => ∃ (k acc : Nat), k ≤ s.size ∧ i = .int .i64 k ∧ v = .int .i64 acc ∧ acc ≤ 10000000009 ∧ (k = 0 → acc = 0) ∧ Hid (refVal s.data.toList = (valFrom acc (s.data.toList.drop (if k = 0 then 1 else k))).map (sgn true))) (fun _ i => s.size - (intOf i).toNat)
  case atStart => exact ⟨0, 0, Nat.zero_le _, rfl, rfl, by omega, fun _ => rfl, HR.out⟩
  case round =>
    obtain ⟨k, acc, hk, rfl, rfl, ha, hk0, HE⟩ := hrel
    by_cases hz : k = 0
    · have := hk0 hz
      subst this
      subst hz
      rw [if_pos rfl] at HE
      have h' : (0 : Int) < (s.size : Int) := by omega
      clear hk0
      go_wp2
      go_round
      case rel => exact ⟨0 + 1, 0, by omega, by go_num, rfl, by omega, by omega, HE.out⟩
      case measure => simp [intOf]; omega
    rw [if_neg hz] at HE
    have z1 : ((k : Int) == 0) = false := by rw [beq_eq_false_iff_ne]; omega
    clear hk0
    by_cases hlt : k < s.size
    · skip
      have HD := Lib.hid (drop_byte s k hlt)
      have hc : s[k].toNat < 256 := UInt8.toNat_lt _
      by_cases h1 : s[k].toNat < 48
      · have d1 : decide ((s[k].toNat : Int) < 48) = true := by simp; omega
        have HN := Lib.hid (val_no (w := w) (w' := w) (by rw [HE.out, HD.out, val_stop (by omega)]; rfl) (Below.refl _ _))
        clear HE HD h1 hc
        go_wp2
        go_ret2
        exact HN.out
      have d1 : decide ((s[k].toNat : Int) < 48) = false := by simp; omega
      by_cases h2 : 57 < s[k].toNat
      · have d2 : decide ((57 : Int) < (s[k].toNat : Int)) = true := by simp; omega
        have HN := Lib.hid (val_no (w := w) (w' := w) (by rw [HE.out, HD.out, val_stop (by omega)]; rfl) (Below.refl _ _))
        clear HE HD h1 h2 hc
        go_wp2
        go_ret2
        exact HN.out
      have d2 : decide ((57 : Int) < (s[k].toNat : Int)) = false := by simp; omega
      by_cases h3 : 1000000000 < acc
      · have d3 : decide ((1000000000 : Int) < (acc : Int)) = true := by simp; omega
        have HN := Lib.hid (val_no (w := w) (w' := w) (by rw [HE.out, HD.out, val_stop (by omega)]; rfl) (Below.refl _ _))
        clear HE HD h1 h2 h3 hc
        go_wp2
        go_ret2
        exact HN.out
      have d3 : decide ((1000000000 : Int) < (acc : Int)) = false := by simp; omega
      have HE' : Hid (refVal s.data.toList = (valFrom (acc * 10 + (s[k].toNat - 48)) (s.data.toList.drop (k + 1))).map (sgn true)) := by show _ = _; rw [HE.out, HD.out, val_step (by omega) (by omega)]
      have e1 : (48 : Int) ≤ (s[k].toNat : Int) := by omega
      have e2 : (s[k].toNat : Int) ≤ 57 := by omega
      clear HE HD
      go_wp2
      go_round
      case rel => exact ⟨k + 1, acc * 10 + (s[k].toNat - 48), by omega, by go_num, by congr 1; omega, by omega, by omega, by simp only [Nat.add_one_ne_zero, if_false]; exact HE'.out⟩
      case measure => simp [intOf]; omega
    · have HE' : Hid (refVal s.data.toList = some (sgn true acc)) := by show _ = _; rw [HE.out, drop_end s k (by omega)]; rfl
      have HN := fun w' => val_end (s := s) (w := w) (w' := w') (n := sgn true acc) HE'.out
      have HN2 := Lib.hid HN
      have HB : Hid (((⟨(Lib.itoa (sgn true acc)).toArray⟩ : ByteArray).toList == s.toList) = decide (Lib.itoa (sgn true acc) = s.data.toList)) := itoa_eqb2 _ _
      clear HE HN
      go_wp2_with (fail)
      refine (c20 (sgn true acc) (by simp only [sgn]; simp; omega) _).mono ?_
      rintro e w1 ⟨rfl, hk1⟩
      go_wp2
      go_ret2
      have := HN2.out w1 hk1
      rw [← HB.out] at this
      simpa [sgn] using this

set_option maxRecDepth 100000 in
set_option maxHeartbeats 4000000 in
theorem c39_pos (s : ByteArray) (h : 0 < s.size) (h0 : ¬ s[0] = 45) (hs : s.size ≤ 100000) (w : World) : Calls Tryz.prog 39 #[.string s] w (ValIs s w) := by
  have HR := Lib.hid (ref_pos h h0)
  have m0 : decide ((0 : Int) < (s.size : Int)) = true := by simp; omega
  have m1 : ((s[0].toNat : Int) == 45) = false := by
    rw [beq_eq_false_iff_ne]; intro e; exact h0 (UInt8.toNat_inj.1 (by rw [show (45 : UInt8).toNat = 45 from rfl]; omega))
  clear h0
  go_enter Tryz.func39, Tryz.ntmps39
  go_wp2
  clear m0 m1
  go_loop [4, 6] (fun v i => ∃ (k acc : Nat), k ≤ s.size ∧ i = .int .i64 k ∧ v = .int .i64 acc ∧ acc ≤ 10000000009 ∧ Hid (refVal s.data.toList = (valFrom acc (s.data.toList.drop k)).map (sgn false))) (fun _ i => s.size - (intOf i).toNat)
  case atStart => exact ⟨0, 0, Nat.zero_le _, rfl, rfl, by omega, HR.out⟩
  case round =>
    obtain ⟨k, acc, hk, rfl, rfl, ha, HE⟩ := hrel
    by_cases hz : k = 0
    · subst hz
      have hlt : 0 < s.size := h
      have HD := Lib.hid (drop_byte s 0 hlt)
      have hc : s[0].toNat < 256 := UInt8.toNat_lt _
      by_cases h1 : s[0].toNat < 48
      · have d1 : decide ((s[0].toNat : Int) < 48) = true := by simp; omega
        have HN := Lib.hid (val_no (w := w) (w' := w) (by rw [HE.out, HD.out, val_stop (by omega)]; rfl) (Below.refl _ _))
        clear HE HD h1 hc
        go_wp2
        go_ret2
        exact HN.out
      have d1 : decide ((s[0].toNat : Int) < 48) = false := by simp; omega
      by_cases h2 : 57 < s[0].toNat
      · have d2 : decide ((57 : Int) < (s[0].toNat : Int)) = true := by simp; omega
        have HN := Lib.hid (val_no (w := w) (w' := w) (by rw [HE.out, HD.out, val_stop (by omega)]; rfl) (Below.refl _ _))
        clear HE HD h1 h2 hc
        go_wp2
        go_ret2
        exact HN.out
      have d2 : decide ((57 : Int) < (s[0].toNat : Int)) = false := by simp; omega
      by_cases h3 : 1000000000 < acc
      · have d3 : decide ((1000000000 : Int) < (acc : Int)) = true := by simp; omega
        have HN := Lib.hid (val_no (w := w) (w' := w) (by rw [HE.out, HD.out, val_stop (by omega)]; rfl) (Below.refl _ _))
        clear HE HD h1 h2 h3 hc
        go_wp2
        go_ret2
        exact HN.out
      have d3 : decide ((1000000000 : Int) < (acc : Int)) = false := by simp; omega
      have HE' : Hid (refVal s.data.toList = (valFrom (acc * 10 + (s[0].toNat - 48)) (s.data.toList.drop (0 + 1))).map (sgn false)) := by show _ = _; rw [HE.out, HD.out, val_step (by omega) (by omega)]
      have e1 : (48 : Int) ≤ (s[0].toNat : Int) := by omega
      have e2 : (s[0].toNat : Int) ≤ 57 := by omega
      clear HE HD
      go_wp2
      go_round
      case rel => exact ⟨0 + 1, acc * 10 + (s[0].toNat - 48), by omega, by go_num, by congr 1; omega, by omega, HE'.out⟩
      case measure => simp [intOf]; omega
    have z1 : ((k : Int) == 0) = false := by rw [beq_eq_false_iff_ne]; omega
    by_cases hlt : k < s.size
    · skip
      have HD := Lib.hid (drop_byte s k hlt)
      have hc : s[k].toNat < 256 := UInt8.toNat_lt _
      by_cases h1 : s[k].toNat < 48
      · have d1 : decide ((s[k].toNat : Int) < 48) = true := by simp; omega
        have HN := Lib.hid (val_no (w := w) (w' := w) (by rw [HE.out, HD.out, val_stop (by omega)]; rfl) (Below.refl _ _))
        clear HE HD h1 hc
        go_wp2
        go_ret2
        exact HN.out
      have d1 : decide ((s[k].toNat : Int) < 48) = false := by simp; omega
      by_cases h2 : 57 < s[k].toNat
      · have d2 : decide ((57 : Int) < (s[k].toNat : Int)) = true := by simp; omega
        have HN := Lib.hid (val_no (w := w) (w' := w) (by rw [HE.out, HD.out, val_stop (by omega)]; rfl) (Below.refl _ _))
        clear HE HD h1 h2 hc
        go_wp2
        go_ret2
        exact HN.out
      have d2 : decide ((57 : Int) < (s[k].toNat : Int)) = false := by simp; omega
      by_cases h3 : 1000000000 < acc
      · have d3 : decide ((1000000000 : Int) < (acc : Int)) = true := by simp; omega
        have HN := Lib.hid (val_no (w := w) (w' := w) (by rw [HE.out, HD.out, val_stop (by omega)]; rfl) (Below.refl _ _))
        clear HE HD h1 h2 h3 hc
        go_wp2
        go_ret2
        exact HN.out
      have d3 : decide ((1000000000 : Int) < (acc : Int)) = false := by simp; omega
      have HE' : Hid (refVal s.data.toList = (valFrom (acc * 10 + (s[k].toNat - 48)) (s.data.toList.drop (k + 1))).map (sgn false)) := by show _ = _; rw [HE.out, HD.out, val_step (by omega) (by omega)]
      have e1 : (48 : Int) ≤ (s[k].toNat : Int) := by omega
      have e2 : (s[k].toNat : Int) ≤ 57 := by omega
      clear HE HD
      go_wp2
      go_round
      case rel => exact ⟨k + 1, acc * 10 + (s[k].toNat - 48), by omega, by go_num, by congr 1; omega, by omega, HE'.out⟩
      case measure => simp [intOf]; omega
    · have HE' : Hid (refVal s.data.toList = some (sgn false acc)) := by show _ = _; rw [HE.out, drop_end s k (by omega)]; rfl
      have HN := fun w' => val_end (s := s) (w := w) (w' := w') (n := sgn false acc) HE'.out
      have HN2 := Lib.hid HN
      have HB : Hid (((⟨(Lib.itoa (sgn false acc)).toArray⟩ : ByteArray).toList == s.toList) = decide (Lib.itoa (sgn false acc) = s.data.toList)) := itoa_eqb2 _ _
      clear HE HN
      go_wp2_with (fail)
      refine (c20 (sgn false acc) (by simp only [sgn]; simp; omega) _).mono ?_
      rintro e w1 ⟨rfl, hk1⟩
      go_wp2
      go_ret2
      have := HN2.out w1 hk1
      rw [← HB.out] at this
      simpa [sgn] using this

set_option maxRecDepth 100000 in
set_option maxHeartbeats 4000000 in
theorem c39_nil (s : ByteArray) (h : s.size = 0) (w : World) : Calls Tryz.prog 39 #[.string s] w (ValIs s w) := by
  have HN := Lib.hid (fun w' => val_end (s := s) (w := w) (w' := w') (ref_nil h))
  have HB := Lib.hid (itoa_eqb2 0 s)
  go_enter Tryz.func39, Tryz.ntmps39
  go_wp2
  refine wp_loop_rounds 1 ?_
  rw [rounds_succ]
  go_wp2_with (fail)
  refine (c20 0 (by omega) _).mono ?_
  rintro e w1 ⟨rfl, hk1⟩
  go_wp2
  go_ret2
  have := HN.out w1 hk1
  rw [← HB.out] at this
  simpa using this
theorem c39 (s : ByteArray) (hs : s.size ≤ 100000) (w : World) : Calls Tryz.prog 39 #[.string s] w (ValIs s w) := by
  by_cases h : 0 < s.size
  · by_cases h0 : s[0] = 45
    · exact c39_neg s h h0 hs w
    · exact c39_pos s h h0 hs w
  · exact c39_nil s (by omega) w
end Go.Proofs.YtbldegmanbmpmaaGreatDoor
