/- The reference's writer of a log's text: what it returns. -/
import Derived.Test.YtbldegmanbmpmaaGreatDoorB8
namespace Go.Proofs.YtbldegmanbmpmaaGreatDoor
open Go.RowKit Go.Shelf
set_option maxRecDepth 100000 in
set_option maxHeartbeats 4000000 in
theorem c6 (xs : List De) (A : Option Addr) (n c : Nat) (w : World) (hs : SlD w.heap.size w A n xs) :
    Calls Tryz.prog 6 #[.slice A n c] w fun e w' => e = .returned (.tuple #[.string ⟨(writeW xs).1.toArray⟩, .int .i64 (writeW xs).2]) ∧ Below w.heap.size w w' := by
  have HS := Lib.hid hs
  have hn := hs.2.1
  clear hs
  by_cases hlong : 150 < n
  · have hd : decide ((150 : Int) < (n : Int)) = true := by simp; omega
    have HW := Lib.hid (writeW_long (xs := xs) (by rw [HS.out.1]; exact hlong))
    go_enter Tryz.func6, Tryz.ntmps6
    go_wp2
    go_ret2
    exact ⟨ret_si (by rw [HW.out]) (by rw [HW.out]), Below.refl _ _⟩
  have hd : decide ((150 : Int) < (n : Int)) = false := by simp; omega
  have HLn : Hid (¬ 150 < xs.length) := by show ¬ 150 < xs.length; rw [HS.out.1]; exact hlong
  go_enter Tryz.func6, Tryz.ntmps6
  go_wp2
  clear hd
  go_loopw [4, 5, 6] (fun t v i W => ∃ (k : Nat) (s : Int) (acc : List UInt8), k ≤ n ∧ i = .int .i64 k ∧ v = .int .i64 s ∧ t = .string ⟨acc.toArray⟩ ∧ 0 ≤ s ∧ s ≤ 65520 ∧ Inv w W [] ∧ Hid (wrFrom 0 0 [] xs = wrFrom k s acc (xs.drop k)) ∧ acc.length ≤ k * 500) (fun _ _ i _ => n - (intOf i).toNat)
  case atStart => exact ⟨0, 0, [], Nat.zero_le _, rfl, rfl, rfl, by omega, by omega, Inv.start w, rfl, by simp⟩
  case round =>
    obtain ⟨k, s, acc, hk, rfl, rfl, rfl, hs1, hs2, I, HE, ha⟩ := hrel
    by_cases hlt : k < n
    · obtain ⟨b, o, rfl, hB, hc⟩ := HS.out.2.2 (by omega)
      obtain ⟨r0, A', m, c', r1, hnums⟩ := hc k hlt
      have HC0 := Lib.hid r0
      have HC1 := Lib.hid r1
      clear r0 r1 hc
      have HD := Lib.hid (drop_getD xs k noDe (by rw [HS.out.1]; exact hlt))
      generalize hx : xs.getD k noDe = d at *
      clear hx
      have HM := Lib.hid hnums
      clear hnums
      have q0 := (I.1.cell (p := ⟨b, o + k * 2, none⟩) hB).trans HC0.out
      have q1 := (I.1.cell (p := ⟨b, o + k * 2 + 1, none⟩) hB).trans HC1.out
      go_wp2_with (fail)
      clear q0 q1
      refine (c17 d A' m c' _ ((HM.out.below I.1 (Nat.le_refl _)).up I.size)).mono ?_
      rintro e w1 ⟨rfl, hk1⟩
      have I2 := I.call hk1
      clear hk1 I
      cases g : knownW d
      · have HW := Lib.hid (writeW_none HLn.out (by rw [HE.out, HD.out, wrFrom_no g]))
        clear HE HD g
        go_wp2
        go_ret2
        exact ⟨ret_si (by rw [HW.out]) (by rw [HW.out]), I2.1⟩
      obtain ⟨g1, g2, g3⟩ := knownW_bd g
      have HE' : Hid (wrFrom 0 0 [] xs = wrFrom (k + 1) (sealW s (bodyW ((k : Int) + 1) d)) (acc ++ lineT k s d) (xs.drop (k + 1))) := by show _ = _; rw [HE.out, HD.out, wrFrom_yes g]
      have hbl := body_len (k := k) (d := d) (by omega) g
      have hsl := seal_len (bodyW ((k : Int) + 1) d) ⟨hs1, hs2⟩
      have hsb := sealW_bd s (bodyW ((k : Int) + 1) d) ⟨hs1, hs2⟩
      have HG := Lib.hid g3
      clear HE HD g g3
      have q0 := (I2.1.cell (p := ⟨b, o + k * 2, none⟩) hB).trans HC0.out
      have q1 := (I2.1.cell (p := ⟨b, o + k * 2 + 1, none⟩) hB).trans HC1.out
      go_wp2_with (fail)
      clear q0 q1
      refine (c18 ((k : Int) + 1) (by omega) d A' m c' _ ((HM.out.below I2.1 (Nat.le_refl _)).up I2.size) (by omega) (by have := HM.out.1; omega) (fun x hx => by have := HG.out x hx; omega)).mono ?_
      rintro e w2 ⟨rfl, hk2⟩
      have I3 := I2.call hk2
      clear hk2 I2
      go_wp2_with (fail)
      refine (c19 s _ ⟨hs1, hs2⟩ (by rw [mk_size]; omega) _).mono ?_
      rintro e w3 ⟨rfl, rfl⟩
      simp only [show (⟨(bodyW ((k : Int) + 1) d).toArray⟩ : ByteArray).data.toList = bodyW ((k : Int) + 1) d from rfl]
      go_wp2_with (fail)
      refine (c20 (sealW s (bodyW ((k : Int) + 1) d)) (by omega) _).mono ?_
      rintro e w4 ⟨rfl, hk4⟩
      have I4 := I3.call hk4
      clear hk4 I3
      have s1 := cat_ok (a := ⟨(bodyW ((k : Int) + 1) d).toArray⟩) (b := ⟨(Lib.itoa (sealW s (bodyW ((k : Int) + 1) d))).toArray⟩) (by simp only [ByteArray.size_append, mk_size, lit1, List.length_cons, List.length_nil]; omega)
      have s2 := cat_ok (a := ⟨(bodyW ((k : Int) + 1) d).toArray⟩ ++ ⟨(Lib.itoa (sealW s (bodyW ((k : Int) + 1) d))).toArray⟩) (b := { data := #[10] }) (by simp only [ByteArray.size_append, mk_size, lit1, List.length_cons, List.length_nil]; omega)
      have s3 := cat_ok (a := ⟨acc.toArray⟩) (b := ⟨(bodyW ((k : Int) + 1) d).toArray⟩ ++ ⟨(Lib.itoa (sealW s (bodyW ((k : Int) + 1) d))).toArray⟩ ++ { data := #[10] }) (by simp only [ByteArray.size_append, mk_size, lit1, List.length_cons, List.length_nil]; omega)
      have hal : (acc ++ lineT k s d).length ≤ (k + 1) * 500 := by rw [List.length_append]; simp only [lineT, List.length_append, List.length_cons, List.length_nil]; omega
      have HC : Hid ((⟨acc.toArray⟩ ++ (⟨(bodyW ((k : Int) + 1) d).toArray⟩ ++ ⟨(Lib.itoa (sealW s (bodyW ((k : Int) + 1) d))).toArray⟩ ++ { data := #[10] }) : ByteArray) = ⟨(acc ++ lineT k s d).toArray⟩) := by show _ = _; rw [line_cat, cat_mk]
      clear hbl hsl
      go_wp2
      go_roundw
      case rel => exact ⟨k + 1, _, acc ++ lineT k s d, by omega, by go_num, rfl, by rw [HC.out], hsb.1, hsb.2, I4, HE', hal⟩
      case measure => simp [intOf]; omega
    · have hkn : k = n := by omega
      have HE' : Hid (wrFrom 0 0 [] xs = some acc) := by show _ = _; rw [HE.out, List.drop_eq_nil_of_le (by rw [HS.out.1]; omega)]; rfl
      have hz : (⟨acc.toArray⟩ : ByteArray).size = acc.length := mk_size acc
      clear HE hkn
      by_cases hf : 12000 < acc.length
      · have hd : decide ((12000 : Int) < (acc.length : Int)) = true := by simp; omega
        have HW := Lib.hid (writeW_full HLn.out HE'.out hf)
        clear HE' ha
        go_wp2
        go_ret2
        exact ⟨ret_si (by rw [HW.out]) (by rw [HW.out]), I.1⟩
      · have hd : decide ((12000 : Int) < (acc.length : Int)) = false := by simp; omega
        have HW := Lib.hid (writeW_ok HLn.out HE'.out hf)
        clear HE' ha
        go_wp2
        go_ret2
        exact ⟨ret_si (by rw [HW.out]) (by rw [HW.out]), I.1⟩
end Go.Proofs.YtbldegmanbmpmaaGreatDoor
