/- The two writers of a log's text: what they return. -/
import Derived.Test.YtbldegmanbmpmaaGreatDoorB7
namespace Go.Proofs.YtbldegmanbmpmaaGreatDoor
open Go.RowKit Go.Shelf
theorem bld_call {W W' : World} {B b : Nat} {bs : List Value} (h : Lib.IsBuilder 41 5 B b bs W) (hk : Below W.heap.size W W') : Lib.IsBuilder 41 5 B b bs W' := by
  rcases h with h | h
  · obtain ⟨h1, v, h2, h3, h4⟩ := h
    exact .inl ⟨h1, v, (hk.block b (Array.getElem?_eq_some_iff.1 h2).1).trans h2, own_call h3 hk, h4⟩
  · obtain ⟨h1, v, h2, h3, h4⟩ := h
    exact .inr ⟨h1, v, (hk.block b (Array.getElem?_eq_some_iff.1 h2).1).trans h2, own_call h3 hk, h4⟩
theorem bld_alloc {W : World} {B b : Nat} {bs : List Value} (h : Lib.IsBuilder 41 5 B b bs W) (o : Obj) : Lib.IsBuilder 41 5 B b bs (W.alloc o) := bld_call h ((Below.refl _ _).alloc (Nat.le_refl _) o)
theorem bld_at {W : World} {B b : Nat} {a c : List UInt8} (h : Lib.BuilderAt 41 5 B b (.pointer (some ⟨b, 0, none⟩)) (Lib.byteCells a ++ Lib.strCells ⟨c.toArray⟩) W) : Lib.IsBuilder 41 5 B b (Lib.byteCells (a ++ c)) W := by
  rw [Lib.byteCells_append]; exact .inr h
/-- What a line adds to a log's text. -/
def lineT (k : Nat) (s : Int) (d : De) : List UInt8 := bodyW ((k : Int) + 1) d ++ (Lib.itoa (sealW s (bodyW ((k : Int) + 1) d)) ++ [10])
theorem wrFrom_yes {k : Nat} {s : Int} {acc : List UInt8} {d : De} {l : List De} (h : knownW d = true) : wrFrom k s acc (d :: l) = wrFrom (k + 1) (sealW s (bodyW ((k : Int) + 1) d)) (acc ++ lineT k s d) l := by rw [wrFrom, if_pos h]; rfl
theorem wrFrom_no {k : Nat} {s : Int} {acc : List UInt8} {d : De} {l : List De} (h : knownW d = false) : wrFrom k s acc (d :: l) = none := by rw [wrFrom, h]; rfl
theorem body_len {k : Nat} {d : De} (hk : k ≤ 200) (h : knownW d = true) : (bodyW ((k : Int) + 1) d).length ≤ 400 := by
  obtain ⟨h1, h2, h3⟩ := knownW_bd h
  have := bodyW_len (n := (k : Int) + 1) (d := d) (by unfold fits; omega) (fun x hx => by have := h3 x hx; unfold fits; omega)
  omega
theorem seal_len {s : Int} (l : List UInt8) (h : 0 ≤ s ∧ s ≤ 65520) : (Lib.itoa (sealW s l)).length ≤ 21 := by
  have := sealW_bd s l h
  exact itoa_len (by omega) (by omega)
theorem line_cat (k : Nat) (s : Int) (d : De) : (⟨(bodyW ((k : Int) + 1) d).toArray⟩ ++ ⟨(Lib.itoa (sealW s (bodyW ((k : Int) + 1) d))).toArray⟩ ++ { data := #[10] } : ByteArray) = ⟨(lineT k s d).toArray⟩ := by
  rw [show ({ data := #[10] } : ByteArray) = ⟨[10].toArray⟩ from rfl, cat_mk, cat_mk]; simp [lineT]
theorem ret_si {a b : ByteArray} {x y : Int} (h : a = b) (h2 : x = y) : Ending.returned (.tuple #[.string a, .int .i64 x]) = .returned (.tuple #[.string b, .int .i64 y]) := by rw [h, h2]
set_option maxRecDepth 100000 in
set_option maxHeartbeats 4000000 in
theorem c5 (xs : List De) (A : Option Addr) (n c : Nat) (w : World) (hok : Ok w) (hs : SlD w.heap.size w A n xs) :
    Calls Tryz.prog 5 #[.slice A n c] w fun e w' => e = .returned (.tuple #[.string ⟨(writeW xs).1.toArray⟩, .int .i64 (writeW xs).2]) ∧ Below w.heap.size w w' := by
  have HS := Lib.hid hs
  have HO := Lib.hid hok
  have hn := hs.2.1
  clear hs hok
  by_cases hlong : 150 < n
  · have hd : decide ((150 : Int) < (n : Int)) = true := by simp; omega
    have HW := Lib.hid (writeW_long (xs := xs) (by rw [HS.out.1]; exact hlong))
    go_enter Tryz.func5, Tryz.ntmps5
    go_wp2
    go_ret2
    exact ⟨ret_si (by rw [HW.out]) (by rw [HW.out]), Below.refl _ _⟩
  have hd : decide ((150 : Int) < (n : Int)) = false := by simp; omega
  have HLn : Hid (¬ 150 < xs.length) := by show ¬ 150 < xs.length; rw [HS.out.1]; exact hlong
  have B0 := Lib.fresh_isBuilder 41 5 w
  have HB0 := Lib.hid B0
  clear B0
  go_enter Tryz.func5, Tryz.ntmps5
  go_wp2
  clear hd
  go_loopw [5, 14] (fun v i W => ∃ (k : Nat) (s : Int) (acc : List UInt8), k ≤ n ∧ i = .int .i64 k ∧ v = .int .i64 s ∧ 0 ≤ s ∧ s ≤ 65520 ∧ Inv w W [] ∧ Lib.IsBuilder 41 5 w.heap.size w.heap.size (Lib.byteCells acc) W ∧ Hid (wrFrom 0 0 [] xs = wrFrom k s acc (xs.drop k)) ∧ acc.length ≤ k * 500) (fun _ i _ => n - (intOf i).toNat)
  case atStart => exact ⟨0, 0, [], Nat.zero_le _, rfl, rfl, by omega, by omega, (Inv.start w).alloc _, HB0.out, rfl, by simp⟩
  case round =>
    clear HB0
    obtain ⟨k, s, acc, hk, rfl, rfl, hs1, hs2, I, hb, HE, ha⟩ := hrel
    have HB := Lib.hid hb
    clear hb
    by_cases hlt : k < n
    · obtain ⟨b, o, rfl, hB, hc⟩ := HS.out.2.2 (by omega)
      obtain ⟨r0, A', m, c', r1, hnums⟩ := hc k hlt
      have q0 := (I.1.cell (p := ⟨b, o + k * 2, none⟩) hB).trans r0
      have q1 := (I.1.cell (p := ⟨b, o + k * 2 + 1, none⟩) hB).trans r1
      clear hc r0 r1
      have HD := Lib.hid (drop_getD xs k noDe (by rw [HS.out.1]; exact hlt))
      generalize hx : xs.getD k noDe = d at *
      clear hx
      have HM := Lib.hid hnums
      clear hnums
      have I1 := I.new 37 [.string d.word, .slice A' m c']
      go_wp2_with (fail)
      clear q0 q1
      refine (c10 d A' m c' _ ((HM.out.below I1.1 (Nat.le_refl _)).up I1.size)).mono ?_
      rintro e w1 ⟨rfl, hk1⟩
      have I2 := I1.call hk1
      have HB2 := Lib.hid (bld_call (bld_alloc HB.out _) hk1)
      clear hk1 I1 HB I
      cases g : knownW d
      · have HW := Lib.hid (writeW_none HLn.out (by rw [HE.out, HD.out, wrFrom_no g]))
        clear HE HD g
        go_wp2
        go_ret2
        exact ⟨ret_si (by rw [HW.out]) (by rw [HW.out]), I2.1⟩
      obtain ⟨g1, g2, g3⟩ := knownW_bd g
      have HE' : Hid (wrFrom 0 0 [] xs = wrFrom (k + 1) (sealW s (bodyW ((k : Int) + 1) d)) (acc ++ lineT k s d) (xs.drop (k + 1))) := by show _ = _; rw [HE.out, HD.out, wrFrom_yes g]
      have hbl := body_len (k := k) (d := d) (by omega) g
      have hsl := seal_len (bodyW ((k : Int) + 1) d) ⟨hs1, hs2⟩
      have hsb := sealW_bd s (bodyW ((k : Int) + 1) d) ⟨hs1, hs2⟩
      have HG := Lib.hid g3
      clear HE HD g g3
      obtain ⟨q0, q1, _, _⟩ := I2.box.facts2
      go_wp2_with (fail)
      clear q0 q1
      refine (c11 ((k : Int) + 1) (by unfold fits; omega) d A' m c' _ (HO.out.inv I2) ((HM.out.below I2.1 (Nat.le_refl _)).up I2.size) (by omega) (by have := HM.out.1; omega) (fun x hx => by have := HG.out x hx; unfold fits; omega)).mono ?_
      rintro e w2 ⟨rfl, hk2⟩
      have I3 := I2.call hk2
      have HB3 := Lib.hid (bld_call HB2.out hk2)
      clear hk2 I2 HB2
      go_wp2_with (fail)
      refine (c12 s _ ⟨hs1, hs2⟩ (by rw [mk_size]; omega) _).mono ?_
      rintro e w3 ⟨rfl, rfl⟩
      simp only [show (⟨(bodyW ((k : Int) + 1) d).toArray⟩ : ByteArray).data.toList = bodyW ((k : Int) + 1) d from rfl]
      go_wp2_with (fail)
      refine (c14 (sealW s (bodyW ((k : Int) + 1) d)) (by unfold fits; omega) _ (HO.out.inv I3)).mono ?_
      rintro e w4 ⟨rfl, hk4⟩
      have I4 := I3.call hk4
      have HB4 := Lib.hid (bld_call HB3.out hk4)
      clear hk4 I3 HB3
      have s1 := cat_ok (a := ⟨(bodyW ((k : Int) + 1) d).toArray⟩) (b := ⟨(Lib.itoa (sealW s (bodyW ((k : Int) + 1) d))).toArray⟩) (by simp only [ByteArray.size_append, mk_size, lit1, List.length_cons, List.length_nil]; omega)
      have s2 := cat_ok (a := ⟨(bodyW ((k : Int) + 1) d).toArray⟩ ++ ⟨(Lib.itoa (sealW s (bodyW ((k : Int) + 1) d))).toArray⟩) (b := { data := #[10] }) (by simp only [ByteArray.size_append, mk_size, lit1, List.length_cons, List.length_nil]; omega)
      have HL : Hid ((lineT k s d).length ≤ 450) := by show (lineT k s d).length ≤ 450; simp only [lineT, List.length_append, List.length_cons, List.length_nil]; omega
      have HC := Lib.hid (line_cat k s d)
      go_wp2_with (fail)
      clear s1 s2
      rw [HC.out]
      refine (Tryz.bWrite w.heap.size w.heap.size (Lib.byteCells acc) ⟨(lineT k s d).toArray⟩ _ HB4.out (by rw [Lib.byteCells_length, mk_size]; have := HL.out; omega) I4.size).mono ?_
      rintro e w5 ⟨rfl, hb5, hk5⟩
      have HB5 := Lib.hid (bld_at hb5)
      have I5 : Inv w w5 [] := ⟨I4.1.trans hk5, fun _ h => by cases h⟩
      clear hb5 hk5 I4 HB4 HC
      have hal : (acc ++ lineT k s d).length ≤ (k + 1) * 500 := by have := HL.out; rw [List.length_append]; omega
      clear HL hbl hsl
      generalize sealW s (bodyW ((k : Int) + 1) d) = s' at *
      go_wp2
      go_roundw
      case rel => exact ⟨k + 1, s', acc ++ lineT k s d, by omega, by go_num, rfl, hsb.1, hsb.2, I5, HB5.out, HE', hal⟩
      case measure => simp [intOf]; omega
    · have hkn : k = n := by omega
      have HE' : Hid (wrFrom 0 0 [] xs = some acc) := by show _ = _; rw [HE.out, List.drop_eq_nil_of_le (by rw [HS.out.1]; omega)]; rfl
      clear HE hkn
      go_wp2_with (fail)
      refine (Tryz.Builder_Len _ _ _ _ HB.out).mono ?_
      rintro e w1 ⟨rfl, hw1⟩
      subst hw1
      rw [Lib.byteCells_length]
      by_cases hf : 12000 < acc.length
      · have hd : decide ((12000 : Int) < (acc.length : Int)) = true := by simp; omega
        have HW := Lib.hid (writeW_full HLn.out HE'.out hf)
        clear HE' ha
        go_wp2
        go_ret2
        exact ⟨ret_si (by rw [HW.out]) (by rw [HW.out]), I.1⟩
      · have hd : decide ((12000 : Int) < (acc.length : Int)) = false := by simp; omega
        have HW := Lib.hid (writeW_ok HLn.out HE'.out hf)
        clear HE' ha
        go_wp2_with (fail)
        refine (Tryz.Builder_String_any _ _ acc _ HB.out I.size).mono ?_
        rintro e w2 ⟨rfl, hk2⟩
        go_wp2
        go_ret2
        exact ⟨ret_si (by rw [HW.out]) (by rw [HW.out]), I.1.trans hk2⟩
end Go.Proofs.YtbldegmanbmpmaaGreatDoor
