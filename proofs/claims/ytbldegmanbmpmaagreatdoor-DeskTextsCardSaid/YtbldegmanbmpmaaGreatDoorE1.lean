/- The law DeskTexts, walked: it returns true. -/
import Derived.Test.YtbldegmanbmpmaaGreatDoorE0
namespace Go.Proofs.YtbldegmanbmpmaaGreatDoor
open Go.RowKit Go.Shelf
set_option maxRecDepth 100000 in
set_option maxHeartbeats 4000000 in
theorem c3 (A : Option Addr) (n c : Nat) (xs : List De) (t : ByteArray) (w : World) (hok : Ok w) (hs : SlD w.heap.size w A n xs) :
    Calls Tryz.prog 3 #[.slice A n c, .string t] w fun e w' => e = .returned (.bool true) ∧ Below w.heap.size w w' := by
  have HS := Lib.hid hs
  have HO := Lib.hid hok
  clear hs hok
  go_enter Tryz.func3, Tryz.ntmps3
  go_wp2_with (fail)
  refine (c4 A n c xs _ HS.out).mono ?_
  rintro e w1 ⟨⟨b, rfl⟩, hk1⟩
  cases b
  · by_cases hbig : 15000 < t.size
    · have hd : decide ((15000 : Int) < (t.size : Int)) = true := by simp; omega
      go_wp2
      go_ret
      exact ⟨rfl, hk1⟩
    have hd : decide ((15000 : Int) < (t.size : Int)) = false := by simp; omega
    have HK1 := Lib.hid hk1
    have HS1 : Hid (SlD w1.heap.size w1 A n xs) := (HS.out.below hk1 (Nat.le_refl _)).up hk1.size
    have HO1 : Hid (Ok w1) := HO.out.below hk1
    clear hk1 HS HO
    go_wp2_with (fail)
    refine (c5 xs A n c _ HO1.out HS1.out).mono ?_
    rintro e w2 ⟨rfl, hk⟩
    have HK2 := Lib.hid (HK1.out.trans (hk.mono HK1.out.size))
    have HS2 : Hid (SlD w2.heap.size w2 A n xs) := (HS1.out.below hk (Nat.le_refl _)).up hk.size
    have HO2 : Hid (Ok w2) := HO1.out.below hk
    clear hk HK1 HS1 HO1
    go_wp2_with (fail)
    refine (c6 xs A n c _ HS2.out).mono ?_
    rintro e w3 ⟨rfl, hk⟩
    have HK3 := Lib.hid (HK2.out.trans (hk.mono HK2.out.size))
    have HO3 : Hid (Ok w3) := HO2.out.below hk
    clear hk HK2 HS2 HO2
    generalize writeW xs = ww
    obtain ⟨wt, we⟩ := ww
    dsimp only
    go_wp2_with (fail)
    refine (c7 t (by omega) _ HO3.out).mono ?_
    rintro e w4 ⟨A4, m4, c4, rfl, hs4, hk⟩
    have HK4 := Lib.hid (HK3.out.trans (hk.mono HK3.out.size))
    have HS4 := Lib.hid hs4
    clear hk hs4 HK3 HO3
    go_wp2_with (fail)
    refine (c8 t (by omega) _).mono ?_
    rintro e w5 ⟨A5, m5, c5, rfl, hs5, hk⟩
    have HK5 := Lib.hid (HK4.out.trans (hk.mono HK4.out.size))
    have hs45 := (HS4.out.below hk (Nat.le_refl _)).up hk.size
    generalize readW t.data.toList = rr at hs45 hs5 ⊢
    obtain ⟨rl, ra, re⟩ := rr
    dsimp only at hs45 hs5 ⊢
    have hm : m4 = m5 := hs45.1.symm.trans hs5.1
    subst hm
    have HS4b := Lib.hid hs45
    have HS5 := Lib.hid hs5
    have e1 : (wt == wt) = true := by simp
    have e2 : (we == we) = true := by simp
    have e3 : (ra == ra) = true := by simp
    have e4 : (re == re) = true := by simp
    clear hk hs5 hs45 HK4 HS4
    go_wp2_with (fail)
    refine (c9 A4 A5 m4 c4 c5 rl _ HS4b.out HS5.out).mono ?_
    rintro e w6 ⟨rfl, hk⟩
    have HK6 := Lib.hid (HK5.out.trans (hk.mono HK5.out.size))
    clear hk HK5
    go_wp2
    go_ret
    exact ⟨rfl, HK6.out⟩
  · go_wp2
    go_ret
    exact ⟨rfl, hk1⟩
end Go.Proofs.YtbldegmanbmpmaaGreatDoor
