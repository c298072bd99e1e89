/- The program's reader of a number: what it returns. -/
import Derived.Test.YtbldegmanbmpmaaGreatDoorC3
namespace Go.Proofs.YtbldegmanbmpmaaGreatDoor
open Go.RowKit Go.Shelf
def CanIs (t : List UInt8) (w : World) (e : Ending) (w' : World) : Prop :=
  ∃ (v : Int) (b : Bool), e = .returned (.tuple #[.int .i64 v, .bool b]) ∧ (b = true → canon t = some v) ∧ (b = false → canon t = none) ∧ Below w.heap.size w w'
theorem canon_yes {t : List UInt8} {v : Int} (h : Lib.atoiAll t = .ok v) (h2 : Lib.itoa v = t) : canon t = some v := by unfold canon; rw [h]; simp [h2]
theorem canon_no {t : List UInt8} {v : Int} (h : Lib.atoiAll t = .ok v) (h2 : ¬ Lib.itoa v = t) : canon t = none := by unfold canon; rw [h]; simp [h2]
theorem canon_not {t : List UInt8} (h : ∀ v, Lib.atoiAll t ≠ .ok v) : canon t = none := by
  unfold canon
  split
  · rename_i v hv; exact absurd hv (h v)
  · rfl
set_option maxHeartbeats 1000000 in
theorem c36 (s : ByteArray) (hs : s.size ≤ 20000) (w : World) (hok : Ok w) : Calls Tryz.prog 36 #[.string s] w (CanIs s.data.toList w) := by
  have HO := Lib.hid hok
  clear hok
  go_enter Tryz.func36, Tryz.ntmps36
  go_wp2_with (fail)
  refine (c48 s hs _ HO.out).mono ?_
  rintro e w1 ⟨hk1, ⟨v, ha, rfl⟩ | ⟨hno, v, N, rfl⟩⟩
  · have HA := Lib.hid ha
    have hb := Lib.atoiAll_bounds ha
    have HB := Lib.hid (itoa_eqb2 v s)
    have HK := Lib.hid hk1
    clear ha hk1
    go_wp2_with (fail)
    refine (c14 v hb _ (HO.out.below HK.out)).mono ?_
    rintro e w2 ⟨rfl, hk2⟩
    have HK2 := Lib.hid (HK.out.trans (hk2.mono HK.out.size))
    clear hk2
    by_cases hi : Lib.itoa v = s.data.toList
    · have hx : (Lib.itoa v == s.toList) = true := by rw [itoa_eqb, decide_eq_true hi]
      have HC := Lib.hid (canon_yes HA.out hi)
      clear hi
      go_wp2
      go_ret2
      exact ⟨v, true, rfl, fun _ => HC.out, fun h => (by cases h), HK2.out⟩
    · have hx : (Lib.itoa v == s.toList) = false := by rw [itoa_eqb, decide_eq_false hi]
      have HC := Lib.hid (canon_no HA.out hi)
      clear hi
      go_wp2
      go_ret2
      exact ⟨v, false, rfl, fun h => (by cases h), fun _ => HC.out, HK2.out⟩
  · have HC := Lib.hid (canon_not hno)
    have HK := Lib.hid hk1
    clear hno hk1
    go_wp2
    go_ret2
    exact ⟨v, false, rfl, fun h => (by cases h), fun _ => HC.out, HK.out⟩
end Go.Proofs.YtbldegmanbmpmaaGreatDoor
