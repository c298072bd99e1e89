/- The seals: what they return. -/
import Derived.Test.YtbldegmanbmpmaaGreatDoorB4
namespace Go.Proofs.YtbldegmanbmpmaaGreatDoor
open Go.RowKit Go.Shelf
set_option maxHeartbeats 1000000 in
theorem c12 (b : Int) (s : ByteArray) (hb : 0 ≤ b ∧ b ≤ 65520) (hs : s.size ≤ 1000000) (w : World) : Calls Tryz.prog 12 #[.int .i64 b, .string s] w fun e w' => e = .returned (.int .i64 (sealW b s.data.toList)) ∧ w = w' := by
  have HB := Lib.hid hb
  clear hb
  go_enter Tryz.func12, Tryz.ntmps12
  go_wp2
  go_loop [0, 8] (fun x i => ∃ k : Nat, k ≤ s.size ∧ i = .int .i64 k ∧ x = .int .i64 (sealW b (s.data.toList.take k))) (fun _ i => s.size - (intOf i).toNat)
  case atStart => exact ⟨0, Nat.zero_le _, rfl, rfl⟩
  case round =>
    obtain ⟨k, hk, rfl, rfl⟩ := hrel
    have hx := sealW_bd b (s.data.toList.take k) HB.out
    by_cases hlt : k < s.size
    · have HT := Lib.hid (sealW_take b s k hlt)
      have HE := Lib.hid hx
      clear hx
      generalize hX : sealW b (s.data.toList.take k) = X at *
      clear hX
      obtain ⟨hx1, hx2⟩ := HE.out
      have hc : s[k].toNat < 256 := UInt8.toNat_lt _
      go_wp2
      go_round
      case rel => exact ⟨k + 1, by omega, by go_num, by rw [HT.out]⟩
      case measure => simp [intOf]; omega
    · have HT := Lib.hid (sealW_all b s k (by omega))
      clear hx
      go_wp2
      go_ret
      exact ⟨ret_int HT.out, rfl⟩
set_option maxHeartbeats 1000000 in
theorem c19 (b : Int) (s : ByteArray) (hb : 0 ≤ b ∧ b ≤ 65520) (hs : s.size ≤ 1000000) (w : World) : Calls Tryz.prog 19 #[.int .i64 b, .string s] w fun e w' => e = .returned (.int .i64 (sealW b s.data.toList)) ∧ w = w' := by
  have HB := Lib.hid hb
  clear hb
  go_enter Tryz.func19, Tryz.ntmps19
  go_wp2
  go_loop [0, 5] (fun x i => ∃ k : Nat, k ≤ s.size ∧ i = .int .i64 k ∧ x = .int .i64 (sealW b (s.data.toList.take k))) (fun _ i => s.size - (intOf i).toNat)
  case atStart => exact ⟨0, Nat.zero_le _, rfl, rfl⟩
  case round =>
    obtain ⟨k, hk, rfl, rfl⟩ := hrel
    have hx := sealW_bd b (s.data.toList.take k) HB.out
    by_cases hlt : k < s.size
    · have HT := Lib.hid (sealW_take b s k hlt)
      have HE := Lib.hid hx
      clear hx
      generalize hX : sealW b (s.data.toList.take k) = X at *
      clear hX
      obtain ⟨hx1, hx2⟩ := HE.out
      have hc : s[k].toNat < 256 := UInt8.toNat_lt _
      go_wp2
      go_round
      case rel => exact ⟨k + 1, by omega, by go_num, by rw [HT.out]⟩
      case measure => simp [intOf]; omega
    · have HT := Lib.hid (sealW_all b s k (by omega))
      clear hx
      go_wp2
      go_ret
      exact ⟨ret_int HT.out, rfl⟩
end Go.Proofs.YtbldegmanbmpmaaGreatDoor
