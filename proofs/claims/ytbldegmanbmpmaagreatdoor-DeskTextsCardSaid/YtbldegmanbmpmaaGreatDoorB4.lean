/- The reference's numbers, and the seals: what they return. -/
import Derived.Test.YtbldegmanbmpmaaGreatDoorB3
import Derived.IntWalk
namespace Go.Proofs.YtbldegmanbmpmaaGreatDoor
open Go.RowKit Go.Shelf
def digs : ByteArray := { data := #[48, 49, 50, 51, 52, 53, 54, 55, 56, 57] }
theorem digs_fin : ∀ i : Fin 10, (digs.data.toList.drop i.val).take 1 = [UInt8.ofNat (48 + i.val)] := by decide +kernel
theorem digs_at {i : Nat} (h : i < 10) : digs.extract i (i + 1) = ⟨(Lib.decDigits i).toArray⟩ := by
  rw [Lib.extract_eq, show i + 1 - i = 1 by omega, digs_fin ⟨i, h⟩, dec_small h]
theorem cat_mk (a b : List UInt8) : (⟨a.toArray⟩ : ByteArray) ++ ⟨b.toArray⟩ = ⟨(a ++ b).toArray⟩ := by
  apply ByteArray.ext; simp [ByteArray.data_append]
theorem cat_ok {a b : ByteArray} (h : a.size + b.size ≤ 9223372036854775807) : Op.stringOp .add a b = pure (.string (a ++ b)) := by
  have h2 : ¬ ((a.size + b.size : Nat) : Int) > IntKind.i64.max := by
    show ¬ ((a.size + b.size : Nat) : Int) > 9223372036854775807
    omega
  simp only [Op.stringOp, h2, if_false]
theorem mk_size (l : List UInt8) : (⟨l.toArray⟩ : ByteArray).size = l.length := by simp [ByteArray.size]
theorem dec_len (u : Nat) (h : u < 18446744073709551616) : (Lib.decDigits u).length ≤ 20 := by rw [Lib.decDigits_length]; exact Lib.nDigits_le20 u h
theorem ext_size (s : ByteArray) (a b : Nat) : (s.extract a b).size ≤ b - a := by rw [ByteArray.size_extract]; omega
set_option maxHeartbeats 1000000 in
theorem c20_nn (u : Nat) : ∀ w : World, u ≤ 4611686018427387904 → Calls Tryz.prog 20 #[.int .i64 u] w fun e w' => e = .returned (.string ⟨(Lib.decDigits u).toArray⟩) ∧ Below w.heap.size w w' := by
  induction u using Nat.strongRecOn with
  | ind u ih =>
    intro w hu
    by_cases h : u < 10
    · have h0 : decide ((u : Int) < 0) = false := by simp
      have h1 : decide ((u : Int) < 10) = true := by simp; omega
      have HD := Lib.hid (digs_at h)
      clear ih
      go_enter Tryz.func20, Tryz.ntmps20
      go_wp2
      go_ret
      exact ⟨ret_str HD.out, Below.refl _ _⟩
    · have h0 : decide ((u : Int) < 0) = false := by simp
      have h1 : decide ((u : Int) < 10) = false := by simp; omega
      have HB := Lib.hid (dec_big h)
      have HI := Lib.hid (ih (u / 10) (by omega))
      have HD := Lib.hid (digs_at (i := u % 10) (by omega))
      have HB2 := Lib.hid (dec_small (u := u % 10) (by omega))
      obtain ⟨q, hq⟩ : ∃ q, q = u / 10 := ⟨_, rfl⟩
      obtain ⟨r, hr⟩ : ∃ r, r = u % 10 := ⟨_, rfl⟩
      have hq1 : IntKind.i64.wrap ((u : Int) / 10) = (q : Int) := by rw [IntWalk.i64_in _ (by omega)]; omega
      have hr1 : (u : Int).tmod 10 = (r : Int) := by rw [Int.tmod_eq_emod_of_nonneg (by omega)]; omega
      have hr2 : IntKind.i64.wrap ((r : Int) + 1) = (r : Int) + 1 := IntWalk.i64_in _ (by omega)
      have hr3 : ((r : Int) + 1).toNat = r + 1 := by omega
      have hr4 : (0 : Int) ≤ (r : Int) + 1 := by omega
      have hr5 : (r : Int) + 1 ≤ 10 := by omega
      have hr6 : (r : Int) ≤ (r : Int) + 1 := by omega
      have hqb : q ≤ 4611686018427387904 := by omega
      rw [← hq] at HI HB
      rw [← hr] at HD HB HB2
      have hc := cat_ok (a := ⟨(Lib.decDigits q).toArray⟩) (b := ({ data := #[48, 49, 50, 51, 52, 53, 54, 55, 56, 57] } : ByteArray).extract r (r + 1)) (by have h1 := dec_len q (by omega); have h2 := ext_size { data := #[48, 49, 50, 51, 52, 53, 54, 55, 56, 57] } r (r + 1); rw [mk_size]; omega)
      clear ih hq hr
      go_enter Tryz.func20, Tryz.ntmps20
      go_wp2
      refine wp_region_seq (fun W => Below w.heap.size w W) [(0, true), (1, true), (3, true), (4, true), (5, true), (6, true), (7, true), (8, true), (2, false), (9, true), (10, true)] (by kernel_rfl) (by kernel_rfl) rfl (by kernel_rfl) ((Below.refl _ _).drew) (fun K1 hK1 hS => ?_)
      repeat (first | (refine seq_skip (by simp only [List.getElem?_toArray, List.getElem?_cons_succ, List.getElem?_cons_zero] <;> rfl) (by rfl) (by assumption) ?_; simp only [Act.put, List.setIfInBounds_toArray, List.set_cons_zero, List.set_cons_succ]) | (refine seq_take (v := ?_) (by simp only [List.getElem?_toArray, List.getElem?_cons_succ, List.getElem?_cons_zero] <;> rfl) (by rfl) (fun W hW => ?_) ?_; rotate_left; (· go_simp; with_reducible rfl); simp only [Act.put, List.setIfInBounds_toArray, List.set_cons_zero, List.set_cons_succ]))
      (refine seq_do (by simp only [List.getElem?_toArray, List.getElem?_cons_succ, List.getElem?_cons_zero] <;> rfl) (by rfl) (fun K hK => ?_); go_simp; refine (HI.out _ hqb).mono ?_; rintro e w1 ⟨rfl, hk⟩; refine hK _ _ (‹Below w.heap.size w _›.trans (hk.mono (by simp))) (fun hS => ?_); clear hK K; try simp only [Act.put, List.setIfInBounds_toArray, List.set_cons_zero, List.set_cons_succ])
      repeat (first | (refine seq_skip (by simp only [List.getElem?_toArray, List.getElem?_cons_succ, List.getElem?_cons_zero] <;> rfl) (by rfl) (by assumption) ?_; simp only [Act.put, List.setIfInBounds_toArray, List.set_cons_zero, List.set_cons_succ]) | (refine seq_take (v := ?_) (by simp only [List.getElem?_toArray, List.getElem?_cons_succ, List.getElem?_cons_zero] <;> rfl) (by rfl) (fun W hW => ?_) ?_; rotate_left; (· go_simp; with_reducible rfl); simp only [Act.put, List.setIfInBounds_toArray, List.set_cons_zero, List.set_cons_succ]))
      refine seq_end hK1 ?_; clear hK1 K1
      go_wp2
      go_ret
      exact ⟨ret_str (by rw [show ({ data := #[48, 49, 50, 51, 52, 53, 54, 55, 56, 57] } : ByteArray).extract r (r + 1) = ⟨(Lib.decDigits r).toArray⟩ from HD.out, cat_mk, HB2.out, HB.out]), ‹Below w.heap.size w _›⟩
theorem itoa_nn (u : Nat) : Lib.itoa (u : Int) = Lib.decDigits u := Lib.itoa_nonneg u
set_option maxHeartbeats 1000000 in
theorem c20 (n : Int) (h : -4611686018427387904 ≤ n ∧ n ≤ 4611686018427387904) (w : World) : Calls Tryz.prog 20 #[.int .i64 n] w fun e w' => e = .returned (.string ⟨(Lib.itoa n).toArray⟩) ∧ Below w.heap.size w w' := by
  by_cases hn : n < 0
  · obtain ⟨u, hu⟩ : ∃ u : Nat, n = -(u : Int) := ⟨n.natAbs, by omega⟩
    subst hu
    have h0 : decide (-(u : Int) < 0) = true := by simpa using hn
    have hd := dec_len u (by omega)
    have HE : Hid (Lib.itoa (-(u : Int)) = [45] ++ Lib.decDigits u) := by show _ = _; rw [Lib.itoa_neg u (by omega)]; rfl
    have hc := cat_ok (a := { data := #[45] }) (b := ⟨(Lib.decDigits u).toArray⟩) (by rw [mk_size]; simp [ByteArray.size]; omega)
    have hb : u ≤ 4611686018427387904 := by omega
    clear h
    go_enter Tryz.func20, Tryz.ntmps20
    go_wp2_with (fail)
    refine (c20_nn u _ hb).mono ?_
    rintro e w1 ⟨rfl, hk⟩
    go_wp2
    go_ret
    exact ⟨ret_str (by rw [HE.out, ← cat_mk]), hk⟩
  · obtain ⟨u, hu⟩ : ∃ u : Nat, n = (u : Int) := ⟨n.toNat, by omega⟩
    subst hu
    rw [itoa_nn]
    exact c20_nn u w (by omega)
end Go.Proofs.YtbldegmanbmpmaaGreatDoor
