/- The reference's parts of a text: what it returns. -/
import Derived.Test.YtbldegmanbmpmaaGreatDoorB9
import Derived.RangeFuncBox
import Derived.RegionTactic
import Derived.ChangeAlike
namespace Go.Proofs.YtbldegmanbmpmaaGreatDoor
open Go.RowKit Go.Shelf
def partsAcc (c : UInt8) (done : List (List UInt8)) (cur : List UInt8) : List UInt8 → List (List UInt8)
  | [] => done ++ [cur]
  | b :: l => if b = c then partsAcc c (done ++ [cur]) [] l else partsAcc c done (cur ++ [b]) l
theorem partsAcc_eq (c : UInt8) (l : List UInt8) : ∀ (done : List (List UInt8)) (cur : List UInt8), partsAcc c done cur l = done ++ (match parts c l with | [] => [cur] | x :: r => (cur ++ x) :: r) := by
  induction l with
  | nil => intro done cur; simp [partsAcc, parts]
  | cons b l ih =>
    intro done cur
    rw [partsAcc, parts]
    by_cases hb : b = c
    · rw [if_pos hb, if_pos hb, ih]
      have hne := parts_ne c l
      cases hp : parts c l with
      | nil => exact absurd hp hne
      | cons x r => simp
    · rw [if_neg hb, if_neg hb, ih]
      have hne := parts_ne c l
      cases hp : parts c l with
      | nil => exact absurd hp hne
      | cons x r => simp
theorem parts_acc (c : UInt8) (l : List UInt8) : parts c l = partsAcc c [] [] l := by
  rw [partsAcc_eq]
  have hne := parts_ne c l
  cases hp : parts c l with
  | nil => exact absurd hp hne
  | cons x r => simp
theorem own_at {W : World} {base : Nat} {e : TypeId} {g n cap : Nat} {xs : List Value} {i : Nat} (h : W.ownsRow base e 1 (.slice (some ⟨g, 0, none⟩) n cap) n xs) (u : Value) : (W.setCell ⟨g, i, none⟩ u).ownsRow base e 1 (.slice (some ⟨g, 0, none⟩) n cap) n (xs.set i u) := by
  obtain ⟨h1, h2⟩ := h
  refine ⟨by rw [List.length_set]; exact h1, ?_⟩
  rcases h2 with ⟨h2, _⟩ | ⟨g', cap', cur, h2, hb, hg, hn, hc, hs, ht⟩
  · cases h2
  · cases h2
    refine .inr ⟨g, cap, cur.setIfInBounds i u, rfl, hb, ?_, hn, hc, by rw [Array.size_setIfInBounds]; exact hs, ?_⟩
    · simp [World.setCell, Array.getElem?_modify, hg]
    · rw [Array.toList_setIfInBounds, List.take_set, ht]
theorem own_new (W : World) (x : Value) (e : TypeId) (base : Nat) (hb : base ≤ W.heap.size) : (W.alloc (.cells #[x] e)).ownsRow base e 1 (.slice (some ⟨W.heap.size, 0, none⟩) 1 1) 1 [x] :=
  ⟨rfl, .inr ⟨W.heap.size, 1, #[x], rfl, hb, heap_alloc_new W _, Nat.le_refl _, by unfold maxLen; omega, rfl, rfl⟩⟩
theorem own_cell {W : World} {base : Nat} {e : TypeId} {g n cap : Nat} {xs : List Value} (h : W.ownsRow base e 1 (.slice (some ⟨g, 0, none⟩) n cap) n xs) (i : Nat) (u : Value) (hu : xs[i]? = some u) : W.cell? ⟨g, i, none⟩ = some u := by
  have hc := h.cells (g := g) rfl i u hu
  by_cases hi : i = 0
  · subst hi; simpa [Addr.add] using hc
  · simpa [Addr.add, hi] using hc
theorem own_free {W : World} {base : Nat} {e : TypeId} {g n cap : Nat} {xs : List Value} (h : W.ownsRow base e 1 (.slice (some ⟨g, 0, none⟩) n cap) n xs) (i : Nat) : W.frozen? ⟨g, i, none⟩ = false := by
  obtain ⟨_, h2⟩ := h
  rcases h2 with ⟨h2, _⟩ | ⟨g', cap', cur, h2, hb, hg, _⟩
  · cases h2
  · cases h2; simp [World.frozen?, hg]
theorem ext_one (s : ByteArray) (k : Nat) (h : k < s.size) : s.extract k (k + 1) = ⟨[s[k]].toArray⟩ := by
  rw [Lib.extract_eq, show k + 1 - k = 1 by omega, List.drop_eq_getElem_cons (by simpa using h)]
  rfl
theorem byte_eq (a c : UInt8) : ((a.toNat : Int) == (c.toNat : Int)) = decide (a = c) := by
  rw [Bool.eq_iff_iff, beq_iff_eq, decide_eq_true_eq]
  exact ⟨fun h => UInt8.toNat_inj.1 (by omega), fun h => by rw [h]⟩
theorem drop_byte (s : ByteArray) (k : Nat) (h : k < s.size) : s.data.toList.drop k = s[k] :: s.data.toList.drop (k + 1) := by
  rw [List.drop_eq_getElem_cons (by simpa using h)]; rfl
theorem drop_end (s : ByteArray) (k : Nat) (h : s.size ≤ k) : s.data.toList.drop k = [] := List.drop_eq_nil_of_le (by rw [← Lib.size_eq]; exact h)
theorem set_last (done : List (List UInt8)) (cur cur' : List UInt8) : ((done ++ [cur]).map strV).set done.length (strV cur') = (done ++ [cur']).map strV := by
  simp [List.map_append, List.set_append]
theorem get_last (done : List (List UInt8)) (cur : List UInt8) : ((done ++ [cur]).map strV)[done.length]? = some (strV cur) := by
  simp [List.map_append]
def PartsIs (w : World) (ps : List (List UInt8)) (e : Ending) (w' : World) : Prop := ∃ v, e = .returned v ∧ w'.ownsRow w.heap.size 9 1 v ps.length (ps.map strV) ∧ Below w.heap.size w w'
set_option maxRecDepth 100000 in
set_option maxHeartbeats 4000000 in
theorem c38 (s : ByteArray) (c : UInt8) (z : Int) (hz : z = (c.toNat : Int)) (hs : s.size ≤ 100000) (w : World) :
    Calls Tryz.prog 38 #[.string s, .int .u8 z] w (PartsIs w (parts c s.data.toList)) := by
  have HZ := Lib.hid hz
  clear hz
  have HS : Hid (parts c s.data.toList = partsAcc c [] [] s.data.toList) := parts_acc c s.data.toList
  obtain ⟨i0, hi, hz0, hz1, hz2⟩ := info_parts info9
  have G0 : Gro w (w.alloc (.cells #[strV []] 9)) [] w.heap.size 9 1 (.slice (some ⟨w.heap.size, 0, none⟩) 1 1) 1 [strV []] := ⟨(Inv.start w).alloc _, own_new w (strV []) 9 w.heap.size (Nat.le_refl _)⟩
  have HG0 := Lib.hid G0
  clear G0
  go_enter Tryz.func38, Tryz.ntmps38
  go_wp2
  go_loopw [5, 6] (fun v i W => ∃ (k : Nat) (done : List (List UInt8)) (cur : List UInt8), k ≤ s.size ∧ i = .int .i64 k ∧ Gro w W [] w.heap.size 9 1 v (done.length + 1) ((done ++ [cur]).map strV) ∧ Hid (parts c s.data.toList = partsAcc c done cur (s.data.toList.drop k)) ∧ done.length ≤ k ∧ cur.length ≤ k) (fun _ i _ => s.size - (intOf i).toNat)
  case atStart => exact ⟨0, [], [], Nat.zero_le _, rfl, HG0.out, HS.out, by simp, by simp⟩
  case round =>
    clear HG0 HS
    obtain ⟨k, done, cur, hk, rfl, G, HE, hd, hc⟩ := hrel
    by_cases hlt : k < s.size
    · have HD := Lib.hid (drop_byte s k hlt)
      by_cases hb : s[k] = c
      · have hbe : ((s[k].toNat : Int) == z) = true := by rw [HZ.out, byte_eq, decide_eq_true hb]
        have HE' : Hid (parts c s.data.toList = partsAcc c (done ++ [cur]) [] (s.data.toList.drop (k + 1))) := by show _ = _; rw [HE.out, HD.out, partsAcc, if_pos hb]
        have a1 := Lib.hid (cell_one_new wr (strV []) 9)
        have a2 := Lib.hid (one_str [])
        have a3 : Hid ((done.length + 1) + 1 ≤ maxLen) := by show _ ≤ _; unfold maxLen; omega
        have a4 : Hid (((done.length + 1) + 1) * 16 ≤ 140737488355328) := by show _ ≤ _; omega
        have a5 : Hid (w.heap.size ≤ (wr.alloc (.cells #[strV []] 9)).heap.size) := by show _ ≤ _; have := G.1.size; simp; omega
        have HL : Hid ((done ++ [cur]).length = done.length + 1) := by show _ = _; simp
        clear HE HD hb
        go_wp2_with ((at_builtin; refine wpList_append_own _ rfl _ _ 63 rfl w.heap.size 9 i0 (.string .empty) 1 16 Tryz.underlying63 hi hz0 hz1 hz2 rfl (by decide) _ _ _ rfl (G.2.alloc _) ⟨wr.heap.size, 0, none⟩ 1 1 [strV []] rfl rfl a1.out a2.out a3.out a4.out a5.out ?_; intro v' w2 hown hgrow _; have G2 := (G.alloc _).app (Nat.le_refl _) (fun _ h => by cases h) hown hgrow; clear hown hgrow G))
        go_roundw
        case rel => exact ⟨k + 1, done ++ [cur], [], by omega, by go_num, by rw [HL.out, List.map_append (l₂ := [[]])]; exact G2, HE'.out, by rw [HL.out]; omega, by simp⟩
        case measure => simp [intOf]; omega
      · have hbe : ((s[k].toNat : Int) == z) = false := by rw [HZ.out, byte_eq, decide_eq_false hb]
        have HE' : Hid (parts c s.data.toList = partsAcc c done (cur ++ [s[k]]) (s.data.toList.drop (k + 1))) := by show _ = _; rw [HE.out, HD.out, partsAcc, if_neg hb]
        obtain ⟨g, cap, hv⟩ := ownsRow_succ G.2
        subst hv
        have HX : Hid ((⟨cur.toArray⟩ ++ s.extract k (k + 1) : ByteArray) = ⟨(cur ++ [s[k]]).toArray⟩) := by show _ = _; rw [ext_one s k hlt, cat_mk]
        have HSL := Lib.hid (set_last done cur (cur ++ [s[k]]))
        have b1 : IntKind.i64.wrap ((done.length : Int) + 1 - 1) = (done.length : Int) := by rw [IntWalk.i64_in _ (by omega)]; omega
        have b1' : IntKind.i64.wrap (done.length : Int) = (done.length : Int) := IntWalk.i64_in _ (by omega)
        have b2 : (done.length : Int) < (done.length : Int) + 1 := by omega
        have b3 : IntKind.i64.wrap ((k : Int) + 1) = (k : Int) + 1 := IntWalk.i64_in _ (by omega)
        have b4 : (0 : Int) ≤ (k : Int) + 1 := by omega
        have b5 : (k : Int) + 1 ≤ (s.size : Int) := by omega
        have b6 : (k : Int) ≤ (k : Int) + 1 := by omega
        have b7 : ((k : Int) + 1).toNat = k + 1 := by omega
        have c1 := own_cell G.2 done.length (strV cur) (get_last done cur)
        unfold strV at c1
        have c2 := own_free G.2 done.length
        have hcat := cat_ok (a := ⟨cur.toArray⟩) (b := s.extract k (k + 1)) (by have := ext_size s k (k + 1); rw [mk_size]; omega)
        have HG := Lib.hid G
        clear HE HD hb G
        go_wp2
        go_region
        have hg := (HG.out.2.lt g (by simp [Value.ownBlock])).1
        have G2 : Gro w (wr.setCell ⟨g, done.length, none⟩ (Value.string ({ data := cur.toArray } ++ s.extract k (k + 1)))).drew [] w.heap.size 9 1 (.slice (some ⟨g, 0, none⟩) (done.length + 1) cap) (done.length + 1) ((done ++ [cur ++ [s[k]]]).map strV) := by
          rw [HX.out]
          refine ⟨⟨(HG.out.1.1.setCell (p := ⟨g, done.length, none⟩) hg _).drew, fun _ h => (by cases h)⟩, ?_⟩
          have := own_at (i := done.length) HG.out.2 (strV (cur ++ [s[k]]))
          rw [HSL.out] at this
          exact this
        have HG2 := Lib.hid G2
        clear G2
        go_wp2
        go_roundw
        case rel => exact ⟨k + 1, done, cur ++ [s[k]], by omega, by go_num, HG2.out, HE'.out, by omega, by rw [List.length_append, List.length_singleton]; omega⟩
        case measure => simp [intOf]; omega
    · have HE' : Hid (parts c s.data.toList = done ++ [cur]) := by show _ = _; rw [HE.out, drop_end s k (by omega)]; rfl
      have HL : Hid ((done ++ [cur]).length = done.length + 1) := by show _ = _; simp
      have HG := Lib.hid G
      clear G HE
      go_wp2
      go_ret
      exact ⟨_, rfl, by rw [HE'.out, HL.out]; exact HG.out.2, HG.out.1.1⟩
end Go.Proofs.YtbldegmanbmpmaaGreatDoor
