/- The two iterators (desk.lines, strings.SplitSeq): which parts they yield. -/
import Derived.RangeFuncNested
import Derived.RangeFuncBound
import Derived.RangeFuncCalls
import Derived.RangeFuncLeaves
import Derived.Shelf.Abstract
import Derived.Shelf.RegionOpen
import Derived.WalkKit
import Derived.OwnWalkIn
import Derived.TacticsInMore
import Derived.LoopNIn
import Derived.LoopIn
import Derived.Test.YtbldegmanbmpmaaGreatDoorD0
import Derived.Test.YtbldegmanbmpmaaGreatDoorA2
namespace Go.Proofs.YtbldegmanbmpmaaGreatDoor
open Go.RowKit Go.Shelf
attribute [local go_sem] Oper.semAt_some
/-- What a round that goes on keeps: whatever lay below lo, and the iterator's own boxes. -/
def KpB (lo b1 b2 : Nat) (W W' : World) : Prop := W.heap.size ≤ W'.heap.size ∧ ∀ b, (b < lo ∨ (b1 ≤ b ∧ b ≤ b2)) → b < W.heap.size → W'.heap[b]? = W.heap[b]?
theorem KpB.trans {lo b1 b2 : Nat} {A B C : World} (h : KpB lo b1 b2 A B) (k : KpB lo b1 b2 B C) : KpB lo b1 b2 A C :=
  ⟨Nat.le_trans h.1 k.1, fun b hb hl => (k.2 b hb (Nat.lt_of_lt_of_le hl h.1)).trans (h.2 b hb hl)⟩
theorem KpB.put {lo b1 b2 : Nat} (W : World) (l : Nat) (o' : Obj) (h1 : lo ≤ l) (h2 : b2 < l) : KpB lo b1 b2 W (W.putObj l o') :=
  ⟨(grownBy_putObj' W l o').size, fun b hb hl => (grownBy_putObj' W l o').block b hl (fun e => by cases e; omega)⟩
theorem KpB.cell {lo b1 b2 b : Nat} {W W' : World} (h : KpB lo b1 b2 W W') (hb : b < lo ∨ (b1 ≤ b ∧ b ≤ b2)) (hl : b < W.heap.size) (i : Nat) : W'.cell? ⟨b, i, none⟩ = W.cell? ⟨b, i, none⟩ := World.cell?_of_block (a := ⟨b, i, none⟩) (h.2 b hb hl)
def lenAt (W : World) (B : Nat) : Nat := match W.cell? ⟨B, 0, none⟩ with | some (.string s) => s.size | _ => 0
theorem lenAt_eq {W : World} {B : Nat} {s : ByteArray} (h : W.cell? ⟨B, 0, none⟩ = some (.string s)) : lenAt W B = s.size := by unfold lenAt; rw [h]
theorem c47 (s sep : ByteArray) (w : World) : Calls Tryz.prog 47 #[.string s, .string sep, .int .i64 0] w fun e w' => e = .returned (.func (.func 71) #[] #[.pointer (some ⟨w.heap.size + 1, 0, none⟩), .pointer (some ⟨w.heap.size, 0, none⟩), .pointer (some ⟨w.heap.size + 2, 0, none⟩)]) ∧ ((w.alloc (.cells #[.string s] 9)).alloc (.cells #[.string sep] 9)).alloc (.cells #[.int .i64 0] 3) = w' := by
  go_enter Tryz.func47, Tryz.ntmps47
  go_wp2
  go_ret
  exact ⟨rfl, rfl⟩
theorem c35 (s sep : ByteArray) (w : World) : Calls Tryz.prog 35 #[.string s, .string sep] w fun e w' => e = .returned (.func (.func 71) #[] #[.pointer (some ⟨w.heap.size + 1, 0, none⟩), .pointer (some ⟨w.heap.size, 0, none⟩), .pointer (some ⟨w.heap.size + 2, 0, none⟩)]) ∧ ((w.alloc (.cells #[.string s] 9)).alloc (.cells #[.string sep] 9)).alloc (.cells #[.int .i64 0] 3) = w' := by
  go_enter Tryz.func35, Tryz.ntmps35
  go_wp2_with (fail)
  refine (c47 s sep _).mono ?_
  rintro e w1 ⟨rfl, rfl⟩
  go_wp2
  go_ret
  exact ⟨rfl, rfl⟩
theorem c21 (s : ByteArray) (w : World) : Calls Tryz.prog 21 #[.string s] w fun e w' => e = .returned (.func (.func 32) #[] #[.pointer (some ⟨w.heap.size, 0, none⟩)]) ∧ w.alloc (.cells #[.string s] 9) = w' := by
  go_enter Tryz.func21, Tryz.ntmps21
  go_wp2
  go_ret
  exact ⟨rfl, rfl⟩
theorem strV_of (s : ByteArray) : strV s.data.toList = .string s := rfl
theorem ext_take {R : ByteArray} {a r : List UInt8} {c : UInt8} (h : R.data.toList = a ++ c :: r) : R.extract 0 a.length = ⟨a.toArray⟩ := by
  apply ByteArray.ext
  apply Array.ext'
  simp [ByteArray.data_extract, h]
theorem ext_drop {R : ByteArray} {a r : List UInt8} {c : UInt8} (h : R.data.toList = a ++ c :: r) : (R.extract (a.length + 1) R.size).data.toList = r := by
  have h2 : R.size = a.length + 1 + r.length := by
    have := congrArg List.length h
    simp only [List.length_append, List.length_cons, Array.length_toList] at this
    have h2 : R.data.size = R.size := rfl
    omega
  simp [ByteArray.data_extract, h, h2]
set_option maxRecDepth 100000 in
set_option maxHeartbeats 2000000 in
theorem c71 (n lo B : Nat) (s : ByteArray) (hs : s.size ≤ 20000) (w : World) (hB : B + 2 < w.heap.size) (hlo : lo ≤ B)
    (h0 : w.heap[B]? = some (.cells #[.string s] 9 (0, 0))) (h1 : w.heap[B + 1]? = some (.cells #[.string ⟨#[44]⟩] 9 (0, 0))) (h2 : w.heap[B + 2]? = some (.cells #[.int .i64 0] 3 (0, 0))) :
    SeqB Fence.wide n Tryz.prog 71 #[.pointer (some ⟨B + 1, 0, none⟩), .pointer (some ⟨B, 0, none⟩), .pointer (some ⟨B + 2, 0, none⟩)] (fun t : List UInt8 => #[strV t]) B (KpB lo B (B + 2)) (fun xs => xs = parts 44 s.data.toList) (fun pre => pre <+: parts 44 s.data.toList) w := fun l J Jx W hW hJ hJx hY hj0 => by
  have HY := Lib.hid hY
  have HJ := Lib.hid hJ
  have HJx := Lib.hid hJx
  have g0 := (hW.block B (by omega)).trans h0
  have g1 := (hW.block (B + 1) (by omega)).trans h1
  have g2 := (hW.block (B + 2) (by omega)).trans h2
  clear hY hJ hJx
  have x0 : Box W B 9 [.string s] := g0
  have x1 : Box W (B + 1) 9 [.string ⟨#[44]⟩] := g1
  have x2 : Box W (B + 2) 3 [.int .i64 0] := g2
  have HX := Lib.hid (And.intro x0 (And.intro x1 x2))
  obtain ⟨p0, p1⟩ := x0.facts1
  obtain ⟨p2, p3⟩ := x1.facts1
  obtain ⟨p4, p5⟩ := x2.facts1
  clear h0 h1 h2 g0 g1 g2 x0 x1 x2
  refine callsIn_of_wp Tryz.func71 rfl trivial ?_ rfl
  simp only [Tryz.ntmps71, List.size_toArray, List.length_cons, List.length_nil, Nat.reduceAdd, Nat.reduceSub, Array.replicate_succ, Array.replicate_zero, List.push_toArray, List.append_toArray, List.nil_append, List.cons_append]
  gi_wp2
  clear p0 p1 p2 p3 p4 p5
  gi_loopw [7, 8] (fun _ _ wr => ∃ (pre : List (List UInt8)) (R : ByteArray), R.size ≤ 20000 ∧ J pre wr ∧ Hid (parts 44 s.data.toList = pre ++ parts 44 R.data.toList) ∧ Box wr B 9 [.string R] ∧ Box wr (B + 1) 9 [.string ⟨#[44]⟩] ∧ Box wr (B + 2) 3 [.int .i64 0]) (fun _ _ wr => lenAt wr B)
  case atStart => exact ⟨[], s, hs, hj0, rfl, HX.out.1, HX.out.2.1, HX.out.2.2⟩
  case round =>
    clear HX hj0
    obtain ⟨pre, R, hR, hJ, HE, x0, x1, x2⟩ := hrel
    have HX := Lib.hid (And.intro x0 (And.intro x1 x2))
    obtain ⟨p0, p1⟩ := x0.facts1
    obtain ⟨p2, p3⟩ := x1.facts1
    obtain ⟨p4, p5⟩ := x2.facts1
    clear x0 x1 x2
    rcases index_cut 44 R.data.toList with ⟨hi, hn⟩ | ⟨a, r, hRe, hn, hi⟩
    · rw [index_one] at hi
      have hpe : parts 44 R.data.toList = [R.data.toList] := parts_none hn
      have HP := Lib.hid (HE.out.trans (by rw [hpe]))
      have hlen : pre ++ [R.data.toList] <+: parts 44 s.data.toList := by rw [HP.out]; exact List.prefix_rfl
      clear hpe hn
      gi_wp2_with (fail)
      refine ⟨trivial, fun h => (by cases h), (callsIn_wide.2 (Tryz.strings_Index_one R 44 _)).mono ?_⟩
      rintro e w' ⟨rfl, rfl⟩
      simp only [hi]
      obtain ⟨fn, tmps, assign, body, hy, hR⟩ := HY.out pre R.data.toList _ hJ hlen
      rw [strV_of] at hy
      gi_wp2
      refine ⟨fun h => (by cases h), hR.mono ?_⟩
      clear hy hR
      rintro e W3 (⟨rfl, hJ3, hk3⟩ | ⟨rfl, hJx3⟩)
      · gi_wp2
        go_end0
        exact ⟨⟨_, rfl⟩, .inl ⟨_, rfl, by rw [HP.out]; exact hJ3⟩⟩
      · gi_wp2
        go_end0
        exact ⟨⟨_, rfl⟩, .inr ⟨_, by rw [HP.out]; exact List.prefix_rfl, hJx3⟩⟩
    · rw [index_one] at hi
      have hal : a.length + 1 + r.length = R.size := by
        have := congrArg List.length hRe
        simp only [List.length_append, List.length_cons, Array.length_toList] at this
        have h2 : R.data.size = R.size := rfl
        omega
      have h1 : R.extract 0 a.length = ⟨a.toArray⟩ := ext_take hRe
      have h2 : (R.extract (a.length + 1) R.size).data.toList = r := ext_drop hRe
      have HP := Lib.hid (HE.out.trans (by rw [hRe, parts_cut r hn]))
      have hlen : pre ++ [a] <+: parts 44 s.data.toList := by rw [HP.out]; exact (List.prefix_append_right_inj pre).2 (by simp)
      have hal1 : a.length + 1 ≤ R.size := by omega
      have hal2 : a.length + 1 ≤ 20000 := by omega
      have hal3 : a.length ≤ 20000 := by omega
      have hal4 : a.length ≤ R.size := by omega
      have HZ := Lib.hid (And.intro hal h2)
      clear hn hRe h2 hal
      gi_wp2_with (fail)
      refine ⟨trivial, fun h => (by cases h), (callsIn_wide.2 (Tryz.strings_Index_one R 44 _)).mono ?_⟩
      rintro e w' ⟨rfl, rfl⟩
      simp only [hi]
      obtain ⟨fn, tmps, assign, body, hy, hR⟩ := HY.out pre a _ hJ hlen
      rw [strV, ← h1] at hy
      clear h1
      gi_wp2
      refine ⟨fun h => (by cases h), hR.mono ?_⟩
      clear hy hR
      rintro e W3 (⟨rfl, hJ3, hk3⟩ | ⟨rfl, hJx3⟩)
      · have HK := Lib.hid hk3
        have HJ3 := Lib.hid hJ3
        clear p0 p1 p2 p3 p4 p5 hk3
        have x0 : Box W3 B 9 [.string R] := (HK.out.2 B (.inr ⟨Nat.le_refl _, by omega⟩) HX.out.1.lt).trans HX.out.1
        have x1 : Box W3 (B + 1) 9 [.string ⟨#[44]⟩] := (HK.out.2 (B + 1) (.inr ⟨by omega, by omega⟩) HX.out.2.1.lt).trans HX.out.2.1
        have x2 : Box W3 (B + 2) 3 [.int .i64 0] := (HK.out.2 (B + 2) (.inr ⟨by omega, Nat.le_refl _⟩) HX.out.2.2.lt).trans HX.out.2.2
        have HX3 := Lib.hid (And.intro x0 (And.intro x1 x2))
        obtain ⟨p0, p1⟩ := x0.facts1
        obtain ⟨p2, p3⟩ := x1.facts1
        obtain ⟨p4, p5⟩ := x2.facts1
        clear x0 x1 x2
        gi_wp2
        have hb3 : (W3.setCell ⟨B, 0, none⟩ (.string (R.extract (a.length + 1) R.size))) = (W3.setCell ⟨B, 0, none⟩ (.string (R.extract (a.length + 1) R.size))) := rfl
        have y0 : Box (W3.setCell ⟨B, 0, none⟩ (.string (R.extract (a.length + 1) R.size))) B 9 [.string (R.extract (a.length + 1) R.size)] := HX3.out.1.set 0 _
        have hsz : (R.extract (a.length + 1) R.size).size = r.length := by
          have := congrArg List.length HZ.out.2
          rw [Array.length_toList] at this
          exact this
        refine ⟨⟨pre ++ [a], R.extract (a.length + 1) R.size, by rw [hsz]; have := HZ.out.1; omega, HJ.out _ _ _ HJ3.out (grownBy_setCell' _ _ _), ?_, y0, HX3.out.2.1.other (by simp) _, HX3.out.2.2.other (by simp) _⟩, ?_⟩
        · rw [HZ.out.2]; exact HP.out.trans (by simp)
        · rw [lenAt_eq (y0.cell 0), lenAt_eq (HX.out.1.cell 0), hsz]; have := HZ.out.1; omega
      · gi_wp2

        refine bodyPost_ret (results_none rfl _ _ _) rfl ?_
        have hpf : pre ++ [a] <+: parts 44 s.data.toList := by rw [HP.out]; exact (List.prefix_append_right_inj pre).2 (by simp)
        exact ⟨⟨_, rfl⟩, .inr ⟨_, hpf, hJx3⟩⟩
end Go.Proofs.YtbldegmanbmpmaaGreatDoor
