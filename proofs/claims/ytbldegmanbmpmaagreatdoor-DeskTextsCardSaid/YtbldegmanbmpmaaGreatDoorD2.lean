/- The iterator desk.lines: which lines it yields. -/
import Derived.RangeFuncNested
import Derived.RangeFuncBound
import Derived.RangeFuncCalls
import Derived.RangeFuncLeaves
import Derived.Shelf.Abstract
import Derived.Shelf.RegionOpen
import Derived.WalkKit
import Derived.OwnWalkIn
import Derived.TacticsInMore
import Derived.LoopNIn
import Derived.LoopIn
import Derived.Lib.CutLaws
import Derived.Test.YtbldegmanbmpmaaGreatDoorD1
namespace Go.Proofs.YtbldegmanbmpmaaGreatDoor
open Go.RowKit Go.Shelf
attribute [local go_sem] Oper.semAt_some
/-- The lines of a text: number, bytes, whether its feed came. -/
def linesFrom (n : Nat) (cur : List UInt8) : List UInt8 → List (Nat × List UInt8 × Bool)
  | [] => if cur = [] then [] else [(n, cur, false)]
  | c :: l => if c = 10 then (n, cur, true) :: linesFrom (n + 1) [] l else linesFrom n (cur ++ [c]) l
theorem lines_pre (n : Nat) (pre l : List UInt8) : ∀ cur, 10 ∉ pre → linesFrom n cur (pre ++ l) = linesFrom n (cur ++ pre) l := by
  induction pre with
  | nil => intro cur _; simp
  | cons c p ih =>
    intro cur h
    simp only [List.mem_cons, not_or] at h
    rw [List.cons_append, linesFrom, if_neg (fun e => h.1 e.symm), ih _ h.2]
    simp
theorem lines_hit (n : Nat) {a : List UInt8} (r : List UInt8) (h : 10 ∉ a) : linesFrom n [] (a ++ 10 :: r) = (n, a, true) :: linesFrom (n + 1) [] r := by
  rw [lines_pre n a _ [] h, List.nil_append, linesFrom, if_pos rfl]
theorem lines_miss (n : Nat) {a : List UInt8} (h : 10 ∉ a) (hne : a ≠ []) : linesFrom n [] a = [(n, a, false)] := by
  have := lines_pre n a [] [] h
  rw [List.append_nil, List.nil_append, linesFrom, if_neg hne] at this
  exact this
theorem grown_drewN (W : World) (n : Nat) (row : Option Nat) : W.grownBy (W.drewN n) row := ⟨rfl, rfl, rfl, Nat.le_refl _, fun _ _ _ => rfl⟩
theorem cell_other (W : World) {B : Nat} {p : Addr} (u : Value) (h : p.block ≠ B) : (W.setCell ⟨B, 0, none⟩ u).cell? p = W.cell? p := World.cell?_of_block (Below.heap_setCell W _ u _ h)
def lnV (x : Nat × List UInt8 × Bool) : Array Value := #[.int .i64 x.1, .agg #[strV x.2.1, .bool x.2.2]]
set_option maxRecDepth 100000 in
set_option maxHeartbeats 2000000 in
theorem c32 (n lo B : Nat) (s : ByteArray) (m : Int) (hs : s.size ≤ 20000) (w : World) (hB : B < w.heap.size) (hlo : lo ≤ B) (h1lo : 1 < lo)
    (h0 : w.heap[B]? = some (.cells #[.string s] 9 (0, 0))) (hm : w.cell? ⟨1, 0, none⟩ = some (.int .i64 m)) :
    SeqB Fence.wide n Tryz.prog 32 #[.pointer (some ⟨B, 0, none⟩)] lnV B (KpB lo B B) (fun xs => xs = linesFrom 1 [] s.data.toList) (fun pre => pre <+: linesFrom 1 [] s.data.toList) w := fun l J Jx W hW hJ hJx hY hj0 => by
  have HY := Lib.hid hY
  have HJ := Lib.hid hJ
  have HJx := Lib.hid hJx
  have g0 := (hW.block B (by omega)).trans h0
  have hmW : W.cell? ⟨1, 0, none⟩ = some (.int .i64 m) := (hW.cell (p := ⟨1, 0, none⟩) (show 1 < w.heap.size by omega)).trans hm
  have HM := Lib.hid hmW
  clear hY hJ hJx hmW hm
  have x0 : Box W B 9 [.string s] := g0
  have HX := Lib.hid x0
  obtain ⟨p0, p1⟩ := x0.facts1
  clear h0 g0 x0
  refine callsIn_of_wp Tryz.func32 rfl trivial ?_ rfl
  simp only [Tryz.ntmps32, List.size_toArray, List.length_cons, List.length_nil, Nat.reduceAdd, Nat.reduceSub, Array.replicate_succ, Array.replicate_zero, List.push_toArray, List.append_toArray, List.nil_append, List.cons_append]
  gi_wp2
  clear p0 p1
  gi_loopw [3, 4, 5, 6] (fun v3 v4 v5 v6 wr => ∃ (k : Nat) (pre : List (Nat × List UInt8 × Bool)) (R : ByteArray), v3 = .int .i64 (k + 1) ∧ R.size + k ≤ 20000 ∧ J pre wr ∧ Hid (linesFrom 1 [] s.data.toList = pre ++ linesFrom (k + 1) [] R.data.toList) ∧ Box wr B 9 [.string R] ∧ Hid (wr.cell? ⟨1, 0, none⟩ = some (.int .i64 m))) (fun _ _ _ _ wr => lenAt wr B)
  case atStart => exact ⟨0, [], s, rfl, hs, hj0, rfl, HX.out, HM⟩
  case round =>
    clear HX hj0 HM
    obtain ⟨k, pre, R, rfl, hR, hJ, HE, x0, HM⟩ := hrel
    have HX := Lib.hid x0
    obtain ⟨p0, p1⟩ := x0.facts1
    clear x0
    by_cases hne : R = ⟨#[]⟩
    · subst hne
      have HP : linesFrom 1 [] s.data.toList = pre := HE.out.trans (by show pre ++ linesFrom (k + 1) [] [] = pre; rw [linesFrom, if_pos rfl, List.append_nil])
      clear HE
      gi_wp2
      go_end0
      exact ⟨⟨_, rfl⟩, .inl ⟨_, rfl, by rw [HP]; exact hJ⟩⟩
    · have hE : R.toList.isEmpty = false := by
        rw [Lib.toList_data]
        cases hd : R.data.toList with
        | nil => exact (hne (ByteArray.ext (Array.ext' hd))).elim
        | cons b l => rfl
      have hpos : 0 < R.size := Nat.pos_of_ne_zero (fun e => hne (ByteArray.ext (Array.eq_empty_of_size_eq_zero e)))
      rcases index_cut 10 R.data.toList with ⟨hi, hn⟩ | ⟨a, r, hRe, hn, hi⟩
      · obtain ⟨hc1, hc2, hc3⟩ := Lib.cutB_miss R ⟨#[10]⟩ hi
        have hpe : linesFrom (k + 1) [] R.data.toList = [(k + 1, R.data.toList, false)] := lines_miss _ hn (fun e => by rw [Lib.toList_data, e] at hE; cases hE)
        have HP := Lib.hid (HE.out.trans (by rw [hpe]))
        have hlen : pre ++ [(k + 1, R.data.toList, false)] <+: linesFrom 1 [] s.data.toList := by rw [HP.out]; exact List.prefix_rfl
        clear hpe hn hi hne
        gi_wp2_with (fail)
        refine ⟨trivial, fun h => (by cases h), (callsIn_wide.2 (Tryz.strings_Cut R ⟨#[10]⟩ m _ (by omega) HM.out)).mono ?_⟩
        rintro e w1 ⟨rfl, dn, rfl⟩
        rw [hc1, hc2, hc3]
        clear hc1 hc2 hc3
        have hJd := HJ.out _ _ _ hJ (grown_drewN wr dn (some B))
        obtain ⟨fn, tmps, assign, body, hy, hR⟩ := HY.out pre (k + 1, R.data.toList, false) _ hJd hlen
        simp only [lnV, strV_of, Int.natCast_add, Int.cast_ofNat_Int, Int.natCast_one] at hy
        have p2 : (wr.drewN dn).cell? ⟨B, 0, none⟩ = some (.string R) := p0
        have p3 : (wr.drewN dn).frozen? ⟨B, 0, none⟩ = false := p1
        clear p0 p1 hJ
        gi_wp2
        refine ⟨fun h => (by cases h), hR.mono ?_⟩
        clear hy hR
        rintro e W3 (⟨rfl, hJ3, hk3⟩ | ⟨rfl, hJx3⟩)
        · have HK := Lib.hid hk3
          have HJ3 := Lib.hid hJ3
          clear p2 p3 hk3 hJ3 hJd
          have x0 : Box W3 B 9 [.string R] := (HK.out.2 B (.inr ⟨Nat.le_refl _, by omega⟩) HX.out.lt).trans HX.out
          have HX3 := Lib.hid x0
          have HM3 : Hid (W3.cell? ⟨1, 0, none⟩ = some (.int .i64 m)) := (HK.out.cell (.inl h1lo) (show 1 < wr.heap.size from Nat.lt_of_lt_of_le (by omega) (Nat.le_of_lt HX.out.lt)) 0).trans HM.out
          obtain ⟨p0, p1⟩ := x0.facts1
          clear x0
          gi_wp2
          have y0 : Box (W3.setCell ⟨B, 0, none⟩ (.string ByteArray.empty)) B 9 [.string ByteArray.empty] := HX3.out.set 0 _
          refine ⟨⟨k + 1, pre ++ [(k + 1, R.data.toList, false)], ByteArray.empty, rfl, by rw [ByteArray.size_empty]; omega, HJ.out _ _ _ HJ3.out (grownBy_setCell' _ _ _), ?_, y0, ?_⟩, ?_⟩
          · exact HP.out.trans (by show _ = _ ++ linesFrom (k + 1 + 1) [] []; rw [linesFrom, if_pos rfl]; simp)
          · exact (cell_other W3 _ (show (⟨1, 0, none⟩ : Addr).block ≠ B by show 1 ≠ B; omega)).trans HM3.out
          · rw [lenAt_eq (y0.cell 0), lenAt_eq (HX.out.cell 0), ByteArray.size_empty]; exact hpos
        · gi_wp2
          refine bodyPost_ret (results_none rfl _ _ _) rfl ?_
          exact ⟨⟨_, rfl⟩, .inr ⟨_, by rw [HP.out]; exact List.prefix_rfl, hJx3⟩⟩
      · have hal : a.length + 1 + r.length = R.size := by
          have := congrArg List.length hRe
          simp only [List.length_append, List.length_cons, Array.length_toList] at this
          have h2 : R.data.size = R.size := rfl
          omega
        obtain ⟨hc1, hc2, hc3⟩ := Lib.cutB_hit R ⟨#[10]⟩ a.length hi
        rw [ext_take hRe] at hc1
        have h2 : (R.extract (a.length + 1) R.size).data.toList = r := ext_drop hRe
        have hc2' : (⟨(Lib.cut R.data.toList (⟨#[10]⟩ : ByteArray).data.toList).2.1.toArray⟩ : ByteArray) = ⟨r.toArray⟩ := hc2.trans (ByteArray.ext (Array.ext' h2))
        clear hc2 h2
        have HP := Lib.hid (HE.out.trans (by rw [hRe, lines_hit _ r hn]))
        have hlen : pre ++ [(k + 1, a, true)] <+: linesFrom 1 [] s.data.toList := by rw [HP.out]; exact (List.prefix_append_right_inj pre).2 (by simp)
        clear hn hi hne hRe
        gi_wp2_with (fail)
        refine ⟨trivial, fun h => (by cases h), (callsIn_wide.2 (Tryz.strings_Cut R ⟨#[10]⟩ m _ (by omega) HM.out)).mono ?_⟩
        rintro e w1 ⟨rfl, dn, rfl⟩
        rw [hc1, hc2', hc3]
        clear hc1 hc2' hc3
        have hJd := HJ.out _ _ _ hJ (grown_drewN wr dn (some B))
        obtain ⟨fn, tmps, assign, body, hy, hR⟩ := HY.out pre (k + 1, a, true) _ hJd hlen
        simp only [lnV, strV, Int.natCast_add, Int.cast_ofNat_Int, Int.natCast_one] at hy
        have p2 : (wr.drewN dn).cell? ⟨B, 0, none⟩ = some (.string R) := p0
        have p3 : (wr.drewN dn).frozen? ⟨B, 0, none⟩ = false := p1
        clear p0 p1 hJ
        gi_wp2
        refine ⟨fun h => (by cases h), hR.mono ?_⟩
        clear hy hR
        rintro e W3 (⟨rfl, hJ3, hk3⟩ | ⟨rfl, hJx3⟩)
        · have HK := Lib.hid hk3
          have HJ3 := Lib.hid hJ3
          clear p2 p3 hk3 hJ3 hJd
          have x0 : Box W3 B 9 [.string R] := (HK.out.2 B (.inr ⟨Nat.le_refl _, by omega⟩) HX.out.lt).trans HX.out
          have HX3 := Lib.hid x0
          have HM3 : Hid (W3.cell? ⟨1, 0, none⟩ = some (.int .i64 m)) := (HK.out.cell (.inl h1lo) (show 1 < wr.heap.size from Nat.lt_of_lt_of_le (by omega) (Nat.le_of_lt HX.out.lt)) 0).trans HM.out
          obtain ⟨p0, p1⟩ := x0.facts1
          clear x0
          gi_wp2
          have y0 : Box (W3.setCell ⟨B, 0, none⟩ (.string ⟨r.toArray⟩)) B 9 [.string ⟨r.toArray⟩] := HX3.out.set 0 _
          have hsz : (⟨r.toArray⟩ : ByteArray).size = r.length := rfl
          refine ⟨⟨k + 1, pre ++ [(k + 1, a, true)], ⟨r.toArray⟩, rfl, by rw [hsz]; omega, HJ.out _ _ _ HJ3.out (grownBy_setCell' _ _ _), ?_, y0, ?_⟩, ?_⟩
          · exact HP.out.trans (by show _ = _ ++ linesFrom (k + 1 + 1) [] r; simp)
          · exact (cell_other W3 _ (show (⟨1, 0, none⟩ : Addr).block ≠ B by show 1 ≠ B; omega)).trans HM3.out
          · rw [lenAt_eq (y0.cell 0), lenAt_eq (HX.out.cell 0), hsz]; omega
        · gi_wp2
          refine bodyPost_ret (results_none rfl _ _ _) rfl ?_
          have hpf : pre ++ [(k + 1, a, true)] <+: linesFrom 1 [] s.data.toList := by rw [HP.out]; exact (List.prefix_append_right_inj pre).2 (by simp)
          exact ⟨⟨_, rfl⟩, .inr ⟨_, hpf, hJx3⟩⟩
end Go.Proofs.YtbldegmanbmpmaaGreatDoor
