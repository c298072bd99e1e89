/- The program's reader of a text: what it returns. -/
import Derived.RangeFuncNested
import Derived.RangeFuncBound
import Derived.RangeFuncCalls
import Derived.RangeFuncLeaves
import Derived.Shelf.Abstract
import Derived.Shelf.RegionOpen
import Derived.WalkKit
import Derived.OwnWalkIn
import Derived.TacticsInMore
import Derived.LoopNIn
import Derived.LoopIn
import Derived.WalkMore
import Derived.Maps.OwnIn
import Derived.Test.YtbldegmanbmpmaaGreatDoorP3
namespace Go.Proofs.YtbldegmanbmpmaaGreatDoor
open Go.RowKit Go.Shelf
attribute [local go_sem] Oper.semAt_some
theorem c12x {b S : Int} {l : List UInt8} (hS : sealW b l = S) (hb : 0 ≤ b ∧ b ≤ 65520) (hs : l.length ≤ 1000000) (w : World) : Calls Tryz.prog 12 #[.int .i64 b, .string ⟨l.toArray⟩] w fun e w' => e = .returned (.int .i64 S) ∧ w = w' := by
  subst hS; exact c12 b ⟨l.toArray⟩ hb hs w
theorem xs_new (w : World) (v x y : Value) : XS w (((w.alloc (.cells #[v] 22)).alloc (.cells #[x] 3)).alloc (.cells #[y] 24)) v x y := by
  have I1 := (((Inv.start w).new 22 [v]).new 3 [x]).new 24 [y]
  refine ⟨I1.1, ?_, ?_, ?_⟩
  · have := I1.box3; simpa using this
  · have := I1.box2; simpa using this
  · have := I1.box; simpa using this
set_option maxRecDepth 100000 in
set_option maxHeartbeats 4000000 in
theorem c7 (s : ByteArray) (hs : s.size ≤ 20000) (w : World) (hok : Ok w) : Calls Tryz.prog 7 #[.string s] w (RdIs s.data.toList w) := by
  have HO := Lib.hid hok
  have h1lt : 1 < w.heap.size := by obtain ⟨m, hm⟩ := hok.most; exact cell_lt hm
  clear hok
  refine (callsIn_wide (n := 5)).1 ?_
  refine callsIn_of_wp_marks Tryz.func7 rfl trivial ?_ rfl
  simp only [Tryz.ntmps7, List.size_toArray, List.length_cons, List.length_nil, Nat.reduceAdd, Nat.reduceSub, Array.replicate_succ, Array.replicate_zero, List.push_toArray, List.append_toArray, List.nil_append, List.cons_append]
  refine wpIn_wide.2 ?_
  by_cases hbig : 12000 < s.size
  · have hd : decide ((12000 : Int) < (s.size : Int)) = true := by simp; omega
    have HR := Lib.hid (readW_big (t := s.data.toList) (by rw [← Lib.size_eq]; exact hbig))
    go_wp2
    go_step3
    go_wp2
    try rw [Exit.noGoto_ret]
    have X9 := xs_new w (.slice none 0 0) (.int .i64 0) (.int .i64 9)
    obtain ⟨b0, _⟩ := X9.logb.facts1
    obtain ⟨b1, _⟩ := X9.num.facts1
    obtain ⟨b2, _⟩ := X9.err.facts1
    refine ⟨.tuple #[.slice none 0 0, .int .i64 0, .int .i64 9], by simp [results, Tryz.results7, go_sem, b0, b1, b2], rd_no HR.out X9.below⟩
  have hd : decide ((12000 : Int) < (s.size : Int)) = false := by simp; omega
  have HR := Lib.hid (readW_lines (t := s.data.toList) (by rw [← Lib.size_eq]; exact hbig))
  clear hbig
  go_wp2
  go_step3
  go_wp2
  go_step3
  go_wp2_with (fail)
  have X1 := (xs_new w (.slice none 0 0) (.int .i64 0) (.int .i64 0)).call ((Below.refl _ _).alloc (Nat.le_refl _) (.cells #[.int .i64 0] 3))
  have B1 := Box.new (((w.alloc (.cells #[.slice none 0 0] 22)).alloc (.cells #[.int .i64 0] 3)).alloc (.cells #[.int .i64 0] 24)) 3 [.int .i64 0]
  simp only [World.size_alloc] at B1
  have hsz1 : ((((w.alloc (.cells #[.slice none 0 0] 22)).alloc (.cells #[.int .i64 0] 3)).alloc (.cells #[.int .i64 0] 24)).alloc (.cells #[.int .i64 0] 3)).heap.size = w.heap.size + 1 + 1 + 1 + 1 := by simp
  generalize (((w.alloc (.cells #[.slice none 0 0] 22)).alloc (.cells #[.int .i64 0] 3)).alloc (.cells #[.int .i64 0] 24)).alloc (.cells #[.int .i64 0] 3) = w2 at X1 B1 hsz1 ⊢
  refine (c21 s _).mono ?_
  rintro e w3 ⟨rfl, hw3⟩
  have y0 : w3.heap[w2.heap.size]? = some (.cells #[.string s] 9 (0, 0)) := by rw [← hw3]; exact World.alloc_heap_new w2 _
  have hk3 : Below w2.heap.size w2 w3 := by rw [← hw3]; exact (Below.refl _ _).alloc (Nat.le_refl _) _
  have hsz3 : w3.heap.size = w2.heap.size + 1 := by rw [← hw3]; simp
  have HX3 := Lib.hid (X1.call hk3)
  have B3 := B1.keep hk3
  obtain ⟨m, hm⟩ := HO.out.most
  have hm3 : w3.cell? ⟨1, 0, none⟩ = some (.int .i64 m) := (HX3.out.below.cell (p := ⟨1, 0, none⟩) h1lt).trans hm
  have hseq := c32 (5 - 1) w.heap.size w2.heap.size s m hs w3 (by omega) (by omega) h1lt y0 hm3
  rw [hsz1] at hseq ⊢
  rw [hsz1] at hsz3
  clear hw3 X1 B1 hsz1 y0 hk3 hm hm3
  go_wp2_with (fail)
  refine (wpIn_wide (n := 5)).1 ?_
  have HB3 := Lib.hid B3
  have HL := Lib.hid (lines_len s.data.toList 1 [])
  have HLB := Lib.hid (fun x hx => lines_bd s.data.toList 1 [] x hx)
  have hsl : s.data.toList.length ≤ 20000 := by rw [← Lib.size_eq]; exact hs
  clear B3
  refine wpIn_rangeC rfl (by decide) (gf := 32) (lb := #[.pointer (some ⟨w.heap.size + 1 + 1 + 1 + 1, 0, none⟩)]) rfl trivial (enters_of Tryz.func32 (by kernel_rfl) rfl) hseq (by omega) KpB.trans (fun W l o o' h _ => KpB.put W l o' (by omega) (by omega)) (fun _ => rfl)
    (fun pre W => ∃ v log before, RdS w w3 W (w.heap.size + 1 + 1 + 1 + 1) v log before ∧ 0 ≤ before ∧ before ≤ 65520 ∧ log.length = pre.length ∧ Hid (∀ r, rdLines [] 0 (pre ++ r) = rdLines log before r))
    (fun cc _ W => cc = .exit 0 ∧ ∃ v xn e, XS w W v (.int .i64 xn) (.int .i64 e) ∧ v.oneCell' = true ∧ (e == 0) = false ∧ Hid (readW s.data.toList = ([], xn, e)))
    (fun pre X Y row ⟨v, log, before, hL, hx⟩ hg hr => ⟨v, log, before, hL.ab (by omega) (by omega) hg hr, hx⟩)
    (fun cc pre X Y row ⟨h1, v, xn, e, hF, hv⟩ hg hr => ⟨h1, v, xn, e, hF.ab (by omega) (B := w3.heap.size) (by omega) hg hr, hv⟩)
    ⟨_, [], 0, ⟨HX3.out.below, Nat.le_refl _, fun _ _ _ _ _ => rfl, HX3.out.logb, HB3.out, DAt.nil _ _⟩, by omega, by omega, rfl, fun r => rfl⟩
    (β := Nat) (fun x y t => (((t.setIfInBounds 16 (.int .i64 x.1)).setIfInBounds 17 (.agg #[strV x.2.1, .bool x.2.2])).setIfInBounds 6 (.int .i64 x.1)).setIfInBounds 7 (.pointer (some ⟨y, 0, none⟩)))
    (fun pre x y W => (∃ v log before, RdS w w3 W (w.heap.size + 1 + 1 + 1 + 1) v log before ∧ 0 ≤ before ∧ before ≤ 65520 ∧ log.length = pre.length ∧ Hid (∀ r, rdLines [] 0 (pre ++ r) = rdLines log before r)) ∧ Box W y 56 [strV x.2.1, .bool x.2.2] ∧ w3.heap.size ≤ y)
    (fun pre x y _ X Y row ⟨⟨v, log, before, hL, hx⟩, hB, hy⟩ hg hr => ⟨⟨v, log, before, hL.ab (by omega) (by omega) hg hr, hx⟩, (hg.block y hB.lt (fun e => by
      rcases hr y e.symm with h | ⟨_, o, h1, h2⟩
      · omega
      · rw [show X.heap[y]? = _ from hB] at h1; cases h1; cases h2)).trans hB, hy⟩) ?assign ?body ?done ?stop
  case assign =>
    rintro l pre x W K ⟨v, log, before, hL, hx⟩ hK
    simp only [lnV, strV, List.zip_toArray, List.zip_cons_cons, List.zip_nil_right, List.foldl_toArray, List.foldl_cons, List.foldl_nil, List.setIfInBounds_toArray, List.set_cons_zero, List.set_cons_succ] at hK ⊢
    gi_wp2
    exact hK W.heap.size _ ((KeepsOthers.alloc _ _).from _) (KpB.call ((Below.refl _ _).alloc (Nat.le_refl _) _)) ⟨⟨v, log, before, hL.alloc _, hx⟩, Box.new W 56 [strV x.2.1, .bool x.2.2], hL.size⟩
  case body =>
    rintro l pre ⟨xn, xt, xb⟩ y W ⟨⟨v, log, before, hL, hb1, hb2, hll, HE⟩, hB, hy⟩ hpf
    simp only [strV] at hB
    simp only [strV, List.setIfInBounds_toArray, List.set_cons_zero, List.set_cons_succ]
    have hxm : (xn, xt, xb) ∈ linesFrom 1 [] s.data.toList := hpf.subset (by simp)
    have hxb := HLB.out _ hxm
    dsimp only at hxb
    obtain ⟨hxn, hxt⟩ := hxb
    rw [List.length_nil] at hxt
    have hplen : pre.length < 20001 := by have h1 := hpf.length_le; have h2 := HL.out; simp only [List.length_append, List.length_singleton] at h1; omega
    have HE2 : Hid (∃ r, rdLines [] 0 (linesFrom 1 [] s.data.toList) = rdLines log before ((xn, xt, xb) :: r)) := by
      obtain ⟨r, hr⟩ := hpf
      exact ⟨r, by rw [← hr, List.append_assoc, HE.out]; rfl⟩
    have HLL := Lib.hid hll
    have HLr := Lib.hid hL
    obtain ⟨p0, p1, _, _⟩ := hB.facts2
    clear hxm hpf hL hB hll
    gi_wp2_with (fail)
    clear p0 p1
    refine ⟨trivial, CallsIn.inRound l ((callsIn_wide.2 (c22 ⟨xt.toArray⟩ xb xn (by rw [mk_size]; omega) (by omega) _ (HO.out.below HLr.out.below))).mono ?_)⟩
    rintro e W1 ⟨word, A, m, c, sl, b, rfl, hyes, hno, hk1⟩
    simp only [show (⟨xt.toArray⟩ : ByteArray).data.toList = xt from rfl] at hyes hno
    have HL1 := Lib.hid (HLr.out.call hk1)
    have HK1 := Lib.hid hk1
    have HX1 := Lib.hid (HL1.out.xs HX3.out (by omega))
    have hsz1 := hk1.size
    have hL3s := HLr.out.size
    have HLo := HLr
    clear hk1 HLr
    have HXA := Lib.hid (HX1.out.call ((Below.refl _ _).alloc (Nat.le_refl _) (.cells #[.string word, .slice A m c] 37)))
    obtain ⟨p0, p1⟩ := HXA.out.num.facts1
    obtain ⟨p2, p3⟩ := HXA.out.err.facts1
    have hv1 : v.oneCell' = true := by
      obtain ⟨cs, ho, _⟩ := HL1.out.dat
      rcases ho.2 with ⟨rfl, _⟩ | ⟨g, cap, cur, rfl, _⟩ <;> rfl
    have HV1 := Lib.hid hv1
    clear hv1
    cases b
    · have HRW : Hid (readW s.data.toList = ([], (xn : Int), 113)) := by
        show _ = _
        obtain ⟨r, hr⟩ := HE2.out
        rw [HR.out, hr]
        rcases hno rfl with h | h
        · exact rdl_bad (.inl h)
        · exact rdl_none h
      clear hyes hno
      gi_wp2
      exact ⟨(KeepsFrom.call HK1.out).trans (((KeepsOthers.alloc _ _).from _).trans ((KeepsFrom.setc _ _ _).trans (KeepsFrom.setc _ _ _))), rfl, v, xn, 113, (HXA.out.set1 _).set2 _, HV1.out, rfl, HRW⟩
    · obtain ⟨xs, rfl, hd, hsl, hfar⟩ := hyes rfl
      by_cases hn : 150 < xn
      · have hdn : decide ((150 : Int) < (xn : Int)) = true := by simp; omega
        have HRW : Hid (readW s.data.toList = ([], (xn : Int), 113)) := by
          show _ = _
          obtain ⟨r, hr⟩ := HE2.out
          rw [HR.out, hr]
          exact rdl_bad (.inr hn)
        clear hyes hno hd hsl hfar hn
        gi_wp2
        exact ⟨(KeepsFrom.call HK1.out).trans (((KeepsOthers.alloc _ _).from _).trans ((KeepsFrom.setc _ _ _).trans (KeepsFrom.setc _ _ _))), rfl, v, xn, 113, (HXA.out.set1 _).set2 _, HV1.out, rfl, HRW⟩
      have hdn : decide ((150 : Int) < (xn : Int)) = false := by simp; omega
      obtain ⟨gk, gs1, gs2⟩ := deed_bd hd
      obtain ⟨gb1, gb2, gb3⟩ := knownW_bd gk
      have HG3 := Lib.hid gb3
      have HD := Lib.hid hd
      have HSL := Lib.hid hsl
      have HFAR := Lib.hid hfar
      clear hyes hno hd hsl hfar gb3 gk
      gi_wp2_with (fail)
      have HLA := HL1.out.alloc (.cells #[.string word, .slice A m c] 37)
      have BA : Box (W1.alloc (.cells #[.string word, .slice A m c] 37)) W1.heap.size 37 [.string word, .slice A m c] := Box.new W1 37 [.string word, .slice A m c]
      have HKF : Hid (KeepsFrom w3.heap.size W (W1.alloc (.cells #[.string word, .slice A m c] 37))) := (KeepsFrom.call HK1.out).trans ((KeepsOthers.alloc _ _).from _)
      have HKP : Hid (KpB w.heap.size (w.heap.size + 1 + 1 + 1 + 1) (w.heap.size + 1 + 1 + 1 + 1) W (W1.alloc (.cells #[.string word, .slice A m c] 37))) := (KpB.call HK1.out).trans (KpB.call ((Below.refl _ _).alloc (Nat.le_refl _) _))
      have HSA : Hid (SlI (W1.alloc (.cells #[.string word, .slice A m c] 37)).heap.size (W1.alloc (.cells #[.string word, .slice A m c] 37)) A m xs) := (HSL.out.below ((Below.refl _ _).alloc (Nat.le_refl _) _) (Nat.le_refl _)).up (by simp)
      have hB8 : W1.heap.size < (W1.alloc (.cells #[.string word, .slice A m c] 37)).heap.size := by simp
      have hfA : ∀ a, A = some a → w3.heap.size ≤ a.block ∧ a.block < (W1.alloc (.cells #[.string word, .slice A m c] 37)).heap.size := fun a e => by
        obtain ⟨e1, e2⟩ := HFAR.out a e
        have := HL1.out.size
        have h9 := hL3s
        simp; omega
      have HNE : Hid (∀ a, A = some a → v.ownBlock ≠ some a.block) := fun a e e3 => by
        obtain ⟨e1, e2⟩ := HFAR.out a e
        obtain ⟨csA, hoA, _⟩ := HLo.out.dat
        have := (hoA.lt _ e3).2
        omega
      clear p0 p1 p2 p3 HL1 HX1 HK1 HSL HFAR
      generalize W1.alloc (.cells #[.string word, .slice A m c] 37) = WA at HLA BA HKF HKP HSA hB8 hfA HXA ⊢
      generalize W1.heap.size = B8 at BA hB8 ⊢
      have HHA := Lib.hid HLA
      have HBA := Lib.hid BA
      have HFA := Lib.hid hfA
      have HCW := Lib.hid (fun (W' : World) (hW : Below WA.heap.size WA W') => And.intro ((hW.cell (p := ⟨w.heap.size + 1 + 1 + 1, 0, none⟩) HLA.sealb.lt).trans (HLA.sealb.cell 0)) (And.intro ((hW.cell (p := ⟨B8, 0, none⟩) BA.lt).trans (BA.cell 0)) ((hW.cell (p := ⟨B8, 1, none⟩) BA.lt).trans (BA.cell 1))))
      have hbl := bodyW_len (n := (xn : Int)) (d := ⟨word, xs⟩) (by unfold fits; omega) (fun x hx => by have := HG3.out x hx; unfold fits; omega)
      have hbl2 : (bodyW (xn : Int) ⟨word, xs⟩).length ≤ 1000 := by have h1 : (De.mk word xs).word.size ≤ 8 := gb1; have h2 : (De.mk word xs).nums.length ≤ 13 := gb2; omega
      have HOA : Hid (Ok WA) := HO.out.below HLA.below
      have hms : m = xs.length := HSA.out.1.symm
      subst hms
      have hxl : xs.length ≤ 13 := gb2
      have HGB := Lib.hid gb1
      generalize hS : sealW before (bodyW (xn : Int) ⟨word, xs⟩) = S
      have HSS := Lib.hid hS
      clear hbl HLA BA hfA gb1 gb2 hS
      by_cases hx : sl = S
      · have ex : (sl == S) = true := by rw [beq_iff_eq]; exact hx
        have HEQ := Lib.hid hx
        clear hx
        refine wp_region_round (fun W' => Below WA.heap.size WA W') [(0, true), (1, true), (2, true), (3, true), (4, false), (5, false), (6, true), (7, true)] (by kernel_rfl) (by kernel_rfl) (by kernel_rfl) rfl (by kernel_rfl) (Below.refl _ _).drew (fun K1 hK1 hS => ?_)
        repeat (first | (refine seq_skip (by simp only [List.getElem?_toArray, List.getElem?_cons_succ, List.getElem?_cons_zero] <;> rfl) (by rfl) (by assumption) ?_; simp only [Act.put, List.setIfInBounds_toArray, List.set_cons_zero, List.set_cons_succ]) | (refine seq_take (v := ?_) (by simp only [List.getElem?_toArray, List.getElem?_cons_succ, List.getElem?_cons_zero] <;> rfl) (by rfl) (fun W hW => ?_) ?_; rotate_left; (· obtain ⟨q0, q1, q2⟩ := HCW.out W hW; go_simp; with_reducible rfl); simp only [Act.put, List.setIfInBounds_toArray, List.set_cons_zero, List.set_cons_succ]))
        (refine seq_do (by simp only [List.getElem?_toArray, List.getElem?_cons_succ, List.getElem?_cons_zero] <;> rfl) (by rfl) (fun K hK => ?_); go_simp; refine (c11 (xn : Int) (by constructor <;> omega) ⟨word, xs⟩ A xs.length c _ (HOA.out.below ‹Below WA.heap.size WA _›) ((HSA.out.below ‹Below WA.heap.size WA _› (Nat.le_refl _)).up ‹Below WA.heap.size WA _›.size) (Nat.le_trans HGB.out (by omega)) (by omega) (fun x hx => by have := HG3.out x hx; unfold fits; omega)).mono ?_; rintro e w1 ⟨rfl, hk⟩; refine hK _ _ (‹Below WA.heap.size WA _›.trans (hk.mono ‹Below WA.heap.size WA _›.size)) (fun hS => ?_); clear hK K; try simp only [Act.put, List.setIfInBounds_toArray, List.set_cons_zero, List.set_cons_succ])
        (refine seq_do (by simp only [List.getElem?_toArray, List.getElem?_cons_succ, List.getElem?_cons_zero] <;> rfl) (by rfl) (fun K hK => ?_); go_simp; refine (c12x HSS.out ⟨hb1, hb2⟩ (by omega) _).mono ?_; rintro e w1 ⟨rfl, rfl⟩; refine hK _ _ (‹Below WA.heap.size WA _›) (fun hS => ?_); clear hK K; try simp only [Act.put, List.setIfInBounds_toArray, List.set_cons_zero, List.set_cons_succ])
        repeat (first | (refine seq_skip (by simp only [List.getElem?_toArray, List.getElem?_cons_succ, List.getElem?_cons_zero] <;> rfl) (by rfl) (by assumption) ?_; simp only [Act.put, List.setIfInBounds_toArray, List.set_cons_zero, List.set_cons_succ]) | (refine seq_take (v := ?_) (by simp only [List.getElem?_toArray, List.getElem?_cons_succ, List.getElem?_cons_zero] <;> rfl) (by rfl) (fun W hW => ?_) ?_; rotate_left; (· obtain ⟨q0, q1, q2⟩ := HCW.out W hW; go_simp; with_reducible rfl); simp only [Act.put, List.setIfInBounds_toArray, List.set_cons_zero, List.set_cons_succ]))
        refine seq_end hK1 ?_; clear hK1 K1
        have ex2 : (sl != S) = false := by rw [bne, ex]; rfl
        have hwb := hS
        have HL2 := Lib.hid (HHA.out.call hwb)
        have B2 := HBA.out.keep hwb
        have HS2 : Hid (SlI w1.heap.size w1 A xs.length xs) := (HSA.out.below hwb (Nat.le_refl _)).up hwb.size
        have HK2 : Hid (KeepsFrom w3.heap.size W w1) := HKF.out.trans (KeepsFrom.call hwb)
        have HP2 : Hid (KpB w.heap.size (w.heap.size + 1 + 1 + 1 + 1) (w.heap.size + 1 + 1 + 1 + 1) W w1) := HKP.out.trans (KpB.call hwb)
        obtain ⟨cs, ho2, hc2⟩ := HL2.out.dat
        have HVB := Lib.hid (fun k (e : v.ownBlock = some k) => (ho2.lt k e))
        have hform : ∃ A0 c0, v = .slice A0 log.length c0 := by
          rcases ho2.2 with ⟨rfl, h0⟩ | ⟨g, cap, cur, rfl, _⟩
          · exact ⟨none, 0, by rw [h0]⟩
          · exact ⟨_, _, rfl⟩
        obtain ⟨A0, c0, hv⟩ := hform
        subst hv
        have hfull : log.length < 20001 := by rw [HLL.out]; exact hplen
        have a1 := Lib.hid (cell_two_new w1 (.string word) (.slice A xs.length c) 37)
        have a2 : Hid (∀ u ∈ [Value.string word, .slice A xs.length c], u.oneCell' = true) := by show ∀ u ∈ _, _; simp [Value.oneCell']
        have a3 : Hid (log.length + 1 ≤ maxLen) := by show _ ≤ _; unfold maxLen; omega
        have a4 : Hid ((log.length + 1) * 40 ≤ 140737488355328) := by show _ ≤ _; omega
        have a5 : Hid (w3.heap.size ≤ (w1.alloc (.cells #[.string word, .slice A xs.length c] 37)).heap.size) := by show _ ≤ _; have := HL2.out.size; simp; omega
        have a7 : Hid (Far w3.heap.size w1 (.slice A0 log.length c0) A) := by
          intro a e
          obtain ⟨e1, e2⟩ := HFA.out a e
          refine ⟨e1, Nat.lt_of_lt_of_le e2 hwb.size, fun e3 => ?_⟩
          obtain ⟨csA, hoA, _⟩ := HHA.out.dat
          exact absurd e3 (HNE.out a e)
        have HRE : Hid (∀ r, rdLines [] 0 ((pre ++ [(xn, xt, true)]) ++ r) = rdLines (log ++ [⟨word, xs⟩]) sl r) := by
          intro r
          rw [List.append_assoc, HE.out]
          exact rdl_ok rfl hn HD.out (by rw [HEQ.out]; exact HSS.out.symm)
        obtain ⟨i0, hi, hz0, hz1, hz2⟩ := info_parts info37
        have H2 := Lib.hid ho2
        have H3 := Lib.hid hc2
        obtain ⟨p0, p1, _, _⟩ := B2.facts2
        obtain ⟨p2, p3⟩ := HL2.out.logb.facts1
        obtain ⟨p4, p5⟩ := HL2.out.sealb.facts1
        have hTT : w.heap.size + 1 + 1 + 1 < w3.heap.size := by omega
        clear hS hwb ex B2 hc2
        gi_wp2_with ((gi_at_builtin; refine wpListIn_append_own_at _ rfl _ _ 22 rfl w3.heap.size 37 i0 (.agg #[.string .empty, .slice none 0 0]) 2 40 Tryz.underlying22 hi hz0 hz1 hz2 rfl (by decide) _ _ _ rfl (ho2.alloc _) ⟨w1.heap.size, 0, none⟩ 1 1 [.string word, .slice A xs.length c] rfl rfl a1.out a2.out a3.out a4.out a5.out ?_; intro v' w5 hown hgrow _ hblk; obtain ⟨g', cap', rfl⟩ := ownsRow_succ hown; have D5 := Lib.hid (DAt.app (d := ⟨word, xs⟩) H2.out H3.out HS2.out a7.out hown hgrow hblk); have R5 := Lib.hid (HL2.out.app (sl := sl) hTT hgrow (fun k e => (H2.out.lt k e).1) D5.out); have BB := HL2.out.boxes hTT hgrow (fun k e => (H2.out.lt k e).1); obtain ⟨f0, f1⟩ := BB.1.facts1; obtain ⟨f2, f3⟩ := BB.2.facts1; have KF := Lib.hid (KeepsFrom.own (B := w3.heap.size) (H2.out.alloc _) hgrow); have KP := Lib.hid (KpB.grown (lo := w.heap.size) (b1 := w.heap.size + 1 + 1 + 1 + 1) (b2 := w.heap.size + 1 + 1 + 1 + 1) hgrow (fun r e => by have := (H2.out.lt r e).1; omega)); clear hown hgrow hblk ho2 p0 p1 p2 p3 p4 p5 BB))
        exact ⟨HK2.out.trans (((KeepsOthers.alloc _ _).from _).trans (KF.out.trans ((KeepsFrom.setc _ _ _).trans (KeepsFrom.setc _ _ _)))), HP2.out.trans ((KpB.call ((Below.refl _ _).alloc (Nat.le_refl _) _)).trans (KP.out.trans ((KpB.setc _ _ _ (by dsimp only; omega) (by dsimp only; omega)).trans (KpB.setc _ _ _ (by dsimp only; omega) (by dsimp only; omega))))), _, _, sl, R5.out, gs1, gs2, by rw [List.length_append, List.length_append, HLL.out]; rfl, HRE⟩
      · have ex : (sl == S) = false := by rw [beq_eq_false_iff_ne]; exact hx
        have HRW : Hid (readW s.data.toList = ([], (xn : Int), 114)) := by
          show _ = _
          obtain ⟨r, hr⟩ := HE2.out
          rw [HR.out, hr]
          exact rdl_seal rfl hn HD.out (by rw [HSS.out]; exact hx)
        clear hx
        refine wp_region_round (fun W' => Below WA.heap.size WA W') [(0, true), (1, true), (2, true), (3, true), (4, false), (5, false), (6, true), (7, true)] (by kernel_rfl) (by kernel_rfl) (by kernel_rfl) rfl (by kernel_rfl) (Below.refl _ _).drew (fun K1 hK1 hS => ?_)
        repeat (first | (refine seq_skip (by simp only [List.getElem?_toArray, List.getElem?_cons_succ, List.getElem?_cons_zero] <;> rfl) (by rfl) (by assumption) ?_; simp only [Act.put, List.setIfInBounds_toArray, List.set_cons_zero, List.set_cons_succ]) | (refine seq_take (v := ?_) (by simp only [List.getElem?_toArray, List.getElem?_cons_succ, List.getElem?_cons_zero] <;> rfl) (by rfl) (fun W hW => ?_) ?_; rotate_left; (· obtain ⟨q0, q1, q2⟩ := HCW.out W hW; go_simp; with_reducible rfl); simp only [Act.put, List.setIfInBounds_toArray, List.set_cons_zero, List.set_cons_succ]))
        (refine seq_do (by simp only [List.getElem?_toArray, List.getElem?_cons_succ, List.getElem?_cons_zero] <;> rfl) (by rfl) (fun K hK => ?_); go_simp; refine (c11 (xn : Int) (by constructor <;> omega) ⟨word, xs⟩ A xs.length c _ (HOA.out.below ‹Below WA.heap.size WA _›) ((HSA.out.below ‹Below WA.heap.size WA _› (Nat.le_refl _)).up ‹Below WA.heap.size WA _›.size) (Nat.le_trans HGB.out (by omega)) (by omega) (fun x hx => by have := HG3.out x hx; unfold fits; omega)).mono ?_; rintro e w1 ⟨rfl, hk⟩; refine hK _ _ (‹Below WA.heap.size WA _›.trans (hk.mono ‹Below WA.heap.size WA _›.size)) (fun hS => ?_); clear hK K; try simp only [Act.put, List.setIfInBounds_toArray, List.set_cons_zero, List.set_cons_succ])
        (refine seq_do (by simp only [List.getElem?_toArray, List.getElem?_cons_succ, List.getElem?_cons_zero] <;> rfl) (by rfl) (fun K hK => ?_); go_simp; refine (c12x HSS.out ⟨hb1, hb2⟩ (by omega) _).mono ?_; rintro e w1 ⟨rfl, rfl⟩; refine hK _ _ (‹Below WA.heap.size WA _›) (fun hS => ?_); clear hK K; try simp only [Act.put, List.setIfInBounds_toArray, List.set_cons_zero, List.set_cons_succ])
        repeat (first | (refine seq_skip (by simp only [List.getElem?_toArray, List.getElem?_cons_succ, List.getElem?_cons_zero] <;> rfl) (by rfl) (by assumption) ?_; simp only [Act.put, List.setIfInBounds_toArray, List.set_cons_zero, List.set_cons_succ]) | (refine seq_take (v := ?_) (by simp only [List.getElem?_toArray, List.getElem?_cons_succ, List.getElem?_cons_zero] <;> rfl) (by rfl) (fun W hW => ?_) ?_; rotate_left; (· obtain ⟨q0, q1, q2⟩ := HCW.out W hW; go_simp; with_reducible rfl); simp only [Act.put, List.setIfInBounds_toArray, List.set_cons_zero, List.set_cons_succ]))
        refine seq_end hK1 ?_; clear hK1 K1
        have ex2 : (sl != S) = true := by rw [bne, ex]; rfl
        have hwb := hS
        have HX2 := Lib.hid (HXA.out.call hwb)
        have HK2 : Hid (KeepsFrom w3.heap.size W w1) := HKF.out.trans (KeepsFrom.call hwb)
        obtain ⟨p0, p1⟩ := HX2.out.num.facts1
        obtain ⟨p2, p3⟩ := HX2.out.err.facts1
        clear hS hwb ex
        gi_wp2
        exact ⟨HK2.out.trans ((KeepsFrom.setc _ _ _).trans (KeepsFrom.setc _ _ _)), rfl, v, xn, 114, (HX2.out.set1 _).set2 _, HV1.out, rfl, HRW⟩
  case done =>
    rintro D xs W hD rfl ⟨v, log, before, hL, hb1, hb2, hll, HE⟩ hK
    have HRW : Hid (readW s.data.toList = (log, 0, 0)) := by
      show _ = _
      have := HE.out []
      rw [List.append_nil] at this
      rw [HR.out, this]; rfl
    have HLr := Lib.hid hL
    have HXs := Lib.hid (hL.xs HX3.out (by omega))
    have hlen := HL.out
    have HKK := Lib.hid hK
    have hlb : log.length ≤ 20001 := by omega
    obtain ⟨A0, c0, hv, _⟩ := hL.dat.lies (by omega)
    subst hv
    obtain ⟨p0, p1⟩ := HXs.out.logb.facts1
    obtain ⟨p2, p3⟩ := HXs.out.num.facts1
    obtain ⟨p4, p5⟩ := HXs.out.err.facts1
    clear hL hK hll
    go_wp2
    try rw [Exit.noGoto_ret]
    have hKs : (((W.setCell ⟨w.heap.size, 0, none⟩ (.slice A0 log.length c0)).setCell ⟨w.heap.size + 1, 0, none⟩ (.int .i64 0)).setCell ⟨w.heap.size + 1 + 1, 0, none⟩ (.int .i64 0)).heap[D]? = some (.deferred (some [])) :=
      (Below.heap_setCell _ _ _ _ (by dsimp only; omega)).trans ((Below.heap_setCell _ _ _ _ (by dsimp only; omega)).trans ((Below.heap_setCell _ _ _ _ (by dsimp only; omega)).trans HKK.out))
    have X9 := (((HXs.out.set0 (.slice A0 log.length c0)).set1 (.int .i64 0)).set2 (.int .i64 0)).put (D := D) (by omega) (.deferred none)
    have D9 := (((HLr.out.dat.set (p := ⟨w.heap.size, 0, none⟩) (by dsimp only; omega) (.slice A0 log.length c0)).set (p := ⟨w.heap.size + 1, 0, none⟩) (by dsimp only; omega) (.int .i64 0)).set (p := ⟨w.heap.size + 1 + 1, 0, none⟩) (by dsimp only; omega) (.int .i64 0)).ab (grownBy_putObj' _ D (.deferred none)) (fun r e => by cases e; exact .inr ⟨_, hKs, rfl⟩)
    obtain ⟨A1, c1, e1, hsd⟩ := D9.lies (by omega)
    injection e1 with e1 e2 e3
    subst e1 e3
    obtain ⟨b0, _⟩ := X9.logb.facts1
    obtain ⟨b1, _⟩ := X9.num.facts1
    obtain ⟨b2, _⟩ := X9.err.facts1
    refine ⟨by simp, .inl ⟨_, _, rfl, run_takeDeferred hKs, ?_⟩⟩
    exact ⟨.tuple #[.slice A0 log.length c0, .int .i64 0, .int .i64 0], by simp [results, Tryz.results7, go_sem, b0, b1, b2], rd_yes HRW.out hsd X9.below⟩
  case stop =>
    rintro D cc pre W hD hpf ⟨rfl, v, xn, e, hF, hv1, he, HRW⟩ hK
    refine wpIn_wide.2 ?_
    have HF := Lib.hid hF
    have HKK := Lib.hid hK
    obtain ⟨p0, p1⟩ := hF.logb.facts1
    obtain ⟨p2, p3⟩ := hF.num.facts1
    obtain ⟨p4, p5⟩ := hF.err.facts1
    have he2 : (e != 0) = true := by rw [bne, he]; rfl
    clear hF hK
    go_wp2_with (fail)
    have hSS : XS w W v (.int .i64 xn) (.int .i64 e) ∧ W.heap[D]? = some (.deferred (some [])) := ⟨HF.out, HKK.out⟩
    clear p0 p1 p2 p3 p4 p5 he2 he
    refine wp_region_seq (fun W' => (∃ u, XS w W' u (.int .i64 xn) (.int .i64 e)) ∧ W'.heap[D]? = some (.deferred (some []))) [(0, true), (1, true), (2, false), (3, false), (4, false)] (by kernel_rfl) (by kernel_rfl) rfl (by kernel_rfl) ⟨⟨v, HF.out.drew⟩, HKK.out⟩ (fun K1 hK1 hS => ?_)
    generalize W.drew = WF at hS ⊢
    obtain ⟨⟨u0, hXF⟩, hDF⟩ := hS
    have hS : (∃ u, XS w WF u (.int .i64 xn) (.int .i64 e)) ∧ WF.heap[D]? = some (.deferred (some [])) := ⟨⟨u0, hXF⟩, hDF⟩
    have HXF := Lib.hid hXF
    have HDF := Lib.hid hDF
    clear hXF hDF hSS
    repeat (first | (refine seq_skip (by simp only [List.getElem?_toArray, List.getElem?_cons_succ, List.getElem?_cons_zero] <;> rfl) (by rfl) (by assumption) ?_; simp only [Act.put, List.setIfInBounds_toArray, List.set_cons_zero, List.set_cons_succ]) | (refine seq_take (v := ?_) (by simp only [List.getElem?_toArray, List.getElem?_cons_succ, List.getElem?_cons_zero] <;> rfl) (by rfl) (fun W hW => ?_) ?_; rotate_left; (· obtain ⟨⟨u, hX⟩, _⟩ := id hW; obtain ⟨q0, q1⟩ := hX.logb.facts1; obtain ⟨q2, q3⟩ := hX.num.facts1; obtain ⟨q4, q5⟩ := hX.err.facts1; go_simp; with_reducible rfl); simp only [Act.put, List.setIfInBounds_toArray, List.set_cons_zero, List.set_cons_succ]))
    (obtain ⟨⟨u, hX⟩, _⟩ := id hS; obtain ⟨q0, q1⟩ := hX.logb.facts1; obtain ⟨q2, q3⟩ := hX.num.facts1; obtain ⟨q4, q5⟩ := hX.err.facts1; refine seq_do (by simp only [List.getElem?_toArray, List.getElem?_cons_succ, List.getElem?_cons_zero] <;> rfl) (by rfl) (fun K hK => ?_); go_simp; refine hK _ _ ⟨⟨_, hX.set0 _⟩, (Below.heap_setCell _ _ _ _ (by dsimp only; omega)).trans hS.2⟩ (fun hS2 => ?_); clear hK K q0 q1 q2 q3 q4 q5 hX; replace hS := hS2; clear hS2; try simp only [Act.put, List.setIfInBounds_toArray, List.set_cons_zero, List.set_cons_succ])
    (obtain ⟨⟨u, hX⟩, _⟩ := id hS; obtain ⟨q0, q1⟩ := hX.logb.facts1; obtain ⟨q2, q3⟩ := hX.num.facts1; obtain ⟨q4, q5⟩ := hX.err.facts1; refine seq_do (by simp only [List.getElem?_toArray, List.getElem?_cons_succ, List.getElem?_cons_zero] <;> rfl) (by rfl) (fun K hK => ?_); go_simp; refine hK _ _ ⟨⟨_, hX.set1 _⟩, (Below.heap_setCell _ _ _ _ (by dsimp only; omega)).trans hS.2⟩ (fun hS2 => ?_); clear hK K q0 q1 q2 q3 q4 q5 hX; replace hS := hS2; clear hS2; try simp only [Act.put, List.setIfInBounds_toArray, List.set_cons_zero, List.set_cons_succ])
    (obtain ⟨⟨u, hX⟩, _⟩ := id hS; obtain ⟨q0, q1⟩ := hX.logb.facts1; obtain ⟨q2, q3⟩ := hX.num.facts1; obtain ⟨q4, q5⟩ := hX.err.facts1; refine seq_do (by simp only [List.getElem?_toArray, List.getElem?_cons_succ, List.getElem?_cons_zero] <;> rfl) (by rfl) (fun K hK => ?_); go_simp; refine hK _ _ ⟨⟨_, hX.set2 _⟩, (Below.heap_setCell _ _ _ _ (by dsimp only; omega)).trans hS.2⟩ (fun hS2 => ?_); clear hK K q0 q1 q2 q3 q4 q5 hX; replace hS := hS2; clear hS2; try simp only [Act.put, List.setIfInBounds_toArray, List.set_cons_zero, List.set_cons_succ])
    refine seq_end hK1 ?_; clear hK1 K1
    clear hS
    go_wp2
    try rw [Exit.noGoto_ret]
    have X8 := ((HXF.out.set0 (.slice none 0 0)).set1 (.int .i64 xn)).set2 (.int .i64 e)
    have hKs : (((WF.setCell ⟨w.heap.size, 0, none⟩ (.slice none 0 0)).setCell ⟨w.heap.size + 1, 0, none⟩ (.int .i64 xn)).setCell ⟨w.heap.size + 1 + 1, 0, none⟩ (.int .i64 e)).heap[D]? = some (.deferred (some [])) :=
      (Below.heap_setCell _ _ _ _ (by dsimp only; omega)).trans ((Below.heap_setCell _ _ _ _ (by dsimp only; omega)).trans ((Below.heap_setCell _ _ _ _ (by dsimp only; omega)).trans HDF.out))
    have X9 := X8.put (D := D) (by omega) (.deferred none)
    obtain ⟨b0, _⟩ := X9.logb.facts1
    obtain ⟨b1, _⟩ := X9.num.facts1
    obtain ⟨b2, _⟩ := X9.err.facts1
    refine ⟨by simp, .inl ⟨_, _, rfl, run_takeDeferred hKs, ?_⟩⟩
    exact ⟨.tuple #[.slice none 0 0, .int .i64 xn, .int .i64 e], by simp [results, Tryz.results7, go_sem, b0, b1, b2], rd_no HRW.out X9.below⟩
end Go.Proofs.YtbldegmanbmpmaaGreatDoor
