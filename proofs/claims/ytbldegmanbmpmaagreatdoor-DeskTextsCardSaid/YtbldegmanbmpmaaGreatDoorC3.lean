/- The reference's reader of a log's text: what it returns. -/
import Derived.Test.YtbldegmanbmpmaaGreatDoorC2
import Derived.Test.YtbldegmanbmpmaaGreatDoorA5
namespace Go.Proofs.YtbldegmanbmpmaaGreatDoor
open Go.RowKit Go.Shelf
theorem info37 : (Tryz.prog.info? 37).map (fun i => (i.zero, i.size, i.bytes)) = some (some (.agg #[.string .empty, .slice none 0 0]), 2, 40) := by kernel_rfl
theorem cell_two_new (W : World) (x y : Value) (t : TypeId) : ∀ j u, [x, y][j]? = some u → (W.alloc (.cells #[x, y] t)).cell? ((⟨W.heap.size, 0, none⟩ : Addr).add j) = some u := by
  intro j u hu
  match j, hu with
  | 0, hu => simp at hu; subst hu; simp [Addr.add]
  | 1, hu => simp at hu; subst hu; simp [Addr.add]
def curW (s : ByteArray) (f k : Nat) : List UInt8 := (s.data.toList.drop f).take (k - f)
theorem cur_ext (s : ByteArray) (f k : Nat) : (s.extract f k).data.toList = curW s f k := Lib.extract_data s f k
theorem cur_nil (s : ByteArray) (f : Nat) : curW s f f = [] := by simp [curW]
theorem cur_snoc (s : ByteArray) (f k : Nat) (hf : f ≤ k) (h : k < s.size) : curW s f (k + 1) = curW s f k ++ [s[k]] := by
  unfold curW
  rw [show k + 1 - f = (k - f) + 1 by omega]
  rw [List.take_succ_eq_append_getElem (by rw [List.length_drop, ← Lib.size_eq]; omega)]
  congr 1
  rw [List.getElem_drop]
  simp only [show f + (k - f) = k by omega]
  rfl
theorem cur_len (s : ByteArray) (f k : Nat) : (curW s f k).length ≤ k - f := by unfold curW; exact List.length_take_le _ _
theorem cur_end (s : ByteArray) (f k : Nat) (hk : k = s.size) : (curW s f k = []) ↔ s.size ≤ f := by
  subst hk
  unfold curW
  rw [List.take_of_length_le (by rw [List.length_drop, ← Lib.size_eq]; omega), List.drop_eq_nil_iff, ← Lib.size_eq]
theorem rd_other {log : List De} {sl : Int} {cur l : List UInt8} {c : UInt8} (h : c ≠ 10) : rdFrom log sl cur (c :: l) = rdFrom log sl (cur ++ [c]) l := by rw [rdFrom, if_neg h]
theorem rd_full {log : List De} {sl : Int} {cur l : List UInt8} (h : 150 < log.length + 1) : rdFrom log sl cur (10 :: l) = ([], (log.length : Int) + 1, 113) := by rw [rdFrom, if_pos rfl, if_pos h]
theorem rd_err {log : List De} {sl : Int} {cur l : List UInt8} (h : ¬ 150 < log.length + 1) (h1 : (lineW ((log.length : Int) + 1) sl cur).1 ≠ 0) : rdFrom log sl cur (10 :: l) = ([], (log.length : Int) + 1, (lineW ((log.length : Int) + 1) sl cur).1) := by rw [rdFrom, if_pos rfl, if_neg h, if_neg h1]
theorem rd_ok {log : List De} {sl : Int} {cur l : List UInt8} (h : ¬ 150 < log.length + 1) (h1 : (lineW ((log.length : Int) + 1) sl cur).1 = 0) : rdFrom log sl cur (10 :: l) = rdFrom (log ++ [(lineW ((log.length : Int) + 1) sl cur).2.1]) (lineW ((log.length : Int) + 1) sl cur).2.2 [] l := by rw [rdFrom, if_pos rfl, if_neg h, if_pos h1]
theorem line_ok_bd {n b : Int} {t : List UInt8} (h : (lineW n b t).1 = 0) : 0 ≤ (lineW n b t).2.2 ∧ (lineW n b t).2.2 ≤ 65520 ∧ knownW (lineW n b t).2.1 = true := by
  cases hd : deedOf n t with
  | none => rw [line_bad hd] at h; cases h
  | some x =>
    obtain ⟨d, s⟩ := x
    have hb := deed_bd hd
    rw [line_some hd] at h ⊢
    split
    · exact ⟨hb.2.1, hb.2.2, hb.1⟩
    · rename_i hx; rw [if_neg hx] at h; cases h
theorem readW_big {t : List UInt8} (h : 12000 < t.length) : readW t = ([], 0, 9) := by rw [readW, if_pos h]
theorem readW_small {t : List UInt8} (h : ¬ 12000 < t.length) : readW t = rdFrom [] 0 [] t := by rw [readW, if_neg h]
/-- What a reader of a text returns. -/
def RdIs (t : List UInt8) (w : World) (e : Ending) (w' : World) : Prop :=
  ∃ A m c, e = .returned (.tuple #[.slice A m c, .int .i64 (readW t).2.1, .int .i64 (readW t).2.2]) ∧ SlD w'.heap.size w' A m (readW t).1 ∧ Below w.heap.size w w'
theorem rd_no {t : List UInt8} {w w' : World} {a b : Int} (h : readW t = ([], a, b)) (hb : Below w.heap.size w w') : RdIs t w (.returned (.tuple #[.slice none 0 0, .int .i64 a, .int .i64 b])) w' :=
  ⟨none, 0, 0, by rw [h], by rw [h]; exact ⟨rfl, by omega, fun h => by omega⟩, hb⟩
theorem rd_yes {t : List UInt8} {w w' : World} {log : List De} {A : Option Addr} {m c : Nat} (h : readW t = (log, 0, 0)) (hs : SlD w'.heap.size w' A m log) (hb : Below w.heap.size w w') : RdIs t w (.returned (.tuple #[.slice A m c, .int .i64 0, .int .i64 0])) w' :=
  ⟨A, m, c, by rw [h], by rw [h]; exact hs, hb⟩
set_option maxRecDepth 100000 in
set_option maxHeartbeats 4000000 in
theorem c8 (s : ByteArray) (hs : s.size ≤ 20000) (w : World) : Calls Tryz.prog 8 #[.string s] w (RdIs s.data.toList w) := by
  by_cases hbig : 12000 < s.size
  · have hd : decide ((12000 : Int) < (s.size : Int)) = true := by simp; omega
    have HN := Lib.hid (rd_no (w := w) (w' := w) (readW_big (t := s.data.toList) (by rw [← Lib.size_eq]; exact hbig)) (Below.refl _ _))
    go_enter Tryz.func8, Tryz.ntmps8
    go_wp2
    go_ret3
    exact HN.out
  have hd : decide ((12000 : Int) < (s.size : Int)) = false := by simp; omega
  have HR := Lib.hid (readW_small (t := s.data.toList) (by rw [← Lib.size_eq]; exact hbig))
  obtain ⟨i0, hi, hz0, hz1, hz2⟩ := info_parts info37
  go_enter Tryz.func8, Tryz.ntmps8
  go_wp2
  clear hd hbig
  go_loopw [5, 6, 7, 8] (fun v fv sv i W => ∃ (k f : Nat) (sl : Int) (log : List De), k ≤ s.size ∧ f ≤ k ∧ i = .int .i64 k ∧ fv = .int .i64 f ∧ sv = .int .i64 sl ∧ 0 ≤ sl ∧ sl ≤ 65520 ∧ Inv w W [] ∧ DAt w.heap.size W v log ∧ log.length ≤ 150 ∧ Hid (readW s.data.toList = rdFrom log sl (curW s f k) (s.data.toList.drop k))) (fun _ _ _ i _ => s.size - (intOf i).toNat)
  case atStart => exact ⟨0, 0, 0, [], Nat.zero_le _, Nat.le_refl _, rfl, rfl, rfl, by omega, by omega, Inv.start w, DAt.nil _ _, by simp, by show _ = _; rw [HR.out, cur_nil]; rfl⟩
  case round =>
    clear HR
    obtain ⟨k, f, sl, log, hk, hf, rfl, rfl, rfl, hs1, hs2, I, hD, hl, HE⟩ := hrel
    have HD := Lib.hid hD
    clear hD
    by_cases hlt : k < s.size
    · have HB := Lib.hid (drop_byte s k hlt)
      by_cases hc : s[k] = 10
      · have ec : ((s[k].toNat : Int) == 10) = true := by rw [hc]; rfl
        have HE2 : Hid (readW s.data.toList = rdFrom log sl (curW s f k) (10 :: s.data.toList.drop (k + 1))) := by show _ = _; rw [HE.out, HB.out, hc]
        clear HE HB hc
        obtain ⟨cs, hown, hcs⟩ := HD.out
        have hform : ∃ A c, u5 = .slice A log.length c := by
          rcases hown.2 with ⟨rfl, h0⟩ | ⟨g, cap, cur, rfl, _⟩
          · exact ⟨none, 0, by rw [h0]⟩
          · exact ⟨_, _, rfl⟩
        obtain ⟨A0, c0, hv⟩ := hform
        subst hv
        have HO := Lib.hid hown
        have HC := Lib.hid hcs
        clear hown hcs
        by_cases hfull : 150 < log.length + 1
        · have hd : decide ((150 : Int) < (log.length : Int) + 1) = true := by simp; omega
          have HN := Lib.hid (rd_no (w := w) (w' := wr) (by rw [HE2.out, rd_full hfull]) I.1)
          clear HE2 hfull
          go_wp2
          go_ret3
          exact HN.out
        have hd : decide ((150 : Int) < (log.length : Int) + 1) = false := by simp; omega
        have b1 : (f : Int) ≤ (k : Int) := by omega
        have b2 : (k : Int) ≤ (s.size : Int) := by omega
        go_wp2_with (fail)
        rw [show ((log.length : Int) + 1) = ((log.length + 1 : Nat) : Int) from by omega]
        refine (c23 (s.extract f k) (log.length + 1) sl (by have := ext_size s f k; omega) (by omega) ⟨hs1, hs2⟩ _).mono ?_
        rintro e w1 ⟨word, A, m, c, sl', rfl, hyes, hk1⟩
        simp only [show (((log.length + 1 : Nat)) : Int) = (log.length : Int) + 1 from by omega, cur_ext] at hyes ⊢
        have I1 := I.call hk1
        have hlb := @line_ok_bd ((log.length : Int) + 1) sl (curW s f k)
        generalize hR : lineW ((log.length : Int) + 1) sl (curW s f k) = R at hyes hlb ⊢
        obtain ⟨err, d, s'⟩ := R
        have HR := Lib.hid hR
        clear hR hd
        simp only [] at hyes hlb ⊢
        by_cases he : err = 0
        · subst he
          obtain ⟨rfl, hsl, rfl, hfar⟩ := hyes rfl
          obtain ⟨l1, l2, _⟩ := hlb rfl
          have HE' : Hid (readW s.data.toList = rdFrom (log ++ [d]) sl' (curW s (k + 1) (k + 1)) (s.data.toList.drop (k + 1))) := by show _ = _; rw [HE2.out, rd_ok hfull (by rw [HR.out]), HR.out, cur_nil]
          obtain ⟨cs2, ho2, hc2⟩ := (DAt.call ⟨cs, HO.out, HC.out⟩ hk1).alloc (.cells #[.string d.word, .slice A m c] 37)
          have a1 : Hid (∀ j u, [Value.string d.word, .slice A m c][j]? = some u → ((w1.alloc (.cells #[.string d.word, .slice A m c] 37)).alloc (.cells #[.string d.word, .slice A m c] 37)).cell? ((⟨w1.heap.size + 1, 0, none⟩ : Addr).add j) = some u) := by
            show ∀ j u, _ → _
            have := cell_two_new (w1.alloc (.cells #[.string d.word, .slice A m c] 37)) (.string d.word) (.slice A m c) 37
            rw [World.size_alloc] at this
            exact this
          have a2 : Hid (∀ u ∈ [Value.string d.word, .slice A m c], u.oneCell' = true) := by show ∀ u ∈ _, _; simp [Value.oneCell']
          have a3 : Hid (log.length + 1 ≤ maxLen) := by show _ ≤ _; unfold maxLen; omega
          have a4 : Hid ((log.length + 1) * 40 ≤ 140737488355328) := by show _ ≤ _; omega
          have a5 : Hid (w.heap.size ≤ ((w1.alloc (.cells #[.string d.word, .slice A m c] 37)).alloc (.cells #[.string d.word, .slice A m c] 37)).heap.size) := by show _ ≤ _; have := I1.size; simp; omega
          have a6 : Hid (SlI (w1.alloc (.cells #[.string d.word, .slice A m c] 37)).heap.size (w1.alloc (.cells #[.string d.word, .slice A m c] 37)) A m d.nums) := (hsl.below ((Below.refl _ _).alloc (Nat.le_refl _) _) (Nat.le_refl _)).up (by simp)
          have a7 : Hid (Far w.heap.size (w1.alloc (.cells #[.string d.word, .slice A m c] 37)) (.slice A0 log.length c0) A) := by
            intro a e
            obtain ⟨e1, e2⟩ := hfar a e
            refine ⟨Nat.le_trans I.size e1, by simp; omega, fun e3 => ?_⟩
            have := (HO.out.lt _ e3).2
            omega
          have a8 : Hid (log.length + 1 ≤ 150) := by show _ ≤ _; omega
          have HI1 := Lib.hid I1
          have H2 := Lib.hid ho2
          have H3 := Lib.hid hc2
          clear hk1 HE2 HR hyes hlb hfull HC hfar hsl I I1 hc2
          go_wp2_with ((at_builtin; refine wpList_append_own_at _ rfl _ _ 22 rfl w.heap.size 37 i0 (.agg #[.string .empty, .slice none 0 0]) 2 40 Tryz.underlying22 hi hz0 hz1 hz2 rfl (by decide) _ _ _ rfl (ho2.alloc _) ⟨w1.heap.size + 1, 0, none⟩ 1 1 [.string d.word, .slice A m c] rfl rfl a1.out a2.out a3.out a4.out a5.out ?_; intro v' w5 hown hgrow _ hblk; obtain ⟨g', cap', rfl⟩ := ownsRow_succ hown; have D5 := Lib.hid (DAt.app H2.out H3.out a6.out a7.out hown hgrow hblk); have I5 := Lib.hid (((HI1.out.alloc _).alloc _).grown hgrow (fun k e => (H2.out.lt k e).1) (Nat.le_refl _) (fun _ h => by cases h)); clear hown hgrow hblk ho2))
          go_roundw
          case rel => exact ⟨k + 1, k + 1, sl', log ++ [d], by omega, by omega, by go_num, by go_num, rfl, l1, l2, I5.out, D5.out, by rw [List.length_append, List.length_singleton]; exact a8.out, HE'.out⟩
          case measure => simp [intOf]; omega
        · have hd : (err == 0) = false := by rw [beq_eq_false_iff_ne]; exact he
          have HN := Lib.hid (rd_no (w := w) (w' := w1) (by rw [HE2.out, rd_err hfull (by rw [HR.out]; exact he), HR.out]) I1.1)
          have HI1 := Lib.hid I1
          clear HE2 HR hyes hlb hk1 he I I1
          go_wp2
          go_ret3
          obtain ⟨A', m', c', e1, e2, e3⟩ := HN.out
          refine ⟨A', m', c', e1, e2.below ((Below.refl _ _).alloc (Nat.le_refl _) _) (Nat.le_refl _) |>.up (by simp), e3.alloc HI1.out.size _⟩
      · have ec : ((s[k].toNat : Int) == 10) = false := by
          rw [beq_eq_false_iff_ne]; intro e; exact hc (UInt8.toNat_inj.1 (by rw [show (10 : UInt8).toNat = 10 from rfl]; omega))
        have HE' : Hid (readW s.data.toList = rdFrom log sl (curW s f (k + 1)) (s.data.toList.drop (k + 1))) := by show _ = _; rw [HE.out, HB.out, rd_other hc, cur_snoc s f k hf hlt]
        clear HE HB hc
        go_wp2
        go_roundw
        case rel => exact ⟨k + 1, f, sl, log, by omega, by omega, by go_num, rfl, rfl, hs1, hs2, I, HD.out, hl, HE'.out⟩
        case measure => simp [intOf]; omega
    · have hks : k = s.size := by omega
      have HE2 : Hid (readW s.data.toList = if curW s f k = [] then (log, 0, 0) else ([], (log.length : Int) + 1, 113)) := by show _ = _; rw [HE.out, drop_end s k (by omega)]; rfl
      have HCE := Lib.hid (cur_end s f k hks)
      clear HE hks
      obtain ⟨A0, c0, hv, hsd⟩ := HD.out.lies (by omega)
      subst hv
      have HSD := Lib.hid hsd
      clear hsd
      by_cases hfs : f < s.size
      · have hd : decide ((f : Int) < (s.size : Int)) = true := by simp; omega
        have HN := Lib.hid (rd_no (w := w) (w' := wr) (by rw [HE2.out, if_neg (by rw [HCE.out]; omega)]) I.1)
        clear HE2 HCE
        go_wp2
        go_ret3
        exact HN.out
      · have hd : decide ((f : Int) < (s.size : Int)) = false := by simp; omega
        have HE3 : Hid (readW s.data.toList = (log, 0, 0)) := by show _ = _; rw [HE2.out, if_pos (HCE.out.2 (by omega))]
        clear HE2 HCE
        go_wp2
        go_ret3
        exact rd_yes HE3.out HSD.out I.1
end Go.Proofs.YtbldegmanbmpmaaGreatDoor
