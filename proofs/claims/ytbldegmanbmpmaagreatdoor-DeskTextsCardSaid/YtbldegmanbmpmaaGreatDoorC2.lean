/- The reference's reader of a line: what it returns. -/
import Derived.Test.YtbldegmanbmpmaaGreatDoorC1
import Derived.Test.YtbldegmanbmpmaaGreatDoorP2
namespace Go.Proofs.YtbldegmanbmpmaaGreatDoor
open Go.RowKit Go.Shelf
/-- A slice of strings lies in a block other than D. -/
def StrAt (W : World) (D : Nat) (v : Value) (ps : List (List UInt8)) : Prop :=
  ∃ g cap, v = .slice (some ⟨g, 0, none⟩) ps.length cap ∧ g ≠ D ∧ g < W.heap.size ∧ ∀ j p, ps[j]? = some p → W.cell? ⟨g, j, none⟩ = some (.string ⟨p.toArray⟩)
theorem StrAt.frame {W W' : World} {D : Nat} {v : Value} {ps : List (List UInt8)} (h : StrAt W D v ps) (hs : W.heap.size ≤ W'.heap.size) (hf : ∀ b, b < W.heap.size → b ≠ D → W'.heap[b]? = W.heap[b]?) : StrAt W' D v ps := by
  obtain ⟨g, cap, e, h1, h2, h3⟩ := h
  exact ⟨g, cap, e, h1, by omega, fun j p hp => (World.cell?_of_block (a := ⟨g, j, none⟩) (hf g h2 h1)).trans (h3 j p hp)⟩
theorem StrAt.call {W W' : World} {D : Nat} {v : Value} {ps : List (List UInt8)} (h : StrAt W D v ps) (hk : Below W.heap.size W W') : StrAt W' D v ps := h.frame hk.size (fun b hb _ => hk.block b hb)
theorem StrAt.of_own {W : World} {B D : Nat} {v : Value} {ps : List (List UInt8)} (h : W.ownsRow B 9 1 v ps.length (ps.map strV)) (hne : ps ≠ []) (hD : D < B ∨ W.heap.size ≤ D) : StrAt W D v ps := by
  rcases h.2 with ⟨rfl, h0⟩ | ⟨g, cap, cur, rfl, hB, hg, _⟩
  · exact absurd (List.eq_nil_of_length_eq_zero h0) hne
  · have hl := (Array.getElem?_eq_some_iff.1 hg).1
    refine ⟨g, cap, rfl, by omega, hl, fun j p hp => own_cell h j _ ?_⟩
    rw [List.getElem?_map, hp]; rfl
theorem sli_of_own {W : World} {B : Nat} {v : Value} {xs : List Int} (h : W.ownsRow B 3 1 v xs.length (xs.map (Value.int .i64))) (hn : xs.length ≤ 4611686018427387904) : ∃ A c, v = .slice A xs.length c ∧ SlI W.heap.size W A xs.length xs ∧ ∀ a, A = some a → B ≤ a.block ∧ a.block < W.heap.size := by
  rcases h.2 with ⟨rfl, h0⟩ | ⟨g, cap, cur, rfl, hB, hg, _⟩
  · exact ⟨none, 0, by rw [h0], ⟨rfl, hn, fun hp => by omega⟩, fun a e => by cases e⟩
  · have hl := (Array.getElem?_eq_some_iff.1 hg).1
    refine ⟨some ⟨g, 0, none⟩, cap, rfl, ⟨rfl, hn, fun _ => ⟨g, 0, rfl, hl, fun j hj => ?_⟩⟩, fun a e => by cases e; exact ⟨hB, hl⟩⟩
    rw [Nat.zero_add]
    refine own_cell h j _ ?_
    rw [List.getElem?_map, List.getElem?_eq_getElem hj]
    simp [List.getD, hj]
/-- What the reference's reader of a line holds as it goes. -/
structure LnS (w w3 W : World) (D : Nat) (word : ByteArray) (v : Value) (xs : List Int) : Prop where
  inv : Inv w W [(w.heap.size, 37, [.string { data := #[] }, .slice none 0 0])]
  size : w3.heap.size ≤ W.heap.size
  frame : ∀ b, b < w3.heap.size → b ≠ D → W.heap[b]? = w3.heap[b]?
  box : Box W D 37 [.string word, v]
  own : W.ownsRow w3.heap.size 3 1 v xs.length (xs.map (Value.int .i64))
section
variable {w w3 W W' : World} {D : Nat} {word : ByteArray} {v : Value} {xs : List Int}
theorem LnS.call (h : LnS w w3 W D word v xs) (hk : Below W.heap.size W W') : LnS w w3 W' D word v xs :=
  ⟨h.inv.call hk, Nat.le_trans h.size hk.size, fun b hb hD => (hk.block b (Nat.lt_of_lt_of_le hb h.size)).trans (h.frame b hb hD), h.box.keep hk, own_call h.own hk⟩
theorem LnS.alloc (h : LnS w w3 W D word v xs) (o : Obj) : LnS w w3 (W.alloc o) D word v xs := h.call ((Below.refl _ _).alloc (Nat.le_refl _) o)
theorem LnS.boxAt {o : Obj} (h : LnS w w3 W D word v xs) (hD3 : D < w3.heap.size) (hg : (W.alloc o).grownBy W' v.ownBlock) : Box W' D 37 [.string word, v] :=
  (hg.block D (h.alloc o).box.lt (fun e => by have := (h.own.lt D e.symm).1; omega)).trans (h.alloc o).box
theorem LnS.app {v' : Value} {x : Int} (h : LnS w w3 W D word v xs) (hD : w.heap.size < D) (hD3 : D < w3.heap.size) (ho : W'.ownsRow w3.heap.size 3 1 v' (xs.length + 1) (xs.map (Value.int .i64) ++ [.int .i64 x])) (hg : W.grownBy W' v.ownBlock) :
    LnS w w3 (W'.setCell ⟨D, 1, none⟩ v') D word v' (xs ++ [x]) := by
  have hr : ∀ k, v.ownBlock = some k → w3.heap.size ≤ k := fun k e => (h.own.lt k e).1
  have I1 : Inv w W' [(w.heap.size, 37, [.string { data := #[] }, .slice none 0 0])] := h.inv.grown (B := w3.heap.size) hg hr (by omega) (by simp; omega)
  have B1 : Box W' D 37 [.string word, v] := (hg.block D h.box.lt (fun e => by have := hr D e.symm; omega)).trans h.box
  refine ⟨⟨I1.1.setCell (p := ⟨D, 1, none⟩) (Nat.le_of_lt hD) _, fun x hx => (I1.2 x hx).other (p := ⟨D, 1, none⟩) (by simp at hx; subst hx; show w.heap.size ≠ D; omega) _⟩, ?_, ?_, by simpa using B1.set 1 v', ?_⟩
  · have := hg.size; have := h.size; simp [World.setCell]; omega
  · intro b hb hbD
    rw [Below.heap_setCell _ _ _ _ hbD]
    exact (hg.block b (Nat.lt_of_lt_of_le hb h.size) (fun e => by have := hr b e.symm; omega)).trans (h.frame b hb hbD)
  · rw [List.length_append, List.length_singleton, List.map_append]
    exact own_set ho (p := ⟨D, 1, none⟩) hD3 v'
end
theorem info3 : (Tryz.prog.info? 3).map (fun i => (i.zero, i.size, i.bytes)) = some (some (.int .i64 0), 1, 8) := by kernel_rfl
def LineIs (n before : Int) (t : List UInt8) (w : World) (e : Ending) (w' : World) : Prop :=
  ∃ word A m c sl, e = .returned (.tuple #[.agg #[.string word, .slice A m c], .int .i64 sl, .int .i64 (lineW n before t).1]) ∧
    ((lineW n before t).1 = 0 → word = (lineW n before t).2.1.word ∧ SlI w'.heap.size w' A m (lineW n before t).2.1.nums ∧ sl = (lineW n before t).2.2 ∧ ∀ a, A = some a → w.heap.size ≤ a.block ∧ a.block < w'.heap.size) ∧ Below w.heap.size w w'
theorem mk_eqb (a b : List UInt8) : ((⟨a.toArray⟩ : ByteArray).toList == (⟨b.toArray⟩ : ByteArray).toList) = decide (a = b) := by
  rw [Lib.toList_data, Lib.toList_data, Bool.eq_iff_iff]; simp
theorem line_fail {n before : Int} {t : List UInt8} {w w' : World} (h : deedOf n t = none) (hb : Below w.heap.size w w') : LineIs n before t w (.returned (.tuple #[.agg #[.string { data := #[] }, .slice none 0 0], .int .i64 0, .int .i64 113])) w' :=
  ⟨_, _, _, _, _, by rw [line_bad h], fun h0 => (by rw [line_bad h] at h0; cases h0), hb⟩
theorem line_seal {n before : Int} {t : List UInt8} {w w' : World} (h : lineW n before t = (114, noDe, 0)) (hb : Below w.heap.size w w') : LineIs n before t w (.returned (.tuple #[.agg #[.string { data := #[] }, .slice none 0 0], .int .i64 0, .int .i64 114])) w' :=
  ⟨_, _, _, _, _, by rw [h], fun h0 => (by rw [h] at h0; cases h0), hb⟩
set_option maxRecDepth 100000 in
set_option maxHeartbeats 4000000 in
theorem c23 (s : ByteArray) (n : Nat) (before : Int) (hs : s.size ≤ 20000) (hn : n ≤ 1000) (hb : 0 ≤ before ∧ before ≤ 65520) (w : World) :
    Calls Tryz.prog 23 #[.string s, .int .i64 n, .int .i64 before] w (LineIs n before s.data.toList w) := by
  have HB := Lib.hid hb
  clear hb
  have I0 := (Inv.start w).new 37 [.string { data := #[] }, .slice none 0 0]
  have HI0 := Lib.hid I0
  clear I0
  go_enter Tryz.func23, Tryz.ntmps23
  go_wp2_with (fail)
  refine (c38 s 124 124 (by rfl) (by omega) _).mono ?_
  rintro e wa ⟨v1, rfl, ho1, hk1⟩
  have I1 := HI0.out.call hk1
  clear hk1 HI0
  have hlen := parts_len 124 s.data.toList
  rw [← Lib.size_eq] at hlen
  have st1 := StrAt.of_own (D := wa.heap.size) ho1 (parts_ne _ _) (.inr (Nat.le_refl _))
  by_cases h4 : (parts 124 s.data.toList).length = 4
  · obtain ⟨a, b, c, d, hp⟩ := four h4
    have hla := hlen.2 a (by rw [hp]; simp)
    have hlb := hlen.2 b (by rw [hp]; simp)
    have hlc := hlen.2 c (by rw [hp]; simp)
    have hld := hlen.2 d (by rw [hp]; simp)
    have HP := Lib.hid hp
    rw [hp] at st1
    obtain ⟨g1, cap1, rfl, hg1, hg1l, hcells⟩ := st1
    have p0 := hcells 0 a rfl
    have HC1 := Lib.hid hcells
    have HCW := Lib.hid (fun (W : World) (hW : Below wa.heap.size wa W) => (hW.cell (p := ⟨g1, 0, none⟩) hg1l).trans p0)
    clear hp h4 hlen ho1 hcells p0
    by_cases ha : a = Lib.itoa n
    · have ee : (a == Lib.itoa (n : Int)) = true := by rw [beq_iff_eq]; exact ha
      have HA := Lib.hid ha
      clear ha
      go_wp2_with (fail)
      refine wp_region_seq (fun W => Below wa.heap.size wa W) [(0, true), (1, true), (2, true), (3, true), (4, true), (5, true), (6, true), (7, true), (8, false), (9, true), (10, true)] (by kernel_rfl) (by kernel_rfl) rfl (by kernel_rfl) ((Below.refl _ _).drew) (fun K1 hK1 hS => ?_)
      repeat (first | (refine seq_skip (by simp only [List.getElem?_toArray, List.getElem?_cons_succ, List.getElem?_cons_zero] <;> rfl) (by rfl) (by assumption) ?_; simp only [Act.put, List.setIfInBounds_toArray, List.set_cons_zero, List.set_cons_succ]) | (refine seq_take (v := ?_) (by simp only [List.getElem?_toArray, List.getElem?_cons_succ, List.getElem?_cons_zero] <;> rfl) (by rfl) (fun W hW => ?_) ?_; rotate_left; (· have q0 := HCW.out W hW; go_simp; with_reducible rfl); simp only [Act.put, List.setIfInBounds_toArray, List.set_cons_zero, List.set_cons_succ]))
      (refine seq_do (by simp only [List.getElem?_toArray, List.getElem?_cons_succ, List.getElem?_cons_zero] <;> rfl) (by rfl) (fun K hK => ?_); go_simp; refine (c20 n (by omega) _).mono ?_; rintro e w1 ⟨rfl, hk⟩; refine hK _ _ (‹Below wa.heap.size wa _›.trans (hk.mono (by simp))) (fun hS => ?_); clear hK K; try simp only [Act.put, List.setIfInBounds_toArray, List.set_cons_zero, List.set_cons_succ])
      repeat (first | (refine seq_skip (by simp only [List.getElem?_toArray, List.getElem?_cons_succ, List.getElem?_cons_zero] <;> rfl) (by rfl) (by assumption) ?_; simp only [Act.put, List.setIfInBounds_toArray, List.set_cons_zero, List.set_cons_succ]) | (refine seq_take (v := ?_) (by simp only [List.getElem?_toArray, List.getElem?_cons_succ, List.getElem?_cons_zero] <;> rfl) (by rfl) (fun W hW => ?_) ?_; rotate_left; (· have q0 := HCW.out W hW; go_simp; with_reducible rfl); simp only [Act.put, List.setIfInBounds_toArray, List.set_cons_zero, List.set_cons_succ]))
      refine seq_end hK1 ?_; clear hK1 K1
      have hwb := ‹Below wa.heap.size wa _›
      have I2 := I1.call hwb
      have p1 := (hwb.cell (p := ⟨g1, 1, none⟩) hg1l).trans (HC1.out 1 b rfl)
      have p2 := (hwb.cell (p := ⟨g1, 2, none⟩) hg1l).trans (HC1.out 2 c rfl)
      have p3 := (hwb.cell (p := ⟨g1, 3, none⟩) hg1l).trans (HC1.out 3 d rfl)
      have hg1D : g1 < w1.heap.size := Nat.lt_of_lt_of_le hg1l hwb.size
      have hwD : w.heap.size < w1.heap.size := Nat.lt_of_lt_of_le I2.box.lt (Nat.le_refl _)
      have HP3 := Lib.hid p3
      clear hwb hS I1 HCW HC1 ee p3
      go_wp2_with (fail)
      clear p1 p2
      refine (c38 ⟨c.toArray⟩ 44 44 rfl (by rw [mk_size]; omega) _).mono ?_
      rintro e w3 ⟨v2, rfl, ho2, hk3⟩
      have st2 := StrAt.of_own (D := w1.heap.size) ho2 (parts_ne _ _) (.inl (by simp))
      have L0 : LnS w w3 w3 w1.heap.size ⟨b.toArray⟩ (.slice none 0 0) [] := ⟨(I2.alloc _).call hk3, Nat.le_refl _, fun _ _ _ => rfl, (Box.new w1 37 [.string ⟨b.toArray⟩, .slice none 0 0]).keep hk3, w3.ownsRow_nil _ _ _⟩
      have q3 := (hk3.cell (p := ⟨g1, 3, none⟩) (by simp; omega)).trans ((World.cell?_alloc_lt w1 _ ⟨g1, 3, none⟩ hg1D).trans HP3.out)
      have hD3 : w1.heap.size < w3.heap.size := by have := hk3.size; simp at this; omega
      have HQ3 := Lib.hid q3
      have HL0 := Lib.hid L0
      have hlc2 := parts_len 44 c
      simp only [show (⟨c.toArray⟩ : ByteArray).data.toList = c from rfl] at st2
      obtain ⟨P, hP⟩ : ∃ P, P = parts 44 c := ⟨_, rfl⟩
      rw [← hP] at st2 hlc2
      have HPP := Lib.hid hP
      have hPl : P.length ≤ 20001 := by omega
      have HLC := Lib.hid hlc2
      obtain ⟨g2, cap2, rfl, hg2, hg2l, hcells2⟩ := st2
      have HC2 := Lib.hid hcells2
      clear hP ho2 hk3 I2 L0 q3 hcells2 hlc2 HP3
      obtain ⟨i0, hi, hz0, hz1, hz2⟩ := info_parts info3
      go_wp2
      go_loopw [12] (fun i W => ∃ (k : Nat) (v : Value) (xs : List Int), k ≤ P.length ∧ i = .int .i64 k ∧ xs.length = k ∧ LnS w w3 W w1.heap.size ⟨b.toArray⟩ v xs ∧ Hid (canonsFrom [] P = canonsFrom xs (P.drop k)) ∧ Hid (∀ x ∈ xs, -10000000009 ≤ x ∧ x ≤ 10000000009)) (fun i _ => P.length - (intOf i).toNat)
      case atStart => exact ⟨0, _, [], Nat.zero_le _, rfl, rfl, HL0.out, rfl, fun x hx => by cases hx⟩
      case round =>
        clear HL0
        obtain ⟨k, v, xs, hk, rfl, hxk, hL, HE, HX⟩ := hrel
        have HXK := Lib.hid hxk
        have HL := Lib.hid hL
        clear hxk hL
        by_cases hlt : k < P.length
        · obtain ⟨p, hpk⟩ : ∃ p, P[k]? = some p := ⟨_, List.getElem?_eq_getElem hlt⟩
          have hpm : p ∈ P := List.mem_of_getElem? hpk
          have hps := HLC.out.2 p hpm
          have HDR : Hid (P.drop k = p :: P.drop (k + 1)) := by
            show _ = _
            rw [List.drop_eq_getElem_cons hlt]
            congr 1
            rw [List.getElem?_eq_getElem hlt] at hpk
            injection hpk
          have hck := (World.cell?_of_block (a := ⟨g2, k, none⟩) (HL.out.frame g2 hg2l hg2)).trans (HC2.out k p hpk)
          have HPM := Lib.hid hpm
          clear hpk hpm
          go_wp2_with (fail)
          clear hck
          refine (c39 ⟨p.toArray⟩ (by rw [mk_size]; omega) _).mono ?_
          rintro e w4 ⟨nn, bb, rfl, hnum, hn1, hn2, hk4⟩
          have L1 := HL.out.call hk4
          simp only [show (⟨p.toArray⟩ : ByteArray).data.toList = p from rfl] at hnum
          clear HL hk4
          cases bb
          · have HD := Lib.hid (deed_num (n := (n : Int)) HP.out (by rw [← HPP.out]; exact HPM.out) hnum.no)
            have I5 := L1.inv
            clear L1 HE HDR hnum
            obtain ⟨r0, r1, r2, r3⟩ := I5.box.facts2
            go_wp2
            clear r0 r1 r2 r3
            have I9 : Inv w _ [(w.heap.size, 37, [.string { data := #[] }, .slice none 0 0])] := (I5.set (Nat.le_refl _) (by simp) 0 (.string { data := #[] })).set (Nat.le_refl _) (by simp) 1 (.slice none 0 0)
            obtain ⟨b0, b1, _, _⟩ := I9.box.facts2
            refine bodyPost_ret (v := .tuple #[.agg #[.string { data := #[] }, .slice none 0 0], .int .i64 0, .int .i64 113]) (by simp [results, Tryz.results23, go_sem, b0, b1]) rfl (line_fail HD.out I9.1)
          · have HE' : Hid (canonsFrom [] P = canonsFrom (xs ++ [nn]) (P.drop (k + 1))) := by show _ = _; rw [HE.out, HDR.out, canons_step (hnum.1 rfl)]
            have HX' : Hid (∀ x ∈ xs ++ [nn], -10000000009 ≤ x ∧ x ≤ 10000000009) := by
              intro x hx
              rcases List.mem_append.1 hx with hx | hx
              · exact HX.out x hx
              · simp only [List.mem_singleton] at hx; subst hx; exact ⟨hn1, hn2⟩
            clear HE HDR hnum HX
            obtain ⟨d0, d1, d2, d3⟩ := L1.box.facts2
            have a1 := Lib.hid (cell_one_new w4 (.int .i64 nn) 3)
            have a2 : Hid (∀ u ∈ [Value.int .i64 nn], u.oneCell' = true) := by show ∀ u ∈ _, _; simp [Value.oneCell']
            have a3 : Hid (xs.length + 1 ≤ maxLen) := by show _ ≤ _; rw [HXK.out]; unfold maxLen; omega
            have a4 : Hid ((xs.length + 1) * 8 ≤ 140737488355328) := by show _ ≤ _; rw [HXK.out]; omega
            have a5 : Hid (w3.heap.size ≤ (w4.alloc (.cells #[.int .i64 nn] 3)).heap.size) := by show _ ≤ _; have := L1.size; simp; omega
            have HL1 := Lib.hid L1
            go_wp2_with ((at_builtin; refine wpList_append_own _ rfl _ _ 35 rfl w3.heap.size 3 i0 (.int .i64 0) 1 8 Tryz.underlying35 hi hz0 hz1 hz2 rfl (by decide) _ _ _ rfl (L1.own.alloc _) ⟨w4.heap.size, 0, none⟩ 1 1 [.int .i64 nn] rfl rfl a1.out a2.out a3.out a4.out a5.out ?_; intro v' w5 hown hgrow _; obtain ⟨g', cap', rfl⟩ := ownsRow_succ hown; have B5 := HL1.out.boxAt hD3 hgrow; obtain ⟨f0, f1, f2, f3⟩ := B5.facts2; have L2 := Lib.hid ((HL1.out.alloc _).app hwD hD3 hown hgrow); clear hown hgrow L1 d0 d1 d2 d3 B5))
            go_roundw
            case rel => exact ⟨k + 1, _, xs ++ [nn], by omega, by go_num, by rw [List.length_append, HXK.out]; rfl, L2.out, HE', HX'⟩
            case measure => simp [intOf]; omega
        · have HE' : Hid (canonsFrom [] P = some xs) := by show _ = _; rw [HE.out, List.drop_eq_nil_of_le (by omega)]; rfl
          have hq3 := (World.cell?_of_block (a := ⟨g1, 3, none⟩) (HL.out.frame g1 (by omega) (by omega))).trans HQ3.out
          clear HE
          go_wp2_with (fail)
          clear hq3
          refine (c39 ⟨d.toArray⟩ (by rw [mk_size]; omega) _).mono ?_
          rintro e w4 ⟨ns, bb, rfl, hnum, hn1, hn2, hk4⟩
          have L1 := HL.out.call hk4
          simp only [show (⟨d.toArray⟩ : ByteArray).data.toList = d from rfl] at hnum
          clear HL hk4
          cases bb
          · have HD := Lib.hid (deed_seal (n := (n : Int)) HP.out hnum.no)
            have I5 := L1.inv
            clear L1 hnum
            obtain ⟨r0, r1, r2, r3⟩ := I5.box.facts2
            go_wp2
            clear r0 r1 r2 r3
            have I9 : Inv w _ [(w.heap.size, 37, [.string { data := #[] }, .slice none 0 0])] := (I5.set (Nat.le_refl _) (by simp) 0 (.string { data := #[] })).set (Nat.le_refl _) (by simp) 1 (.slice none 0 0)
            obtain ⟨b0, b1, _, _⟩ := I9.box.facts2
            refine bodyPost_ret (v := .tuple #[.agg #[.string { data := #[] }, .slice none 0 0], .int .i64 0, .int .i64 113]) (by simp [results, Tryz.results23, go_sem, b0, b1]) rfl (line_fail HD.out I9.1)
          have HDL := Lib.hid (deed_last HP.out HA.out (by rw [← HPP.out]; exact HE'.out) (hnum.1 rfl))
          clear hnum HE'
          go_wp2_with (fail)
          refine (c40 ns 0 65520 _).mono ?_
          rintro e w5 ⟨rfl, rfl⟩
          cases gi : inn 0 65520 ns
          · have HD : Hid (deedOf n s.data.toList = none) := by show _ = _; rw [HDL.out, gi]; rfl
            have I5 := L1.inv
            clear L1 gi HDL
            obtain ⟨r0, r1, r2, r3⟩ := I5.box.facts2
            go_wp2
            clear r0 r1 r2 r3
            have I9 : Inv w _ [(w.heap.size, 37, [.string { data := #[] }, .slice none 0 0])] := (I5.set (Nat.le_refl _) (by simp) 0 (.string { data := #[] })).set (Nat.le_refl _) (by simp) 1 (.slice none 0 0)
            obtain ⟨b0, b1, _, _⟩ := I9.box.facts2
            refine bodyPost_ret (v := .tuple #[.agg #[.string { data := #[] }, .slice none 0 0], .int .i64 0, .int .i64 113]) (by simp [results, Tryz.results23, go_sem, b0, b1]) rfl (line_fail HD.out I9.1)
          obtain ⟨gn1, gn2⟩ := inn_iff.1 gi
          obtain ⟨A, cc, hv, hsl, _⟩ := sli_of_own L1.own (by rw [HXK.out]; omega)
          subst hv
          have HSL := Lib.hid hsl
          have HL1 := Lib.hid L1
          obtain ⟨d0, d1, d2, d3⟩ := L1.box.facts2
          clear hsl L1
          go_wp2_with (fail)
          clear d0 d1 d2 d3
          refine (c17 ⟨⟨b.toArray⟩, xs⟩ A xs.length cc _ HSL.out).mono ?_
          rintro e w5 ⟨rfl, hk5⟩
          have L2 := HL1.out.call hk5
          have HSL2 := Lib.hid ((HSL.out.below hk5 (Nat.le_refl _)).up hk5.size)
          clear HL1 HSL hk5
          cases gk : knownW ⟨⟨b.toArray⟩, xs⟩
          · have HD : Hid (deedOf n s.data.toList = none) := by show _ = _; rw [HDL.out, gk]; simp
            have I5 := L2.inv
            clear L2 gi gk HDL
            obtain ⟨r0, r1, r2, r3⟩ := I5.box.facts2
            go_wp2
            clear r0 r1 r2 r3
            have I9 : Inv w _ [(w.heap.size, 37, [.string { data := #[] }, .slice none 0 0])] := (I5.set (Nat.le_refl _) (by simp) 0 (.string { data := #[] })).set (Nat.le_refl _) (by simp) 1 (.slice none 0 0)
            obtain ⟨b0, b1, _, _⟩ := I9.box.facts2
            refine bodyPost_ret (v := .tuple #[.agg #[.string { data := #[] }, .slice none 0 0], .int .i64 0, .int .i64 113]) (by simp [results, Tryz.results23, go_sem, b0, b1]) rfl (line_fail HD.out I9.1)
          have HDS : Hid (deedOf n s.data.toList = some (⟨⟨b.toArray⟩, xs⟩, ns)) := by show _ = _; rw [HDL.out, gk, gi]; rfl
          obtain ⟨gb1, gb2, gb3⟩ := knownW_bd gk
          have HG3 := Lib.hid gb3
          have HL2 := Lib.hid L2
          obtain ⟨d0, d1, d2, d3⟩ := L2.box.facts2
          clear gi gk HDL gb3 L2
          go_wp2_with (fail)
          clear d0 d1 d2 d3
          refine (c18 n (by omega) ⟨⟨b.toArray⟩, xs⟩ A xs.length cc _ HSL2.out (Nat.le_trans gb1 (by omega)) (by have h2 : xs.length ≤ 13 := gb2; omega) (fun x hx => by have := HG3.out x hx; omega)).mono ?_
          rintro e w6 ⟨rfl, hk6⟩
          have L3 := HL2.out.call hk6
          have HSL3 := Lib.hid ((HSL2.out.below hk6 (Nat.le_refl _)).up hk6.size)
          clear HL2 HSL2 hk6
          have hbl := bodyW_len (n := (n : Int)) (d := ⟨⟨b.toArray⟩, xs⟩) (by unfold fits; omega) (fun x hx => by have := HG3.out x hx; unfold fits; omega)
          have hbl2 : (bodyW (n : Int) ⟨⟨b.toArray⟩, xs⟩).length ≤ 1000 := by have h1 : (De.mk ⟨b.toArray⟩ xs).word.size ≤ 8 := gb1; have h2 : (De.mk ⟨b.toArray⟩ xs).nums.length ≤ 13 := gb2; omega
          clear hbl
          go_wp2_with (fail)
          refine (c19 before _ HB.out (by rw [mk_size]; omega) _).mono ?_
          rintro e w7 ⟨rfl, rfl⟩
          simp only [show (⟨(bodyW (n : Int) ⟨⟨b.toArray⟩, xs⟩).toArray⟩ : ByteArray).data.toList = bodyW (n : Int) ⟨⟨b.toArray⟩, xs⟩ from rfl]
          generalize hS : sealW before (bodyW (n : Int) ⟨⟨b.toArray⟩, xs⟩) = S
          have HSS := Lib.hid hS
          clear hS
          by_cases hx : ns = S
          · have ex : (ns == S) = true := by rw [beq_iff_eq]; exact hx
            have HW : Hid (lineW n before s.data.toList = (0, ⟨⟨b.toArray⟩, xs⟩, ns)) := by show _ = _; rw [line_some HDS.out, if_pos (by rw [HSS.out]; exact hx)]
            have HL3 := Lib.hid L3
            obtain ⟨d0, d1, d2, d3⟩ := L3.box.facts2
            obtain ⟨r0, r1, r2, r3⟩ := L3.inv.box.facts2
            clear hx L3
            go_wp2
            clear d0 d1 d2 d3 r0 r1 r2 r3
            have I9 : Inv w _ [(w.heap.size, 37, [.string ⟨b.toArray⟩, .slice A xs.length cc])] := (HL3.out.inv.set (Nat.le_refl _) (by simp) 0 (.string ⟨b.toArray⟩)).set (Nat.le_refl _) (by simp) 1 (.slice A xs.length cc)
            obtain ⟨b0, b1, _, _⟩ := I9.box.facts2
            have hRw3 : w.heap.size < w3.heap.size := by omega
            obtain ⟨A2, c2, he2, hs2, hf2⟩ := sli_of_own (own_set (own_set HL3.out.own (p := ⟨w.heap.size, 0, none⟩) hRw3 (.string ⟨b.toArray⟩)) (p := ⟨w.heap.size, 1, none⟩) hRw3 (.slice A xs.length cc)) (by have h2 : xs.length ≤ 13 := gb2; omega)
            injection he2 with he2 _ _
            rw [← he2] at hs2 hf2
            refine bodyPost_ret (v := .tuple #[.agg #[.string ⟨b.toArray⟩, .slice A xs.length cc], .int .i64 ns, .int .i64 0]) (by simp [results, Tryz.results23, go_sem, b0, b1]) rfl ⟨_, A, xs.length, cc, ns, by rw [HW.out], fun _ => by rw [HW.out]; exact ⟨rfl, hs2, rfl, fun a e => by have h9 := hf2 a e; exact ⟨by omega, h9.2⟩⟩, I9.1⟩
          · have ex : (ns == S) = false := by rw [beq_eq_false_iff_ne]; exact hx
            have HW : Hid (lineW n before s.data.toList = (114, noDe, 0)) := by show _ = _; rw [line_some HDS.out, if_neg (by rw [HSS.out]; exact hx)]
            have I5 := L3.inv
            clear hx L3
            obtain ⟨r0, r1, r2, r3⟩ := I5.box.facts2
            go_wp2
            clear r0 r1 r2 r3
            have I9 : Inv w _ [(w.heap.size, 37, [.string { data := #[] }, .slice none 0 0])] := (I5.set (Nat.le_refl _) (by simp) 0 (.string { data := #[] })).set (Nat.le_refl _) (by simp) 1 (.slice none 0 0)
            obtain ⟨b0, b1, _, _⟩ := I9.box.facts2
            refine bodyPost_ret (v := .tuple #[.agg #[.string { data := #[] }, .slice none 0 0], .int .i64 0, .int .i64 114]) (by simp [results, Tryz.results23, go_sem, b0, b1]) rfl (line_seal HW.out I9.1)
    · have HD := Lib.hid (deed_head HP.out ha)
      have ee : (a == Lib.itoa (n : Int)) = false := by rw [beq_eq_false_iff_ne]; exact ha
      go_wp2_with (fail)
      refine wp_region_seq (fun W => Below wa.heap.size wa W) [(0, true), (1, true), (2, true), (3, true), (4, true), (5, true), (6, true), (7, true), (8, false), (9, true), (10, true)] (by kernel_rfl) (by kernel_rfl) rfl (by kernel_rfl) ((Below.refl _ _).drew) (fun K1 hK1 hS => ?_)
      repeat (first | (refine seq_skip (by simp only [List.getElem?_toArray, List.getElem?_cons_succ, List.getElem?_cons_zero] <;> rfl) (by rfl) (by assumption) ?_; simp only [Act.put, List.setIfInBounds_toArray, List.set_cons_zero, List.set_cons_succ]) | (refine seq_take (v := ?_) (by simp only [List.getElem?_toArray, List.getElem?_cons_succ, List.getElem?_cons_zero] <;> rfl) (by rfl) (fun W hW => ?_) ?_; rotate_left; (· have q0 := HCW.out W hW; go_simp; with_reducible rfl); simp only [Act.put, List.setIfInBounds_toArray, List.set_cons_zero, List.set_cons_succ]))
      (refine seq_do (by simp only [List.getElem?_toArray, List.getElem?_cons_succ, List.getElem?_cons_zero] <;> rfl) (by rfl) (fun K hK => ?_); go_simp; refine (c20 n (by omega) _).mono ?_; rintro e w1 ⟨rfl, hk⟩; refine hK _ _ (‹Below wa.heap.size wa _›.trans (hk.mono (by simp))) (fun hS => ?_); clear hK K; try simp only [Act.put, List.setIfInBounds_toArray, List.set_cons_zero, List.set_cons_succ])
      repeat (first | (refine seq_skip (by simp only [List.getElem?_toArray, List.getElem?_cons_succ, List.getElem?_cons_zero] <;> rfl) (by rfl) (by assumption) ?_; simp only [Act.put, List.setIfInBounds_toArray, List.set_cons_zero, List.set_cons_succ]) | (refine seq_take (v := ?_) (by simp only [List.getElem?_toArray, List.getElem?_cons_succ, List.getElem?_cons_zero] <;> rfl) (by rfl) (fun W hW => ?_) ?_; rotate_left; (· have q0 := HCW.out W hW; go_simp; with_reducible rfl); simp only [Act.put, List.setIfInBounds_toArray, List.set_cons_zero, List.set_cons_succ]))
      refine seq_end hK1 ?_; clear hK1 K1
      have hwb := ‹Below wa.heap.size wa _›
      have I2 := I1.call hwb
      clear hwb hS
      obtain ⟨r0, r1, r2, r3⟩ := I2.box.facts2
      go_wp2
      clear r0 r1 r2 r3
      have I9 : Inv w _ [(w.heap.size, 37, [.string { data := #[] }, .slice none 0 0])] := (I2.set (Nat.le_refl _) (by simp) 0 (.string { data := #[] })).set (Nat.le_refl _) (by simp) 1 (.slice none 0 0)
      obtain ⟨b0, b1, _, _⟩ := I9.box.facts2
      refine bodyPost_ret (v := .tuple #[.agg #[.string { data := #[] }, .slice none 0 0], .int .i64 0, .int .i64 113]) (by simp [results, Tryz.results23, go_sem, b0, b1]) rfl (line_fail HD.out I9.1)
  · have HD := Lib.hid (deed_len (n := (n : Int)) h4)
    obtain ⟨g1, cap1, rfl, hg1, hg1l, hcells⟩ := st1
    have hL : (parts 124 s.data.toList).length ≤ 20001 := by omega
    have dd : (((parts 124 s.data.toList).length : Int) == 4) = false := by rw [beq_eq_false_iff_ne]; omega
    have dd2 : (((parts 124 s.data.toList).length : Int) != 4) = true := by rw [bne, dd]; rfl
    generalize (parts 124 s.data.toList).length = L at *
    clear h4 hlen ho1 hcells hg1
    go_wp2_with (fail)
    refine wp_region_seq (fun W => Below wa.heap.size wa W) [(0, true), (1, true), (2, true), (3, true), (4, true), (5, true), (6, true), (7, true), (8, false), (9, true), (10, true)] (by kernel_rfl) (by kernel_rfl) rfl (by kernel_rfl) ((Below.refl _ _).drew) (fun K1 hK1 hS => ?_)
    repeat (first | (refine seq_skip (by simp only [List.getElem?_toArray, List.getElem?_cons_succ, List.getElem?_cons_zero] <;> rfl) (by rfl) (by assumption) ?_; simp only [Act.put, List.setIfInBounds_toArray, List.set_cons_zero, List.set_cons_succ]) | (refine seq_take (v := ?_) (by simp only [List.getElem?_toArray, List.getElem?_cons_succ, List.getElem?_cons_zero] <;> rfl) (by rfl) (fun W hW => ?_) ?_; rotate_left; (· go_simp; with_reducible rfl); simp only [Act.put, List.setIfInBounds_toArray, List.set_cons_zero, List.set_cons_succ]))
    refine seq_end hK1 ?_; clear hK1 K1
    clear hS dd dd2
    obtain ⟨r0, r1, r2, r3⟩ := I1.box.facts2
    go_wp2
    clear r0 r1 r2 r3
    have I9 : Inv w _ [(w.heap.size, 37, [.string { data := #[] }, .slice none 0 0])] := (I1.set (Nat.le_refl _) (by simp) 0 (.string { data := #[] })).set (Nat.le_refl _) (by simp) 1 (.slice none 0 0)
    have I9 := I9.drew
    obtain ⟨b0, b1, _, _⟩ := I9.box.facts2
    refine bodyPost_ret (v := .tuple #[.agg #[.string { data := #[] }, .slice none 0 0], .int .i64 0, .int .i64 113]) (by simp [results, Tryz.results23, go_sem, b0, b1]) rfl (line_fail HD.out I9.1)
end Go.Proofs.YtbldegmanbmpmaaGreatDoor
