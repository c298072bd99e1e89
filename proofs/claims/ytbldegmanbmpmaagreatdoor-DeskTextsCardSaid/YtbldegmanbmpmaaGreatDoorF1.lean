/- The row of DeskTexts: its arguments opened; what the condition gives the walk. -/
import Derived.Test.YtbldegmanbmpmaaGreatDoorF0
import Derived.Deep.Slices
import Derived.Deep.Fields
import Derived.ChangeSame
import Derived.ChangeSlices
import Derived.Lib.LaidTab
import Derived.SizedLaws
import Derived.Shelf.Vars
namespace Go.Proofs.YtbldegmanbmpmaaGreatDoor
open Go.ChangeShapes Go.WideShapes Go.ChangeAt Go.RowKit Go.Deep
set_option maxRecDepth 100000
section
variable {H : Type} {enc : TypeId × Value → H} {P : Program} {w : World} {base : Nat} {spare : Nat → Bool} {held : Bool}
theorem open_slice_fields {t e : TypeId} {fs : Array Field} {fuel : Nat} {cs : List Value} {x : DataW H × List MemPlace} (ht : P.underlying t = some (.slice e)) (he : P.underlying e = some (.struct fs))
    (hone : oneCellFields P fs = true) (hC : P.cellsOf e = fs.size) (h : DataW.trod enc P w base spare held fuel t cs = some x) :
    (cs = [.slice none 0 0] ∧ x = (.nil, [])) ∨
    ∃ (a : Addr) (len cap m : Nat) (D : Nat → DataW H) (Pl : Nat → List MemPlace), cs = [.slice (some a) len cap] ∧ base ≤ a.block ∧ len ≤ cap ∧ cap ≤ maxLen ∧ m = (if spare a.block then cap else len) ∧
      x = (.slice ((List.range len).map D) ((List.range (m - len)).map fun j => D (len + j)), MemPlace.row a (m * fs.size) ++ (List.range m).flatMap Pl) ∧
      ∀ i, i < m → ∃ (ys : List (DataW H × List MemPlace)) (n : Nat), D i = .agg (ys.map (·.1)) ∧ Pl i = ys.flatMap (·.2) ∧ ys.length = fs.size ∧
        ∀ (j : Nat) (f : Field), fs[j]? = some f → ∃ (v : Value) (y : DataW H × List MemPlace), w.cell? (a.add (i * fs.size + j)) = some v ∧ ys[j]? = some y ∧ DataW.trod enc P w base spare held n f.type [v] = some y := by
  rcases open_slice ht h with h0 | ⟨a, len, cap, m, n, D, Pl, hcs, hb, hl, hm, hmm, hx, hi⟩
  · exact .inl h0
  · refine .inr ⟨a, len, cap, m, D, Pl, hcs, hb, hl, hm, hmm, by rw [hC] at hx; exact hx, fun i him => ?_⟩
    obtain ⟨cs', hc, ht'⟩ := hi i him
    rw [hC] at hc
    obtain ⟨ys, n', hn', hy, hlen, hyl, hf⟩ := DataW.trod_struct he ht'
    obtain ⟨_, hcl, hat⟩ := World.cells?_some hc
    simp only [Prod.mk.injEq] at hy
    refine ⟨ys, n', hy.1, hy.2, hyl, fun j f hj => ?_⟩
    obtain ⟨ho, hk⟩ := hone_of hone j f hj
    have hjl : j < fs.size := (Array.getElem?_eq_some_iff.1 hj).1
    have hcell := hat j hjl
    have hv : cs'[j]? = some (cs'[j]'(by omega)) := List.getElem?_eq_getElem (by omega)
    have h1 := hf j f hj
    rw [ho, hk] at h1
    have hone' : (cs'.drop j).take 1 = [cs'[j]'(by omega)] := by
      rw [List.drop_eq_getElem_cons (by omega)]
      rfl
    rw [hone'] at h1
    have hys : ys[j]? = some (ys[j]'(by omega)) := List.getElem?_eq_getElem (by omega)
    refine ⟨_, _, ?_, hys, h1.trans hys⟩
    rw [← Go.Deep.add_add, hcell, hv]
end
theorem ok_of_laid {W : World} (h : laidMetH Tryz.prog Rows.deskTextsRow.laid W) (hsh : W.ShapedOpen Tryz.prog) : Ok W := by
  have hp := (laidMetH_iff.1 h).1
  refine ⟨?_, cell_of_shapedOpen_int (g := 1) (t := 3) (zero := #[.int .i64 0]) hsh (of_decide_eq_true (by kernel_rfl)) (by kernel_rfl) rfl (by kernel_rfl) (by kernel_rfl) Tryz.underlying3, ?_, ?_⟩
  · have hm : ("internal/strconv.uint64pow10", (Rows.laid_internal_strconv_uint64pow10 : DataW Unit)) ∈ Rows.deskTextsRow.laid.filter fun x => x.2.handleName?.isNone := List.mem_filter.2 ⟨by simp [Rows.deskTextsRow], rfl⟩
    obtain ⟨g, t, cs, fuel, p, hg, ht, hv, hd⟩ := Lib.laidMet.reads hp hm
    obtain rfl := Option.some.inj ((show Tryz.prog.globalNamed "internal/strconv.uint64pow10" = some 0 by kernel_rfl).symm.trans hg)
    obtain rfl := Option.some.inj ((show (Tryz.prog.globals[0]?).map (·.type) = some 167 by kernel_rfl).symm.trans ht)
    unfold Lib.TabIs
    have he : (Rows.laid_internal_strconv_uint64pow10 : DataW Unit) = Lib.tabData .u64 Lib.pow10Tab := by kernel_rfl
    rw [he] at hd
    rw [hv, ← Lib.cells_of_tab (e := 97) (n := 20) Tryz.underlying167 (by kernel_rfl) (by kernel_rfl) (by kernel_rfl) hd]
  · have hm : ("strconv.ErrSyntax", (Rows.laid_strconv_ErrSyntax : DataW Unit)) ∈ Rows.deskTextsRow.laid.filter fun x => x.2.handleName?.isNone := List.mem_filter.2 ⟨by simp [Rows.deskTextsRow], rfl⟩
    obtain ⟨g, t, cs, fuel, p, hg, ht, hv, hd⟩ := Lib.laidMet.reads hp hm
    obtain rfl := Option.some.inj ((show Tryz.prog.globalNamed "strconv.ErrSyntax" = some 4 by kernel_rfl).symm.trans hg)
    obtain rfl := Option.some.inj ((show (Tryz.prog.globals[4]?).map (·.type) = some 46 by kernel_rfl).symm.trans ht)
    obtain ⟨_, u, v, hcs, _, _⟩ := iface_of_trod Tryz.underlying46 hd
    refine ⟨.iface u v, ?_, .inr ⟨u, v, rfl⟩⟩
    rw [World.var?_cell hg hv 0, Array.eq_one_of_toList hcs]; rfl
  · have hm : ("strconv.ErrRange", (Rows.laid_strconv_ErrRange : DataW Unit)) ∈ Rows.deskTextsRow.laid.filter fun x => x.2.handleName?.isNone := List.mem_filter.2 ⟨by simp [Rows.deskTextsRow], rfl⟩
    obtain ⟨g, t, cs, fuel, p, hg, ht, hv, hd⟩ := Lib.laidMet.reads hp hm
    obtain rfl := Option.some.inj ((show Tryz.prog.globalNamed "strconv.ErrRange" = some 5 by kernel_rfl).symm.trans hg)
    obtain rfl := Option.some.inj ((show (Tryz.prog.globals[5]?).map (·.type) = some 46 by kernel_rfl).symm.trans ht)
    obtain ⟨_, u, v, hcs, _, _⟩ := iface_of_trod Tryz.underlying46 hd
    refine ⟨.iface u v, ?_, .inr ⟨u, v, rfl⟩⟩
    rw [World.var?_cell hg hv 0, Array.eq_one_of_toList hcs]; rfl
theorem weights_all {H : Type} {P : Program} {e : TypeId} {x : Nat} : ∀ {l : List (DataW H)} {d : DataW H}, d ∈ l → x ∈ d.weights P e → x ∈ DataW.weightsAll P e l := by
  intro l
  induction l with
  | nil => intro d h; cases h
  | cons y r ih =>
    intro d h hx
    rw [DataW.weightsAll]
    rcases List.mem_cons.1 h with rfl | h
    · exact List.mem_append.2 (.inl hx)
    · exact List.mem_append.2 (.inr (ih h hx))
theorem zone37 : oneCellFields Tryz.prog #[{ name := "Word", type := 9, offset := 0, embedded := false, tag := "", pkgPath := "", byteOffset := 0 }, { name := "Nums", type := 35, offset := 1, embedded := false, tag := "", pkgPath := "", byteOffset := 16 }] = true := by kernel_rfl
theorem cells37 : Tryz.prog.cellsOf 37 = 2 := by kernel_rfl
theorem cells3 : Tryz.prog.cellsOf 3 = 1 := by kernel_rfl
theorem bytes3 : Tryz.prog.bytesOf 3 = 8 := by kernel_rfl
theorem bytes37 : Tryz.prog.bytesOf 37 = 40 := by kernel_rfl
theorem addr_add (b o k : Nat) : (⟨b, o, none⟩ : Addr).add k = ⟨b, o + k, none⟩ := by simp [Addr.add]
/-- A slice of deeds that came in is a log in memory. -/
theorem log_of_arg {H : Type} {enc : TypeId × Value → H} {W : World} {fuel : Nat} {A : Option Addr} {n c : Nat} {d : DataW H} {p : List MemPlace}
    (h : DataW.trod enc Tryz.prog W 0 (fun _ => true) true fuel 22 [.slice A n c] = some (d, p)) (hw : (d.weights Tryz.prog 22).all (· ≤ reachBytes) = true) : ∃ xs, SlD W.heap.size W A n xs := by
  rcases open_slice_fields Tryz.underlying22 Tryz.underlying37 zone37 cells37 h with ⟨e, _⟩ | ⟨a, len, cap, m, D, Pl, e, _, hl, hm, hmm, hx, hi⟩
  · injection e with e _
    injection e with e1 e2 e3
    subst e1 e2
    exact ⟨[], rfl, by omega, fun h => by omega⟩
  · injection e with e _
    injection e with e1 e2 e3
    subst e1 e2 e3
    simp only [if_true] at hmm
    subst hmm
    simp only [Prod.mk.injEq] at hx
    have hwt : ∀ x ∈ d.weights Tryz.prog 22, x ≤ reachBytes := fun x hx => by simpa using List.all_eq_true.1 hw x hx
    have hlen : n ≤ 4611686018427387904 := by
      have h1 := hwt ((n + (m - n)) * 40) (by rw [hx.1]; simp [DataW.weights, Tryz.underlying22, bytes37])
      have h2 : reachBytes = 140737488351232 := rfl
      omega
    by_cases hn0 : ¬ 0 < n
    · have : n = 0 := by omega
      subst this
      exact ⟨[], rfl, by omega, fun h => by omega⟩
    have hn0 : 0 < n := by omega
    obtain ⟨b, o, sp⟩ := a
    have hsp : sp = none := by
      obtain ⟨ys, k, hD, hP, hyl, hf⟩ := hi 0 (by omega)
      obtain ⟨v0, y0, hc0, hy0, ht0⟩ := hf 0 _ rfl
      simpa [Addr.add] using World.cell?_spot hc0
    subst hsp
    have key2 : ∀ i, i < n → ∃ x, De.lies W.heap.size W b o i x ∧ b < W.heap.size := by
      intro i hin
      obtain ⟨ys, k, hD, hP, hyl, hf⟩ := hi i (by omega)
      obtain ⟨v0, y0, hc0, hy0, ht0⟩ := hf 0 _ rfl
      obtain ⟨v1, y1, hc1, hy1, ht1⟩ := hf 1 _ rfl
      rw [addr_add] at hc0 hc1
      obtain ⟨word, e0, _, _⟩ := DataW.trod_string Tryz.underlying9 ht0
      injection e0 with e0 _
      subst e0
      have hb : b < W.heap.size := cell_lt hc0
      have hys : ys = [y0, y1] := by
        match ys, hyl, hy0, hy1 with
        | [z0, z1], _, hy0, hy1 => cases hy0; cases hy1; rfl
      have hD0 : D i = .agg [y0.1, y1.1] := by rw [hD, hys]; rfl
      have hmem : ∀ x ∈ y1.1.weights Tryz.prog 35, x ≤ reachBytes := fun x hx2 => by
        refine hwt x ?_
        rw [hx.1]
        simp only [DataW.weights, Tryz.underlying22, List.mem_cons, List.mem_append]
        refine .inr (.inl (weights_all (d := D i) (List.mem_map.2 ⟨i, List.mem_range.2 hin, rfl⟩) ?_))
        rw [hD0]
        simp only [DataW.weights, Tryz.underlying37, List.map_cons, List.map_nil, DataW.weightsEach, List.mem_append]
        exact .inr (.inl hx2)
      rcases open_ints Tryz.underlying35 Tryz.underlying3 cells3 ht1 with ⟨e1, _⟩ | ⟨a1, l1, c1, zs, e1, _, hl1, hm1, hz, hx1, hcz, _⟩
      · injection e1 with e1 _
        subst e1
        exact ⟨⟨word, []⟩, ⟨hc0, none, 0, 0, hc1, rfl, by omega, fun h => by omega⟩, hb⟩
      · injection e1 with e1 _
        subst e1
        simp only [if_true] at hz
        have hl2 : l1 ≤ 4611686018427387904 := by
          have h1 := hmem ((l1 + (c1 - l1)) * 8) (by rw [hx1]; simp [DataW.weights, Tryz.underlying35, bytes3, lits, hz]; omega)
          have h2 : reachBytes = 140737488351232 := rfl
          omega
        refine ⟨⟨word, zs.take l1⟩, ⟨hc0, some a1, l1, c1, hc1, by rw [List.length_take]; omega, hl2, fun hp => ?_⟩, hb⟩
        obtain ⟨b1, o1, sp1⟩ := a1
        have h0 := hcz 0 (by omega)
        have hsp1 : sp1 = none := by simpa [Addr.add] using World.cell?_spot h0
        subst hsp1
        have hb1 : b1 < W.heap.size := by have := cell_lt h0; simpa [Addr.add] using this
        refine ⟨b1, o1, rfl, hb1, fun j hj => ?_⟩
        have := hcz j (by omega)
        rw [addr_add] at this
        rw [this]
        simp [List.getD, List.getElem?_take, hj]
    refine ⟨(List.range n).map fun i => if h : i < n then Classical.choose (key2 i h) else noDe, by simp, hlen, fun _ => ⟨b, o, rfl, (Classical.choose_spec (key2 0 hn0)).2, fun j hj => ?_⟩⟩
    have : ((List.range n).map fun i => if h : i < n then Classical.choose (key2 i h) else noDe).getD j noDe = Classical.choose (key2 j hj) := by
      simp [List.getD, hj]
    rw [this]
    exact (Classical.choose_spec (key2 j hj)).1
end Go.Proofs.YtbldegmanbmpmaaGreatDoor
