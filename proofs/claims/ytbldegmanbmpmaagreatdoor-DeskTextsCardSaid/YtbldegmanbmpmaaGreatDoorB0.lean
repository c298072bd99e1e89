/- desk.in (all numbers lie from lo to hi), slices.IndexFunc and ContainsFunc at whole numbers, and the library's functions that read a table: what they return; what lay in memory before stays. -/
import Derived.Test.YtbldegmanbmpmaaGreatDoorP1
import Derived.Test.YtbldegmanbmpmaaGreatDoorS0
import Derived.WalkSmall
import Derived.Lib.AtoiErrMem
import Derived.Lib.AppendIntMem
namespace Go.Proofs.YtbldegmanbmpmaaGreatDoor
open Go.RowKit Go.Shelf
/-- A predicate on whole numbers, as a function value. -/
def PredI (P : Program) (g : Nat) (lb : Array Value) (p : Int → Bool) (w : World) : Prop :=
  ∀ x W, Below w.heap.size w W → Calls P g (#[.int .i64 x] ++ lb) W fun e w' => e = .returned (.bool (p x)) ∧ Below W.heap.size W w'
def outB (lo hi x : Int) : Bool := decide (x < lo) || decide (hi < x)
theorem out_inn (lo hi : Int) (xs : List Int) : (!xs.any (outB lo hi)) = inAll lo hi xs := by
  unfold inAll
  induction xs with
  | nil => rfl
  | cons x l ih =>
    rw [List.any_cons, List.all_cons, Bool.not_or, ih]
    congr 1
    rw [Bool.eq_iff_iff]; simp [outB, inn]
/-- The first place of a list where a predicate holds, from place i on. -/
def idxFrom (p : Int → Bool) : Nat → List Int → Int
  | _, [] => -1
  | i, x :: l => if p x then (i : Int) else idxFrom p (i + 1) l
theorem idxFrom_any (p : Int → Bool) (xs : List Int) : ∀ i : Nat, decide (0 ≤ idxFrom p i xs) = xs.any p ∧ -1 ≤ idxFrom p i xs := by
  induction xs with
  | nil => intro i; simp [idxFrom]
  | cons x l ih =>
    intro i
    by_cases hx : p x = true
    · simp [idxFrom, hx]
    · simp only [Bool.not_eq_true] at hx
      simp only [idxFrom, hx, List.any_cons, Bool.false_or]
      exact ih (i + 1)
set_option maxHeartbeats 1000000 in
theorem c75 (g : Nat) (lb : Array Value) (p : Int → Bool) (A : Option Addr) (n c : Nat) (xs : List Int) (w : World) (hs : SlI w.heap.size w A n xs)
    (eg : ∀ args w, (callFunc g args).run Tryz.prog w = .ok (.enter g args) w) (hp : PredI Tryz.prog g lb p w) :
    Calls Tryz.prog 75 #[.slice A n c, .func (.func g) #[] lb] w fun e w' => e = .returned (.int .i64 (idxFrom p 0 xs)) ∧ Below w.heap.size w w' := by
  obtain ⟨hl, hn, hcell⟩ := hs
  have HL := Lib.hid hl; clear hl
  have HC := Lib.hid hcell; clear hcell
  have HP := Lib.hid hp; clear hp
  go_enter Tryz.func75, Tryz.ntmps75
  go_wp2
  go_loopw [5, 8] (fun _ i wr => ∃ k : Nat, k ≤ n ∧ i = .int .i64 k ∧ Below w.heap.size w wr ∧ Hid (idxFrom p 0 xs = idxFrom p k (xs.drop k))) (fun _ i _ => n - (intOf i).toNat)
  case atStart => exact ⟨0, Nat.zero_le _, rfl, Below.refl _ _, rfl⟩
  case round =>
    obtain ⟨k, hk, rfl, hb, HE⟩ := hrel
    by_cases hlt : k < n
    · obtain ⟨b, o, rfl, hB, hc⟩ := HC.out (by omega)
      have hck := (hb.cell (p := ⟨b, o + k, none⟩) hB).trans (hc k hlt)
      clear hc
      have hpk := HP.out (xs.getD k 0) wr hb
      have HPk := Lib.hid hpk; clear hpk
      go_wp2_with (fail)
      refine HPk.out.mono ?_
      rintro e w1 ⟨rfl, hb1⟩
      have hb2 : Below w.heap.size w w1 := hb.trans (hb1.mono hb.size)
      have hdr : xs.drop k = xs.getD k 0 :: xs.drop (k + 1) := drop_getD xs k 0 (by rw [HL.out]; exact hlt)
      go_wp2_with (fail)
      · have hpt : p (xs[k]?.getD 0) = true := by assumption
        go_ret
        refine ⟨?_, hb2⟩
        rw [HE.out, hdr]
        simp [idxFrom, hpt]
      · have hpf : p (xs[k]?.getD 0) = false := by assumption
        go_roundw
        case rel => exact ⟨k + 1, by omega, by go_num, hb2, by show _ = _; rw [HE.out, hdr]; simp [idxFrom, hpf]⟩
        case measure => simp [intOf]; omega
    · have hdr : xs.drop k = [] := List.drop_eq_nil_of_le (by rw [HL.out]; omega)
      go_wp2
      go_ret
      exact ⟨by rw [HE.out, hdr]; rfl, hb⟩
set_option maxHeartbeats 1000000 in
theorem c49 (g : Nat) (lb : Array Value) (p : Int → Bool) (A : Option Addr) (n c : Nat) (xs : List Int) (w : World) (hs : SlI w.heap.size w A n xs)
    (eg : ∀ args w, (callFunc g args).run Tryz.prog w = .ok (.enter g args) w) (hp : PredI Tryz.prog g lb p w) :
    Calls Tryz.prog 49 #[.slice A n c, .func (.func g) #[] lb] w fun e w' => e = .returned (.bool (xs.any p)) ∧ Below w.heap.size w w' := by
  have HF := Lib.hid (c75 g lb p A n c xs w hs eg hp)
  have HA := Lib.hid (idxFrom_any p xs 0).1
  clear hs hp
  go_enter Tryz.func49, Tryz.ntmps49
  go_wp2_with (go_at_call 75; refine HF.out.mono ?_; rintro e w1 ⟨rfl, hb1⟩)
  go_ret
  exact ⟨congrArg (fun b => Ending.returned (.bool b)) HA.out, hb1⟩
/-! desk.in -/
set_option maxHeartbeats 400000 in
theorem c50 (lo hi x : Int) (b c : Nat) (w : World) (h1 : w.cell? ⟨b, 0, none⟩ = some (.int .i64 lo)) (h2 : w.cell? ⟨c, 0, none⟩ = some (.int .i64 hi)) :
    Calls Tryz.prog 50 #[.int .i64 x, .pointer (some ⟨b, 0, none⟩), .pointer (some ⟨c, 0, none⟩)] w fun e w' => e = .returned (.bool (outB lo hi x)) ∧ w = w' := by
  by_cases hx : x < lo
  · have hd : decide (x < lo) = true := by simpa using hx
    go_enter Tryz.func50, Tryz.ntmps50
    go_wp2
    go_ret
    exact ⟨by simp [outB, hx], rfl⟩
  · have hd : decide (x < lo) = false := by simpa using hx
    go_enter Tryz.func50, Tryz.ntmps50
    go_wp2
    go_ret
    exact ⟨by simp [outB, hd], rfl⟩
set_option maxHeartbeats 1000000 in
theorem c37 (lo hi : Int) (A : Option Addr) (n c : Nat) (xs : List Int) (w : World) (hs : SlI w.heap.size w A n xs) :
    Calls Tryz.prog 37 #[.int .i64 lo, .int .i64 hi, .slice A n c] w fun e w' => e = .returned (.bool (inAll lo hi xs)) ∧ Below w.heap.size w w' := by
  have HS := Lib.hid hs
  have HO := Lib.hid (out_inn lo hi xs)
  clear hs
  go_enter Tryz.func37, Tryz.ntmps37
  go_wp2_with (fail)
  have hB : Below w.heap.size w ((w.alloc (.cells #[.int .i64 lo] 3)).alloc (.cells #[.int .i64 hi] 3)) := ((Below.refl _ _).alloc (Nat.le_refl _) _).alloc (by simp) _
  refine (c49 50 _ (outB lo hi) A n c xs _ (HS.out.below hB (Nat.le_refl _) |>.up (by simp only [World.size_alloc]; omega)) (enters_of Tryz.func50 (by kernel_rfl) rfl) ?_).mono ?_
  · intro x W hW
    refine (c50 lo hi x _ _ W ?_ ?_).mono ?_
    · exact (hW.cell (p := ⟨w.heap.size, 0, none⟩) (by simp only [World.size_alloc]; omega)).trans (by simp [World.cell?_alloc_past])
    · exact (hW.cell (p := ⟨w.heap.size + 1, 0, none⟩) (by simp only [World.size_alloc]; omega)).trans (by simp)
    · rintro e w' ⟨rfl, rfl⟩
      exact ⟨rfl, Below.refl _ _⟩
  rintro e w1 ⟨rfl, hb1⟩
  go_wp2
  go_ret
  exact ⟨ret_bool HO.out, hB.trans (hb1.mono (by simp only [World.size_alloc]; omega))⟩
/-- .. of one number. -/
theorem c37_1 (lo hi x : Int) (b : Nat) (w : World) (hb : w.cell? ⟨b, 0, none⟩ = some (.int .i64 x)) (h : b < w.heap.size) :
    Calls Tryz.prog 37 #[.int .i64 lo, .int .i64 hi, .slice (some ⟨b, 0, none⟩) 1 1] w fun e w' => e = .returned (.bool (inn lo hi x)) ∧ Below w.heap.size w w' :=
  (c37 lo hi _ 1 1 [x] w (SlI.one hb h)).mono fun _ _ ⟨he, hw⟩ => ⟨he.trans (by simp [inAll]), hw⟩
/-- .. of two numbers. -/
theorem c37_2 (lo hi x y : Int) (b : Nat) (w : World) (hb : w.cell? ⟨b, 0, none⟩ = some (.int .i64 x)) (hb' : w.cell? ⟨b, 1, none⟩ = some (.int .i64 y)) (h : b < w.heap.size) :
    Calls Tryz.prog 37 #[.int .i64 lo, .int .i64 hi, .slice (some ⟨b, 0, none⟩) 2 2] w fun e w' => e = .returned (.bool (inn lo hi x && inn lo hi y)) ∧ Below w.heap.size w w' :=
  (c37 lo hi _ 2 2 [x, y] w (SlI.two hb hb' h)).mono fun _ _ ⟨he, hw⟩ => ⟨he.trans (by simp [inAll]), hw⟩
/-- .. of a list of one number, just laid. -/
theorem c37_at (lo hi x : Int) (b : Nat) (W : World) (hb : b = W.heap.size) :
    Calls Tryz.prog 37 #[.int .i64 lo, .int .i64 hi, .slice (some ⟨b, 0, none⟩) 1 1] (W.alloc (.cells #[.int .i64 x] 3)) fun e w' => e = .returned (.bool (inn lo hi x)) ∧ Below (W.alloc (.cells #[.int .i64 x] 3)).heap.size (W.alloc (.cells #[.int .i64 x] 3)) w' := by
  subst hb
  exact c37_1 lo hi x _ _ (by simp) (by simp)
theorem c37_atd (lo hi x : Int) (b : Nat) (W : World) (hb : b = W.heap.size) :
    Calls Tryz.prog 37 #[.int .i64 lo, .int .i64 hi, .slice (some ⟨b, 0, none⟩) 1 1] (W.alloc (.cells #[.int .i64 x] 3)).drew fun e w' => e = .returned (.bool (inn lo hi x)) ∧ Below (W.alloc (.cells #[.int .i64 x] 3)).drew.heap.size (W.alloc (.cells #[.int .i64 x] 3)).drew w' :=
  c37_at lo hi x b W.drew hb
theorem c37_at2 (lo hi x y : Int) (b : Nat) (W : World) (hb : b = W.heap.size) :
    Calls Tryz.prog 37 #[.int .i64 lo, .int .i64 hi, .slice (some ⟨b, 0, none⟩) 2 2] (W.alloc (.cells #[.int .i64 x, .int .i64 y] 3)) fun e w' => e = .returned (.bool (inn lo hi x && inn lo hi y)) ∧ Below (W.alloc (.cells #[.int .i64 x, .int .i64 y] 3)).heap.size (W.alloc (.cells #[.int .i64 x, .int .i64 y] 3)) w' := by
  subst hb
  exact c37_2 lo hi x y _ _ (by simp) (by simp) (by simp)
theorem c37_v (lo hi x : Int) (v : Bool) (b : Nat) (W : World) (hb : b = W.heap.size) (hv : inn lo hi x = v) :
    Calls Tryz.prog 37 #[.int .i64 lo, .int .i64 hi, .slice (some ⟨b, 0, none⟩) 1 1] (W.alloc (.cells #[.int .i64 x] 3)) fun e w' => e = .returned (.bool v) ∧ Below (W.alloc (.cells #[.int .i64 x] 3)).heap.size (W.alloc (.cells #[.int .i64 x] 3)) w' := by
  subst hv
  exact c37_at lo hi x b W hb
theorem c37_vd (lo hi x : Int) (v : Bool) (b : Nat) (W : World) (hb : b = W.heap.size) (hv : inn lo hi x = v) :
    Calls Tryz.prog 37 #[.int .i64 lo, .int .i64 hi, .slice (some ⟨b, 0, none⟩) 1 1] (W.alloc (.cells #[.int .i64 x] 3)).drew fun e w' => e = .returned (.bool v) ∧ Below (W.alloc (.cells #[.int .i64 x] 3)).drew.heap.size (W.alloc (.cells #[.int .i64 x] 3)).drew w' := by
  subst hv
  exact c37_atd lo hi x b W hb
/-! What the library's functions read -/
/-- The library's variables hold what they held at the start. -/
structure Ok (w : World) : Prop where
  tab : Lib.TabIs Tryz.prog w "internal/strconv.uint64pow10" .u64 Lib.pow10Tab
  most : ∃ m, w.cell? ⟨1, 0, none⟩ = some (.int .i64 m)
  syn : ∃ ev, w.cell? ⟨4, 0, none⟩ = some ev ∧ (ev = .nilIface ∨ ∃ te pe, ev = .iface te pe)
  rng : ∃ ev, w.cell? ⟨5, 0, none⟩ = some ev ∧ (ev = .nilIface ∨ ∃ te pe, ev = .iface te pe)
theorem cell_lt {w : World} {a : Addr} {v : Value} (h : w.cell? a = some v) : a.block < w.heap.size := by
  rcases Nat.lt_or_ge a.block w.heap.size with h' | h'
  · exact h'
  · simp [World.cell?, Array.getElem?_eq_none h'] at h
theorem gPow : Tryz.prog.globalNamed "internal/strconv.uint64pow10" = some 0 := by kernel_rfl
theorem Ok.below {w w' : World} (h : Ok w) (hb : Below w.heap.size w w') : Ok w' := by
  obtain ⟨ht, ⟨m, hm⟩, ⟨ev, hs, hs'⟩, ⟨ev2, hr, hr'⟩⟩ := h
  have l1 : 1 < w.heap.size := cell_lt hm
  have l4 : 4 < w.heap.size := cell_lt hs
  have l5 : 5 < w.heap.size := cell_lt hr
  exact ⟨var?_below hb gPow (by omega) ht, ⟨m, (hb.cell (p := ⟨1, 0, none⟩) l1).trans hm⟩, ⟨ev, (hb.cell (p := ⟨4, 0, none⟩) l4).trans hs, hs'⟩, ⟨ev2, (hb.cell (p := ⟨5, 0, none⟩) l5).trans hr, hr'⟩⟩
theorem Ok.inv {w W : World} {bs : List (Nat × TypeId × List Value)} (h : Ok w) (I : Inv w W bs) : Ok W := h.below I.1
theorem c14 (n : Int) (h : fits n) (w : World) (hk : Ok w) : Calls Tryz.prog 14 #[.int .i64 n] w fun e w' => e = .returned (.string ⟨(Lib.itoa n).toArray⟩) ∧ Below w.heap.size w w' :=
  (Tryz.strconv_Itoa n h.1 h.2 w hk.tab).mono fun e w' ⟨he, k, os, hw⟩ => ⟨he, by rw [hw]; exact Lib.below_grow _ _ (Nat.le_refl _) _ _⟩
/-- strconv.Atoi: a number and no error, just where the text spells one. -/
def AtoiIs (s : ByteArray) (w : World) (e : Ending) (w' : World) : Prop :=
  Below w.heap.size w w' ∧ ((∃ v, Lib.atoiAll s.data.toList = .ok v ∧ e = .returned (.tuple #[.int .i64 v, .nilIface])) ∨ ((∀ v, Lib.atoiAll s.data.toList ≠ .ok v) ∧ ∃ v N, e = .returned (.tuple #[.int .i64 v, .iface 177 (.pointer (some ⟨N, 0, none⟩))])))
theorem c48 (s : ByteArray) (h : s.size ≤ 20000) (w : World) (hk : Ok w) : Calls Tryz.prog 48 #[.string s] w (AtoiIs s w) := by
  by_cases hbad : (∀ v, Lib.atoiAll s.data.toList ≠ .ok v) ∧ Lib.atoiAll s.data.toList ≠ .range
  · obtain ⟨ev, h1, h2⟩ := hk.syn
    refine (Tryz.strconv_Atoi_bad s (by omega) hbad.1 hbad.2 ev w h1 h2).mono ?_
    rintro e w' ⟨N, he, _, _, hb⟩
    exact ⟨hb, .inr ⟨hbad.1, _, N, he⟩⟩
  cases ha : Lib.atoiAll s.data.toList with
  | ok v =>
    refine (Tryz.strconv_Atoi_ok s (by omega) v ha w).mono ?_
    rintro e w' ⟨he, hw⟩
    refine ⟨?_, .inl ⟨v, ha, he⟩⟩
    rcases hw with rfl | ⟨t, rfl⟩
    · exact Below.refl _ _
    · exact Lib.bytesWorld_below _ _ _
  | range =>
    obtain ⟨ev, h1, h2⟩ := hk.rng
    refine (Tryz.strconv_Atoi_range s (by omega) ha ev w h1 h2).mono ?_
    rintro e w' ⟨N, he, _, _, hb⟩
    exact ⟨hb, .inr ⟨fun v hv => (by rw [ha] at hv; cases hv), _, N, he⟩⟩
  | _ => exact absurd ⟨fun v hv => (by rw [ha] at hv; cases hv), fun hv => (by rw [ha] at hv; cases hv)⟩ hbad
end Go.Proofs.YtbldegmanbmpmaaGreatDoor
