/- The plain law of a log's text: numbers, parts of a text, deeds, seals; no program in sight. -/
import Derived.Lib.ItoaMem
import Derived.Lib.ItoaLen
import Derived.Lib.AtoiAllCases
import Derived.Lib.AtoiTie
import Derived.Lib.SplitLaws
import Derived.Lib.Join
namespace Go.Proofs.YtbldegmanbmpmaaGreatDoor
open Go.Lib
/-! Numbers -/
theorem dec_small {u : Nat} (h : u < 10) : decDigits u = [UInt8.ofNat (48 + u)] := decDigits_one h
theorem dec_big {u : Nat} (h : ¬ u < 10) : decDigits u = decDigits (u / 10) ++ [UInt8.ofNat (48 + u % 10)] := by rw [decDigits, dif_neg h]
theorem digit_nat {d : Nat} (h : d < 10) : (UInt8.ofNat (48 + d)).toNat = 48 + d := by
  rw [UInt8.toNat_ofNat']; exact Nat.mod_eq_of_lt (by omega)
theorem dec_digit : ∀ (u : Nat), ∀ c ∈ decDigits u, 48 ≤ c.toNat ∧ c.toNat ≤ 57 := by
  intro u
  induction u using Nat.strongRecOn with
  | ind u ih =>
    intro c hc
    by_cases h : u < 10
    · rw [dec_small h] at hc
      simp only [List.mem_singleton] at hc
      subst hc
      rw [digit_nat h]; omega
    · rw [dec_big h] at hc
      rcases List.mem_append.1 hc with hc | hc
      · exact ih (u / 10) (by omega) c hc
      · simp only [List.mem_singleton] at hc
        subst hc
        rw [digit_nat (by omega)]; omega
theorem dec_ne (u : Nat) : decDigits u ≠ [] := by
  intro h
  have h1 := congrArg List.length h
  rw [decDigits_length, List.length_nil] at h1
  have h2 := nDigits_pos u
  omega
theorem itoa_byte (n : Int) : ∀ c ∈ itoa n, c.toNat = 45 ∨ (48 ≤ c.toNat ∧ c.toNat ≤ 57) := by
  intro c hc
  unfold itoa at hc
  split at hc
  · rcases List.mem_cons.1 hc with rfl | hc
    · exact .inl rfl
    · exact .inr (dec_digit _ c hc)
  · exact .inr (dec_digit _ c hc)
theorem itoa_ne (n : Int) : itoa n ≠ [] := by
  unfold itoa
  split
  · exact List.cons_ne_nil _ _
  · exact dec_ne _
theorem itoa_no (n : Int) {c : UInt8} (h : c.toNat ≠ 45) (h2 : c.toNat < 48 ∨ 57 < c.toNat) : c ∉ itoa n := by
  intro hc
  rcases itoa_byte n c hc with h' | h'
  · exact h h'
  · omega
/-- What digits spell, behind what stood before. -/
def spell (acc : Nat) (l : List UInt8) : Nat := l.foldl (fun a c => a * 10 + (c.toNat - 48)) acc
theorem spell_nil (acc : Nat) : spell acc [] = acc := rfl
theorem spell_cons (acc : Nat) (c : UInt8) (l : List UInt8) : spell acc (c :: l) = spell (acc * 10 + (c.toNat - 48)) l := by unfold spell; rw [List.foldl_cons]
theorem spell_snoc (acc : Nat) (l : List UInt8) (c : UInt8) : spell acc (l ++ [c]) = spell acc l * 10 + (c.toNat - 48) := by simp [spell]
theorem spell_ge (l : List UInt8) : ∀ acc, acc ≤ spell acc l := by
  induction l with
  | nil => intro acc; exact Nat.le_refl _
  | cons c l ih => intro acc; rw [spell_cons]; have := ih (acc * 10 + (c.toNat - 48)); omega
theorem spell_dec : ∀ (u : Nat), spell 0 (decDigits u) = u := by
  intro u
  induction u using Nat.strongRecOn with
  | ind u ih =>
    by_cases h : u < 10
    · rw [dec_small h, spell_cons, digit_nat h]; simp [spell_nil]
    · rw [dec_big h, spell_snoc, ih (u / 10) (by omega), digit_nat (by omega)]; omega
theorem parse_spell (l : List UInt8) : ∀ acc, (∀ c ∈ l, 48 ≤ c.toNat ∧ c.toNat ≤ 57) → spell acc l < 18446744073709551616 → parseUint10 acc l = .ok (spell acc l) := by
  induction l with
  | nil => intro acc _ _; rfl
  | cons c l ih =>
    intro acc hd hs
    have hc := hd c (by simp)
    rw [spell_cons] at hs ⊢
    have hge := spell_ge l (acc * 10 + (c.toNat - 48))
    simp only [parseUint10]
    have g1 : ¬ 1844674407370955162 ≤ acc := by omega
    have g2 : ¬ 18446744073709551616 ≤ acc * 10 + (c.toNat - 48) := by omega
    simp only [if_pos hc, if_neg g1, if_neg g2]
    exact ih _ (fun x hx => hd x (List.mem_cons_of_mem _ hx)) hs
theorem mag_dec {u : Nat} (h : u < 18446744073709551616) : parseMag (decDigits u) = .ok u := by
  rw [parseMag, if_neg (dec_ne u), parse_spell _ 0 (dec_digit u) (by rw [spell_dec]; exact h), spell_dec]
theorem atoi_itoa {n : Int} (h0 : -9223372036854775808 ≤ n) (h1 : n ≤ 9223372036854775807) : atoiAll (itoa n) = .ok n := by
  unfold itoa
  split
  · rename_i hn
    rw [atoiAll_minus, mag_dec (by omega)]
    simp only [signed]
    rw [if_neg (by omega)]
    congr 1; omega
  · rename_i hn
    obtain ⟨c, r, hcr⟩ : ∃ c r, decDigits n.toNat = c :: r := List.exists_cons_of_ne_nil (dec_ne _)
    have hc := dec_digit n.toNat c (by rw [hcr]; simp)
    rw [hcr, atoiAll_plain c r (by omega) (by omega), ← hcr, mag_dec (by omega)]
    simp only [signless]
    rw [if_neg (by omega)]
    congr 1; omega
theorem itoa_inj {a b : Int} (ha0 : -9223372036854775808 ≤ a) (ha1 : a ≤ 9223372036854775807) (hb0 : -9223372036854775808 ≤ b) (hb1 : b ≤ 9223372036854775807) (h : itoa a = itoa b) : a = b := by
  have := atoi_itoa ha0 ha1
  rw [h, atoi_itoa hb0 hb1] at this
  injection this with this
  exact this.symm
/-- The number that a text is, written in the usual way. -/
def canon (t : List UInt8) : Option Int :=
  match atoiAll t with
  | .ok v => if itoa v = t then some v else none
  | _ => none
theorem canon_some {t : List UInt8} {v : Int} (h : canon t = some v) : atoiAll t = .ok v ∧ itoa v = t ∧ -9223372036854775808 ≤ v ∧ v ≤ 9223372036854775807 := by
  unfold canon at h
  split at h
  · rename_i x hx
    split at h
    · rename_i hi
      injection h with h
      subst h
      exact ⟨hx, hi, atoiAll_bounds hx⟩
    · cases h
  · cases h
theorem canon_itoa {n : Int} (h0 : -9223372036854775808 ≤ n) (h1 : n ≤ 9223372036854775807) : canon (itoa n) = some n := by
  unfold canon; rw [atoi_itoa h0 h1]; simp
/-- .. and that may be told. -/
def told1 (x : Int) : Bool := decide (-1000000000 ≤ x) && decide (x ≤ 1000000000)
def numTold (t : List UInt8) : Option Int := (canon t).bind fun v => if told1 v then some v else none
/-- What a reader of a number says: if yes, it is that number; if no, it is none that may be told. -/
def NumIs (t : List UInt8) (n : Int) (b : Bool) : Prop := (b = true → canon t = some n) ∧ (b = false → numTold t = none)
theorem NumIs.yes {t : List UInt8} {n : Int} (h : NumIs t n true) : numTold t = if told1 n then some n else none := by
  unfold numTold; rw [h.1 rfl]; rfl
theorem NumIs.no {t : List UInt8} {n : Int} (h : NumIs t n false) : numTold t = none := h.2 rfl
/-- The reference's own loop over digits. -/
def valFrom (acc : Nat) : List UInt8 → Option Nat
  | [] => some acc
  | c :: l => if (48 ≤ c.toNat ∧ c.toNat ≤ 57) ∧ acc ≤ 1000000000 then valFrom (acc * 10 + (c.toNat - 48)) l else none
theorem valFrom_le (l : List UInt8) : ∀ acc u, acc ≤ 10000000009 → valFrom acc l = some u → u ≤ 10000000009 := by
  induction l with
  | nil => intro acc u ha h; simp only [valFrom, Option.some.injEq] at h; omega
  | cons c l ih =>
    intro acc u ha h
    rw [valFrom] at h
    split at h
    · exact ih _ _ (by omega) h
    · cases h
theorem valFrom_spell (l : List UInt8) : ∀ acc, (∀ c ∈ l, 48 ≤ c.toNat ∧ c.toNat ≤ 57) → spell acc l ≤ 1000000000 → valFrom acc l = some (spell acc l) := by
  induction l with
  | nil => intro acc _ _; rfl
  | cons c l ih =>
    intro acc hd hs
    have hc := hd c (by simp)
    rw [spell_cons] at hs ⊢
    have hge := spell_ge l (acc * 10 + (c.toNat - 48))
    rw [valFrom, if_pos ⟨hc, by omega⟩]
    exact ih _ (fun x hx => hd x (by simp [hx])) hs
/-- What the reference's reader of numbers comes to. -/
def refVal (t : List UInt8) : Option Int :=
  match t with
  | [] => some 0
  | c :: r => if c = 45 then (valFrom 0 r).map (fun (u : Nat) => -(u : Int)) else (valFrom 0 (c :: r)).map (fun (u : Nat) => (u : Int))
theorem refVal_told {v : Int} (h : told1 v = true) : refVal (itoa v) = some v := by
  simp only [told1, Bool.and_eq_true, decide_eq_true_eq] at h
  unfold itoa
  split
  · rename_i hn
    rw [show refVal (45 :: decDigits v.natAbs) = (valFrom 0 (decDigits v.natAbs)).map (fun (u : Nat) => -(u : Int)) from rfl]
    rw [valFrom_spell _ 0 (dec_digit _) (by rw [spell_dec]; omega), spell_dec]
    show some (-((v.natAbs : Nat) : Int)) = some _
    congr 1; omega
  · rename_i hn
    obtain ⟨c, r, hcr⟩ : ∃ c r, decDigits v.toNat = c :: r := List.exists_cons_of_ne_nil (dec_ne _)
    have hc := dec_digit v.toNat c (by rw [hcr]; simp)
    have hne : c ≠ 45 := by intro e; subst e; exact absurd hc.1 (by decide)
    rw [hcr]
    simp only [refVal, if_neg hne]
    rw [← hcr, valFrom_spell _ 0 (dec_digit _) (by rw [spell_dec]; omega), spell_dec]
    show some ((v.toNat : Nat) : Int) = some _
    congr 1; omega
theorem refVal_bd {t : List UInt8} {v : Int} (h : refVal t = some v) : -10000000009 ≤ v ∧ v ≤ 10000000009 := by
  unfold refVal at h
  split at h
  · injection h with h; omega
  · rename_i c r
    split at h
    · obtain ⟨u, hu, hv⟩ : ∃ u : Nat, valFrom 0 r = some u ∧ -(u : Int) = v := Option.map_eq_some_iff.1 h
      have := valFrom_le r 0 u (by omega) hu
      omega
    · obtain ⟨u, hu, hv⟩ : ∃ u : Nat, valFrom 0 (c :: r) = some u ∧ (u : Int) = v := Option.map_eq_some_iff.1 h
      have := valFrom_le (c :: r) 0 u (by omega) hu
      omega
theorem refVal_some {t : List UInt8} {v : Int} (h : refVal t = some v) : NumIs t v (decide (itoa v = t)) := by
  have hb := refVal_bd h
  refine ⟨fun e => ?_, fun e => ?_⟩
  · rw [decide_eq_true_eq] at e
    rw [← e]; exact canon_itoa (by omega) (by omega)
  · rw [decide_eq_false_iff_not] at e
    unfold numTold
    cases hc : canon t with
    | none => rfl
    | some x =>
      obtain ⟨_, hi, _, _⟩ := canon_some hc
      show (if told1 x = true then some x else none) = none
      by_cases ht : told1 x = true
      · exfalso
        have := refVal_told ht
        rw [hi, h] at this
        injection this with this
        exact e (by rw [this]; exact hi)
      · rw [if_neg ht]
theorem refVal_none {t : List UInt8} (h : refVal t = none) (n : Int) : NumIs t n false := by
  refine ⟨fun e => (by cases e), fun _ => ?_⟩
  unfold numTold
  cases hc : canon t with
  | none => rfl
  | some x =>
    obtain ⟨_, hi, _, _⟩ := canon_some hc
    show (if told1 x = true then some x else none) = none
    by_cases ht : told1 x = true
    · exfalso
      have := refVal_told ht
      rw [hi, h] at this
      cases this
    · rw [if_neg ht]
/-! Parts of a text -/
/-- The parts of a text between bytes c. -/
def parts (c : UInt8) : List UInt8 → List (List UInt8)
  | [] => [[]]
  | b :: l => if b = c then [] :: parts c l else match parts c l with | [] => [[b]] | x :: r => (b :: x) :: r
theorem parts_ne (c : UInt8) (l : List UInt8) : parts c l ≠ [] := by
  cases l with
  | nil => simp [parts]
  | cons b l =>
    rw [parts]
    split
    · simp
    · split <;> simp
theorem parts_none {c : UInt8} {l : List UInt8} (h : c ∉ l) : parts c l = [l] := by
  induction l with
  | nil => rfl
  | cons b l ih =>
    simp only [List.mem_cons, not_or] at h
    rw [parts, if_neg (fun e => h.1 e.symm), ih h.2]
theorem parts_cut {c : UInt8} {l : List UInt8} (r : List UInt8) (h : c ∉ l) : parts c (l ++ c :: r) = l :: parts c r := by
  induction l with
  | nil => simp [parts]
  | cons b l ih =>
    simp only [List.mem_cons, not_or] at h
    rw [List.cons_append, parts, if_neg (fun e => h.1 e.symm), ih h.2]
theorem index_one (c : UInt8) : ∀ s : List UInt8, index s [c] = indexByte s c := by
  intro s
  induction s with
  | nil => rfl
  | cons b l ih => 
    rw [index, indexByte, ih]
    have : [c].isPrefixOf (b :: l) = (b == c) := by simp [List.isPrefixOf, Bool.beq_comm]
    rw [this]
theorem index_cut (c : UInt8) (s : List UInt8) : (index s [c] = -1 ∧ c ∉ s) ∨ ∃ a r, s = a ++ c :: r ∧ c ∉ a ∧ index s [c] = (a.length : Int) := by
  induction s with
  | nil => exact .inl ⟨rfl, by simp⟩
  | cons b l ih =>
    by_cases hb : b = c
    · subst hb
      exact .inr ⟨[], l, rfl, by simp, by simp [index, List.isPrefixOf]⟩
    · have hp : [c].isPrefixOf (b :: l) = false := by simpa [List.isPrefixOf] using fun e => hb e.symm
      rcases ih with ⟨hi, hn⟩ | ⟨a, r, rfl, hn, hi⟩
      · exact .inl ⟨by rw [index, hp, hi]; rfl, by simp only [List.mem_cons, not_or]; exact ⟨fun e => hb e.symm, hn⟩⟩
      · refine .inr ⟨b :: a, r, rfl, by simp only [List.mem_cons, not_or]; exact ⟨fun e => hb e.symm, hn⟩, ?_⟩
        rw [index, hp, hi]
        have h1 : ((a.length : Int) == -1) = false := by rw [beq_eq_false_iff_ne]; omega
        simp [h1]
theorem split_parts (c : UInt8) : ∀ (k : Nat) (s : List UInt8), s.count c = k → splitK [c] 0 k s = parts c s := by
  intro k
  induction k with
  | zero =>
    intro s h
    rw [splitK, parts_none (List.count_eq_zero.1 h)]
  | succ k ih =>
    intro s h
    rcases index_cut c s with ⟨_, hn⟩ | ⟨a, r, rfl, hn, hi⟩
    · rw [List.count_eq_zero.2 hn] at h; cases h
    · have h1 : ((a.length : Int) == -1) = false := by rw [beq_eq_false_iff_ne]; omega
      rw [splitK, hi, h1, parts_cut r hn]
      simp only [Bool.false_eq_true, if_false, Int.toNat_natCast, Nat.add_zero, List.length_singleton]
      rw [List.take_left' rfl]
      have hd : List.drop (a.length + 1) (a ++ c :: r) = r := by simp [List.drop_append]
      rw [hd, ih r]
      rw [List.count_append, List.count_eq_zero.2 hn, List.count_cons_self] at h
      omega
theorem split_eq (c : UInt8) (s : List UInt8) : split s [c] = parts c s := by
  rw [split, count_one]; exact split_parts c _ s rfl
end Go.Proofs.YtbldegmanbmpmaaGreatDoor
