/- What the text of a log is, and the log with a text (chapter 11), in plain Lean: no program in sight. -/
import Derived.Test.YtbldegmanbmpmaaGreatDoorP0
import Derived.Test.YtbldegmanbmpmaaGreatDoorA0
namespace Go.Proofs.YtbldegmanbmpmaaGreatDoor
open Go.Lib
/-- A number lies from lo to hi. -/
def inn (lo hi x : Int) : Bool := decide (lo ≤ x) && decide (x ≤ hi)
theorem inn_iff {lo hi x : Int} : inn lo hi x = true ↔ lo ≤ x ∧ x ≤ hi := by simp [inn]
theorem inn_not {lo hi x : Int} : inn lo hi x = false ↔ ¬ (lo ≤ x ∧ x ≤ hi) := by rw [← inn_iff]; simp
def inAll (lo hi : Int) (xs : List Int) : Bool := xs.all (inn lo hi)
theorem told1_inn (x : Int) : told1 x = inn (-1000000000) 1000000000 x := rfl
/-! Seals -/
def sealW (b : Int) (l : List UInt8) : Int := l.foldl (fun b c => (b * 17 + (c.toNat : Int)) % 65521) b
theorem sealW_nil (b : Int) : sealW b [] = b := rfl
theorem sealW_snoc (b : Int) (l : List UInt8) (c : UInt8) : sealW b (l ++ [c]) = (sealW b l * 17 + (c.toNat : Int)) % 65521 := by simp [sealW]
theorem sealW_bd (b : Int) (l : List UInt8) (h : 0 ≤ b ∧ b ≤ 65520) : 0 ≤ sealW b l ∧ sealW b l ≤ 65520 := by
  induction l generalizing b with
  | nil => exact h
  | cons c l ih =>
    show 0 ≤ sealW ((b * 17 + (c.toNat : Int)) % 65521) l ∧ sealW ((b * 17 + (c.toNat : Int)) % 65521) l ≤ 65520
    exact ih _ (by omega)
theorem take_snoc (s : ByteArray) (k : Nat) (h : k < s.size) : s.data.toList.take (k + 1) = s.data.toList.take k ++ [s[k]] := by
  rw [List.take_succ_eq_append_getElem (by simpa using h)]; rfl
theorem sealW_take (b : Int) (s : ByteArray) (k : Nat) (h : k < s.size) : sealW b (s.data.toList.take (k + 1)) = (sealW b (s.data.toList.take k) * 17 + (s[k].toNat : Int)) % 65521 := by
  rw [take_snoc s k h, sealW_snoc]
theorem sealW_all (b : Int) (s : ByteArray) (k : Nat) (h : s.size ≤ k) : sealW b (s.data.toList.take k) = sealW b s.data.toList := by
  rw [List.take_of_length_le (by rw [← size_eq]; exact h)]
/-! Deeds -/
def kDay : ByteArray := { data := #[100, 97, 121] }
def kRow : ByteArray := { data := #[114, 111, 119] }
def kNote : ByteArray := { data := #[110, 111, 116, 101] }
def kShut : ByteArray := { data := #[115, 104, 117, 116] }
def kPrint : ByteArray := { data := #[112, 114, 105, 110, 116] }
def kFactory : ByteArray := { data := #[102, 97, 99, 116, 111, 114, 121] }
def kDrawing : ByteArray := { data := #[100, 114, 97, 119, 105, 110, 103] }
def kBatch : ByteArray := { data := #[98, 97, 116, 99, 104] }
def kGrant : ByteArray := { data := #[103, 114, 97, 110, 116] }
def kWithdraw : ByteArray := { data := #[119, 105, 116, 104, 100, 114, 97, 119] }
def kRestore : ByteArray := { data := #[114, 101, 115, 116, 111, 114, 101] }
/-- How many numbers a word needs. -/
def needsW (w : ByteArray) : Option (Int × Int) :=
  if w = kDay then some (1, 1) else if w = kRow then some (3, 10) else if w = kNote then some (6, 6) else if w = kShut then some (1, 1)
  else if w = kPrint then some (2, 2) else if w = kFactory then some (1, 1) else if w = kDrawing then some (1, 1) else if w = kBatch then some (2, 5)
  else if w = kGrant then some (10, 13) else if w = kWithdraw then some (1, 1) else if w = kRestore then some (1, 1) else none
def countedW (w : ByteArray) (n : Int) : Bool := match needsW w with | some (a, b) => inn a b n | none => false
def knownW (d : De) : Bool := countedW d.word d.nums.length && inAll (-1000000000) 1000000000 d.nums
theorem needsW_bd {w : ByteArray} {a b : Int} (h : needsW w = some (a, b)) : w.size ≤ 8 ∧ b ≤ 13 := by
  unfold needsW at h
  by_cases h1 : w = kDay
  · rw [if_pos h1] at h; subst h1; cases h; exact ⟨by decide, by omega⟩
  rw [if_neg h1] at h
  by_cases h2 : w = kRow
  · rw [if_pos h2] at h; subst h2; cases h; exact ⟨by decide, by omega⟩
  rw [if_neg h2] at h
  by_cases h3 : w = kNote
  · rw [if_pos h3] at h; subst h3; cases h; exact ⟨by decide, by omega⟩
  rw [if_neg h3] at h
  by_cases h4 : w = kShut
  · rw [if_pos h4] at h; subst h4; cases h; exact ⟨by decide, by omega⟩
  rw [if_neg h4] at h
  by_cases h5 : w = kPrint
  · rw [if_pos h5] at h; subst h5; cases h; exact ⟨by decide, by omega⟩
  rw [if_neg h5] at h
  by_cases h6 : w = kFactory
  · rw [if_pos h6] at h; subst h6; cases h; exact ⟨by decide, by omega⟩
  rw [if_neg h6] at h
  by_cases h7 : w = kDrawing
  · rw [if_pos h7] at h; subst h7; cases h; exact ⟨by decide, by omega⟩
  rw [if_neg h7] at h
  by_cases h8 : w = kBatch
  · rw [if_pos h8] at h; subst h8; cases h; exact ⟨by decide, by omega⟩
  rw [if_neg h8] at h
  by_cases h9 : w = kGrant
  · rw [if_pos h9] at h; subst h9; cases h; exact ⟨by decide, by omega⟩
  rw [if_neg h9] at h
  by_cases h10 : w = kWithdraw
  · rw [if_pos h10] at h; subst h10; cases h; exact ⟨by decide, by omega⟩
  rw [if_neg h10] at h
  by_cases h11 : w = kRestore
  · rw [if_pos h11] at h; subst h11; cases h; exact ⟨by decide, by omega⟩
  rw [if_neg h11] at h
  cases h
theorem knownW_bd {d : De} (h : knownW d = true) : d.word.size ≤ 8 ∧ d.nums.length ≤ 13 ∧ ∀ x ∈ d.nums, -1000000000 ≤ x ∧ x ≤ 1000000000 := by
  simp only [knownW, Bool.and_eq_true, inAll, List.all_eq_true] at h
  obtain ⟨hc, ha⟩ := h
  unfold countedW at hc
  split at hc
  · rename_i a b hn
    have hb := needsW_bd hn
    have hi := inn_iff.1 hc
    exact ⟨hb.1, by omega, fun x hx => inn_iff.1 (ha x hx)⟩
  · cases hc
/-- A line up to its third bar. -/
def bodyW (n : Int) (d : De) : List UInt8 := itoa n ++ (124 :: (d.word.data.toList ++ (124 :: (join (d.nums.map itoa) [44] ++ [124]))))
theorem itoa_len {n : Int} (h0 : -9223372036854775808 ≤ n) (h1 : n ≤ 9223372036854775807) : (itoa n).length ≤ 21 := itoa_length_le n h0 h1
def fits (x : Int) : Prop := -9223372036854775808 ≤ x ∧ x ≤ 9223372036854775807
theorem lens_itoa (xs : List Int) (h : ∀ x ∈ xs, fits x) : lens (xs.map itoa) ≤ 21 * xs.length := by
  induction xs with
  | nil => simp [lens]
  | cons x l ih =>
    have h1 := itoa_len (h x (by simp)).1 (h x (by simp)).2
    have h2 := ih (fun y hy => h y (by simp [hy]))
    simp only [lens, List.map_cons, List.sum_cons, List.length_cons] at h2 ⊢
    omega
theorem join_itoa_len (xs : List Int) (h : ∀ x ∈ xs, fits x) : (join (xs.map itoa) [44]).length ≤ 22 * xs.length := by
  cases xs with
  | nil => simp [join, List.intercalate]
  | cons x l =>
    have h1 := lens_itoa (x :: l) h
    rw [List.map_cons, join_length]
    rw [List.map_cons] at h1
    simp only [List.length_map, List.length_cons, List.length_nil, Nat.zero_add, Nat.one_mul] at h1 ⊢
    omega
theorem bodyW_len {n : Int} {d : De} (hn : fits n) (h : ∀ x ∈ d.nums, fits x) : (bodyW n d).length ≤ 24 + d.word.size + 22 * d.nums.length := by
  have h1 := itoa_len hn.1 hn.2
  have h2 := join_itoa_len d.nums h
  simp only [bodyW, List.length_append, List.length_cons, List.length_nil, ← size_eq]
  omega
/-! Writing -/
def wrFrom (i : Nat) (s : Int) (acc : List UInt8) : List De → Option (List UInt8)
  | [] => some acc
  | d :: l => if knownW d then wrFrom (i + 1) (sealW s (bodyW ((i : Int) + 1) d)) (acc ++ (bodyW ((i : Int) + 1) d ++ (itoa (sealW s (bodyW ((i : Int) + 1) d)) ++ [10]))) l else none
def writeW (xs : List De) : List UInt8 × Int :=
  if 150 < xs.length then ([], 2) else match wrFrom 0 0 [] xs with | none => ([], 2) | some t => if 12000 < t.length then ([], 9) else (t, 0)
theorem writeW_long {xs : List De} (h : 150 < xs.length) : writeW xs = ([], 2) := by rw [writeW, if_pos h]
theorem writeW_none {xs : List De} (h : ¬ 150 < xs.length) (h1 : wrFrom 0 0 [] xs = none) : writeW xs = ([], 2) := by rw [writeW, if_neg h, h1]
theorem writeW_full {xs : List De} {t : List UInt8} (h : ¬ 150 < xs.length) (h1 : wrFrom 0 0 [] xs = some t) (h2 : 12000 < t.length) : writeW xs = ([], 9) := by rw [writeW, if_neg h, h1]; simp [h2]
theorem writeW_ok {xs : List De} {t : List UInt8} (h : ¬ 150 < xs.length) (h1 : wrFrom 0 0 [] xs = some t) (h2 : ¬ 12000 < t.length) : writeW xs = (t, 0) := by rw [writeW, if_neg h, h1]; simp [h2]
/-! Reading -/
def canonsFrom (acc : List Int) : List (List UInt8) → Option (List Int)
  | [] => some acc
  | t :: l => match canon t with | some x => canonsFrom (acc ++ [x]) l | none => none
def deedOf (n : Int) (t : List UInt8) : Option (De × Int) :=
  match parts 124 t with
  | [a, b, c, d] =>
    if a = itoa n then
      match canonsFrom [] (parts 44 c) with
      | some xs => match canon d with
        | some s => if inn 0 65520 s && knownW ⟨⟨b.toArray⟩, xs⟩ then some (⟨⟨b.toArray⟩, xs⟩, s) else none
        | none => none
      | none => none
    else none
  | _ => none
/-- A line: the error (113, 114, or 0), the deed, the seal. -/
def lineW (n before : Int) (t : List UInt8) : Int × De × Int :=
  match deedOf n t with
  | none => (113, noDe, 0)
  | some (d, s) => if s = sealW before (bodyW n d) then (0, d, s) else (114, noDe, 0)
def rdFrom (log : List De) (s : Int) (cur : List UInt8) : List UInt8 → List De × Int × Int
  | [] => if cur = [] then (log, 0, 0) else ([], (log.length : Int) + 1, 113)
  | c :: l =>
    if c = 10 then
      if 150 < log.length + 1 then ([], (log.length : Int) + 1, 113)
      else if (lineW ((log.length : Int) + 1) s cur).1 = 0 then rdFrom (log ++ [(lineW ((log.length : Int) + 1) s cur).2.1]) (lineW ((log.length : Int) + 1) s cur).2.2 [] l
      else ([], (log.length : Int) + 1, (lineW ((log.length : Int) + 1) s cur).1)
    else rdFrom log s (cur ++ [c]) l
def readW (t : List UInt8) : List De × Int × Int := if 12000 < t.length then ([], 0, 9) else rdFrom [] 0 [] t
theorem rdFrom_pre (log : List De) (s : Int) (pre l : List UInt8) : ∀ cur, 10 ∉ pre → rdFrom log s cur (pre ++ l) = rdFrom log s (cur ++ pre) l := by
  induction pre with
  | nil => intro cur _; simp
  | cons c p ih =>
    intro cur h
    simp only [List.mem_cons, not_or] at h
    rw [List.cons_append, rdFrom, if_neg (fun e => h.1 e.symm), ih _ h.2]
    simp
end Go.Proofs.YtbldegmanbmpmaaGreatDoor
