/- The program's counted, tellable and known: what they return. -/
import Derived.Test.YtbldegmanbmpmaaGreatDoorA3
import Derived.Test.YtbldegmanbmpmaaGreatDoorB2
import Derived.Laws.EntriesVeiled
namespace Go.Proofs.YtbldegmanbmpmaaGreatDoor
open Go.RowKit Go.Shelf
def LookIs (s : ByteArray) (x : Value) (ok : Bool) : Prop := ∀ (W : World) (r : Nat), W.heap[r]? = some (.map (wayE 11) 11) → (Instr.lookup 84 (.map (some r)) (.string s) true).run Tryz.prog W = .ok (.tuple #[x, .bool ok]) W
theorem look_run (s : ByteArray) (x : Option (Nat × Value)) (hf : Instr.findNow .string (.string s) (wayE 11).toList 0 = some x) (W : World) (r : Nat) (h : W.heap[r]? = some (.map (wayE 11) 11)) :
    (Instr.lookup 84 (.map (some r)) (.string s) true).run Tryz.prog W = (match x with | some (_, v) => .ok (.tuple #[v, .bool true]) W | none => .ok (.tuple #[.agg #[.int .i64 0, .int .i64 0, .nilFunc], .bool false]) W) := by
  have hm : Tryz.prog.underlying 84 = some (.map 9 82) := Tryz.underlying84
  have hk : Tryz.prog.underlying 9 = some .string := Tryz.underlying9
  have hc : (Instr.checkKey (wayE 11).isEmpty 10000 9 (.string s)).run Tryz.prog W = .ok () W := MapKept.run_checkKey (k := .string s) hk (by simp [MapKept.IsKey]) _ 9999
  cases x with
  | none => simp [Instr.lookup, run_underlying hm, MapKept.run_getObj_map h, hc, MapKept.run_findKey hk hf, Result.andThen, Tryz.zeroValue82]
  | some y => simp [Instr.lookup, run_underlying hm, MapKept.run_getObj_map h, hc, MapKept.run_findKey hk hf, Result.andThen]
theorem look_way (s : ByteArray) : (∃ a b k, needsW s = some (a, b) ∧ LookIs s (.agg #[.int .i64 a, .int .i64 b, .func (.func k) #[] #[]]) true) ∨ (needsW s = none ∧ LookIs s (.agg #[.int .i64 0, .int .i64 0, .nilFunc]) false) := by
  by_cases h0 : s = kDay
  · subst h0
    exact .inl ⟨1, 1, 51, rfl, look_run _ (some (0, .agg #[.int .i64 1, .int .i64 1, .func (.func 51) #[] #[]])) (by kernel_rfl)⟩
  by_cases h1 : s = kRow
  · subst h1
    exact .inl ⟨3, 10, 52, rfl, look_run _ (some (1, .agg #[.int .i64 3, .int .i64 10, .func (.func 52) #[] #[]])) (by kernel_rfl)⟩
  by_cases h2 : s = kNote
  · subst h2
    exact .inl ⟨6, 6, 53, rfl, look_run _ (some (2, .agg #[.int .i64 6, .int .i64 6, .func (.func 53) #[] #[]])) (by kernel_rfl)⟩
  by_cases h3 : s = kShut
  · subst h3
    exact .inl ⟨1, 1, 54, rfl, look_run _ (some (3, .agg #[.int .i64 1, .int .i64 1, .func (.func 54) #[] #[]])) (by kernel_rfl)⟩
  by_cases h4 : s = kPrint
  · subst h4
    exact .inl ⟨2, 2, 55, rfl, look_run _ (some (4, .agg #[.int .i64 2, .int .i64 2, .func (.func 55) #[] #[]])) (by kernel_rfl)⟩
  by_cases h5 : s = kFactory
  · subst h5
    exact .inl ⟨1, 1, 56, rfl, look_run _ (some (5, .agg #[.int .i64 1, .int .i64 1, .func (.func 56) #[] #[]])) (by kernel_rfl)⟩
  by_cases h6 : s = kDrawing
  · subst h6
    exact .inl ⟨1, 1, 57, rfl, look_run _ (some (6, .agg #[.int .i64 1, .int .i64 1, .func (.func 57) #[] #[]])) (by kernel_rfl)⟩
  by_cases h7 : s = kBatch
  · subst h7
    exact .inl ⟨2, 5, 58, rfl, look_run _ (some (7, .agg #[.int .i64 2, .int .i64 5, .func (.func 58) #[] #[]])) (by kernel_rfl)⟩
  by_cases h8 : s = kGrant
  · subst h8
    exact .inl ⟨10, 13, 59, rfl, look_run _ (some (8, .agg #[.int .i64 10, .int .i64 13, .func (.func 59) #[] #[]])) (by kernel_rfl)⟩
  by_cases h9 : s = kWithdraw
  · subst h9
    exact .inl ⟨1, 1, 60, rfl, look_run _ (some (9, .agg #[.int .i64 1, .int .i64 1, .func (.func 60) #[] #[]])) (by kernel_rfl)⟩
  by_cases h10 : s = kRestore
  · subst h10
    exact .inl ⟨1, 1, 61, rfl, look_run _ (some (10, .agg #[.int .i64 1, .int .i64 1, .func (.func 61) #[] #[]])) (by kernel_rfl)⟩
  have e0 : (s == ({ data := #[100, 97, 121] } : ByteArray)) = false := by rw [beq_toListBytes]; exact (Lib.bytes_beq_false_iff _ _).2 h0
  have e1 : (s == ({ data := #[114, 111, 119] } : ByteArray)) = false := by rw [beq_toListBytes]; exact (Lib.bytes_beq_false_iff _ _).2 h1
  have e2 : (s == ({ data := #[110, 111, 116, 101] } : ByteArray)) = false := by rw [beq_toListBytes]; exact (Lib.bytes_beq_false_iff _ _).2 h2
  have e3 : (s == ({ data := #[115, 104, 117, 116] } : ByteArray)) = false := by rw [beq_toListBytes]; exact (Lib.bytes_beq_false_iff _ _).2 h3
  have e4 : (s == ({ data := #[112, 114, 105, 110, 116] } : ByteArray)) = false := by rw [beq_toListBytes]; exact (Lib.bytes_beq_false_iff _ _).2 h4
  have e5 : (s == ({ data := #[102, 97, 99, 116, 111, 114, 121] } : ByteArray)) = false := by rw [beq_toListBytes]; exact (Lib.bytes_beq_false_iff _ _).2 h5
  have e6 : (s == ({ data := #[100, 114, 97, 119, 105, 110, 103] } : ByteArray)) = false := by rw [beq_toListBytes]; exact (Lib.bytes_beq_false_iff _ _).2 h6
  have e7 : (s == ({ data := #[98, 97, 116, 99, 104] } : ByteArray)) = false := by rw [beq_toListBytes]; exact (Lib.bytes_beq_false_iff _ _).2 h7
  have e8 : (s == ({ data := #[103, 114, 97, 110, 116] } : ByteArray)) = false := by rw [beq_toListBytes]; exact (Lib.bytes_beq_false_iff _ _).2 h8
  have e9 : (s == ({ data := #[119, 105, 116, 104, 100, 114, 97, 119] } : ByteArray)) = false := by rw [beq_toListBytes]; exact (Lib.bytes_beq_false_iff _ _).2 h9
  have e10 : (s == ({ data := #[114, 101, 115, 116, 111, 114, 101] } : ByteArray)) = false := by rw [beq_toListBytes]; exact (Lib.bytes_beq_false_iff _ _).2 h10
  refine .inr ⟨needs_none h0 h1 h2 h3 h4 h5 h6 h7 h8 h9 h10, look_run s none ?_⟩
  simp only [wayE, wayL, List.take_succ_cons, List.take_zero, Instr.findNow, Instr.sameNow, e0, e1, e2, e3, e4, e5, e6, e7, e8, e9, e10]
def MapAt (w0 W : World) (bs : List (Nat × TypeId × List Value)) (r : Nat) : Prop := Inv w0 W bs ∧ W.heap[r]? = some (.map (wayE 11) 11)
theorem MapAt.alloc {w0 W : World} {bs : List (Nat × TypeId × List Value)} {r : Nat} (h : MapAt w0 W bs r) (o : Obj) : MapAt w0 (W.alloc o) bs r :=
  ⟨h.1.alloc o, (Below.heap_alloc W o r (Array.getElem?_eq_some_iff.1 h.2).1).trans h.2⟩
theorem mapAt_0 {w0 W : World} {bs : List (Nat × TypeId × List Value)} {r : Nat} (h : Inv w0 W bs) (hr : W.heap.size = r) : MapAt w0 (W.drew.alloc (.map (wayE 11) 11)) bs r := by
  subst hr
  exact ⟨h.drew.alloc _, heap_alloc_new W _⟩
theorem mapAt_1 {w0 W : World} {bs : List (Nat × TypeId × List Value)} {r : Nat} (h : Inv w0 W bs) (hr : W.heap.size = r) (o : Obj) : MapAt w0 ((W.alloc (.map (wayE 11) 11)).alloc o).drew bs r := by
  subst hr
  exact ⟨((h.alloc _).alloc _).drew, (Below.heap_alloc _ _ _ (by simp)).trans (heap_alloc_new W _)⟩
theorem mapAt_2 {w0 W : World} {bs : List (Nat × TypeId × List Value)} {r : Nat} (h : Inv w0 W bs) (o : Obj) (hr : W.heap.size + 1 = r) : MapAt w0 ((W.alloc o).alloc (.map (wayE 11) 11)).drew bs r := by
  subst hr
  exact ⟨((h.alloc _).alloc _).drew, by have := heap_alloc_new (W.alloc o) (.map (wayE 11) 11); rw [World.size_alloc] at this; exact this⟩
theorem counted_some {w : ByteArray} {a b n : Int} (h : needsW w = some (a, b)) : countedW w n = inn a b n := by unfold countedW; rw [h]
theorem counted_none {w : ByteArray} {n : Int} (h : needsW w = none) : countedW w n = false := by unfold countedW; rw [h]
set_option maxRecDepth 100000 in
set_option maxHeartbeats 2000000 in
theorem c25_yes (d : De) (A : Option Addr) (n c : Nat) (w : World) (hn : n ≤ 4611686018427387904) (a b : Int) (k : Nat) (hw : needsW d.word = some (a, b)) (hlook : LookIs d.word (.agg #[.int .i64 a, .int .i64 b, .func (.func k) #[] #[]]) true) :
    Calls Tryz.prog 25 #[.agg #[.string d.word, .slice A n c]] w fun e w' => e = .returned (.bool (countedW d.word n)) ∧ Below w.heap.size w w' := by
  obtain ⟨BS, hBS⟩ : ∃ bs : List (Nat × TypeId × List Value), bs = [(w.heap.size, 37, [.string d.word, .slice A n c])] := ⟨_, rfl⟩
  have I0 := (Inv.start w).new 37 [.string d.word, .slice A n c]
  rw [← hBS] at I0
  have K1 : ∀ W, Inv w W BS → Box W w.heap.size 37 [.string d.word, .slice A n c] := fun W I => by subst hBS; exact I.box
  have HK := Lib.hid K1
  have HI := Lib.hid I0
  have HL := Lib.hid hlook
  have HC := Lib.hid (counted_some (n := n) hw)
  clear hBS K1 I0 hlook hw
  go_enter Tryz.func25, Tryz.ntmps25
  go_wp2_with (fail)
  refine wp_region_forkG (Inv w · BS) [1, 2] 0 [(3, true), (4, true), (5, true), (6, true), (7, false), (8, false), (9, true)] 7 [(0, false), (3, true), (4, true), (5, true), (6, true), (8, false), (9, true)] (by kernel_rfl) (by kernel_rfl) rfl (by kernel_rfl) HI.out.drew (fun K1 hK1 => ?_)
  (refine gfork_take (v := ?_) (by simp only [List.getElem?_toArray, List.getElem?_cons_succ, List.getElem?_cons_zero] <;> rfl) (by rfl) (fun W hW => ?_) ?_; rotate_left; (· obtain ⟨p0, p1, _, _⟩ := (HK.out W hW).facts2; go_simp; with_reducible rfl); simp only [Act.put, List.setIfInBounds_toArray, List.set_cons_zero, List.set_cons_succ])
  (refine gfork_take (v := ?_) (by simp only [List.getElem?_toArray, List.getElem?_cons_succ, List.getElem?_cons_zero] <;> rfl) (by rfl) (fun W hW => ?_) ?_; rotate_left; (· obtain ⟨p0, p1, _, _⟩ := (HK.out W hW).facts2; go_simp; with_reducible rfl); simp only [Act.put, List.setIfInBounds_toArray, List.set_cons_zero, List.set_cons_succ])
  refine ⟨?_, ?_⟩
  · (refine gseq_do (by simp only [List.getElem?_toArray, List.getElem?_cons_succ, List.getElem?_cons_zero] <;> rfl) (by rfl) (fun K hK => ?_); go_simp; refine (c41 _).mono ?_; rintro e w1 ⟨rfl, rfl⟩; refine hK _ _ ⟨fun W => MapAt w W BS (w.heap.size + 1), fun W h => h.1, mapAt_0 HI.out (by simp), ?_⟩; clear hK K; try simp only [Act.put, List.setIfInBounds_toArray, List.set_cons_zero, List.set_cons_succ])
    (refine gseq_take (v := ?_) (by simp only [List.getElem?_toArray, List.getElem?_cons_succ, List.getElem?_cons_zero] <;> rfl) (by rfl) (fun W hW => ?_) ?_; rotate_left; (· have hl := HL.out W _ hW.2; go_simp; with_reducible rfl); simp only [Act.put, List.setIfInBounds_toArray, List.set_cons_zero, List.set_cons_succ])
    (refine gseq_take (v := ?_) (by simp only [List.getElem?_toArray, List.getElem?_cons_succ, List.getElem?_cons_zero] <;> rfl) (by rfl) (fun W hW => ?_) ?_; rotate_left; (· skip; go_simp; with_reducible rfl); simp only [Act.put, List.setIfInBounds_toArray, List.set_cons_zero, List.set_cons_succ])
    (refine gseq_take (v := ?_) (by simp only [List.getElem?_toArray, List.getElem?_cons_succ, List.getElem?_cons_zero] <;> rfl) (by rfl) (fun W hW => ?_) ?_; rotate_left; (· skip; go_simp; with_reducible rfl); simp only [Act.put, List.setIfInBounds_toArray, List.set_cons_zero, List.set_cons_succ])
    (refine gseq_take (v := ?_) (by simp only [List.getElem?_toArray, List.getElem?_cons_succ, List.getElem?_cons_zero] <;> rfl) (by rfl) (fun W hW => ?_) ?_; rotate_left; (· skip; go_simp; with_reducible rfl); simp only [Act.put, List.setIfInBounds_toArray, List.set_cons_zero, List.set_cons_succ])
    (refine gseq_do (by simp only [List.getElem?_toArray, List.getElem?_cons_succ, List.getElem?_cons_zero] <;> rfl) (by rfl) (fun K hK => ?_); go_simp; refine hK _ _ ⟨fun W => MapAt w W BS (w.heap.size + 1), fun W h => h, mapAt_1 HI.out (by simp) _, ?_⟩; clear hK K; try simp only [Act.put, List.setIfInBounds_toArray, List.set_cons_zero, List.set_cons_succ])
    (refine gseq_do (by simp only [List.getElem?_toArray, List.getElem?_cons_succ, List.getElem?_cons_zero] <;> rfl) (by rfl) (fun K hK => ?_); go_simp; refine hK _ _ ⟨fun W => MapAt w W BS (w.heap.size + 1), fun W h => h, mapAt_1 HI.out (by simp) _, ?_⟩; clear hK K; try simp only [Act.put, List.setIfInBounds_toArray, List.set_cons_zero, List.set_cons_succ])
    (refine gseq_take (v := ?_) (by simp only [List.getElem?_toArray, List.getElem?_cons_succ, List.getElem?_cons_zero] <;> rfl) (by rfl) (fun W hW => ?_) ?_; rotate_left; (· skip; go_simp; with_reducible rfl); simp only [Act.put, List.setIfInBounds_toArray, List.set_cons_zero, List.set_cons_succ])
    refine gseq_end hK1 ?_
    clear hK1 K1
    have I1 := (HI.out.alloc (.map (wayE 11) 11)).new 82 [.int .i64 a, .int .i64 b, .func (.func k) #[] #[]]
    obtain ⟨q0, q1, _, _⟩ := (HK.out _ I1.tail).facts2
    simp only [World.size_alloc] at I1
    obtain ⟨q2, q3, _, _, _, _⟩ := I1.box.facts3
    go_wp2_with (fail)
    clear q0 q1 q2 q3
    refine (c37_atd a b n _ _ (by simp)).mono ?_
    rintro e w1 ⟨rfl, hk⟩
    have I2 := (Inv.alloc (Inv.drew I1) _).call hk
    clear hk I1
    go_wp2
    go_ret
    exact ⟨ret_bool HC.out.symm, I2.1⟩
  · (refine gseq_do (by simp only [List.getElem?_toArray, List.getElem?_cons_succ, List.getElem?_cons_zero] <;> rfl) (by rfl) (fun K hK => ?_); go_simp; refine hK _ _ ⟨(Inv w · BS), fun W h => h, (HI.out.alloc _).drew, ?_⟩; clear hK K; try simp only [Act.put, List.setIfInBounds_toArray, List.set_cons_zero, List.set_cons_succ])
    (refine gseq_do (by simp only [List.getElem?_toArray, List.getElem?_cons_succ, List.getElem?_cons_zero] <;> rfl) (by rfl) (fun K hK => ?_); go_simp; refine (c41 _).mono ?_; rintro e w1 ⟨rfl, rfl⟩; refine hK _ _ ⟨fun W => MapAt w W BS (w.heap.size + 1 + 1), fun W h => h.1, mapAt_2 HI.out _ (by simp), ?_⟩; clear hK K; try simp only [Act.put, List.setIfInBounds_toArray, List.set_cons_zero, List.set_cons_succ])
    (refine gseq_take (v := ?_) (by simp only [List.getElem?_toArray, List.getElem?_cons_succ, List.getElem?_cons_zero] <;> rfl) (by rfl) (fun W hW => ?_) ?_; rotate_left; (· have hl := HL.out W _ hW.2; go_simp; with_reducible rfl); simp only [Act.put, List.setIfInBounds_toArray, List.set_cons_zero, List.set_cons_succ])
    (refine gseq_take (v := ?_) (by simp only [List.getElem?_toArray, List.getElem?_cons_succ, List.getElem?_cons_zero] <;> rfl) (by rfl) (fun W hW => ?_) ?_; rotate_left; (· skip; go_simp; with_reducible rfl); simp only [Act.put, List.setIfInBounds_toArray, List.set_cons_zero, List.set_cons_succ])
    (refine gseq_take (v := ?_) (by simp only [List.getElem?_toArray, List.getElem?_cons_succ, List.getElem?_cons_zero] <;> rfl) (by rfl) (fun W hW => ?_) ?_; rotate_left; (· skip; go_simp; with_reducible rfl); simp only [Act.put, List.setIfInBounds_toArray, List.set_cons_zero, List.set_cons_succ])
    (refine gseq_take (v := ?_) (by simp only [List.getElem?_toArray, List.getElem?_cons_succ, List.getElem?_cons_zero] <;> rfl) (by rfl) (fun W hW => ?_) ?_; rotate_left; (· skip; go_simp; with_reducible rfl); simp only [Act.put, List.setIfInBounds_toArray, List.set_cons_zero, List.set_cons_succ])
    (refine gseq_do (by simp only [List.getElem?_toArray, List.getElem?_cons_succ, List.getElem?_cons_zero] <;> rfl) (by rfl) (fun K hK => ?_); go_simp; refine hK _ _ ⟨fun W => MapAt w W BS (w.heap.size + 1 + 1), fun W h => h, mapAt_2 HI.out _ (by simp), ?_⟩; clear hK K; try simp only [Act.put, List.setIfInBounds_toArray, List.set_cons_zero, List.set_cons_succ])
    (refine gseq_take (v := ?_) (by simp only [List.getElem?_toArray, List.getElem?_cons_succ, List.getElem?_cons_zero] <;> rfl) (by rfl) (fun W hW => ?_) ?_; rotate_left; (· skip; go_simp; with_reducible rfl); simp only [Act.put, List.setIfInBounds_toArray, List.set_cons_zero, List.set_cons_succ])
    refine gseq_end hK1 ?_
    clear hK1 K1
    have I1 := (HI.out.new 82 [.int .i64 a, .int .i64 b, .func (.func k) #[] #[]]).alloc (.map (wayE 11) 11)
    obtain ⟨q0, q1, _, _⟩ := (HK.out _ (show Inv w _ BS from I1.tail)).facts2
    simp only [World.size_alloc] at I1
    obtain ⟨q2, q3, _, _, _, _⟩ := I1.box.facts3
    go_wp2_with (fail)
    clear q0 q1 q2 q3
    refine (c37_atd a b n _ _ (by simp)).mono ?_
    rintro e w1 ⟨rfl, hk⟩
    have I2 := (Inv.alloc (Inv.drew I1) _).call hk
    clear hk I1
    go_wp2
    go_ret
    exact ⟨ret_bool HC.out.symm, I2.1⟩
set_option maxRecDepth 100000 in
set_option maxHeartbeats 2000000 in
theorem c25_no (d : De) (A : Option Addr) (n c : Nat) (w : World) (hn : n ≤ 4611686018427387904) (hw : needsW d.word = none) (hlook : LookIs d.word (.agg #[.int .i64 0, .int .i64 0, .nilFunc]) false) :
    Calls Tryz.prog 25 #[.agg #[.string d.word, .slice A n c]] w fun e w' => e = .returned (.bool (countedW d.word n)) ∧ Below w.heap.size w w' := by
  obtain ⟨BS, hBS⟩ : ∃ bs : List (Nat × TypeId × List Value), bs = [(w.heap.size, 37, [.string d.word, .slice A n c])] := ⟨_, rfl⟩
  have I0 := (Inv.start w).new 37 [.string d.word, .slice A n c]
  rw [← hBS] at I0
  have K1 : ∀ W, Inv w W BS → Box W w.heap.size 37 [.string d.word, .slice A n c] := fun W I => by subst hBS; exact I.box
  have HK := Lib.hid K1
  have HI := Lib.hid I0
  have HL := Lib.hid hlook
  have HC := Lib.hid (counted_none (n := n) hw)
  clear hBS K1 I0 hlook hw
  go_enter Tryz.func25, Tryz.ntmps25
  go_wp2_with (fail)
  refine wp_region_forkG (Inv w · BS) [1, 2] 0 [(3, true), (4, true), (5, true), (6, true), (7, false), (8, false), (9, true)] 7 [(0, false), (3, true), (4, true), (5, true), (6, true), (8, false), (9, true)] (by kernel_rfl) (by kernel_rfl) rfl (by kernel_rfl) HI.out.drew (fun K1 hK1 => ?_)
  (refine gfork_take (v := ?_) (by simp only [List.getElem?_toArray, List.getElem?_cons_succ, List.getElem?_cons_zero] <;> rfl) (by rfl) (fun W hW => ?_) ?_; rotate_left; (· obtain ⟨p0, p1, _, _⟩ := (HK.out W hW).facts2; go_simp; with_reducible rfl); simp only [Act.put, List.setIfInBounds_toArray, List.set_cons_zero, List.set_cons_succ])
  (refine gfork_take (v := ?_) (by simp only [List.getElem?_toArray, List.getElem?_cons_succ, List.getElem?_cons_zero] <;> rfl) (by rfl) (fun W hW => ?_) ?_; rotate_left; (· obtain ⟨p0, p1, _, _⟩ := (HK.out W hW).facts2; go_simp; with_reducible rfl); simp only [Act.put, List.setIfInBounds_toArray, List.set_cons_zero, List.set_cons_succ])
  refine ⟨?_, ?_⟩
  · (refine gseq_do (by simp only [List.getElem?_toArray, List.getElem?_cons_succ, List.getElem?_cons_zero] <;> rfl) (by rfl) (fun K hK => ?_); go_simp; refine (c41 _).mono ?_; rintro e w1 ⟨rfl, rfl⟩; refine hK _ _ ⟨fun W => MapAt w W BS (w.heap.size + 1), fun W h => h.1, mapAt_0 HI.out (by simp), ?_⟩; clear hK K; try simp only [Act.put, List.setIfInBounds_toArray, List.set_cons_zero, List.set_cons_succ])
    (refine gseq_take (v := ?_) (by simp only [List.getElem?_toArray, List.getElem?_cons_succ, List.getElem?_cons_zero] <;> rfl) (by rfl) (fun W hW => ?_) ?_; rotate_left; (· have hl := HL.out W _ hW.2; go_simp; with_reducible rfl); simp only [Act.put, List.setIfInBounds_toArray, List.set_cons_zero, List.set_cons_succ])
    (refine gseq_take (v := ?_) (by simp only [List.getElem?_toArray, List.getElem?_cons_succ, List.getElem?_cons_zero] <;> rfl) (by rfl) (fun W hW => ?_) ?_; rotate_left; (· skip; go_simp; with_reducible rfl); simp only [Act.put, List.setIfInBounds_toArray, List.set_cons_zero, List.set_cons_succ])
    (refine gseq_take (v := ?_) (by simp only [List.getElem?_toArray, List.getElem?_cons_succ, List.getElem?_cons_zero] <;> rfl) (by rfl) (fun W hW => ?_) ?_; rotate_left; (· skip; go_simp; with_reducible rfl); simp only [Act.put, List.setIfInBounds_toArray, List.set_cons_zero, List.set_cons_succ])
    (refine gseq_take (v := ?_) (by simp only [List.getElem?_toArray, List.getElem?_cons_succ, List.getElem?_cons_zero] <;> rfl) (by rfl) (fun W hW => ?_) ?_; rotate_left; (· skip; go_simp; with_reducible rfl); simp only [Act.put, List.setIfInBounds_toArray, List.set_cons_zero, List.set_cons_succ])
    (refine gseq_do (by simp only [List.getElem?_toArray, List.getElem?_cons_succ, List.getElem?_cons_zero] <;> rfl) (by rfl) (fun K hK => ?_); go_simp; refine hK _ _ ⟨fun W => MapAt w W BS (w.heap.size + 1), fun W h => h, mapAt_1 HI.out (by simp) _, ?_⟩; clear hK K; try simp only [Act.put, List.setIfInBounds_toArray, List.set_cons_zero, List.set_cons_succ])
    (refine gseq_do (by simp only [List.getElem?_toArray, List.getElem?_cons_succ, List.getElem?_cons_zero] <;> rfl) (by rfl) (fun K hK => ?_); go_simp; refine hK _ _ ⟨fun W => MapAt w W BS (w.heap.size + 1), fun W h => h, mapAt_1 HI.out (by simp) _, ?_⟩; clear hK K; try simp only [Act.put, List.setIfInBounds_toArray, List.set_cons_zero, List.set_cons_succ])
    (refine gseq_take (v := ?_) (by simp only [List.getElem?_toArray, List.getElem?_cons_succ, List.getElem?_cons_zero] <;> rfl) (by rfl) (fun W hW => ?_) ?_; rotate_left; (· skip; go_simp; with_reducible rfl); simp only [Act.put, List.setIfInBounds_toArray, List.set_cons_zero, List.set_cons_succ])
    refine gseq_end hK1 ?_
    clear hK1 K1
    have I1 := (HI.out.alloc (.map (wayE 11) 11)).new 82 [.int .i64 0, .int .i64 0, .nilFunc]
    go_wp2
    go_ret
    exact ⟨ret_bool HC.out.symm, I1.drew.1⟩
  · (refine gseq_do (by simp only [List.getElem?_toArray, List.getElem?_cons_succ, List.getElem?_cons_zero] <;> rfl) (by rfl) (fun K hK => ?_); go_simp; refine hK _ _ ⟨(Inv w · BS), fun W h => h, (HI.out.alloc _).drew, ?_⟩; clear hK K; try simp only [Act.put, List.setIfInBounds_toArray, List.set_cons_zero, List.set_cons_succ])
    (refine gseq_do (by simp only [List.getElem?_toArray, List.getElem?_cons_succ, List.getElem?_cons_zero] <;> rfl) (by rfl) (fun K hK => ?_); go_simp; refine (c41 _).mono ?_; rintro e w1 ⟨rfl, rfl⟩; refine hK _ _ ⟨fun W => MapAt w W BS (w.heap.size + 1 + 1), fun W h => h.1, mapAt_2 HI.out _ (by simp), ?_⟩; clear hK K; try simp only [Act.put, List.setIfInBounds_toArray, List.set_cons_zero, List.set_cons_succ])
    (refine gseq_take (v := ?_) (by simp only [List.getElem?_toArray, List.getElem?_cons_succ, List.getElem?_cons_zero] <;> rfl) (by rfl) (fun W hW => ?_) ?_; rotate_left; (· have hl := HL.out W _ hW.2; go_simp; with_reducible rfl); simp only [Act.put, List.setIfInBounds_toArray, List.set_cons_zero, List.set_cons_succ])
    (refine gseq_take (v := ?_) (by simp only [List.getElem?_toArray, List.getElem?_cons_succ, List.getElem?_cons_zero] <;> rfl) (by rfl) (fun W hW => ?_) ?_; rotate_left; (· skip; go_simp; with_reducible rfl); simp only [Act.put, List.setIfInBounds_toArray, List.set_cons_zero, List.set_cons_succ])
    (refine gseq_take (v := ?_) (by simp only [List.getElem?_toArray, List.getElem?_cons_succ, List.getElem?_cons_zero] <;> rfl) (by rfl) (fun W hW => ?_) ?_; rotate_left; (· skip; go_simp; with_reducible rfl); simp only [Act.put, List.setIfInBounds_toArray, List.set_cons_zero, List.set_cons_succ])
    (refine gseq_take (v := ?_) (by simp only [List.getElem?_toArray, List.getElem?_cons_succ, List.getElem?_cons_zero] <;> rfl) (by rfl) (fun W hW => ?_) ?_; rotate_left; (· skip; go_simp; with_reducible rfl); simp only [Act.put, List.setIfInBounds_toArray, List.set_cons_zero, List.set_cons_succ])
    (refine gseq_do (by simp only [List.getElem?_toArray, List.getElem?_cons_succ, List.getElem?_cons_zero] <;> rfl) (by rfl) (fun K hK => ?_); go_simp; refine hK _ _ ⟨fun W => MapAt w W BS (w.heap.size + 1 + 1), fun W h => h, mapAt_2 HI.out _ (by simp), ?_⟩; clear hK K; try simp only [Act.put, List.setIfInBounds_toArray, List.set_cons_zero, List.set_cons_succ])
    (refine gseq_take (v := ?_) (by simp only [List.getElem?_toArray, List.getElem?_cons_succ, List.getElem?_cons_zero] <;> rfl) (by rfl) (fun W hW => ?_) ?_; rotate_left; (· skip; go_simp; with_reducible rfl); simp only [Act.put, List.setIfInBounds_toArray, List.set_cons_zero, List.set_cons_succ])
    refine gseq_end hK1 ?_
    clear hK1 K1
    have I1 := (HI.out.new 82 [.int .i64 0, .int .i64 0, .nilFunc]).alloc (.map (wayE 11) 11)
    go_wp2
    go_ret
    exact ⟨ret_bool HC.out.symm, I1.drew.1⟩
theorem c25 (d : De) (A : Option Addr) (n c : Nat) (w : World) (hn : n ≤ 4611686018427387904) :
    Calls Tryz.prog 25 #[.agg #[.string d.word, .slice A n c]] w fun e w' => e = .returned (.bool (countedW d.word n)) ∧ Below w.heap.size w w' := by
  rcases look_way d.word with ⟨a, b, k, h1, h2⟩ | ⟨h1, h2⟩
  · exact c25_yes d A n c w hn a b k h1 h2
  · exact c25_no d A n c w hn h1 h2
set_option maxHeartbeats 1000000 in
theorem c26 (A : Option Addr) (n c : Nat) (xs : List Int) (w : World) (hs : SlI w.heap.size w A n xs) :
    Calls Tryz.prog 26 #[.slice A n c] w fun e w' => e = .returned (.bool (inAll (-1000000000) 1000000000 xs)) ∧ Below w.heap.size w w' := by
  have HS := Lib.hid hs
  clear hs
  go_enter Tryz.func26, Tryz.ntmps26
  go_wp2_with (fail)
  refine (c37 _ _ A n c xs _ HS.out).mono ?_
  rintro e w1 ⟨rfl, hk⟩
  go_wp2
  go_ret
  exact ⟨rfl, hk⟩
set_option maxHeartbeats 1000000 in
theorem c10 (d : De) (A : Option Addr) (n c : Nat) (w : World) (hs : SlI w.heap.size w A n d.nums) :
    Calls Tryz.prog 10 #[.agg #[.string d.word, .slice A n c]] w fun e w' => e = .returned (.bool (knownW d)) ∧ Below w.heap.size w w' := by
  have HS := Lib.hid hs
  have hn := hs.2.1
  clear hs
  have I0 := (Inv.start w).new 37 [.string d.word, .slice A n c]
  have HK : Hid (knownW d = (countedW d.word n && inAll (-1000000000) 1000000000 d.nums)) := by show _ = _; rw [knownW, HS.out.1]
  have HI := Lib.hid I0
  clear I0
  go_enter Tryz.func10, Tryz.ntmps10
  go_wp2_with (fail)
  refine (c25 d A n c _ hn).mono ?_
  rintro e w1 ⟨rfl, hk⟩
  have I1 := HI.out.call hk
  clear hk
  cases hg : countedW d.word n
  · go_wp2
    go_ret
    exact ⟨ret_bool (by rw [HK.out, hg]; rfl), I1.1⟩
  · obtain ⟨q0, q1, _, _⟩ := I1.box.facts2
    go_wp2_with (fail)
    clear q0 q1
    refine (c26 A n c d.nums _ ((HS.out.below I1.1 (Nat.le_refl _)).up I1.size)).mono ?_
    rintro e w2 ⟨rfl, hk⟩
    have I2 := I1.call hk
    clear hk
    go_wp2
    go_ret
    exact ⟨ret_bool (by rw [HK.out, hg]; rfl), I2.1⟩
end Go.Proofs.YtbldegmanbmpmaaGreatDoor
