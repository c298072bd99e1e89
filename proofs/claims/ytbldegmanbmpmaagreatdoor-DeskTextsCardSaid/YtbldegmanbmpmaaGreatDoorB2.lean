/- The program's table of words, and its counted, tellable and known: what they return. -/
import Derived.Test.YtbldegmanbmpmaaGreatDoorB1
import Derived.WideMake
namespace Go.Proofs.YtbldegmanbmpmaaGreatDoor
open Go.RowKit Go.Shelf
/-- The table of words, entry by entry. -/
def wayL : List MapEntry := [⟨.string { data := #[100, 97, 121] }, .agg #[.int .i64 1, .int .i64 1, .func (.func 51) #[] #[]], 0⟩, ⟨.string { data := #[114, 111, 119] }, .agg #[.int .i64 3, .int .i64 10, .func (.func 52) #[] #[]], 1⟩, ⟨.string { data := #[110, 111, 116, 101] }, .agg #[.int .i64 6, .int .i64 6, .func (.func 53) #[] #[]], 2⟩, ⟨.string { data := #[115, 104, 117, 116] }, .agg #[.int .i64 1, .int .i64 1, .func (.func 54) #[] #[]], 3⟩, ⟨.string { data := #[112, 114, 105, 110, 116] }, .agg #[.int .i64 2, .int .i64 2, .func (.func 55) #[] #[]], 4⟩, ⟨.string { data := #[102, 97, 99, 116, 111, 114, 121] }, .agg #[.int .i64 1, .int .i64 1, .func (.func 56) #[] #[]], 5⟩, ⟨.string { data := #[100, 114, 97, 119, 105, 110, 103] }, .agg #[.int .i64 1, .int .i64 1, .func (.func 57) #[] #[]], 6⟩, ⟨.string { data := #[98, 97, 116, 99, 104] }, .agg #[.int .i64 2, .int .i64 5, .func (.func 58) #[] #[]], 7⟩, ⟨.string { data := #[103, 114, 97, 110, 116] }, .agg #[.int .i64 10, .int .i64 13, .func (.func 59) #[] #[]], 8⟩, ⟨.string { data := #[119, 105, 116, 104, 100, 114, 97, 119] }, .agg #[.int .i64 1, .int .i64 1, .func (.func 60) #[] #[]], 9⟩, ⟨.string { data := #[114, 101, 115, 116, 111, 114, 101] }, .agg #[.int .i64 1, .int .i64 1, .func (.func 61) #[] #[]], 10⟩]
def wayE (i : Nat) : Array MapEntry := (wayL.take i).toArray
theorem run_ins (es : Array MapEntry) (c : Nat) (s : ByteArray) (v : Value) (w : World) (hf : Instr.findNow .string (.string s) es.toList 0 = some none) :
    (Instr.mapUpdate 84 (.map (some w.heap.size)) (.string s) v).run Tryz.prog (w.alloc (.map es c)) = .ok () (w.alloc (.map (es.push ⟨.string s, v, c⟩) (c + 1))) := by
  have hm : Tryz.prog.underlying 84 = some (.map 9 82) := Tryz.underlying84
  have hk : Tryz.prog.underlying 9 = some .string := Tryz.underlying9
  have hb : (w.alloc (.map es c)).heap[w.heap.size]? = some (.map es c) := heap_alloc_new w _
  have hc : (Instr.checkKey false 10000 9 (.string s)).run Tryz.prog (w.alloc (.map es c)) = .ok () (w.alloc (.map es c)) := MapKept.run_checkKey (k := .string s) hk (by simp [MapKept.IsKey]) false 9999
  have hw : ∀ o : Obj, ({ (w.alloc (.map es c)) with heap := (w.alloc (.map es c)).heap.setIfInBounds w.heap.size o } : World) = w.alloc o := by
    intro o
    show ({ w with heap := (w.heap.push (.map es c)).setIfInBounds w.heap.size o } : World) = { w with heap := w.heap.push o }
    have : (w.heap.push (.map es c)).setIfInBounds w.heap.size o = w.heap.push o := by
      apply Array.ext_getElem?
      intro i
      rw [Array.getElem?_setIfInBounds, Array.getElem?_push, Array.getElem?_push]
      by_cases h : w.heap.size = i
      · subst h; simp
      · rw [if_neg h]
        have h' : ¬ i = w.heap.size := fun e => h e.symm
        rw [if_neg h', if_neg h']
    rw [this]
  simp [Instr.mapUpdate, run_underlying hm, MapKept.run_getObj_map hb, hc, MapKept.run_findKey hk hf, MapKept.run_setObj_map _ hb, Result.andThen]
  exact hw _
theorem ins0 (w : World) : (Instr.mapUpdate 84 (.map (some w.heap.size)) (.string { data := #[100, 97, 121] }) (.agg #[.int .i64 1, .int .i64 1, .func (.func 51) #[] #[]])).run Tryz.prog (w.alloc (.map #[] 0)) = .ok () (w.alloc (.map (wayE 1) 1)) := run_ins #[] 0 _ _ w (by kernel_rfl)
theorem ins1 (w : World) : (Instr.mapUpdate 84 (.map (some w.heap.size)) (.string { data := #[114, 111, 119] }) (.agg #[.int .i64 3, .int .i64 10, .func (.func 52) #[] #[]])).run Tryz.prog (w.alloc (.map (wayE 1) 1)) = .ok () (w.alloc (.map (wayE 2) 2)) := run_ins (wayE 1) 1 _ _ w (by kernel_rfl)
theorem ins2 (w : World) : (Instr.mapUpdate 84 (.map (some w.heap.size)) (.string { data := #[110, 111, 116, 101] }) (.agg #[.int .i64 6, .int .i64 6, .func (.func 53) #[] #[]])).run Tryz.prog (w.alloc (.map (wayE 2) 2)) = .ok () (w.alloc (.map (wayE 3) 3)) := run_ins (wayE 2) 2 _ _ w (by kernel_rfl)
theorem ins3 (w : World) : (Instr.mapUpdate 84 (.map (some w.heap.size)) (.string { data := #[115, 104, 117, 116] }) (.agg #[.int .i64 1, .int .i64 1, .func (.func 54) #[] #[]])).run Tryz.prog (w.alloc (.map (wayE 3) 3)) = .ok () (w.alloc (.map (wayE 4) 4)) := run_ins (wayE 3) 3 _ _ w (by kernel_rfl)
theorem ins4 (w : World) : (Instr.mapUpdate 84 (.map (some w.heap.size)) (.string { data := #[112, 114, 105, 110, 116] }) (.agg #[.int .i64 2, .int .i64 2, .func (.func 55) #[] #[]])).run Tryz.prog (w.alloc (.map (wayE 4) 4)) = .ok () (w.alloc (.map (wayE 5) 5)) := run_ins (wayE 4) 4 _ _ w (by kernel_rfl)
theorem ins5 (w : World) : (Instr.mapUpdate 84 (.map (some w.heap.size)) (.string { data := #[102, 97, 99, 116, 111, 114, 121] }) (.agg #[.int .i64 1, .int .i64 1, .func (.func 56) #[] #[]])).run Tryz.prog (w.alloc (.map (wayE 5) 5)) = .ok () (w.alloc (.map (wayE 6) 6)) := run_ins (wayE 5) 5 _ _ w (by kernel_rfl)
theorem ins6 (w : World) : (Instr.mapUpdate 84 (.map (some w.heap.size)) (.string { data := #[100, 114, 97, 119, 105, 110, 103] }) (.agg #[.int .i64 1, .int .i64 1, .func (.func 57) #[] #[]])).run Tryz.prog (w.alloc (.map (wayE 6) 6)) = .ok () (w.alloc (.map (wayE 7) 7)) := run_ins (wayE 6) 6 _ _ w (by kernel_rfl)
theorem ins7 (w : World) : (Instr.mapUpdate 84 (.map (some w.heap.size)) (.string { data := #[98, 97, 116, 99, 104] }) (.agg #[.int .i64 2, .int .i64 5, .func (.func 58) #[] #[]])).run Tryz.prog (w.alloc (.map (wayE 7) 7)) = .ok () (w.alloc (.map (wayE 8) 8)) := run_ins (wayE 7) 7 _ _ w (by kernel_rfl)
theorem ins8 (w : World) : (Instr.mapUpdate 84 (.map (some w.heap.size)) (.string { data := #[103, 114, 97, 110, 116] }) (.agg #[.int .i64 10, .int .i64 13, .func (.func 59) #[] #[]])).run Tryz.prog (w.alloc (.map (wayE 8) 8)) = .ok () (w.alloc (.map (wayE 9) 9)) := run_ins (wayE 8) 8 _ _ w (by kernel_rfl)
theorem ins9 (w : World) : (Instr.mapUpdate 84 (.map (some w.heap.size)) (.string { data := #[119, 105, 116, 104, 100, 114, 97, 119] }) (.agg #[.int .i64 1, .int .i64 1, .func (.func 60) #[] #[]])).run Tryz.prog (w.alloc (.map (wayE 9) 9)) = .ok () (w.alloc (.map (wayE 10) 10)) := run_ins (wayE 9) 9 _ _ w (by kernel_rfl)
theorem ins10 (w : World) : (Instr.mapUpdate 84 (.map (some w.heap.size)) (.string { data := #[114, 101, 115, 116, 111, 114, 101] }) (.agg #[.int .i64 1, .int .i64 1, .func (.func 61) #[] #[]])).run Tryz.prog (w.alloc (.map (wayE 10) 10)) = .ok () (w.alloc (.map (wayE 11) 11)) := run_ins (wayE 10) 10 _ _ w (by kernel_rfl)
set_option maxRecDepth 100000 in
set_option maxHeartbeats 1000000 in
theorem c41 (w : World) : Calls Tryz.prog 41 #[] w fun e w' => e = .returned (.map (some w.heap.size)) ∧ w.alloc (.map (wayE 11) 11) = w' := by
  have hmm := @run_makeMap Tryz.prog
  have h0 := ins0 w
  have h1 := ins1 w
  have h2 := ins2 w
  have h3 := ins3 w
  have h4 := ins4 w
  have h5 := ins5 w
  have h6 := ins6 w
  have h7 := ins7 w
  have h8 := ins8 w
  have h9 := ins9 w
  have h10 := ins10 w
  go_enter Tryz.func41, Tryz.ntmps41
  go_wp2
  go_ret
  exact ⟨rfl, rfl⟩
end Go.Proofs.YtbldegmanbmpmaaGreatDoor
