/- The law of a range over a function, where the activation's slots in a round are told by a function of the loop's own. -/
import Derived.Test.YtbldegmanbmpmaaGreatDoorA2
namespace Go.Proofs.YtbldegmanbmpmaaGreatDoor
open Go.RowKit
variable {F : Fence} {n : Nat} {P : Program}
theorem wpIn_rangeC {α β : Type} {g : Operand} {ps : Array Tmp} {assign body : Code} {Q : Exit → Act → World → Prop} {a : Act} {w : World}
    (hro : F.round = none) (h1 : 1 ≤ n) {gf : Nat} {lb : Array Value} (hg : a.eval g = .func (.func gf) #[] lb) (hFg : F.fn gf) (eg : ∀ args w, (callFunc gf args).run P w = .ok (.enter gf args) w)
    {encs : α → Array Value} {Bt : Nat} {Kp : World → World → Prop} {S Sp : List α → Prop} (hseq : SeqB F (n - 1) P gf lb encs Bt Kp S Sp w) (hBt : Bt < w.heap.size)
    (hKt : ∀ {A B C : World}, Kp A B → Kp B C → Kp A C) (hKb : ∀ (W : World) (l : Nat) (o o' : Obj), w.heap.size ≤ l → W.heap[l]? = some o → Kp W (W.putObj l o')) (hps : ∀ x, (encs x).size = ps.size)
    (I : List α → World → Prop) (Ix : Code → List α → World → Prop) (hI : AbB Bt w.heap.size I) (hIx : ∀ c, AbB Bt w.heap.size (Ix c)) (h0 : I [] w)
    (slots : α → β → Array Value → Array Value) (R : List α → α → β → World → Prop) (hR : ∀ pre x y, AbB Bt w.heap.size (fun (_ : Unit) W => R pre x y W))
    (hassign : ∀ (l : Nat) (pre : List α) (x : α) (W : World) (K : Act → World → Prop), I pre W → (∀ y W', KeepsFrom w.heap.size W W' → Kp W W' → R pre x y W' → K { tmps := slots x y a.tmps, defers := [] } W') →
      assign.wpIn (F.inRound l) (n - 1 - 1) P (Exit.then K (fun _ _ _ => False)) { tmps := (ps.zip (encs x)).foldl (fun t (p, v) => t.setIfInBounds p v) a.tmps, defers := [] } W)
    (hbody : ∀ (l : Nat) (pre : List α) (x : α) (y : β) (W : World), R pre x y W → Sp (pre ++ [x]) → body.wpIn (F.inRound l) (n - 1 - 1) P (ownPostG w.heap.size Kp I Ix (pre ++ [x]) W) { tmps := slots x y a.tmps, defers := [] } W)
    (hdone : ∀ (D : Nat) (xs : List α) (W : World), w.heap.size ≤ D → S xs → I xs W → W.heap[D]? = some (.deferred (some [])) → Q .normal { a with defers := { target := .collected D, args := #[] } :: a.defers } W)
    (hstop : ∀ (D : Nat) (c : Code) (pre : List α) (W : World), w.heap.size ≤ D → Sp pre → Ix c pre W → W.heap[D]? = some (.deferred (some [])) → c.wpIn F n P Q { a with defers := { target := .collected D, args := #[] } :: a.defers } W) :
    (Code.rangeFunc g ps assign body).wpIn F n P Q a w :=
  wpIn_rangeB hro h1 hg hFg eg hseq hBt hKt hKb hps I Ix hI hIx h0 (fun pre x a' W => ∃ y, a' = { tmps := slots x y a.tmps, defers := [] } ∧ R pre x y W)
    (fun pre x a' s X Y row ⟨y, e, h⟩ hg hr => ⟨y, e, hR pre x y () X Y row h hg hr⟩)
    (fun l pre x W K hi hK => hassign l pre x W K hi (fun y W' k1 k2 r => hK _ _ k1 k2 ⟨y, rfl, r⟩))
    (fun l pre x a' W ⟨y, e, r⟩ hp => by subst e; exact hbody l pre x y W r hp) hdone hstop
end Go.Proofs.YtbldegmanbmpmaaGreatDoor
