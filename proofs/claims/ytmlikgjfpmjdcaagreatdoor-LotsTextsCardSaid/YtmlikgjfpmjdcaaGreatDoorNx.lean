/- Small laws: what a hand leaves as it was; conditions: none. -/
import Derived.Test.YtmlikgjfpmjdcaaGreatDoorB3
namespace Go.Proofs.YtmlikgjfpmjdcaaGreatDoor
open Go.RowKit
theorem Cm.hand {B hb : Nat} {w w' : World} {vm vv : Value} {c : Com} (h : Cm (fun b => B ≤ b) w vm vv c) (ho : w.grownBy w' (some hb)) (hB : hb < B) : Cm (fun b => B ≤ b) w' vm vv c := h.only ho (by omega)
theorem Blk.hand {b hb : Nat} {cs : Array Value} {t : TypeId} {w w' : World} (h : Blk b cs t w) (ho : w.grownBy w' (some hb)) (hB : b ≠ hb) : Blk b cs t w' := h.keep (ho.block b h.lt (fun e => hB (by injection e)))
theorem bhand {a w w' : World} {hb : Nat} (h : Below a.heap.size a w) (ho : w.grownBy w' (some hb)) (hB : a.heap.size ≤ hb) : Below a.heap.size a w' := h.grown ho h.size (fun k e => by injection e with e; omega)
end Go.Proofs.YtmlikgjfpmjdcaaGreatDoor
