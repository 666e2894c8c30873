/- A region that draws its order and whose callees make memory of their own: the class of all worlds that have grown. -/
import Derived.Test.YtmnlkcclcnnhmaaGreatDoorOwn
import Derived.Test.YtmnlkcclcnnhmaaGreatDoorQuiet
import Derived.BigQuiet
namespace Go.Proofs.YtmnlkcclcnnhmaaGreatDoor
open Go.RowKit

/-- the worlds that hold all of w, and perhaps more -/
def Ext (w : World) : Type := { w' : World // Below w.heap.size w w' }
instance (w : World) : Nonempty (Ext w) := ⟨⟨w, Below.refl _ _⟩⟩
theorem Ext.cell {w : World} (x : Ext w) {b off : Nat} (hb : b < w.heap.size) : x.1.cell? ⟨b, off, none⟩ = w.cell? ⟨b, off, none⟩ := x.2.cell (p := ⟨b, off, none⟩) hb
theorem wp_region_ext {P : Program} {id : Nat} {Q : Exit → Act → World → Prop} {a : Act} {w : World} {l : List Oper} (hm : P.follows .mixedOrders = true) (hB : Region.lexB .any l.toArray = true)
    (h : wpQuiet P l.toArray (fun w' => ∃ x : Ext w, w' = x.1) (fun a' => ∀ w', (∃ x : Ext w, w' = x.1) → Q .normal a' w') l a) : (Code.region id l.toArray true).wp P Q a w :=
  wp_region_quiet (C := fun w' => ∃ x : Ext w, w' = x.1) hm hB ⟨⟨w.drew, (Below.refl _ _).drew⟩, rfl⟩ (by simpa using h)
section
variable {P : Program} {f : FuncId} {args : Array Value} {w : World} {v : Value}
theorem ext_call {x : Ext w} (h : Calls P f args x.1 fun e w' => e = .returned v ∧ Below x.1.heap.size x.1 w') : Calls P f args x.1 fun e w'' => e = .returned v ∧ ∃ y : Ext w, w'' = y.1 :=
  h.mono fun _ w'' ⟨he, hb⟩ => ⟨he, ⟨w'', x.2.trans (hb.mono x.2.size)⟩, rfl⟩
theorem ext_same {x : Ext w} (h : Calls P f args x.1 fun e w' => e = .returned v ∧ x.1 = w') : Calls P f args x.1 fun e w'' => e = .returned v ∧ ∃ y : Ext w, w'' = y.1 :=
  h.mono fun _ _ ⟨he, hb⟩ => ⟨he, x, hb.symm⟩
theorem ext_dr {x : Ext w} (h : Calls P f args x.1 fun e w' => e = .returned v ∧ Dr x.1 w') : Calls P f args x.1 fun e w'' => e = .returned v ∧ ∃ y : Ext w, w'' = y.1 :=
  ext_call (h.mono fun _ _ ⟨he, hd⟩ => ⟨he, hd.below _⟩)
end
end Go.Proofs.YtmnlkcclcnnhmaaGreatDoor
