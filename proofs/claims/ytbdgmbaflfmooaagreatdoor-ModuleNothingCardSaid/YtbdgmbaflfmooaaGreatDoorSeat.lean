/- What the computed runs of this seat lean on: the program's names, its two outside functions; and the whole run of recastlaw7.ModuleNothing at any name and any set. Conditions: none. -/
import Derived.Test.YtbdgmbaflfmooaaGreatDoorRcTop
import Derived.Test.YtbdgmbaflfmooaaGreatDoorProg
import Derived.KernelRfl
namespace Go.Proofs.YtbdgmbaflfmooaaGreatDoor
open Go.Rc
theorem names : (Tryz.prog.funcs.toList.all fun fn => !(fn.name == "runtime.NumGoroutine")) = true := by kernel_rfl
theorem nameOk : NameOk Tryz.prog := by
  intro f fn h
  have := List.all_eq_true.1 names fn (by rw [← Array.getElem?_toList] at h; exact List.mem_of_getElem? h)
  simpa using this
theorem mixed : Tryz.prog.follows .mixedOrders = true := by kernel_rfl
theorem ib : ∀ args w, (callFunc 151 args).run Tryz.prog w = ((Extern.BytealgIndexByte.indexByte args).run Tryz.prog w).andThen fun v w' => .ok (.value v) w' :=
  fun args w => run_callFunc_extern (P := Tryz.prog) (fn := Tryz.f151) (e := Extern.BytealgIndexByte.indexByte) Tryz.func151 (by kernel_rfl) (by kernel_rfl) (by kernel_rfl) (by kernel_rfl) args w
theorem cs : ∀ args w, (callFunc 68 args).run Tryz.prog w = ((Extern.BytealgCompare.compare args).run Tryz.prog w).andThen fun v w' => .ok (.value v) w' :=
  fun args w => run_callFunc_extern (P := Tryz.prog) (fn := Tryz.f68) (e := Extern.BytealgCompare.compare) Tryz.func68 (by kernel_rfl) (by kernel_rfl) (by kernel_rfl) (by kernel_rfl) args w
theorem ext : CtOk Tryz.prog (ctExt 151 68) := ctExt_ok ib cs
/-- Three times two orders. -/
def Sp : Nat → Prop := fun n => Nat.rec (motive := fun _ => Prop) True (fun _ p => p ∧ p) n
theorem nothingT (p : ByteArray) (x : Go.Value) : runA Tryz.prog (ctExt 151 68) noLT 100000 5 [.d (.v (.string p)), .d (.v x)] isT noP = Sp 3 := by kernel_rfl
theorem sp3 : Sp 3 = True := eq_true ⟨⟨⟨trivial, trivial⟩, ⟨trivial, trivial⟩⟩, ⟨⟨trivial, trivial⟩, ⟨trivial, trivial⟩⟩⟩
/-- The law answers true at any name, and any set. -/
theorem nothing_calls (p : ByteArray) (x : Go.Value) (hx : x.isAgg = false) (w : World) : Calls Tryz.prog 5 #[.string p, x] w fun e w' => e = .returned (.bool true) ∧ Go.RowKit.Below w.heap.size w w' :=
  calls_true nameOk mixed ext noLT_ok Tryz.func5 rfl (.cons (.d _ _ (.v _ rfl)) (.cons (.d _ _ (.v _ hx)) .nil)) ((nothingT p x).trans sp3)
end Go.Proofs.YtbdgmbaflfmooaaGreatDoor
