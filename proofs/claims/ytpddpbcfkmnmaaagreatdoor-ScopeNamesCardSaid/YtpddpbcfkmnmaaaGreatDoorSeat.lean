/- What the computed runs of this seat lean on: the program's names, its two outside functions, and that the law's own closed check answers true. Conditions: none. -/
import Derived.Test.YtpddpbcfkmnmaaaGreatDoorRcTop
import Derived.Test.YtpddpbcfkmnmaaaGreatDoorProg
import Derived.KernelRfl
namespace Go.Proofs.YtpddpbcfkmnmaaaGreatDoor
open Go.Rc
theorem names : (Tryz.prog.funcs.toList.all fun fn => !(fn.name == "runtime.NumGoroutine")) = true := by kernel_rfl
theorem nameOk : NameOk Tryz.prog := by
  intro f fn h
  have := List.all_eq_true.1 names fn (by rw [← Array.getElem?_toList] at h; exact List.mem_of_getElem? h)
  simpa using this
theorem mixed : Tryz.prog.follows .mixedOrders = true := by kernel_rfl
theorem ib : ∀ args w, (callFunc 237 args).run Tryz.prog w = ((Extern.BytealgIndexByte.indexByte args).run Tryz.prog w).andThen fun v w' => .ok (.value v) w' :=
  fun args w => run_callFunc_extern (P := Tryz.prog) (fn := Tryz.f237) (e := Extern.BytealgIndexByte.indexByte) Tryz.func237 (by kernel_rfl) (by kernel_rfl) (by kernel_rfl) (by kernel_rfl) args w
theorem cs : ∀ args w, (callFunc 111 args).run Tryz.prog w = ((Extern.BytealgCompare.compare args).run Tryz.prog w).andThen fun v w' => .ok (.value v) w' :=
  fun args w => run_callFunc_extern (P := Tryz.prog) (fn := Tryz.f111) (e := Extern.BytealgCompare.compare) Tryz.func111 (by kernel_rfl) (by kernel_rfl) (by kernel_rfl) (by kernel_rfl) args w
theorem ext : CallOk Tryz.prog (ctExt 237 111) := ctExt_ok ib cs
/-- The law's own closed check answers true. -/
theorem awakeT : isT (runA Tryz.prog (ctExt 237 111) 100000 8 []) = true := by kernel_rfl
theorem awake_calls (w : World) : Calls Tryz.prog 8 #[] w fun e w' => e = .returned (.bool true) ∧ Go.RowKit.Below w.heap.size w w' :=
  calls_true nameOk mixed ext Tryz.func8 rfl AllR.nil awakeT
end Go.Proofs.YtpddpbcfkmnmaaaGreatDoor
