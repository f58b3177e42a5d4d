/- From a computed run to a call's contract; a row's last step. Conditions: none. -/
import Derived.Test.YtbdgmbaflfmooaaGreatDoorRcExt
import Derived.Below
import Derived.ChangeSame
import Derived.RowKit
set_option linter.unusedVariables false
set_option linter.unusedSimpArgs false
namespace Go.Rc
open Go.RowKit Go.WideShapes Go.ChangeShapes

/-- A walk that owns nothing at its begin. -/
def Ctx.start (P : Program) (w : World) : Ctx := { P := P, w0 := w, own0 := fun _ => False, F0 := fun b => b < w.heap.size, n := 0, ds := [] }

theorem Sat.start (P : Program) (w : World) : Sat (Ctx.start P w) [] [] w where
  len := rfl
  obj := fun i o h h1 => by simp at h1
  dist := fun i j o o' h h' b h1 => by simp at h1
  own := fun b ⟨i, o, h, h1, _⟩ => by simp at h1
  os := rfl
  tape := rfl
  output := rfl
  size := Nat.le_refl _
  frame := fun b _ _ => rfl
  f0 := fun b h => ⟨h, fun h => h⟩

theorem Fz.start {P : Program} {w : World} {b : Nat} (h : b < w.heap.size) : Fz (Ctx.start P w) [] [] w b := .inl h

theorem Sat.below {P : Program} {w w' : World} {ρ : List Value} {H : Heap} (h : Sat (Ctx.start P w) ρ H w') : Below w.heap.size w w' :=
  ⟨h.os, h.tape, h.output, h.size, fun k hk => h.frame k hk (fun h => h)⟩

theorem calls_of_callsV {P : Program} (hN : NameOk P) {f : FuncId} {fn : Func} {c : Code} (hf : P.funcs[f]? = some fn) (hb : fn.body = some c) {xs : Array Value} {w : World} {R : Ending → World → Prop} (h : CallsV P f xs w R) : Calls P f xs w R := by
  rcases h with h | ⟨x, h, _⟩
  · exact h.2
  · rw [run_callFunc hN hf hb xs w] at h
    cases h

/-- An answer is true. -/
noncomputable def isT (v : AV) (_ : HS) : Prop := match v with
  | .d (.v (.bool b)) => boolP b True False
  | _ => False

noncomputable def noP (_ : AV) (_ : HS) : Prop := False
noncomputable def noLT : LT := fun _ _ => none
theorem noLT_ok {P : Program} : LtOk P noLT := fun f fn body b g _ _ _ h => by cases h

/-- A function's run, computed from nothing in the heap. -/
noncomputable def runA (P : Program) (ct : CT) (lt : LT) (k : Nat) (f : FuncId) (args : List AV) (κ π : KV) : Prop := fK P (tiOf P) (runK P (tiOf P) ct lt k) f args ⟨.nil, 0⟩ κ π

theorem calls_true {P : Program} (hN : NameOk P) (hm : P.follows .mixedOrders = true) {ct : CT} (hct : CtOk P ct) {lt : LT} (hlt : LtOk P lt) {k : Nat} {f : FuncId} {fn : Func} {c : Code} (hf : P.funcs[f]? = some fn) (hb : fn.body = some c) {args : List AV} {xs : Array Value} {w : World}
    (hargs : AllR (VR [] (Fz (Ctx.start P w) [] [] w) w) args xs.toList) (hr : runA P ct lt k f args isT noP = True) : Calls P f xs w fun e w' => e = .returned (.bool true) ∧ Below w.heap.size w w' := by
  refine calls_of_callsV hN hf hb (fK_ok (tiOf_ok P) hN (runK_ok (tiOf_ok P) hN hm hct hlt k) f args ⟨.nil, 0⟩ isT noP (Ctx.start P w) [] [] w xs rfl (Sat.start P w) ⟨rfl, fun i o h => by rw [Tr.get_nil] at h; cases h⟩ hargs (show runA P ct lt k f args isT noP by rw [hr]; trivial) _ (fun v hs' hk ρ' H' w' x s1 s2 s3 s4 => ⟨?_, s1.below⟩) (fun v hs' hk => hk.elim))
  unfold isT at hk
  split at hk
  · rename_i b
    cases b with
    | true =>
      generalize hv : D.v (Value.bool true) = dv at s4
      cases s4 with
      | d _ _ hd =>
        subst hv
        cases hd
        rfl
    | false => exact hk.elim
  · exact hk.elim

/-- A law's last step: it answers one value; its arguments read as they read before; what was there is there as it was. -/
theorem law_post {H : Type} {enc : TypeId × Value → H} {P : Program} {f : Func} {s : ChangeSpec} {apart fresh handsOn again : Bool} {W W' : World} {args : Array Value} {v : Value} {ds : List (DataW H)} {before : List MemPlace}
    (hW : DataW.Whole enc P f.params.toList s.vars apart W args.toList ds [] before) (hvars : s.vars = []) (hfn : (s.fn H ds).vars = [])
    (hres : ∀ (b : Nat) (sp : Nat → Bool) (hd : Bool), DataW.TrodAll enc P W' b sp hd f.resultTypes.toList (v.resultList f.resultTypes.size) (s.fn H ds).results [])
    (hargs : ∀ sp : Nat → Bool, (∀ p ∈ before, sp p.block = true) → DataW.TrodAll enc P W' 0 sp true f.params.toList args.toList (s.fn H ds).args before)
    (hb : Below W.heap.size W W')
    (hok : ∀ (j : Nat) (t : TypeId) (r : Value), f.resultTypes[j]? = some t → (v.resultList f.resultTypes.size)[j]? = some r → Value.okWide P W' .any 0 t r) :
    s.post enc P f apart fresh handsOn again W args v W' := by
  have hlt : ∀ p ∈ before, p.block < W.heap.size := fun p hp => hW.lt p hp
  have hvv : ∀ sp : Nat → Bool, DataW.TrodVars enc P W' sp s.vars (s.fn H (ds ++ [])).vars [] := fun sp => by
    rw [List.append_nil, hvars, hfn]
    rfl
  have e : s.fn H (ds ++ []) = s.fn H ds := by rw [List.append_nil]
  have hargs' : ∀ sp : Nat → Bool, (∀ p ∈ before, sp p.block = true) → DataW.TrodAll enc P W' 0 sp true f.params.toList args.toList (s.fn H (ds ++ [])).args before := fun sp h => by rw [e]; exact hargs sp h
  have hres' : ∀ (b : Nat) (sp : Nat → Bool) (hd : Bool), DataW.TrodAll enc P W' b sp hd f.resultTypes.toList (v.resultList f.resultTypes.size) (s.fn H (ds ++ [])).results [] := fun b sp hd => by rw [e]; exact hres b sp hd
  refine ⟨ds, [], before, [], before, [], hW, hres' _ _ _, hargs' (fun b => decide (b < W.heap.size)) (fun p hp => decide_eq_true (hlt p hp)), hvv _, World.keptBut_mono (fun p hp => ⟨hp, .inr (by simpa using hp)⟩) (hb.frame (· ∈ before)), fun _ => ?_⟩
  obtain ⟨_, _, _, _, _, hz, hn⟩ := hW
  refine ⟨hok, _, _, ([] ++ before) ++ [], ⟨[] ++ before, [], trodAll_append (hargs' _ (fun _ _ => rfl)) (hres' _ _ _), hvv _, rfl, fun b off hp => ?_, fun ha => by simpa using hn ha⟩, fun p hp _ => by simpa using hp⟩
  have hin : MemPlace.cell b off ∈ before := by simpa using hp
  rw [hb.frozen (hlt _ hin)]
  exact hz b off hin

end Go.Rc
