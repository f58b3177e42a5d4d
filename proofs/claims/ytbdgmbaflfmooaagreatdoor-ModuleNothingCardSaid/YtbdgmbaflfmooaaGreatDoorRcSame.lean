/- Which values are surely the same; which operations leave memory alone; what must be ahead of what in a region. Conditions: none. -/
import Derived.Test.YtbdgmbaflfmooaaGreatDoorRcEval
import Derived.OrdersIn
set_option linter.unusedVariables false
set_option linter.unusedSimpArgs false
namespace Go.Rc

/-! ### operations that change memory -/
/-- Operations that may change memory, or call. -/
def isAct : Op → Bool
  | .alloc _ => true
  | .box _ _ => true
  | .buildSlice _ _ _ => true
  | .store _ _ _ => true
  | .makeMap _ _ => true
  | .mapUpdate _ _ _ _ => true
  | .call c => match c.callee with
    | .builtin .len => false
    | _ => true
  | .defer _ => true
  | .panic _ => true
  | .range _ _ => true
  | .next _ _ => true
  | _ => false

theorem len_same {T : Tb} {c : Call} {ev : Ev} {hs hs' : HS} {v : AV} (hc : c.callee = .builtin .len) (h : stepB T c ev hs = .ok v hs') : hs' = hs := by
  obtain ⟨callee, args, argTypes⟩ := c
  simp only at hc
  subst hc
  rw [stepB_eq] at h
  simp only [stepB0] at h
  repeat' split at h
  all_goals first | (cases h; rfl) | cases h

theorem quiet_same {T : Tb} {op : Op} {ev : Ev} {hs hs' : HS} {v : AV} (hq : isAct op = false) (h : stepO T op ev hs = .ok v hs') : hs' = hs := by
  rw [stepO_eq] at h
  cases op with
  | call c =>
    refine len_same (c := c) ?_ (by unfold stepO0 at h; exact h)
    simp only [isAct] at hq
    split at hq
    · assumption
    · cases hq
  | alloc => cases hq
  | box => cases hq
  | buildSlice => cases hq
  | store => cases hq
  | makeMap => cases hq
  | mapUpdate => cases hq
  | defer => cases hq
  | panic => cases hq
  | range => cases hq
  | next => cases hq
  | _ =>
    unfold stepO0 at h
    simp only at h
    repeat' split at h
    all_goals first | contradiction | (cases h; rfl) | cases h

end Go.Rc
