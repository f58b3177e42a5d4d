/- Steps one behind the other. Conditions: none. -/
import Derived.Test.YtbdgmbaflfmooaaGreatDoorRcStepH
set_option linter.unusedVariables false
namespace Go.Rc

theorem Step.trans {ρ ρ' ρ'' : List Value} {H H' H'' : Heap} {w w' w'' : World} (h : Step ρ ρ' H H' w w') (k : Step ρ' ρ'' H' H'' w' w'') : Step ρ ρ'' H H'' w w'' where
  os := k.os.trans h.os
  tape := k.tape.trans h.tape
  output := k.output.trans h.output
  size := Nat.le_trans h.size k.size
  blocks := fun b hb hn => by
    have h1 := h.blocks b hb hn
    rw [k.blocks b (Nat.lt_of_lt_of_le hb h.size) (fun ho => ?_), h1]
    rcases h.own b ho with h2 | h2
    · exact hn h2
    · omega
  own := fun b hb => by
    rcases k.own b hb with h1 | h1
    · exact h.own b h1
    · exact .inr (Nat.le_trans h.size h1)
  rp := h.rp.trans k.rp

end Go.Rc
