/- A run of a function, part 2: its soundness. Conditions: none. -/
import Derived.Test.YtbdgmbaflfmooaaGreatDoorRcRun
set_option linter.unusedVariables false
set_option linter.unusedSimpArgs false
namespace Go.Rc

variable {P : Program} {T : Tb}

theorem dfK_ok (hT : TbOk P T) {run : RunF} (hrun : RunOk P run) {f : FuncId} {args : List AV} {m : Option AV} {hs : HS} {κ : HS → Prop} {G : Ctx} {ρ : List Value} {H : Heap} {w : World} {xs : Array Value} {u : FrameMode}
    (hG : G.P = P) (hst : Sat G ρ H w) (hh : HtOk hs H) (hargs : AllR (VR ρ (Fz G ρ H w) w) args xs.toList) (hu : modeR ρ (Fz G ρ H w) w m u) (h : dfK P T run f args m hs κ) {R : Ending → FrameMode → World → Prop}
    (hR : ∀ hs', κ hs' → ∀ ρ' H' w' u' x, Sat G ρ' H' w' → Step ρ ρ' H H' w w' → Ht2 hs H hs' H' → settle u' = .returning → R (.returned x) u' w') : (∃ fn c, P.funcs[f]? = some fn ∧ fn.body = some c) ∧ CallsDIn Fence.wide 0 P f xs u w R := by
  unfold dfK at h
  split at h
  · rename_i fn hf
    split at h
    · rename_i id ops rest hb
      split at h
      · rename_i o0 o1 hops
        split at h
        · rename_i hg0
          split at h
          · rename_i hg1
            split at h
            · rename_i c ho0
              split at h
              · rename_i hc
                split at h
                · rename_i hl
                  have hl := Nat.le_of_ble_eq_true hl
                  split at h
                  · rename_i hres
                    split at h
                    · rename_i v1 hv1
                      refine ⟨⟨fn, _, hf, hb⟩, callsDIn_of_wpSIn hf hb trivial fun c₀ cs hmode => ?_⟩
                      refine wpSIn_seq (wpSIn_region ?_)
                      have henv := enter_env (N := fn.ntmps) hargs hl
                      generalize hv0 : mOr m = v0 at h hv1
                      have hexec : (execOp ({ tmps := xs ++ Array.replicate (fn.ntmps - xs.size) undef, defers := [] } : Act).eval o0).run P w = .ok .recover w := by
                        obtain ⟨callee, cargs, cts⟩ := c
                        simp only at hc
                        subst hc
                        simp only [execOp, ho0, resolve, invoke, builtin, Sem.run_bind, Sem.run_pure, Result.andThen_ok]
                      have hops' : ops = #[o0, o1] := toList2 hops
                      subst hops'
                      have hnil : fn.results = #[] := by simpa using hres
                      -- the rest, from a state behind recover
                      have fin : ∀ (x0 : Value) (cs' : List Frame) (u' : FrameMode), VR ρ (Fz G ρ H w) w v0 x0 → cs' = { c₀ with mode := u' } :: cs → settle u' = .returning →
                          wpOpsSIn Fence.wide 0 P #[o0, o1] (Exit.thenS (rest.wpSIn Fence.wide 0 P (bodyPostS P fn c₀ cs R)) (bodyPostS P fn c₀ cs R)) [1] (({ tmps := xs ++ Array.replicate (fn.ntmps - xs.size) undef, defers := [] } : Act).put o0.dst x0) cs' w := by
                        intro x0 cs' u' hx0 hcs hset
                        have henv0 := henv.put o0.dst hx0
                        simp only [wpOpsSIn]
                        have h1 : (#[o0, o1] : Array Oper)[1]? = some o1 := rfl
                        simp only [h1, Region.wanted, hg1, if_true]
                        refine ⟨fun _ _ => trivial, ?_⟩
                        have hex : ∃ y, (execOp (({ tmps := xs ++ Array.replicate (fn.ntmps - xs.size) undef, defers := [] } : Act).put o0.dst x0).eval o1).run P w = .ok (.value y) w ∧ VR ρ (Fz G ρ H w) w v1 y := by
                          split at hv1
                          · rename_i x ho1
                            exact ⟨_, by simp only [execOp, ho1]; rfl, henv0.ev x _ hv1⟩
                          · cases hv1
                        obtain ⟨y, hy, hvy⟩ := hex
                        rw [hy]
                        simp only [wpOpsSIn, Exit.thenS]
                        have hInF : InF P fn.ntmps (some f) rest := fun f' e => by
                          cases e
                          exact ⟨fn, _, hf, hb, rfl, fun b hb' => by simp [loopsOf, hb']⟩
                        refine wpSIn_of_wpIn rfl (hrun fn.ntmps (some f) none rest _ hs [] _ G ρ H w _ _ hG hInF hst hh (henv0.put o1.dst hvy) (by cases o0.dst <;> cases o1.dst <;> exact DsOk.nil) h ?_).wp
                        intro fin env' hs2 ds2 hk ρ' H' w' a' e s1 s2 s3 s4 s5 s6
                        cases ds2 with
                        | cons d r => exact hk.elim
                        | nil =>
                          have hd : a'.defers = [] := List.eq_nil_of_length_eq_zero (by rw [s5.1]; rfl)
                          cases fin with
                          | norm => cases s6; exact ⟨hd, u', hcs, .tuple #[], results_none hnil _ _ _, hR _ hk ρ' H' w' u' _ s1 s2 s3 hset⟩
                          | ret => cases s6; exact ⟨hd, u', hcs, .tuple #[], results_none hnil _ _ _, hR _ hk ρ' H' w' u' _ s1 s2 s3 hset⟩
                          | exit id => exact hk.elim
                          | pan v => exact hk.elim
                      show wpOpsSIn Fence.wide 0 P #[o0, o1] _ [0, 1] _ _ _
                      rw [show ([0, 1] : List Nat) = 0 :: [1] from rfl]
                      unfold wpOpsSIn
                      have h0 : (#[o0, o1] : Array Oper)[0]? = some o0 := rfl
                      simp only [h0, Region.wanted, hg0, if_true, hexec]
                      refine ⟨fun _ _ => trivial, ?_⟩
                      cases m with
                      | none =>
                        simp only [modeR] at hu
                        subst hu
                        have : recoverD (c₀ :: cs) = none := by simp [recoverD, hmode]
                        rw [this]
                        exact fin .nilIface _ .returning (by rw [← hv0]; exact .d _ _ (.v _ rfl)) (by rw [← hmode]) rfl
                      | some v =>
                        obtain ⟨x, hux, hvx⟩ := hu
                        subst hux
                        have : recoverD (c₀ :: cs) = some (x, { c₀ with mode := .panicking [{ v := x, recovered := true }] } :: cs) := by simp [recoverD, hmode]
                        rw [this]
                        exact fin x _ (.panicking [{ v := x, recovered := true }]) (by rw [← hv0]; exact hvx) rfl rfl
                    · exact h.elim
                  · exact h.elim
                · exact h.elim
              · exact h.elim
            · exact h.elim
          · exact h.elim
        · exact h.elim
      · exact h.elim
    · exact h.elim
  · exact h.elim

end Go.Rc
