/- Regions whose order is left open, part 2: each order ends alike. Conditions: none. -/
import Derived.Test.YtpddpbcfkmnmaaaGreatDoorRcDraw
set_option linter.unusedVariables false
set_option linter.unusedSimpArgs false
namespace Go.Rc

theorem cnt_lt {p : Nat → Bool} {n i : Nat} (h : i ≤ n) : cnt (fun j => p j && decide (j < i)) n = cnt p i := by
  induction n with
  | zero => obtain rfl : i = 0 := by omega
            rfl
  | succ n ih =>
    by_cases e : i = n + 1
    · subst e
      exact cnt_congr fun j hj => by simp [hj]
    · simp only [cnt]
      rw [decide_eq_false (by omega : ¬ n < i), Bool.and_false]
      exact ih (by omega)

variable {P : Program} {T : Tb} {cf : FuncId → List AV → HS → CR} {ops : Array Oper} {all : List Oper} {ms : List Nat} {N : Nat} {env0 : Tr AV} {V : Nat → Option AV} {S : Nat → HS} {G : Ctx} {ρ0 : List Value} {H0 : Heap} {w0 : World} {ds : List Df}

theorem actAt_of {i : Nat} {o : Oper} (ho : all[i]? = some o) : actAt all i = isAct o.op := by
  unfold actAt
  rw [nth_eq, ho]

theorem stage_act (C : Cert T cf all ms N env0 V S) {listed : Array Bool} (hcl : ∀ i, lst listed i = true → ∀ j, bef ms j i = true → lst listed j = true) {i : Nat} {o : Oper} (ho : all[i]? = some o) (hi : lst listed i = false)
    (hr : ∀ e, e ∈ o.after.toList → bindsA e = true → lst listed e.on = true) (ha : isAct o.op = true) : cnt (fun j => actAt all j && lst listed j) all.length = cnt (actAt all) i := by
  have hil := (List.getElem?_eq_some_iff.1 ho).1
  rw [← cnt_lt (p := actAt all) (n := all.length) (i := i) (by omega)]
  refine cnt_congr fun j hj => ?_
  cases hact : actAt all j with
  | false => rfl
  | true =>
    have hoj : all[j]? = some all[j] := by simp [hj]
    have hja : isAct all[j].op = true := by rw [← actAt_of hoj]; exact hact
    simp only [Bool.true_and]
    rcases Nat.lt_trichotomy j i with h | h | h
    · rw [decide_eq_true h]
      exact ahead C hcl ho hr j (C.chain j i _ _ hoj ho h hja ha)
    · subst h
      rw [hi, decide_eq_false (by omega)]
    · rw [decide_eq_false (by omega)]
      cases hl : lst listed j with
      | false => rfl
      | true =>
        have := hcl j hl i (C.chain i j _ _ ho hoj h ha hja)
        rw [hi] at this
        cases this

theorem Inv.next (C : Cert T cf all ms N env0 V S) {listed : Array Bool} {a : Act} {w : World} (I : Inv all ms N env0 V S G ρ0 H0 w0 ds listed a w) {i : Nat} {o : Oper} (ho : all[i]? = some o) (hi : lst listed i = false)
    (hr : ∀ e, e ∈ o.after.toList → bindsA e = true → lst listed e.on = true) {ρ ρ' : List Value} {H H' : Heap} {w' : World} {x : Value} {v : AV}
    (hsat : Sat G ρ H w) (hstep : Step ρ0 ρ H0 H w0 w) (hN : a.tmps.size = N) (hds : DsOk ρ (Fz G ρ H w) w ds a.defers)
    (hv : ∀ (j : Nat) (o : Oper) (d : Nat) (v : AV), all[j]? = some o → o.dst = some d → lst listed j = true → V j = some v → VR ρ (Fz G ρ H w) w v (a.tmps.getD d undef))
    (hold : ∀ t v, env0.get t = some v → (∀ (j : Nat) (o : Oper), all[j]? = some o → o.dst = some t → lst listed j = false) → t < N ∧ VR ρ (Fz G ρ H w) w v (a.tmps.getD t undef))
    (h1 : Sat G ρ' H' w') (h2 : Step ρ ρ' H H' w w') (h3 : VR ρ' (Fz G ρ' H' w') w' v x) (hV : V i = some v)
    (hst : HtOk (S (cnt (fun j => actAt all j && lst listed j) all.length + (if isAct o.op then 1 else 0))) H') :
    Inv all ms N env0 V S G ρ0 H0 w0 ds (listed.setIfInBounds i true) (a.put o.dst x) w' := by
  have hil := (List.getElem?_eq_some_iff.1 ho).1
  have hsz : i < listed.size := by rw [I.size]; exact hil
  have hset := lst_set (listed := listed) hsz
  have hk := hsat.kp h2
  refine ⟨by simp [I.size], fun k hkl j hj => ?_, ρ', H', h1, hstep.trans h2, ?_, by cases o.dst <;> simp [Act.put, hN], by have := hds.keep h2.rp hk; cases o.dst <;> exact this, ?_, ?_⟩
  · rw [hset] at hkl ⊢
    split
    · rfl
    · split at hkl
      · rename_i e
        subst e
        exact ahead C I.closed ho hr j hj
      · exact I.closed k hkl j hj
  · have : cnt (fun j => actAt all j && lst (listed.setIfInBounds i true) j) all.length = cnt (fun j => actAt all j && lst listed j) all.length + (if isAct o.op then 1 else 0) := by
      cases ha : isAct o.op with
      | true =>
        simp only [if_true]
        refine cnt_flip hil (by simp [hi]) (by simp [hset, actAt_of ho, ha]) (fun j hj hne => by simp [hset, hne])
      | false =>
        simp only [Bool.false_eq_true, if_false, Nat.add_zero]
        refine cnt_congr fun j hj => ?_
        by_cases e : j = i
        · subst e
          rw [actAt_of ho, ha]
          rfl
        · simp [hset, e]
    rw [this]
    exact hst
  · intro j oj d u hoj hdj hlj hVj
    rw [hset] at hlj
    by_cases e : j = i
    · subst e
      rw [ho] at hoj
      cases hoj
      rw [hV] at hVj
      cases hVj
      have hdN := C.dstN d j o ho hdj
      rw [hdj]
      simp only [Act.put, Array.getD_eq_getD_getElem?]
      rw [Array.getElem?_setIfInBounds_self_of_lt (by rw [hN]; exact hdN)]
      exact h3
    · rw [if_neg e] at hlj
      have h4 := (hv j oj d u hoj hdj hlj hVj).keep h2.rp hk
      have hne : o.dst ≠ some d := by
        intro hd
        have g1 := C.dst d i o ho hd
        have g2 := C.dst d j oj hoj hdj
        rw [g1] at g2
        cases g2
        exact e rfl
      cases hod : o.dst with
      | none => exact h4
      | some d' =>
        have : d' ≠ d := fun e => hne (by rw [hod, e])
        simp only [Act.put, Array.getD_eq_getD_getElem?] at h4 ⊢
        rw [Array.getElem?_setIfInBounds_ne this]
        exact h4
  · intro t u ht hno
    have hne : o.dst ≠ some t := by
      intro hd
      have := hno i o ho hd
      rw [hset, if_pos rfl] at this
      cases this
    obtain ⟨g1, g2⟩ := hold t u ht (fun j oj hoj hdj => by
      have := hno j oj hoj hdj
      rw [hset] at this
      split at this
      · cases this
      · exact this)
    have g2 := g2.keep h2.rp hk
    refine ⟨g1, ?_⟩
    cases hod : o.dst with
    | none => exact g2
    | some d' =>
      have : d' ≠ t := fun e => hne (by rw [hod, e])
      simp only [Act.put, Array.getD_eq_getD_getElem?] at g2 ⊢
      rw [Array.getElem?_setIfInBounds_ne this]
      exact g2

theorem any_ok {ro : Option Nat} (hT : TbOk P T) (hcf : CallOk P cf) (hG : G.P = P) (C : Cert T cf all ms N env0 V S) (hall : ops.toList = all) {Q : Exit → Act → World → Prop}
    (hfin : ∀ (ρ : List Value) (H : Heap) (a : Act) (w : World), Sat G ρ H w → Step ρ0 ρ H0 H w0 w → HtOk (S (cnt (actAt all) all.length)) H → a.tmps.size = N → DsOk ρ (Fz G ρ H w) w ds a.defers →
      (∀ (j : Nat) (o : Oper) (d : Nat) (v : AV), all[j]? = some o → o.dst = some d → V j = some v → VR ρ (Fz G ρ H w) w v (a.tmps.getD d undef)) →
      (∀ t v, env0.get t = some v → (∀ (j : Nat) (o : Oper), all[j]? = some o → o.dst ≠ some t) → t < N ∧ VR ρ (Fz G ρ H w) w v (a.tmps.getD t undef)) → Q .normal a w) :
    ∀ (fuel : Nat) (listed : Array Bool) (a : Act) (w : World), Inv all ms N env0 V S G ρ0 H0 w0 ds listed a w → cnt (fun j => !lst listed j) all.length = fuel → wpAnyIn (Fw ro) 0 P .any ops Q fuel listed a w := by
  intro fuel
  have hosz : ops.size = all.length := by rw [← hall]; simp
  induction fuel with
  | zero =>
    intro listed a w I hc
    have hl : ∀ j, j < all.length → lst listed j = true := fun j hj => by simpa using cnt_zero hc j hj
    refine ⟨?_, ?_⟩
    · refine List.eq_nil_iff_forall_not_mem.2 fun i hi => ?_
      obtain ⟨o, ho, h1, _⟩ := (ready_iff hall (by rw [I.size, hosz]) i).1 hi
      rw [hl i (List.getElem?_eq_some_iff.1 ho).1] at h1
      cases h1
    · obtain ⟨ρ, H, h1, h2, h3, h4, h5, h6, h7⟩ := I.at_
      refine hfin ρ H a w h1 h2 ?_ h4 h5 (fun j o d v g1 g2 g3 => h6 j o d v g1 g2 (hl j (List.getElem?_eq_some_iff.1 g1).1) g3) (fun t v g1 g2 => h7 t v g1 fun j o g3 g4 => (g2 j o g3 g4).elim)
      rw [cnt_congr (p := actAt all) (q := fun j => actAt all j && lst listed j) (fun j hj => by simp [hl j hj])]
      exact h3
  | succ fuel ih =>
    intro listed a w I hc
    have hiff := ready_iff (all := all) (listed := listed) hall (by rw [I.size, hosz])
    refine ⟨fun hnil => ?_, fun i hi => ?_⟩
    · exfalso
      obtain ⟨j, h1, h2, h3⟩ := cnt_pos hc
      have hoj : all[j]? = some all[j] := by simp [h1]
      have : j ∈ Region.ready .any ops listed := (hiff j).2 ⟨_, hoj, by simpa using h2, fun e he hb => by
        have := h3 e.on (C.edges j _ hoj e he hb)
        simpa using this⟩
      rw [hnil] at this
      cases this
    · obtain ⟨o, ho, hil, hr⟩ := (hiff i).1 hi
      have hilt := (List.getElem?_eq_some_iff.1 ho).1
      have hsz : i < listed.size := by rw [I.size]; exact hilt
      obtain ⟨ρ, H, h1, h2, h3, h4, h5, h6, h7⟩ := I.at_
      have hev := I.ev C ho hil hr h6 h7
      have hcnt : cnt (fun j => !lst (listed.setIfInBounds i true) j) all.length = fuel := by
        have := cnt_flip (p := fun j => !lst (listed.setIfInBounds i true) j) (q := fun j => !lst listed j) hilt (by simp [lst_set hsz]) (by simp [hil]) (fun j hj hne => by simp [lst_set hsz, hne])
        rw [hc] at this
        omega
      have hops : ops[i]? = some o := by rw [← hall] at ho; simpa using ho
      unfold wpOpIn
      rw [hops]
      simp only
      have hstep := C.step i o ho
      have stA := fun ha => stage_act C I.closed ho hil hr ha
      split at hstep
      · exact hstep.elim
      · rename_i hw
        rw [I.want C hall ho hr h4 h6 hw]
        simp only [Bool.false_eq_true, if_false]
        obtain ⟨g1, g2⟩ := hstep
        refine ⟨fun f _ => Fw_fn ro f, ?_⟩
        refine ih _ _ _ (I.next C ho hil hr h1 h2 h4 h5 h6 h7 h1 (Step.refl ρ H w) (v := undefA) (.d _ _ (.v _ rfl)) g1 ?_) hcnt
        cases ha : isAct o.op with
        | true =>
          simp only [if_true]
          rw [stA ha] at h3 ⊢
          rw [g2 ha]
          exact h3
        | false => simpa using h3
      · rename_i hw
        rw [I.want C hall ho hr h4 h6 hw]
        simp only [if_true]
        obtain ⟨v, hV, hcase⟩ := hstep
        cases ha : isAct o.op with
        | true =>
          rw [ha] at hcase
          simp only at hcase
          rw [stA ha] at h3
          have hso := stepO_ok (P := P) (T := T) (o := o) (ev := evJ all ms env0 V i) (H := H) hT h3
          rcases hcase with hc1 | ⟨f, args, hc1, hc2⟩
          · rw [hc1] at hso
            obtain ⟨H', hh', hok⟩ := hso
            refine wpIn_of_wp (.inr (not_defer (by rw [hc1]; simp) (by rw [hc1]; simp))) ?_
            refine hok G ρ w a hG h1 hev _ _ fun ρ' w' x s1 s2 s3 => ?_
            refine ih _ _ _ (I.next C ho hil hr h1 h2 h4 h5 h6 h7 s1 s2 s3 hV ?_) hcnt
            rw [ha, stA ha]
            exact hh'
          · obtain ⟨m, hc2⟩ := hc2
            rw [hc1] at hso
            obtain ⟨xs, hxs, hrun⟩ := hso G ρ w a hG h1 hev
            have hcall := hcf f args _ G ρ H w xs hG h1 h3 hxs (fun e w'' => match e with
              | .returned v => wpAnyIn (Fw ro) 0 P .any ops Q fuel (listed.setIfInBounds i true) (a.put o.dst v) w''
              | .panicked chain => Q (.panic chain) a w''
              | .outgrown => LetsOut Q)
            rw [hc2] at hcall
            refine wpIn_of_wp (.inr (not_defer (by rw [hc1]; simp) (by rw [hc1]; simp))) ?_
            unfold Oper.wp
            rcases hcall (fun ρ' H' w' x s1 s2 s3 s4 => by
              refine ih _ _ _ (I.next C ho hil hr h1 h2 h4 h5 h6 h7 s1 s2 s4 hV ?_) hcnt
              rw [ha, stA ha]
              exact s3) with ⟨g1, g2⟩ | ⟨x, g1, g2⟩
            · rw [hrun _ g1]
              simp only [Oper.upon]
              exact Calls.mono g2 (fun e _ h => by cases e <;> exact h)
            · rw [hrun _ g1]
              exact g2
        | false =>
          rw [ha] at hcase
          simp only at hcase
          have hok : ∃ H', HtOk (S (cnt (fun j => actAt all j && lst listed j) all.length)) H' ∧ OpOk P o (evJ all ms env0 V i) H v H' := by
            rcases hcase with hc1 | hc1
            · exact ⟨H, h3, stepP_ok hT hc1⟩
            · have hso := stepO_ok (P := P) (T := T) (o := o) (ev := evJ all ms env0 V i) (H := H) hT h3
              rw [hc1 _ (cnt_mono fun j hj hp => ?_) (cnt_mono fun j hj hp => ?_)] at hso
              · exact hso
              · simp only [Bool.and_eq_true] at hp ⊢
                exact ⟨hp.1, ahead C I.closed ho hr j hp.2⟩
              · simp only [Bool.and_eq_true, Bool.not_eq_true'] at hp ⊢
                refine ⟨hp.1, ?_⟩
                cases hb : bef ms i j with
                | false => rfl
                | true =>
                  have := I.closed j hp.2 i hb
                  rw [hil] at this
                  cases this
          obtain ⟨H', hh', hok⟩ := hok
          refine wpIn_of_wp (.inr fun c e => by rw [e] at ha; cases ha) ?_
          refine hok G ρ w a hG h1 hev _ _ fun ρ' w' x s1 s2 s3 => ?_
          refine ih _ _ _ (I.next C ho hil hr h1 h2 h4 h5 h6 h7 s1 s2 s3 hV ?_) hcnt
          rw [ha]
          simpa using hh'

end Go.Rc
