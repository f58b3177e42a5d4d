/- Regions whose order is left open, part 4: a step. Conditions: none. -/
import Derived.Test.YtbdgmbaflfmooaaGreatDoorRcDrawI
set_option linter.unusedVariables false
set_option linter.unusedSimpArgs false
namespace Go.Rc

section
variable {P : Program} {T : Tb} {cf : CF} {g : RG} {N : Nat} {env0 : Tr AV} {κ : Tr AV → HS → Prop} {π : AV → HS → Prop} {G : Ctx} {ρ0 : List Value} {H0 : Heap} {w0 : World} {hs0 : HS} {ds : List Df}
  {listed : Array Bool} {a : Act} {w : World} {W : Nat → Option AV} {V : Tr AV} {S : HS} {js oth : List Nat} {ρ : List Value} {H : Heap}

/-- What does not hang on the run. -/
structure Part (g : RG) (N : Nat) (env0 : Tr AV) (G : Ctx) (ρ0 : List Value) (H0 : Heap) (w0 : World) (ds : List Df) (listed : Array Bool) (a : Act) (w : World) (W : Nat → Option AV) (ρ : List Value) (H : Heap) : Prop where
  size : listed.size = g.all.length
  closed : ∀ i, lst listed i = true → ∀ j, bef g.ms j i = true → lst listed j = true
  sat : Sat G ρ H w
  step : Step ρ0 ρ H0 H w0 w
  tn : a.tmps.size = N
  ds : DsOk ρ (Fz G ρ H w) w ds a.defers
  vals : ∀ (j : Nat) (o : Oper) (d : Nat) (v : AV), g.all[j]? = some o → o.dst = some d → lst listed j = true → W j = some v → VR ρ (Fz G ρ H w) w v (a.tmps.getD d undef)
  old : ∀ t v, env0.get t = some v → (∀ (j : Nat) (o : Oper), g.all[j]? = some o → o.dst = some t → lst listed j = false) → t < N ∧ VR ρ (Fz G ρ H w) w v (a.tmps.getD t undef)

theorem Inv.val (I : Inv T cf g N env0 κ π G ρ0 H0 w0 hs0 ds listed a w W V S js oth ρ H) {j : Nat} {o : Oper} (ho : g.all[j]? = some o) (hl : lst listed j = true) : ∃ v, W j = some v :=
  (I.dn j o ho (fun h => by have := (I.pend j (.inl h)).1; rw [hl] at this; cases this) (fun h => by have := (I.pend j (.inr h)).1; rw [hl] at this; cases this)).1

theorem Inv.part (C : RGok g N) (I : Inv T cf g N env0 κ π G ρ0 H0 w0 hs0 ds listed a w W V S js oth ρ H) {i : Nat} {o : Oper} (ho : g.all[i]? = some o) (hi : lst listed i = false)
    (hah : ∀ j, bef g.ms j i = true → lst listed j = true) {ρ' : List Value} {H' : Heap} {w' : World} {x : Value} {v : AV} {W' : Nat → Option AV}
    (h1 : Sat G ρ' H' w') (h2 : Step ρ ρ' H H' w w') (h3 : VR ρ' (Fz G ρ' H' w') w' v x) (hW : Wle W W') (hWi : W' i = some v) :
    Part g N env0 G ρ0 H0 w0 ds (listed.setIfInBounds i true) (a.put o.dst x) w' W' ρ' H' := by
  have hil := (List.getElem?_eq_some_iff.1 ho).1
  have hsz : i < listed.size := by rw [I.size]; exact hil
  have hset := lst_set (listed := listed) hsz
  have hk := I.sat.kp h2
  refine ⟨by simp [I.size], fun k hkl j hj => ?_, h1, I.step.trans h2, by cases o.dst <;> simp [Act.put, I.tn], by have := I.ds.keep h2.rp hk; cases o.dst <;> exact this, ?_, ?_⟩
  · rw [hset] at hkl ⊢
    split
    · rfl
    · split at hkl
      · rename_i e
        subst e
        exact hah j hj
      · exact I.closed k hkl j hj
  · intro j oj d u hoj hdj hlj hVj
    rw [hset] at hlj
    by_cases e : j = i
    · subst e
      rw [ho] at hoj
      cases hoj
      rw [hWi] at hVj
      cases hVj
      have hdN := C.dstN d j o ho hdj
      rw [hdj]
      simp only [Act.put, Array.getD_eq_getD_getElem?]
      rw [Array.getElem?_setIfInBounds_self_of_lt (by rw [I.tn]; exact hdN)]
      exact h3
    · rw [if_neg e] at hlj
      obtain ⟨v', hv'⟩ := I.val hoj hlj
      have : v' = u := by
        have := hW _ _ hv'
        rw [hVj] at this
        cases this
        rfl
      subst this
      have h4 := (I.vals j oj d v' hoj hdj hlj hv').keep h2.rp hk
      have hne : o.dst ≠ some d := by
        intro hd
        have g1 := C.dst d i o ho hd
        have g2 := C.dst d j oj hoj hdj
        rw [g1] at g2
        cases g2
        exact e rfl
      cases hod : o.dst with
      | none => exact h4
      | some d' =>
        have : d' ≠ d := fun e => hne (by rw [hod, e])
        simp only [Act.put, Array.getD_eq_getD_getElem?] at h4 ⊢
        rw [Array.getElem?_setIfInBounds_ne this]
        exact h4
  · intro t u ht hno
    have hne : o.dst ≠ some t := by
      intro hd
      have := hno i o ho hd
      rw [hset, if_pos rfl] at this
      cases this
    obtain ⟨g1, g2⟩ := I.old t u ht (fun j oj hoj hdj => by
      have := hno j oj hoj hdj
      rw [hset] at this
      split at this
      · cases this
      · exact this)
    have g2 := g2.keep h2.rp hk
    refine ⟨g1, ?_⟩
    cases hod : o.dst with
    | none => exact g2
    | some d' =>
      have : d' ≠ t := fun e => hne (by rw [hod, e])
      simp only [Act.put, Array.getD_eq_getD_getElem?] at g2 ⊢
      rw [Array.getElem?_setIfInBounds_ne this]
      exact g2

theorem lst_false {i j : Nat} (hsz : i < listed.size) (h : lst (listed.setIfInBounds i true) j = false) : j ≠ i ∧ lst listed j = false := by
  rw [lst_set hsz] at h
  split at h
  · cases h
  · exact ⟨by assumption, h⟩

/-- A kept place that is filled. -/
theorem Kn.fill (C : RGok g N) {s p : Nat} {i : Nat} (hsz : i < listed.size) (hp : g.fl[p]? = some i) (hs : s = g.n0 + p) (hl : lst listed i = false) (hlt : s < H.length) {E : Tr AObj} (h : Kn T g listed E H) :
    Kn T g (listed.setIfInBounds i true) E (H.set s (obOf T g.all i)) := by
  intro id o ho
  rcases h id o ho with ⟨q, f, h1, h2, h3, h4⟩ | ⟨h1, h2⟩
  · by_cases e : q = p
    · subst e
      rw [hp] at h1
      cases h1
      refine .inr ⟨fun q' f' g1 g2 e => ?_, by rw [h3, ← hs, h4]; simp [hlt]⟩
      have : q' = q := by omega
      subst this
      rw [hp] at g1
      cases g1
      exact (lst_false hsz g2).1 rfl
    · refine .inl ⟨q, f, h1, ?_, h3, h4⟩
      rw [lst_set hsz, if_neg]
      · exact h2
      · intro e'
        subst e'
        have g1 := (C.fl q f h1).1
        have g2 := (C.fl p f hp).1
        rw [g1] at g2
        simp at g2
        exact e g2
  · refine .inr ⟨fun q f g1 g2 => h1 q f g1 (lst_false hsz g2).2, ?_⟩
    rw [List.getElem?_set_ne]
    · exact h2
    · intro e
      exact h1 p i hp hl (by omega)

theorem Kn.list {i : Nat} (hsz : i < listed.size) (hno : ∀ p : Nat, g.fl[p]? ≠ some i) {E : Tr AObj} (h : Kn T g listed E H) : Kn T g (listed.setIfInBounds i true) E H := by
  intro id o ho
  rcases h id o ho with ⟨q, f, h1, h2, h3, h4⟩ | ⟨h1, h2⟩
  · refine .inl ⟨q, f, h1, ?_, h3, h4⟩
    rw [lst_set hsz, if_neg]
    · exact h2
    · intro e
      subst e
      exact hno q h1
  · exact .inr ⟨fun q f g1 g2 => h1 q f g1 (lst_false hsz g2).2, h2⟩

theorem QF.kn {listed' : Array Bool} {H' : Heap} {i : Nat} {o : Oper} (h : QF T g env0 listed H W i o) (k : ∀ E, (g.free i = false → ∀ id o, E.get id = some o → id ∈ g.D) → Kn T g listed E H → Kn T g listed' E H') : QF T g env0 listed' H' W i o := by
  rcases h with h | ⟨h0, b, h1, h2⟩
  · exact .inl h
  · refine .inr ⟨h0, b, h1, ?_⟩
    rcases h2 with h2 | ⟨h2, v, V, E, h3, h4, h5, h6, h7, h8⟩
    · exact .inl h2
    · exact .inr ⟨h2, v, V, E, h3, h4, k E h7 h5, h6, h7, h8⟩

/-- A quiet operation is run. -/
theorem Inv.quiet (C : RGok g N) (I : Inv T cf g N env0 κ π G ρ0 H0 w0 hs0 ds listed a w W V S js oth ρ H) {i : Nat} {o : Oper} (ho : g.all[i]? = some o) (hi : lst listed i = false)
    (hah : ∀ j, bef g.ms j i = true → lst listed j = true) (hj : i ∉ js) (hoi : i ∉ oth) (hio : i ∈ g.oths) (hno : ∀ p : Nat, g.fl[p]? ≠ some i) {ρ' : List Value} {w' : World} {x : Value} {v : AV}
    (h1 : Sat G ρ' H w') (h2 : Step ρ ρ' H H w w') (h3 : VR ρ' (Fz G ρ' H w') w' v x) (hWi : W i = some v) :
    Inv T cf g N env0 κ π G ρ0 H0 w0 hs0 ds (listed.setIfInBounds i true) (a.put o.dst x) w' W V S js oth ρ' H := by
  have hsz : i < listed.size := by rw [I.size]; exact (List.getElem?_eq_some_iff.1 ho).1
  have p := I.part C ho hi hah h1 h2 h3 (fun _ _ h => h) hWi
  refine ⟨p.size, p.closed, p.sat, p.step, p.tn, p.ds, p.vals, p.old, I.rs, I.blw, I.kn.list hsz hno, I.sn, I.keep, fun q f g1 g2 => I.slots q f g1 (lst_false hsz g2).2, fun j hjp => ?_, fun j oj hoj hjj hjo => ?_, I.jsp, I.jsn, I.otn, I.jsa, I.oto⟩
  · obtain ⟨q1, q2⟩ := I.pend j hjp
    refine ⟨?_, q2⟩
    rw [lst_set hsz, if_neg]
    · exact q1
    · rintro rfl
      exact hjp.elim hj hoi
  · obtain ⟨q1, q2, q3⟩ := I.dn j oj hoj hjj hjo
    refine ⟨q1, q2, ?_⟩
    rcases q3 with ⟨q3, q4⟩ | ⟨q3, q4⟩
    · refine .inl ⟨q3, ?_⟩
      rw [lst_set hsz]
      split
      · rfl
      · exact q4
    · exact .inr ⟨q3, fun hl => (q4 (lst_false hsz hl).2).kn fun E _ hE => hE.list hsz hno⟩

/-- A kept place is filled. -/
theorem Inv.fill (C : RGok g N) (I : Inv T cf g N env0 κ π G ρ0 H0 w0 hs0 ds listed a w W V S js oth ρ H) (hn0 : H0.length ≤ g.n0) {i s q : Nat} {o : Oper} (ho : g.all[i]? = some o) (hi : lst listed i = false)
    (hah : ∀ j, bef g.ms j i = true → lst listed j = true) (hj : i ∉ js) (hoi : i ∉ oth) (hio : i ∈ g.oths) (hq : g.fl[q]? = some i) (hs : s = g.n0 + q) {ρ' : List Value} {w' : World} {x : Value} {v : AV}
    (h1 : Sat G ρ' (H.set s (obOf T g.all i)) w') (h2 : Step ρ ρ' H (H.set s (obOf T g.all i)) w w') (h3 : VR ρ' (Fz G ρ' (H.set s (obOf T g.all i)) w') w' v x) (hWi : W i = some v) :
    Inv T cf g N env0 κ π G ρ0 H0 w0 hs0 ds (listed.setIfInBounds i true) (a.put o.dst x) w' W V S js oth ρ' (H.set s (obOf T g.all i)) := by
  have hsz : i < listed.size := by rw [I.size]; exact (List.getElem?_eq_some_iff.1 ho).1
  have p := I.part C ho hi hah h1 h2 h3 (fun _ _ h => h) hWi
  have hslot := I.slots q i hq hi
  have hlt : s < H.length := by rw [hs]; exact (List.getElem?_eq_some_iff.1 hslot).1
  have hkn : ∀ E, Kn T g listed E H → Kn T g (listed.setIfInBounds i true) E (H.set s (obOf T g.all i)) := fun E h => h.fill C hsz hq hs hi hlt
  refine ⟨p.size, p.closed, p.sat, p.step, p.tn, p.ds, p.vals, p.old, I.rs, I.blw, hkn _ I.kn, by simp [I.sn], ⟨by simpa using I.keep.1, fun id g1 g2 => ?_⟩, fun q' f g1 g2 => ?_, fun j hjp => ?_, fun j oj hoj hjj hjo => ?_, I.jsp, I.jsn, I.otn, I.jsa, I.oto⟩
  · obtain ⟨k1, k2⟩ := I.keep.2 id g1 g2
    exact ⟨k1, by rw [List.getElem?_set_ne (by omega)]; exact k2⟩
  · have hne : q' ≠ q := by
      rintro rfl
      rw [hq] at g1
      cases g1
      exact (lst_false hsz g2).1 rfl
    rw [List.getElem?_set_ne (by omega)]
    exact I.slots q' f g1 (lst_false hsz g2).2
  · obtain ⟨q1, q2⟩ := I.pend j hjp
    refine ⟨?_, q2⟩
    rw [lst_set hsz, if_neg]
    · exact q1
    · rintro rfl
      exact hjp.elim hj hoi
  · obtain ⟨q1, q2, q3⟩ := I.dn j oj hoj hjj hjo
    refine ⟨q1, q2, ?_⟩
    rcases q3 with ⟨q3, q4⟩ | ⟨q3, q4⟩
    · refine .inl ⟨q3, ?_⟩
      rw [lst_set hsz]
      split
      · rfl
      · exact q4
    · exact .inr ⟨q3, fun hl => (q4 (lst_false hsz hl).2).kn fun E _ hE => hkn E hE⟩

end
end Go.Rc
