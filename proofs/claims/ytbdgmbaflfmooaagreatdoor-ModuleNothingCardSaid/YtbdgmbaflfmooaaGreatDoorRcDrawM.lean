/- Regions whose order is left open, part 6: all orders end alike. Conditions: none. -/
import Derived.Test.YtbdgmbaflfmooaaGreatDoorRcDrawL
set_option linter.unusedVariables false
set_option linter.unusedSimpArgs false
namespace Go.Rc

section
variable {P : Program} {T : Tb} {cf : CF} {g : RG} {N : Nat} {env0 : Tr AV} {κ : Tr AV → HS → Prop} {π : AV → HS → Prop} {G : Ctx} {ρ0 : List Value} {H0 : Heap} {w0 : World} {hs0 : HS} {ds : List Df}

theorem ht2_eq {E : Tr AObj} {H H' : Heap} (h : Ht2 ⟨E, H.length⟩ H ⟨E, H.length⟩ H') (hE : ∀ id o, E.get id = some o → H[id]? = some o) : H' = H := by
  obtain ⟨h1, h2⟩ := h
  have hl : H.length = H'.length := h1.1
  refine List.ext_getElem? fun id => ?_
  rcases Nat.lt_or_ge id H.length with hlt | hge
  · cases hg : E.get id with
    | none => exact (h2.2 id hg hlt).2
    | some o => rw [h1.2 id o hg, hE id o hg]
  · rw [List.getElem?_eq_none hge, List.getElem?_eq_none (by omega)]

theorem any_ok {ops : Array Oper} {ro : Option Nat} (hT : TbOk P T) (hcf : CallOk P cf) (hG : G.P = P) (C : RGok g N) (hall : ops.toList = g.all) (hn0 : H0.length ≤ g.n0) {Q : Exit → Act → World → Prop}
    (hfin : ∀ (V : Tr AV) (S : HS) (ρ : List Value) (H : Heap) (a : Act) (w : World), κ V S → Sat G ρ H w → Step ρ0 ρ H0 H w0 w → Ht2 hs0 H0 S H → a.tmps.size = N → DsOk ρ (Fz G ρ H w) w ds a.defers →
      (∀ (j : Nat) (o : Oper) (d : Nat) (v : AV), g.all[j]? = some o → o.dst = some d → V.get j = some v → VR ρ (Fz G ρ H w) w v (a.tmps.getD d undef)) →
      (∀ t v, env0.get t = some v → (∀ (j : Nat) (o : Oper), g.all[j]? = some o → o.dst ≠ some t) → t < N ∧ VR ρ (Fz G ρ H w) w v (a.tmps.getD t undef)) → Q .normal a w)
    (hpan : ∀ (v : AV) (S : HS) (ρ : List Value) (H : Heap) (a : Act) (w : World) (x : Value), π v S → Sat G ρ H w → Step ρ0 ρ H0 H w0 w → Ht2 hs0 H0 S H → a.tmps.size = N → DsOk ρ (Fz G ρ H w) w ds a.defers →
      (∀ t v, env0.get t = some v → (∀ (j : Nat) (o : Oper), g.all[j]? = some o → o.dst ≠ some t) → t < N ∧ VR ρ (Fz G ρ H w) w v (a.tmps.getD t undef)) → VR ρ (Fz G ρ H w) w v x → Q (.panic [{ v := x, recovered := false }]) a w) :
    ∀ (fuel : Nat) (listed : Array Bool) (a : Act) (w : World) (W : Nat → Option AV) (V : Tr AV) (S : HS) (js oth : List Nat) (ρ : List Value) (H : Heap), Inv T cf g N env0 κ π G ρ0 H0 w0 hs0 ds listed a w W V S js oth ρ H →
      cnt (fun j => !lst listed j) g.all.length = fuel → wpAnyIn (Fw ro) 0 P .any ops Q fuel listed a w := by
  intro fuel
  have hosz : ops.size = g.all.length := by rw [← hall]; simp
  induction fuel with
  | zero =>
    intro listed a w W V S js oth ρ H I hc
    have hl : ∀ j, j < g.all.length → lst listed j = true := fun j hj => by simpa using cnt_zero hc j hj
    have hlen : ∀ {j : Nat} {o : Oper}, g.all[j]? = some o → lst listed j = true := fun h => hl _ (List.getElem?_eq_some_iff.1 h).1
    refine ⟨?_, ?_⟩
    · refine List.eq_nil_iff_forall_not_mem.2 fun i hi => ?_
      obtain ⟨o, ho, h1, _⟩ := (ready_iff hall (by rw [I.size, hosz]) i).1 hi
      rw [hlen ho] at h1
      cases h1
    · have hrs := I.rs
      cases js with
      | cons j r =>
        exfalso
        have h2 := hrs.2
        unfold aStep at h2
        split at h2
        · exact h2
        · rename_i o ho
          rw [nth_eq] at ho
          have := (I.pend j (.inl (by simp))).1
          rw [hlen ho] at this
          cases this
      | nil =>
        obtain ⟨_, hk⟩ := hrs
        refine hfin V S ρ H a w hk I.sat I.step ⟨⟨I.sn, fun id o ho => ?_⟩, I.keep⟩ I.tn I.ds (fun j o d v g1 g2 g3 => I.vals j o d v g1 g2 (hlen g1) (I.blw j v g3)) (fun t v g1 g2 => I.old t v g1 fun j o g3 g4 => (g2 j o g3 g4).elim)
        rcases I.kn id o ho with ⟨p, f, k1, k2, k3, k4⟩ | ⟨_, k2⟩
        · exfalso
          obtain ⟨_, hf⟩ := C.fl p f k1
          rw [hl f (C.ol f hf)] at k2
          cases k2
        · exact k2
  | succ fuel ih =>
    intro listed a w W V S js oth ρ H I hc
    have hiff := ready_iff (all := g.all) (listed := listed) hall (by rw [I.size, hosz])
    refine ⟨fun hnil => ?_, fun i hi => ?_⟩
    · exfalso
      obtain ⟨j, h1, h2, h3⟩ := cnt_pos hc
      have hoj : g.all[j]? = some g.all[j] := by simp [h1]
      have : j ∈ Region.ready .any ops listed := (hiff j).2 ⟨_, hoj, by simpa using h2, fun e he hb => by
        have := h3 e.on (C.edges j _ hoj e he hb)
        simpa using this⟩
      rw [hnil] at this
      cases this
    · obtain ⟨o, ho, hil, hr⟩ := (hiff i).1 hi
      have hilt := (List.getElem?_eq_some_iff.1 ho).1
      have hsz : i < listed.size := by rw [I.size]; exact hilt
      have hah := ahead C I.closed ho hr
      have hcnt : cnt (fun j => !lst (listed.setIfInBounds i true) j) g.all.length = fuel := by
        have := cnt_flip (p := fun j => !lst (listed.setIfInBounds i true) j) (q := fun j => !lst listed j) hilt (by simp [lst_set hsz]) (by simp [hil]) (fun j hj hne => by simp [lst_set hsz, hne])
        rw [hc] at this
        omega
      have hops : ops[i]? = some o := by rw [← hall] at ho; simpa using ho
      have hold : ∀ {ρ' : List Value} {H' : Heap} {w' : World}, Sat G ρ' H' w' → Step ρ ρ' H H' w w' → ∀ t v, env0.get t = some v → (∀ (j : Nat) (o : Oper), g.all[j]? = some o → o.dst ≠ some t) → t < N ∧ VR ρ' (Fz G ρ' H' w') w' v (a.tmps.getD t undef) :=
        fun s1 s2 t v g1 g2 => by
          obtain ⟨k1, k2⟩ := I.old t v g1 fun j o g3 g4 => (g2 j o g3 g4).elim
          exact ⟨k1, k2.keep s2.rp (I.sat.kp s2)⟩
      unfold wpOpIn
      rw [hops]
      simp only
      by_cases hio : i ∈ oth
      · exfalso
        have hrs := I.rs
        cases js with
        | nil => rw [hrs.1] at hio; cases hio
        | cons j r =>
          obtain ⟨b, hb1, hb2⟩ := hrs.1 i hio
          have := (I.pend b (.inl hb1)).1
          rw [hah b hb2] at this
          cases this
      · by_cases hij : i ∈ js
        · -- an act
          cases js with
          | nil => cases hij
          | cons j r =>
            have hij' : i = j := by
              rcases List.mem_cons.1 hij with h | h
              · exact h
              · exfalso
                have h1 := (List.pairwise_cons.1 I.jsp).1 i h
                have := (I.pend j (.inl (by simp))).1
                rw [hah j h1] at this
                cases this
            subst hij'
            have hia := I.jsa i (by simp)
            have hjo : ∀ p : Nat, g.fl[p]? ≠ some i := fun p h => C.disj i hia (C.fl p i h).2
            have h2 := I.rs.2
            unfold aStep at h2
            rw [nth_eq, ho] at h2
            simp only at h2
            obtain ⟨V1, b, hV1, hg, hcase⟩ := wantD_ok I.blw h2
            have hwant := I.want C hall hah hg
            rcases hcase with ⟨rfl, hk⟩ | ⟨rfl, hk⟩
            · rw [hwant]
              simp only [if_true]
              have hev := I.ev C ho hil hah hV1
              have hkn := I.known hah
              unfold aGo at hk
              have hk := stepK_ok hk
              have hso := stepO_ok (P := P) (T := T) (o := o) (ev := evJ g.all g.ms env0 V1 i) (H := H) hT hkn
              split at hk
              · rename_i v hs' hr'
                rw [hr'] at hso
                obtain ⟨H', hh', hok⟩ := hso
                refine wpIn_of_wp (.inr (not_defer (by rw [hr']; simp) (by rw [hr']; simp))) ?_
                refine hok G ρ w a hG I.sat hev _ _ fun ρ' w' x s1 s2 s3 => ?_
                obtain ⟨b1, b2, b3, b4, b5⟩ := I.behind C hn0 hsz hjo hah hh'
                obtain ⟨W', V', oth', I'⟩ := I.act C ho hah s1 s2 s3 hV1 hk b1 hh'.1.1 b2 b3 b4
                exact ih _ _ _ _ _ _ _ _ _ _ I' hcnt
              · rename_i v hs' hr'
                rw [hr'] at hso
                obtain ⟨H', hh', hok⟩ := hso
                refine wpIn_of_wp (.inr (not_defer (by rw [hr']; simp) (by rw [hr']; simp))) ?_
                refine hok G ρ w a hG I.sat hev _ _ fun ρ' w' x s1 s2 s3 => ?_
                obtain ⟨b1, b2, b3, b4, b5⟩ := I.behind C hn0 hsz hjo hah hh'
                exact hpan v _ ρ' H' a w' x hk s1 (I.step.trans s2) b5 I.tn (I.ds.keep s2.rp (I.sat.kp s2)) (hold s1 s2) s3
              · rename_i f args hr'
                rw [hr'] at hso
                obtain ⟨xs, hxs, hrun⟩ := hso G ρ w a hG I.sat hev
                refine wpIn_of_wp (.inr (not_defer (by rw [hr']; simp) (by rw [hr']; simp))) ?_
                unfold Oper.wp
                rcases hcf f args _ _ _ G ρ H w xs hG I.sat hkn hxs hk (fun e w'' => match e with
                  | .returned v => wpAnyIn (Fw ro) 0 P .any ops Q fuel (listed.setIfInBounds i true) (a.put o.dst v) w''
                  | .panicked chain => Q (.panic chain) a w''
                  | .outgrown => LetsOut Q)
                  (fun v hs' hk ρ' H' w' x s1 s2 hh' s3 => by
                    obtain ⟨b1, b2, b3, b4, b5⟩ := I.behind C hn0 hsz hjo hah hh'
                    obtain ⟨W', V', oth', I'⟩ := I.act C ho hah s1 s2 s3 hV1 hk b1 hh'.1.1 b2 b3 b4
                    exact ih _ _ _ _ _ _ _ _ _ _ I' hcnt)
                  (fun v hs' hk ρ' H' w' x s1 s2 hh' s3 => by
                    obtain ⟨b1, b2, b3, b4, b5⟩ := I.behind C hn0 hsz hjo hah hh'
                    exact hpan v _ ρ' H' a w' x hk s1 (I.step.trans s2) b5 I.tn (I.ds.keep s2.rp (I.sat.kp s2)) (hold s1 s2) s3) with ⟨g1, g2⟩ | ⟨x, g1, g2⟩
                · rw [hrun _ g1]
                  simp only [Oper.upon]
                  exact Calls.mono g2 (fun e _ h => by cases e <;> exact h)
                · rw [hrun _ g1]
                  exact g2
              · exact hk.elim
            · rw [hwant]
              simp only [Bool.false_eq_true, if_false]
              refine ⟨fun f _ => Fw_fn ro f, ?_⟩
              obtain ⟨W', V', oth', I'⟩ := I.act C ho hah I.sat (Step.refl ρ H w) (v := undefA) (.d _ _ (.v _ rfl)) hV1 hk (I.kn.list hsz hjo) I.sn I.keep I.slots (fun E _ _ hE => hE.list hsz hjo)
              exact ih _ _ _ _ _ _ _ _ _ _ I' hcnt
        · -- a quiet one
          obtain ⟨_, _, hd⟩ := I.dn i o ho hij hio
          rcases hd with ⟨_, hl⟩ | ⟨hio2, hq⟩
          · rw [hil] at hl; cases hl
          · rcases hq hil with ⟨s, t, ti, h1, h2, h3, h4, h5⟩ | ⟨h0, b, hg, hcase⟩
            · obtain ⟨p, hp, hs⟩ := slotOf_some h1
              have hw : Region.wanted o (yielded ops a.tmps) = true := by unfold Region.wanted; rw [h2]
              rw [hw]
              simp only [if_true]
              refine wpIn_of_wp (.inr fun c e => by rw [h3] at e; cases e) ?_
              have hob : obOf T g.all i = .var t ti.agg ti.sz (zv ti) := by
                unfold obOf
                rw [nth_eq, ho]
                simp only [h3, h4]
              have hok := ok_alloc_fill (P := P) (T := T) (o := o) (ev := fun _ => none) (H := H) (s := s) hT h3 h4 (by rw [hs]; exact I.slots p i hp hil)
              rw [← hob] at hok
              exact hok G ρ w a hG I.sat (fun x y h => by cases h) _ _ fun ρ' w' x s1 s2 s3 => ih _ _ _ _ _ _ _ _ _ _ (I.fill C hn0 ho hil hah hij hio hio2 hp hs s1 s2 s3 h5) hcnt
            · have hwant := I.want C hall hah hg
              have hno : ∀ p : Nat, g.fl[p]? ≠ some i := fun p h => by
                have := (C.fl p i h).1
                rw [h0] at this
                cases this
              rcases hcase with ⟨rfl, hW⟩ | ⟨rfl, v, V1, E, hW, hV1, hK, hE, _, hqe⟩
              · rw [hwant]
                simp only [Bool.false_eq_true, if_false]
                refine ⟨fun f _ => Fw_fn ro f, ?_⟩
                exact ih _ _ _ _ _ _ _ _ _ _ (I.quiet C ho hil hah hij hio hio2 hno I.sat (Step.refl ρ H w) (v := undefA) (.d _ _ (.v _ rfl)) hW) hcnt
              · rw [hwant]
                simp only [if_true]
                have hev := I.ev C ho hil hah hV1
                have hsub : ∀ id o, E.get id = some o → H[id]? = some o := fun id ob h => by
                  rcases hK id ob h with ⟨p, f, g1, g2, g3, g4⟩ | ⟨_, g2⟩
                  · have : bef g.ms f i = false := by
                      cases hb : bef g.ms f i with
                      | false => rfl
                      | true => rw [hah f hb] at g2; cases g2
                    have := hE id (by rw [g3]; exact mem_slotsNot g1 this)
                    rw [h] at this
                    cases this
                  · exact g2
                have hok : OpOk P o (evJ g.all g.ms env0 V1 i) H v H ∧ ∀ c, o.op ≠ .defer c := by
                  rcases hqe with ⟨hq1, n, hq2⟩ | ⟨t, n, ps, hq1, hq2⟩
                  · have hso := stepO_ok (P := P) (T := T) (o := o) (ev := evJ g.all g.ms env0 V1 i) (hs := ⟨E, H.length⟩) (H := H) hT ⟨rfl, hsub⟩
                    rw [quiet_n (n := n) hq1, hq2] at hso
                    obtain ⟨H', hh', hok⟩ := hso
                    have : H' = H := ht2_eq hh' hsub
                    subst this
                    exact ⟨hok, fun c e => by rw [e] at hq1; cases hq1⟩
                  · exact ⟨bsD_ok hT hq1 hq2, fun c e => by rw [hq1] at e; cases e⟩
                refine wpIn_of_wp (.inr hok.2) ?_
                exact hok.1 G ρ w a hG I.sat hev _ _ fun ρ' w' x s1 s2 s3 => ih _ _ _ _ _ _ _ _ _ _ (I.quiet C ho hil hah hij hio hio2 hno s1 s2 s3 hW) hcnt

end
end Go.Rc
