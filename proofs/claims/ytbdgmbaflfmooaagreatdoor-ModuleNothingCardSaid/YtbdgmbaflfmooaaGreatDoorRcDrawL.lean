/- Regions whose order is left open, part 5: an act, and all orders. Conditions: none. -/
import Derived.Test.YtbdgmbaflfmooaaGreatDoorRcDrawJ
set_option linter.unusedVariables false
set_option linter.unusedSimpArgs false
namespace Go.Rc

section
variable {P : Program} {T : Tb} {cf : CF} {g : RG} {N : Nat} {env0 : Tr AV} {κ : Tr AV → HS → Prop} {π : AV → HS → Prop} {G : Ctx} {ρ0 : List Value} {H0 : Heap} {w0 : World} {hs0 : HS} {ds : List Df}
  {listed : Array Bool} {a : Act} {w : World} {W : Nat → Option AV} {V : Tr AV} {S : HS} {js oth : List Nat} {ρ : List Value} {H : Heap}

/-- Behind an act. -/
theorem Inv.act (C : RGok g N) {j : Nat} {r : List Nat} (I : Inv T cf g N env0 κ π G ρ0 H0 w0 hs0 ds listed a w W V S (j :: r) oth ρ H) {o : Oper} (ho : g.all[j]? = some o)
    (hah : ∀ i, bef g.ms i j = true → lst listed i = true) {ρ' : List Value} {H' : Heap} {w' : World} {x : Value} {v : AV} {V1 : Tr AV} {S' : HS}
    (h1 : Sat G ρ' H' w') (h2 : Step ρ ρ' H H' w w') (h3 : VR ρ' (Fz G ρ' H' w') w' v x) (hV : Blw V1 W) (hk : drA T cf g env0 κ π r oth (V1.set 64 j v) S')
    (kn' : Kn T g (listed.setIfInBounds j true) S'.t H') (sn' : S'.n = H'.length) (keep' : Keep hs0 H0 S' H') (slots' : ∀ p f, g.fl[p]? = some f → lst listed f = false → H'[g.n0 + p]? = some .slot)
    (knE : ∀ E, g.freeA j = false → (∀ id o, E.get id = some o → id ∈ g.D) → Kn T g listed E H → Kn T g (listed.setIfInBounds j true) E H') :
    ∃ W' V' oth', Inv T cf g N env0 κ π G ρ0 H0 w0 hs0 ds (listed.setIfInBounds j true) (a.put o.dst x) w' W' V' S' r oth' ρ' H' := by
  have hsz : j < listed.size := by rw [I.size]; exact (List.getElem?_eq_some_iff.1 ho).1
  obtain ⟨hjl, hjW⟩ := I.pend j (.inl (by simp))
  have hja := I.jsa j (by simp)
  obtain ⟨hjr, hrn⟩ := List.nodup_cons.1 I.jsn
  have hjo : ∀ i, i ∈ g.oths → i ≠ j := fun i hi e => C.disj j hja (by rw [← e]; exact hi)
  have hle : Wle W (upd W j v) := upd_le hjW
  obtain ⟨V', W', oth', a1, a2, a3, a4, a5, a6, a7⟩ := drA_adv kn' hk ((hV.mono hle).set (upd_same W j v)) (fun i hi => by rw [upd_ne W v (hjo i (I.oto i hi))]; exact (I.pend i (.inr hi)).2) I.otn
  have hWW : Wle W W' := fun k y hy => a3 k y (hle k y hy)
  have p := I.part C ho hjl hah h1 h2 h3 hWW (a3 _ _ (upd_same W j v))
  refine ⟨W', V', oth', p.size, p.closed, p.sat, p.step, p.tn, p.ds, p.vals, p.old, a1, a2, kn', sn', keep', fun q f g1 g2 => slots' q f g1 (lst_false hsz g2).2, fun i hip => ?_, fun i oi hoi hij hio => ?_, (List.pairwise_cons.1 I.jsp).2, hrn, a5, fun i hi => I.jsa i (by simp [hi]), fun i hi => I.oto i (a4 i hi)⟩
  · have hne : i ≠ j := by
      rcases hip with hip | hip
      · rintro rfl; exact hjr hip
      · exact hjo i (I.oto i (a4 i hip))
    obtain ⟨q1, q2⟩ := I.pend i (hip.elim (fun h => .inl (by simp [h])) (fun h => .inr (a4 i h)))
    refine ⟨by rw [lst_set hsz, if_neg hne]; exact q1, ?_⟩
    rw [a6 i, upd_ne W v hne]
    · exact q2
    · rcases hip with hip | hip
      · exact .inl fun h => C.disj i (I.jsa i (by simp [hip])) (I.oto i h)
      · exact .inr hip
  · by_cases hne : i = j
    · subst hne
      refine ⟨⟨v, a3 _ _ (upd_same W i v)⟩, fun k hk => ?_, .inl ⟨hja, by rw [lst_set hsz, if_pos rfl]⟩⟩
      cases hb : bef g.ms k i with
      | false => rfl
      | true =>
        have := hah k hb
        rw [(I.pend k (.inl (by simp [hk]))).1] at this
        cases this
    · by_cases hio2 : i ∈ oth
      · obtain ⟨b1, oi', b2, b3⟩ := a7 i hio2 hio
        rw [hoi] at b2
        cases b2
        exact ⟨b3.val, b1, .inr ⟨I.oto i hio2, fun _ => b3⟩⟩
      · obtain ⟨q1, q2, q3⟩ := I.dn i oi hoi (by simp [hne, hij]) hio2
        refine ⟨q1.imp fun v hv => hWW _ _ hv, fun k hk => q2 k (by simp [hk]), ?_⟩
        rcases q3 with ⟨q3, q4⟩ | ⟨q3, q4⟩
        · exact .inl ⟨q3, by rw [lst_set hsz, if_neg hne]; exact q4⟩
        · refine .inr ⟨q3, fun hl => ?_⟩
          have hl' := (lst_false hsz hl).2
          have hij' : bef g.ms i j = false := by
            cases hb : bef g.ms i j with
            | false => rfl
            | true => rw [hah i hb] at hl'; cases hl'
          have hji' := q2 j (by simp)
          have hfr : g.free i = false := by
            cases hf : g.free i with
            | false => rfl
            | true =>
              have := List.all_eq_true.1 hf j hja
              simp [hij', hji'] at this
          have hfa : g.freeA j = false := by
            cases hf : g.freeA j with
            | false => rfl
            | true =>
              have := List.all_eq_true.1 hf i q3
              simp [hij', hji'] at this
          exact ((q4 hl').kn fun E hE hK => knE E hfa (hE hfr) hK).mono hWW

/-- What an act may know is so. -/
theorem Inv.known (I : Inv T cf g N env0 κ π G ρ0 H0 w0 hs0 ds listed a w W V S js oth ρ H) {j : Nat} (hah : ∀ i, bef g.ms i j = true → lst listed i = true) : HtOk ⟨delL S.t (g.dj j), S.n⟩ H := by
  refine ⟨I.sn, fun id o h => ?_⟩
  obtain ⟨h1, h2⟩ := get_delL _ h
  rcases I.kn id o h2 with ⟨p, f, g1, g2, g3, g4⟩ | ⟨_, g2⟩
  · have : bef g.ms f j = false := by
      cases hb : bef g.ms f j with
      | false => rfl
      | true => rw [hah f hb] at g2; cases g2
    exact (h1 (by unfold RG.dj; rw [g3]; exact List.mem_append_right _ (mem_slotsNot g1 this))).elim
  · exact g2

theorem del_none {t : Tr AObj} {l : List Nat} {id : Nat} (h : id ∈ l ∨ t.get id = none) : (delL t l).get id = none := by
  cases hg : (delL t l).get id with
  | none => rfl
  | some o =>
    obtain ⟨h1, h2⟩ := get_delL _ hg
    rcases h with h | h
    · exact (h1 h).elim
    · rw [h] at h2; cases h2

/-- What is known behind an act. -/
theorem Inv.behind (C : RGok g N) (hn0 : H0.length ≤ g.n0) {j : Nat} (I : Inv T cf g N env0 κ π G ρ0 H0 w0 hs0 ds listed a w W V S js oth ρ H) (hsz : j < listed.size) (hjo : ∀ p : Nat, g.fl[p]? ≠ some j)
    (hah : ∀ i, bef g.ms i j = true → lst listed i = true) {hs' : HS} {H' : Heap} (h : Ht2 ⟨delL S.t (g.dj j), S.n⟩ H hs' H') :
    Kn T g (listed.setIfInBounds j true) (restL S.t hs'.t (g.dj j)) H' ∧ Keep hs0 H0 ⟨restL S.t hs'.t (g.dj j), hs'.n⟩ H' ∧ (∀ p f, g.fl[p]? = some f → lst listed f = false → H'[g.n0 + p]? = some .slot) ∧
      (∀ E, g.freeA j = false → (∀ id o, E.get id = some o → id ∈ g.D) → Kn T g listed E H → Kn T g (listed.setIfInBounds j true) E H') ∧ Ht2 hs0 H0 ⟨restL S.t hs'.t (g.dp j), hs'.n⟩ H' := by
  have slot : ∀ p f, g.fl[p]? = some f → lst listed f = false → g.n0 + p ∈ g.dj j := fun p f h1 h2 => by
    refine List.mem_append_right _ (mem_slotsNot h1 ?_)
    cases hb : bef g.ms f j with
    | false => rfl
    | true => rw [hah f hb] at h2; cases h2
  have slotlt : ∀ p f, g.fl[p]? = some f → lst listed f = false → g.n0 + p < H.length := fun p f h1 h2 => (List.getElem?_eq_some_iff.1 (I.slots p f h1 h2)).1
  have keepj : ∀ id, id ∈ g.dj j → id < H.length → hs'.t.get id = none ∧ H'[id]? = H[id]? := fun id h1 h2 => h.2.2 id (del_none (.inl h1)) h2
  have knE : ∀ E, (∀ id o, E.get id = some o → id ∈ g.dj j) → Kn T g listed E H → Kn T g (listed.setIfInBounds j true) E H' := by
    intro E hE hK id o ho
    rcases hK id o ho with ⟨p, f, g1, g2, g3, g4⟩ | ⟨g1, g2⟩
    · refine .inl ⟨p, f, g1, ?_, g3, g4⟩
      rw [lst_set hsz, if_neg]
      · exact g2
      · rintro rfl; exact hjo p g1
    · refine .inr ⟨fun p f k1 k2 => g1 p f k1 (lst_false hsz k2).2, ?_⟩
      rw [(keepj id (hE id o ho) (List.getElem?_eq_some_iff.1 g2).1).2]
      exact g2
  have old : ∀ id, hs0.t.get id = none → id < H0.length → S.t.get id = none ∧ hs'.t.get id = none ∧ H'[id]? = H0[id]? := fun id h1 h2 => by
    obtain ⟨k1, k2⟩ := I.keep.2 id h1 h2
    obtain ⟨k3, k4⟩ := h.2.2 id (del_none (.inr k1)) (Nat.lt_of_lt_of_le h2 I.keep.1)
    exact ⟨k1, k3, k4.trans k2⟩
  have keepR : ∀ l, Keep hs0 H0 ⟨restL S.t hs'.t l, hs'.n⟩ H' := fun l => ⟨Nat.le_trans I.keep.1 h.2.1, fun id h1 h2 => by
    obtain ⟨k1, k2, k3⟩ := old id h1 h2
    refine ⟨?_, k3⟩
    cases hg : (restL S.t hs'.t l).get id with
    | none => rfl
    | some o =>
      rcases get_restL _ hg with ⟨_, g1⟩ | g1
      · rw [k1] at g1; cases g1
      · rw [k2] at g1; cases g1⟩
  refine ⟨fun id o ho => ?_, keepR _, fun p f h1 h2 => ?_, fun E hf hE hK => knE E (fun id o ho => ?_) hK, ⟨h.1.1, fun id o ho => ?_⟩, keepR _⟩
  · rcases get_restL _ ho with ⟨g1, g2⟩ | g1
    · have hr : (restL S.t .nil (g.dj j)).get id = some o ∨ True := .inr trivial
      rcases I.kn id o g2 with ⟨p, f, k1, k2, k3, k4⟩ | ⟨k1, k2⟩
      · refine .inl ⟨p, f, k1, ?_, k3, k4⟩
        rw [lst_set hsz, if_neg]
        · exact k2
        · rintro rfl; exact hjo p k1
      · refine .inr ⟨fun p f m1 m2 => k1 p f m1 (lst_false hsz m2).2, ?_⟩
        rw [(keepj id g1 (List.getElem?_eq_some_iff.1 k2).1).2]
        exact k2
    · refine .inr ⟨fun p f m1 m2 e => ?_, h.1.2 id o g1⟩
      have m3 := (lst_false hsz m2).2
      have := (keepj id (by rw [e]; exact slot p f m1 m3) (by rw [e]; exact slotlt p f m1 m3)).1
      rw [g1] at this
      cases this
  · rw [(keepj _ (slot p f h1 h2) (slotlt p f h1 h2)).2]
    exact I.slots p f h1 h2
  · refine List.mem_append_left _ ?_
    unfold RG.dp
    rw [hf]
    exact hE id o ho
  · rcases get_restL _ ho with ⟨g1, g2⟩ | g1
    · have hD : id < g.n0 := by
        unfold RG.dp at g1
        split at g1
        · cases g1
        · exact C.D id g1
      rcases I.kn id o g2 with ⟨p, f, k1, k2, k3, k4⟩ | ⟨k1, k2⟩
      · omega
      · show H'[id]? = some o
        rw [(keepj id (List.mem_append_left _ g1) (List.getElem?_eq_some_iff.1 k2).1).2]
        exact k2
    · exact h.1.2 id o g1

end
end Go.Rc
