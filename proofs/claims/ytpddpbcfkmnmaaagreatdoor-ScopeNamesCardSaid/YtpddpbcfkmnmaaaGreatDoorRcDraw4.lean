/- Regions whose order is left open, part 4: the run in the text's order is a certificate. Conditions: none. -/
import Derived.Test.YtpddpbcfkmnmaaaGreatDoorRcDraw3
set_option linter.unusedVariables false
set_option linter.unusedSimpArgs false
namespace Go.Rc

variable {T : Tb} {cf : FuncId → List AV → HS → CR} {all : List Oper} {ms : List Nat} {N : Nat} {env0 : Tr AV}

/-- What the run has found at one operation. -/
def Fact (T : Tb) (cf : FuncId → List AV → HS → CR) (all : List Oper) (ms : List Nat) (N : Nat) (env0 : Tr AV) (valsF : List AV) (stgF : List HS) (i : Nat) (o : Oper) : Prop :=
  match wantJ all ms N (nth (valsF.take i)) i o.guard with
  | none => False
  | some false => valsF[i]? = some undefA ∧ (isAct o.op = true → stgF[cnt (actAt all) i + 1]? = stgF[cnt (actAt all) i]?)
  | some true => ∃ v, valsF[i]? = some v ∧ match isAct o.op with
    | true => ∃ h h', stgF[cnt (actAt all) i]? = some h ∧ stgF[cnt (actAt all) i + 1]? = some h' ∧
        (stepO T o.op (evJ all ms env0 (nth (valsF.take i)) i) h = .ok v h' ∨ ∃ f args, stepO T o.op (evJ all ms env0 (nth (valsF.take i)) i) h = .call f args ∧ ∃ m, cf f args h = .ret v h' m)
    | false => ∀ v', stepP T o.op (evJ all ms env0 (nth (valsF.take i)) i) = some v' → v' = v

theorem exD1_spec (l : List Oper) : ∀ (j : Nat) (vals : List AV) (hs : HS) (stg : List HS) (valsF : List AV) (stgF : List HS) (hsF : HS), exD1 T cf all ms N env0 l j vals hs stg = .mk valsF stgF hsF → vals.length = j →
    (∀ i, l[i]? = all[j + i]?) → stg.length = cnt (actAt all) j + 1 → stg[cnt (actAt all) j]? = some hs →
    (∃ r, valsF = vals ++ r ∧ r.length = l.length) ∧ (∃ r, stgF = stg ++ r) ∧ stgF[cnt (actAt all) (j + l.length)]? = some hsF ∧
    ∀ (i : Nat) (o : Oper), l[i]? = some o → Fact T cf all ms N env0 valsF stgF (j + i) o := by
  induction l with
  | nil =>
    intro j vals hs stg valsF stgF hsF h hv hl hs1 hs2
    simp only [exD1] at h
    cases h
    exact ⟨⟨[], by simp, rfl⟩, ⟨[], by simp⟩, by simpa using hs2, fun i o hi => by simp at hi⟩
  | cons o r ih =>
    intro j vals hs stg valsF stgF hsF h hv hl hs1 hs2
    have hoj : all[j]? = some o := by have := hl 0; simpa using this.symm
    have hl' : ∀ i, r[i]? = all[j + 1 + i]? := fun i => by
      have := hl (i + 1)
      rw [show j + 1 + i = j + (i + 1) by omega, ← this]
      simp
    have hca : cnt (actAt all) (j + 1) = cnt (actAt all) j + (if isAct o.op then 1 else 0) := by
      simp only [cnt, actAt_of hoj]
      cases isAct o.op <;> rfl
    have adv : ∀ (v : AV) (hs' : HS) (stg' : List HS), exD1 T cf all ms N env0 r (j + 1) (vals ++ [v]) hs' stg' = .mk valsF stgF hsF → stg'.length = cnt (actAt all) (j + 1) + 1 → stg'[cnt (actAt all) (j + 1)]? = some hs' → (∃ q, stg' = stg ++ q) →
        (valsF.take j = vals → valsF[j]? = some v → (∀ (k : Nat) (x : HS), stg'[k]? = some x → stgF[k]? = some x) → Fact T cf all ms N env0 valsF stgF j o) →
        (∃ q, valsF = vals ++ q ∧ q.length = (o :: r).length) ∧ (∃ q, stgF = stg ++ q) ∧ stgF[cnt (actAt all) (j + (o :: r).length)]? = some hsF ∧
        ∀ (i : Nat) (o' : Oper), (o :: r)[i]? = some o' → Fact T cf all ms N env0 valsF stgF (j + i) o' := by
      intro v hs' stg' h1 h2 h3 h4 h5
      obtain ⟨⟨q, g1, g1'⟩, ⟨p, g2⟩, g3, g4⟩ := ih (j + 1) (vals ++ [v]) hs' stg' valsF stgF hsF h1 (by simp [hv]) hl' h2 h3
      obtain ⟨q', rfl⟩ := h4
      refine ⟨⟨v :: q, by simp [g1], by simp [g1']⟩, ⟨q' ++ p, by simp [g2]⟩, ?_, fun i o' hi => ?_⟩
      · rw [show j + (o :: r).length = j + 1 + r.length by simp; omega]
        exact g3
      · cases i with
        | zero =>
          simp at hi
          subst hi
          refine h5 ?_ ?_ ?_
          · rw [g1, List.append_assoc, List.take_append_of_le_length (by omega), List.take_of_length_le (by omega)]
          · rw [g1, List.append_assoc, List.getElem?_append_right (by omega), hv]
            simp
          · intro k x hk
            rw [g2, List.getElem?_append_left (List.getElem?_eq_some_iff.1 hk).1]
            exact hk
        | succ i =>
          have := g4 i o' (by simpa using hi)
          rwa [show j + 1 + i = j + (i + 1) by omega] at this
    simp only [exD1] at h
    have hnew : ∀ x : HS, (stg ++ [x]).length = cnt (actAt all) j + 1 + 1 ∧ (stg ++ [x])[cnt (actAt all) j + 1]? = some x := by
      intro x
      refine ⟨by simp [hs1], ?_⟩
      rw [List.getElem?_append_right (by omega), hs1]
      simp
    have hold : ∀ x : HS, (stg ++ [x])[cnt (actAt all) j]? = some hs := fun x => by
      rw [List.getElem?_append_left (by omega)]
      exact hs2
    cases hw : wantJ all ms N (nth vals) j o.guard with
    | none => rw [hw] at h; cases h
    | some b =>
      rw [hw] at h
      cases b with
      | false =>
        cases ha : isAct o.op with
        | true =>
          rw [ha] at h hca
          simp only at h
          simp only [if_true] at hca
          refine adv undefA hs (stg ++ [hs]) h (by rw [hca]; exact (hnew hs).1) (by rw [hca]; exact (hnew hs).2) ⟨_, rfl⟩ fun e1 e2 e3 => ?_
          unfold Fact
          rw [e1, hw]
          simp only
          exact ⟨e2, fun _ => by rw [e3 _ _ (hnew hs).2, e3 _ _ (hold hs)]⟩
        | false =>
          rw [ha] at h hca
          simp only at h
          simp only [Bool.false_eq_true, if_false, Nat.add_zero] at hca
          refine adv undefA hs stg h (by rw [hca]; exact hs1) (by rw [hca]; exact hs2) ⟨[], by simp⟩ fun e1 e2 e3 => ?_
          unfold Fact
          rw [e1, hw]
          simp only
          exact ⟨e2, fun h => by rw [ha] at h; cases h⟩
      | true =>
        cases ha : isAct o.op with
        | true =>
          rw [ha] at h hca
          simp only at h
          simp only [if_true] at hca
          have hfin : ∀ (v : AV) (hs' : HS), exD1 T cf all ms N env0 r (j + 1) (vals ++ [v]) hs' (stg ++ [hs']) = .mk valsF stgF hsF →
              (stepO T o.op (evJ all ms env0 (nth vals) j) hs = .ok v hs' ∨ ∃ f args, stepO T o.op (evJ all ms env0 (nth vals) j) hs = .call f args ∧ ∃ m, cf f args hs = .ret v hs' m) → _ := fun v hs' h1 h2 =>
            adv v hs' (stg ++ [hs']) h1 (by rw [hca]; exact (hnew hs').1) (by rw [hca]; exact (hnew hs').2) ⟨_, rfl⟩ fun e1 e2 e3 => by
              unfold Fact
              rw [e1, hw]
              simp only
              rw [ha]
              exact ⟨v, e2, hs, hs', e3 _ _ (hold hs'), e3 _ _ (hnew hs').2, h2⟩
          split at h
          · rename_i v hs' hr
            exact hfin v hs' h (.inl hr)
          · rename_i f args hr
            split at h
            · rename_i v hs' _ hcf
              exact hfin v hs' h (.inr ⟨f, args, hr, _, hcf⟩)
            · cases h
          · cases h
        | false =>
          rw [ha] at h hca
          simp only at h
          simp only [Bool.false_eq_true, if_false, Nat.add_zero] at hca
          split at h
          · rename_i v hp
            refine adv v hs stg h (by rw [hca]; exact hs1) (by rw [hca]; exact hs2) ⟨[], by simp⟩ fun e1 e2 e3 => ?_
            unfold Fact
            rw [e1, hw]
            simp only
            rw [ha]
            exact ⟨v, e2, fun v' hv' => by rw [hp] at hv'; cases hv'; rfl⟩
          · rename_i hp
            split at h
            · rename_i v hs' hr
              refine adv v hs stg h (by rw [hca]; exact hs1) (by rw [hca]; exact hs2) ⟨[], by simp⟩ fun e1 e2 e3 => ?_
              unfold Fact
              rw [e1, hw]
              simp only
              rw [ha]
              exact ⟨v, e2, fun v' hv' => by rw [hp] at hv'; cases hv'⟩
            · cases h

theorem evJ_congr {V V' : Nat → Option AV} {i : Nat} (h : ∀ k, bef ms k i = true → V k = V' k) : evJ all ms env0 V i = evJ all ms env0 V' i := by
  funext x
  cases x with
  | tmp t =>
    simp only [evJ]
    split
    · split
      · rename_i hb
        exact h _ hb
      · rfl
    · rfl
  | _ => rfl

theorem wantJ_congr {V V' : Nat → Option AV} {i : Nat} (h : ∀ k, bef ms k i = true → V k = V' k) (g : Option (Nat × Bool)) : wantJ all ms N V i g = wantJ all ms N V' i g := by
  unfold wantJ
  split
  · rfl
  · split
    · rename_i hb
      rw [h _ hb]
    · rfl

theorem chkR_iff {V : Nat → Option AV} {S : Nat → HS} (l : List Oper) : ∀ (j : Nat), chkR T all ms N env0 V S l j = true → ∀ (i : Nat) (o : Oper), l[i]? = some o → isAct o.op = false → wantJ all ms N V (j + i) o.guard = some true →
    stepP T o.op (evJ all ms env0 V (j + i)) = none → ∃ v, V (j + i) = some v ∧ ∀ s, cnt (fun k => actAt all k && bef ms k (j + i)) all.length ≤ s → s ≤ cnt (fun k => actAt all k && !bef ms (j + i) k) all.length →
      stepO T o.op (evJ all ms env0 V (j + i)) (S s) = .ok v (S s) := by
  induction l with
  | nil => intro j h i o hi; simp at hi
  | cons o r ih =>
    intro j h i oi hi ha hw hp
    have tail : chkR T all ms N env0 V S r (Nat.succ j) = true → ∀ i', i = i' + 1 → ∃ v, V (j + i) = some v ∧ ∀ s, cnt (fun k => actAt all k && bef ms k (j + i)) all.length ≤ s → s ≤ cnt (fun k => actAt all k && !bef ms (j + i) k) all.length →
      stepO T oi.op (evJ all ms env0 V (j + i)) (S s) = .ok v (S s) := by
      intro h1 i' e
      subst e
      have := ih (j + 1) h1 i' oi (by simpa using hi) ha (by rw [show j + 1 + i' = j + (i' + 1) by omega]; exact hw) (by rw [show j + 1 + i' = j + (i' + 1) by omega]; exact hp)
      rwa [show j + 1 + i' = j + (i' + 1) by omega] at this
    simp only [chkR] at h
    cases i with
    | succ i' =>
      refine tail ?_ i' rfl
      split at h
      · exact h
      · split at h
        · split at h
          · exact h
          · split at h
            · split at h
              · exact h
              · cases h
            · cases h
        · exact h
    | zero =>
      simp at hi
      subst hi
      rw [ha] at h
      simp only [Nat.add_zero] at hw hp ⊢
      rw [hw, hp] at h
      simp only at h
      split at h
      · rename_i v hv
        split at h
        · rename_i hc
          refine ⟨v, hv, fun s h1 h2 => chkS_iff ha _ _ hc s h1 (by omega)⟩
        · cases h
      · cases h

/-- A region whose order is left open. -/
noncomputable def exD (T : Tb) (cf : FuncId → List AV → HS → CR) (N : Nat) (all : List Oper) (env0 : Tr AV) (hs : HS) (ds : List Df) : Res :=
  match edgesOk all 0 && dstsOk all && dstsLt N all && chainOk (masks all []) all 0 [] with
  | true => match exD1 T cf all (masks all []) N env0 all 0 [] hs [hs] with
    | .mk vals stg hsF => match chkR T all (masks all []) N env0 (nth vals) (stgAt stg hs) all 0 with
      | true => .mk .norm (finEnv N all vals env0) hsF ds
      | false => .no
    | .no => .no
  | false => .no
where finEnv (N : Nat) : List Oper → List AV → Tr AV → Tr AV
  | o :: r, v :: vs, env => finEnv N r vs (setO N env o.dst v)
  | _, _, env => env

end Go.Rc
