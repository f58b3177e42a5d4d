/- Regions whose order is left open, part 3: the run in the text's order, its checks, and what they give. Conditions: none. -/
import Derived.Test.YtpddpbcfkmnmaaaGreatDoorRcDraw2
set_option linter.unusedVariables false
set_option linter.unusedSimpArgs false
namespace Go.Rc

/-! ### what must be ahead -/
theorem maskOf_bit (ms : List Nat) (es : List Edge) (j : Nat) (h : Nat.testBit (maskOf ms es) j = true) : ∃ e, e ∈ es ∧ bindsA e = true ∧ (j = e.on ∨ Nat.testBit (ms.getD e.on 0) j = true) := by
  induction es with
  | nil => simp [maskOf] at h
  | cons e r ih =>
    simp only [maskOf] at h
    split at h
    · rename_i hb
      have h' : (((2 ^ e.on ||| ms.getD e.on 0) ||| maskOf ms r).testBit j) = true := h
      rw [Nat.testBit_or, Nat.testBit_or, Bool.or_eq_true, Bool.or_eq_true, Nat.testBit_two_pow] at h'
      rcases h' with (h1 | h1) | h1
      · exact ⟨e, by simp, hb, .inl (by simpa using (of_decide_eq_true h1).symm)⟩
      · exact ⟨e, by simp, hb, .inr h1⟩
      · obtain ⟨e', g1, g2⟩ := ih h1
        exact ⟨e', by simp [g1], g2⟩
    · obtain ⟨e', g1, g2⟩ := ih h
      exact ⟨e', by simp [g1], g2⟩

theorem masks_spec (l : List Oper) : ∀ (ms : List Nat), ∃ rest, masks l ms = ms ++ rest ∧ rest.length = l.length ∧
    ∀ (i : Nat) (o : Oper), l[i]? = some o → ∀ j, Nat.testBit ((masks l ms).getD (ms.length + i) 0) j = true → ∃ e, e ∈ o.after.toList ∧ bindsA e = true ∧ (j = e.on ∨ Nat.testBit ((masks l ms).getD e.on 0) j = true) := by
  induction l with
  | nil => intro ms; exact ⟨[], by simp [masks], rfl, fun i o h => by simp at h⟩
  | cons o r ih =>
    intro ms
    obtain ⟨rest, h1, h2, h3⟩ := ih (ms ++ [maskOf ms o.after.toList])
    refine ⟨maskOf ms o.after.toList :: rest, by simp [masks, h1], by simp [h2], fun i oi hi j hj => ?_⟩
    cases i with
    | zero =>
      simp at hi
      subst hi
      have e1 : (masks (o :: r) ms).getD (ms.length + 0) 0 = maskOf ms o.after.toList := by
        simp only [masks, h1, Nat.add_zero, List.getD_eq_getElem?_getD]
        rw [List.getElem?_append_left (by simp), List.getElem?_append_right (Nat.le_refl _)]
        simp
      rw [e1] at hj
      obtain ⟨e, g1, g2, g3⟩ := maskOf_bit _ _ _ hj
      refine ⟨e, g1, g2, g3.imp id fun g => ?_⟩
      have hlt : e.on < ms.length := by
        rcases Nat.lt_or_ge e.on ms.length with h | h
        · exact h
        · rw [List.getD_eq_getElem?_getD, List.getElem?_eq_none h] at g
          simp at g
      simp only [masks, h1]
      rw [List.getD_eq_getElem?_getD] at g ⊢
      rw [List.append_assoc, List.getElem?_append_left hlt]
      exact g
    | succ i =>
      have := h3 i oi (by simpa using hi) j (by
        simp only [masks] at hj
        simp only [List.length_append, List.length_cons, List.length_nil]
        rw [show ms.length + (0 + 1) + i = ms.length + (i + 1) by omega]
        exact hj)
      exact this

theorem edgesOk_iff (l : List Oper) : ∀ (k : Nat), edgesOk l k = true → ∀ (i : Nat) (o : Oper), l[i]? = some o → ∀ e, e ∈ o.after.toList → bindsA e = true → e.on < k + i := by
  induction l with
  | nil => intro k h i o hi; simp at hi
  | cons o r ih =>
    intro k h i oi hi e he hb
    simp only [edgesOk, Bool.and_eq_true, List.all_eq_true] at h
    cases i with
    | zero =>
      simp at hi
      subst hi
      have := h.1 e he
      rw [hb] at this
      simp only [Bool.not_true, Bool.false_or] at this
      have := Nat.le_of_ble_eq_true this
      omega
    | succ i =>
      have := ih (k + 1) h.2 i oi (by simpa using hi) e he hb
      omega

theorem findDst_none {t : Nat} : ∀ (l : List Oper) (k : Nat), findDst t l k = none → ∀ (i : Nat) (o : Oper), l[i]? = some o → o.dst ≠ some t := by
  intro l
  induction l with
  | nil => intro k h i o hi; simp at hi
  | cons o r ih =>
    intro k h i oi hi
    simp only [findDst] at h
    cases i with
    | zero =>
      simp at hi
      subst hi
      split at h
      · rename_i d hd
        split at h
        · cases h
        · rename_i hb
          rw [hd]
          intro e
          cases e
          rw [Nat.beq_refl] at hb
          cases hb
      · rename_i hd
        rw [hd]
        simp
    | succ i =>
      have hi : r[i]? = some oi := by simpa using hi
      split at h
      · split at h
        · cases h
        · exact ih _ h i oi hi
      · exact ih _ h i oi hi

theorem dstsOk_iff (l : List Oper) : dstsOk l = true → ∀ (k t i : Nat) (o : Oper), l[i]? = some o → o.dst = some t → findDst t l k = some (k + i) := by
  induction l with
  | nil => intro h k t i o hi; simp at hi
  | cons o r ih =>
    intro h k t i oi hi hd
    simp only [dstsOk] at h
    cases i with
    | zero =>
      simp at hi
      subst hi
      simp [findDst, hd]
    | succ i =>
      have hi : r[i]? = some oi := by simpa using hi
      split at h
      · rename_i d hod
        split at h
        · cases h
        · rename_i hno
          have hne : d ≠ t := fun e => by
            subst e
            exact findDst_none r 0 hno i oi hi hd
          simp only [findDst, hod]
          cases hb : Nat.beq d t with
          | true => exact (hne (Nat.eq_of_beq_eq_true hb)).elim
          | false =>
            simp only
            rw [ih h (k + 1) t i oi hi hd]
            congr 1
            omega
      · rename_i hod
        simp only [findDst, hod]
        rw [ih h (k + 1) t i oi hi hd]
        congr 1
        omega

def dstsLt (N : Nat) : List Oper → Bool
  | [] => true
  | o :: r => match o.dst with
    | some d => Nat.ble (d + 1) N && dstsLt N r
    | none => dstsLt N r

theorem dstsLt_iff {N : Nat} (l : List Oper) : dstsLt N l = true → ∀ (t i : Nat) (o : Oper), l[i]? = some o → o.dst = some t → t < N := by
  induction l with
  | nil => intro h t i o hi; simp at hi
  | cons o r ih =>
    intro h t i oi hi hd
    simp only [dstsLt] at h
    cases i with
    | zero =>
      simp at hi
      subst hi
      rw [hd] at h
      simp only [Bool.and_eq_true] at h
      exact Nat.le_of_ble_eq_true h.1
    | succ i =>
      have hi : r[i]? = some oi := by simpa using hi
      split at h
      · simp only [Bool.and_eq_true] at h
        exact ih h.2 t i oi hi hd
      · exact ih h t i oi hi hd

theorem chainOk_iff {ms : List Nat} (l : List Oper) : ∀ (k : Nat) (acts : List Nat), chainOk ms l k acts = true →
    (∀ (j : Nat) (o : Oper), l[j]? = some o → isAct o.op = true → ∀ a, a ∈ acts → bef ms a (k + j) = true) ∧
    (∀ (i j : Nat) (o o' : Oper), l[i]? = some o → l[j]? = some o' → i < j → isAct o.op = true → isAct o'.op = true → bef ms (k + i) (k + j) = true) := by
  induction l with
  | nil => intro k acts h; exact ⟨fun j o hj => by simp at hj, fun i j o o' hi => by simp at hi⟩
  | cons o r ih =>
    intro k acts h
    simp only [chainOk] at h
    cases ha : isAct o.op with
    | true =>
      rw [ha] at h
      simp only [Bool.and_eq_true, List.all_eq_true] at h
      obtain ⟨g1, g2⟩ := ih _ _ h.2
      refine ⟨fun j oj hj hact a haa => ?_, fun i j oi oj hi hj hij hai haj => ?_⟩
      · cases j with
        | zero => exact h.1 a haa
        | succ j =>
          have := g1 j oj (by simpa using hj) hact a (by simp [haa])
          rwa [show k + 1 + j = k + (j + 1) by omega] at this
      · cases j with
        | zero => omega
        | succ j =>
          cases i with
          | zero =>
            have := g1 j oj (by simpa using hj) haj k (by simp)
            rwa [show k + 1 + j = k + (j + 1) by omega] at this
          | succ i =>
            have := g2 i j oi oj (by simpa using hi) (by simpa using hj) (by omega) hai haj
            rwa [show k + 1 + i = k + (i + 1) by omega, show k + 1 + j = k + (j + 1) by omega] at this
    | false =>
      rw [ha] at h
      obtain ⟨g1, g2⟩ := ih _ _ h
      refine ⟨fun j oj hj hact a haa => ?_, fun i j oi oj hi hj hij hai haj => ?_⟩
      · cases j with
        | zero => simp at hj; subst hj; rw [ha] at hact; cases hact
        | succ j =>
          have := g1 j oj (by simpa using hj) hact a haa
          rwa [show k + 1 + j = k + (j + 1) by omega] at this
      · cases j with
        | zero => omega
        | succ j =>
          cases i with
          | zero => simp at hi; subst hi; rw [ha] at hai; cases hai
          | succ i =>
            have := g2 i j oi oj (by simpa using hi) (by simpa using hj) (by omega) hai haj
            rwa [show k + 1 + i = k + (i + 1) by omega, show k + 1 + j = k + (j + 1) by omega] at this

/-! ### the run -/
inductive DRun where
  | no
  | mk (vals : List AV) (stg : List HS) (hs : HS)

noncomputable def exD1 (T : Tb) (cf : FuncId → List AV → HS → CR) (all : List Oper) (ms : List Nat) (N : Nat) (env0 : Tr AV) (l : List Oper) : Nat → List AV → HS → List HS → DRun :=
  List.rec (motive := fun _ => Nat → List AV → HS → List HS → DRun) (fun _ vals hs stg => .mk vals stg hs)
    (fun o _ ih j vals hs stg =>
      match wantJ all ms N (nth vals) j o.guard with
      | none => .no
      | some false => match isAct o.op with
        | true => ih (Nat.succ j) (vals ++ [undefA]) hs (stg ++ [hs])
        | false => ih (Nat.succ j) (vals ++ [undefA]) hs stg
      | some true => match isAct o.op with
        | true => match stepO T o.op (evJ all ms env0 (nth vals) j) hs with
          | .ok v hs' => ih (Nat.succ j) (vals ++ [v]) hs' (stg ++ [hs'])
          | .call f args => match cf f args hs with
            | .ret v hs' _ => ih (Nat.succ j) (vals ++ [v]) hs' (stg ++ [hs'])
            | _ => .no
          | _ => .no
        | false => match stepP T o.op (evJ all ms env0 (nth vals) j) with
          | some v => ih (Nat.succ j) (vals ++ [v]) hs stg
          | none => match stepO T o.op (evJ all ms env0 (nth vals) j) hs with
            | .ok v _ => ih (Nat.succ j) (vals ++ [v]) hs stg
            | _ => .no) l

noncomputable def stgAt (stg : List HS) (hs0 : HS) (s : Nat) : HS := (nth stg s).getD hs0

/-- An operation that reads, at each stage from s on. -/
noncomputable def chkS (T : Tb) (op : Op) (ev : Ev) (S : Nat → HS) (v : AV) : Nat → Nat → Bool
  | 0, _ => true
  | k + 1, s => match stepO T op ev (S s) with
    | .ok v' _ => match sameA 30 v' v with
      | true => chkS T op ev S v k (s + 1)
      | false => false
    | _ => false

noncomputable def chkR (T : Tb) (all : List Oper) (ms : List Nat) (N : Nat) (env0 : Tr AV) (V : Nat → Option AV) (S : Nat → HS) : List Oper → Nat → Bool
  | [], _ => true
  | o :: r, j => match isAct o.op with
    | true => chkR T all ms N env0 V S r (Nat.succ j)
    | false => match wantJ all ms N V j o.guard with
      | some true => match stepP T o.op (evJ all ms env0 V j) with
        | some _ => chkR T all ms N env0 V S r (Nat.succ j)
        | none => match V j with
          | some v => match chkS T o.op (evJ all ms env0 V j) S v (cnt (fun k => actAt all k && !bef ms j k) all.length + 1 - cnt (fun k => actAt all k && bef ms k j) all.length) (cnt (fun k => actAt all k && bef ms k j) all.length) with
            | true => chkR T all ms N env0 V S r (Nat.succ j)
            | false => false
          | none => false
      | _ => chkR T all ms N env0 V S r (Nat.succ j)

theorem chkS_iff {T : Tb} {op : Op} {ev : Ev} {S : Nat → HS} {v : AV} (hq : isAct op = false) : ∀ (k s : Nat), chkS T op ev S v k s = true → ∀ u, s ≤ u → u < s + k → stepO T op ev (S u) = .ok v (S u) := by
  intro k
  induction k with
  | zero => intro s h u h1 h2; omega
  | succ k ih =>
    intro s h u h1 h2
    simp only [chkS] at h
    split at h
    · rename_i v' hs' hr
      split at h
      · rename_i hs
        by_cases e : u = s
        · subst e
          rw [hr, quiet_same hq hr, sameA_eq _ _ _ hs]
        · exact ih (s + 1) h u (by omega) (by omega)
      · cases h
    · cases h

end Go.Rc
