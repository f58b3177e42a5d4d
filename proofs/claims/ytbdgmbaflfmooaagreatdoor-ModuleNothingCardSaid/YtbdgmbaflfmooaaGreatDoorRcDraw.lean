/- Regions whose order is left open: what must be ahead of what. Conditions: none. -/
import Derived.Test.YtbdgmbaflfmooaaGreatDoorRcSame
set_option linter.unusedVariables false
set_option linter.unusedSimpArgs false
namespace Go.Rc

def bindsA (e : Edge) : Bool := match e.ground with
  | .textOnly _ => false
  | .gcOnly _ => false
  | _ => true

theorem bindsA_eq (e : Edge) : Region.binds .any e = bindsA e := by
  unfold Region.binds bindsA
  cases e.ground <;> rfl

/-- What must be ahead of an operation, as a number's bits. -/
def maskOf (ms : List Nat) : List Edge → Nat
  | [] => 0
  | e :: r => match bindsA e with
    | true => Nat.lor (Nat.lor (2 ^ e.on) (ms.getD e.on 0)) (maskOf ms r)
    | false => maskOf ms r

def masks : List Oper → List Nat → List Nat
  | [], ms => ms
  | o :: r, ms => masks r (ms ++ [maskOf ms o.after.toList])

/-- j must be ahead of i. -/
def bef (ms : List Nat) (j i : Nat) : Bool := Nat.testBit (ms.getD i 0) j

def edgesOk : List Oper → Nat → Bool
  | [], _ => true
  | o :: r, i => (o.after.toList.all fun e => !bindsA e || Nat.ble (e.on + 1) i) && edgesOk r (i + 1)

def findDst (t : Nat) : List Oper → Nat → Option Nat
  | [], _ => none
  | o :: r, k => match o.dst with
    | some d => match Nat.beq d t with
      | true => some k
      | false => findDst t r (k + 1)
    | none => findDst t r (k + 1)

/-- No two operations of a region write one temporary. -/
def dstsOk : List Oper → Bool
  | [] => true
  | o :: r => match o.dst with
    | some d => match findDst d r 0 with
      | some _ => false
      | none => dstsOk r
    | none => dstsOk r

/-- Operations that change memory stand in a chain. -/
def chainOk (ms : List Nat) : List Oper → Nat → List Nat → Bool
  | [], _, _ => true
  | o :: r, i, acts => match isAct o.op with
    | true => (acts.all fun j => bef ms j i) && chainOk ms r (i + 1) (i :: acts)
    | false => chainOk ms r (i + 1) acts

def cnt (p : Nat → Bool) : Nat → Nat
  | 0 => 0
  | n + 1 => match p n with
    | true => Nat.succ (cnt p n)
    | false => cnt p n

theorem cnt_mono {p q : Nat → Bool} {n : Nat} (h : ∀ j, j < n → p j = true → q j = true) : cnt p n ≤ cnt q n := by
  induction n with
  | zero => exact Nat.le_refl _
  | succ n ih =>
    have := ih (fun j hj => h j (by omega))
    simp only [cnt]
    cases hp : p n with
    | true => rw [h n (by omega) hp]; simp only; omega
    | false => cases q n <;> simp only <;> omega

theorem cnt_congr {p q : Nat → Bool} {n : Nat} (h : ∀ j, j < n → p j = q j) : cnt p n = cnt q n :=
  Nat.le_antisymm (cnt_mono fun j hj hp => by rw [← h j hj]; exact hp) (cnt_mono fun j hj hp => by rw [h j hj]; exact hp)

theorem cnt_flip {p q : Nat → Bool} {n i : Nat} (hi : i < n) (hp : p i = false) (hq : q i = true) (h : ∀ j, j < n → j ≠ i → p j = q j) : cnt q n = cnt p n + 1 := by
  induction n with
  | zero => omega
  | succ n ih =>
    simp only [cnt]
    by_cases hin : i = n
    · subst hin
      rw [hp, hq, cnt_congr (p := p) (q := q) (fun j hj => h j (by omega) (by omega))]
    · have := ih (by omega) (fun j hj => h j (by omega))
      rw [h n (by omega) (fun e => hin e.symm)]
      cases q n <;> simp only [this]

theorem cnt_zero {p : Nat → Bool} {n : Nat} (h : cnt p n = 0) : ∀ j, j < n → p j = false := by
  induction n with
  | zero => intro j hj; omega
  | succ n ih =>
    intro j hj
    simp only [cnt] at h
    cases hp : p n with
    | true => rw [hp] at h; simp at h
    | false =>
      rw [hp] at h
      by_cases e : j = n
      · rw [e]; exact hp
      · exact ih h j (by omega)

theorem cnt_pos {p : Nat → Bool} {n k : Nat} (h : cnt p n = k + 1) : ∃ j, j < n ∧ p j = true ∧ ∀ i, i < j → p i = false := by
  induction n generalizing k with
  | zero => simp [cnt] at h
  | succ n ih =>
    cases hz : cnt p n with
    | zero =>
      simp only [cnt] at h
      cases hp : p n with
      | true => exact ⟨n, by omega, hp, cnt_zero hz⟩
      | false => rw [hp] at h; simp only at h; omega
    | succ m =>
      obtain ⟨j, h1, h2, h3⟩ := ih hz
      exact ⟨j, by omega, h2, h3⟩

def undefA : AV := .d (.v undef)

def lst (listed : Array Bool) (i : Nat) : Bool := listed.getD i false

theorem findDst_some {t : Nat} : ∀ (l : List Oper) (k i : Nat), findDst t l k = some i → k ≤ i ∧ ∃ o, l[i - k]? = some o ∧ o.dst = some t := by
  intro l
  induction l with
  | nil => intro k i h; simp [findDst] at h
  | cons o r ih =>
    intro k i h
    simp only [findDst] at h
    have tail : findDst t r (k + 1) = some i → k ≤ i ∧ ∃ o', (o :: r)[i - k]? = some o' ∧ o'.dst = some t := by
      intro h
      obtain ⟨h1, o', h2, h3⟩ := ih (k + 1) i h
      refine ⟨by omega, o', ?_, h3⟩
      rw [show i - k = (i - (k + 1)) + 1 by omega]
      simpa using h2
    split at h
    · rename_i d hd
      split at h
      · rename_i hb
        cases h
        exact ⟨Nat.le_refl _, o, by simp, by rw [hd, Nat.eq_of_beq_eq_true hb]⟩
      · exact tail h
    · exact tail h

variable {ops : Array Oper} {all : List Oper}

theorem lst_set {listed : Array Bool} {i : Nat} (hi : i < listed.size) (j : Nat) : lst (listed.setIfInBounds i true) j = if j = i then true else lst listed j := by
  unfold lst
  simp only [Array.getD_eq_getD_getElem?]
  by_cases h : j = i
  · subst h; simp [hi]
  · rw [if_neg h, Array.getElem?_setIfInBounds_ne (fun e => h e.symm)]

theorem ready_iff {listed : Array Bool} (hall : ops.toList = all) (hs : listed.size = ops.size) (i : Nat) : i ∈ Region.ready .any ops listed ↔ ∃ o, all[i]? = some o ∧ lst listed i = false ∧ ∀ e, e ∈ o.after.toList → bindsA e = true → lst listed e.on = true := by
  unfold Region.ready
  simp only [List.mem_filter, List.mem_range, Bool.and_eq_true]
  constructor
  · rintro ⟨hi, h1, h2⟩
    have ho : ops[i]? = some ops[i] := by simp [hi]
    rw [ho] at h2
    refine ⟨ops[i], by rw [← hall]; simp [hi], ?_, fun e he hb => ?_⟩
    · unfold lst
      have hi' : i < listed.size := by omega
      simp only [Array.getD_eq_getD_getElem?, Array.getElem?_eq_getElem hi', Option.getD_some] at h1 ⊢
      simpa using h1
    · simp only [Option.map_some, Option.getD_some, Array.all_eq_true_iff_forall_mem] at h2
      have := h2 e (by simpa using he)
      rw [bindsA_eq, hb] at this
      simpa [lst] using this
  · rintro ⟨o, ho, h1, h2⟩
    have hi : i < ops.size := by
      have := (List.getElem?_eq_some_iff.1 ho).1
      rw [← hall] at this
      simpa using this
    have ho' : ops[i]? = some o := by rw [← hall] at ho; simpa using ho
    refine ⟨hi, ?_, ?_⟩
    · unfold lst at h1
      have hi' : i < listed.size := by omega
      simp only [Array.getD_eq_getD_getElem?, Array.getElem?_eq_getElem hi', Option.getD_some] at h1 ⊢
      simp [h1]
    · rw [ho']
      simp only [Option.map_some, Option.getD_some, Array.all_eq_true_iff_forall_mem]
      intro e he
      rw [bindsA_eq]
      cases hb : bindsA e with
      | false => rfl
      | true =>
        have := h2 e (by simpa using he) hb
        simpa [lst] using this

/-! ### what must be ahead -/
theorem maskOf_bit (ms : List Nat) (es : List Edge) (j : Nat) (h : Nat.testBit (maskOf ms es) j = true) : ∃ e, e ∈ es ∧ bindsA e = true ∧ (j = e.on ∨ Nat.testBit (ms.getD e.on 0) j = true) := by
  induction es with
  | nil => simp [maskOf] at h
  | cons e r ih =>
    simp only [maskOf] at h
    split at h
    · rename_i hb
      have h' : (((2 ^ e.on ||| ms.getD e.on 0) ||| maskOf ms r).testBit j) = true := h
      rw [Nat.testBit_or, Nat.testBit_or, Bool.or_eq_true, Bool.or_eq_true, Nat.testBit_two_pow] at h'
      rcases h' with (h1 | h1) | h1
      · exact ⟨e, by simp, hb, .inl (by simpa using (of_decide_eq_true h1).symm)⟩
      · exact ⟨e, by simp, hb, .inr h1⟩
      · obtain ⟨e', g1, g2⟩ := ih h1
        exact ⟨e', by simp [g1], g2⟩
    · obtain ⟨e', g1, g2⟩ := ih h
      exact ⟨e', by simp [g1], g2⟩

theorem masks_spec (l : List Oper) : ∀ (ms : List Nat), ∃ rest, masks l ms = ms ++ rest ∧ rest.length = l.length ∧
    ∀ (i : Nat) (o : Oper), l[i]? = some o → ∀ j, Nat.testBit ((masks l ms).getD (ms.length + i) 0) j = true → ∃ e, e ∈ o.after.toList ∧ bindsA e = true ∧ (j = e.on ∨ Nat.testBit ((masks l ms).getD e.on 0) j = true) := by
  induction l with
  | nil => intro ms; exact ⟨[], by simp [masks], rfl, fun i o h => by simp at h⟩
  | cons o r ih =>
    intro ms
    obtain ⟨rest, h1, h2, h3⟩ := ih (ms ++ [maskOf ms o.after.toList])
    refine ⟨maskOf ms o.after.toList :: rest, by simp [masks, h1], by simp [h2], fun i oi hi j hj => ?_⟩
    cases i with
    | zero =>
      simp at hi
      subst hi
      have e1 : (masks (o :: r) ms).getD (ms.length + 0) 0 = maskOf ms o.after.toList := by
        simp only [masks, h1, Nat.add_zero, List.getD_eq_getElem?_getD]
        rw [List.getElem?_append_left (by simp), List.getElem?_append_right (Nat.le_refl _)]
        simp
      rw [e1] at hj
      obtain ⟨e, g1, g2, g3⟩ := maskOf_bit _ _ _ hj
      refine ⟨e, g1, g2, g3.imp id fun g => ?_⟩
      have hlt : e.on < ms.length := by
        rcases Nat.lt_or_ge e.on ms.length with h | h
        · exact h
        · rw [List.getD_eq_getElem?_getD, List.getElem?_eq_none h] at g
          simp at g
      simp only [masks, h1]
      rw [List.getD_eq_getElem?_getD] at g ⊢
      rw [List.append_assoc, List.getElem?_append_left hlt]
      exact g
    | succ i =>
      have := h3 i oi (by simpa using hi) j (by
        simp only [masks] at hj
        simp only [List.length_append, List.length_cons, List.length_nil]
        rw [show ms.length + (0 + 1) + i = ms.length + (i + 1) by omega]
        exact hj)
      exact this

theorem edgesOk_iff (l : List Oper) : ∀ (k : Nat), edgesOk l k = true → ∀ (i : Nat) (o : Oper), l[i]? = some o → ∀ e, e ∈ o.after.toList → bindsA e = true → e.on < k + i := by
  induction l with
  | nil => intro k h i o hi; simp at hi
  | cons o r ih =>
    intro k h i oi hi e he hb
    simp only [edgesOk, Bool.and_eq_true, List.all_eq_true] at h
    cases i with
    | zero =>
      simp at hi
      subst hi
      have := h.1 e he
      rw [hb] at this
      simp only [Bool.not_true, Bool.false_or] at this
      have := Nat.le_of_ble_eq_true this
      omega
    | succ i =>
      have := ih (k + 1) h.2 i oi (by simpa using hi) e he hb
      omega

theorem findDst_none {t : Nat} : ∀ (l : List Oper) (k : Nat), findDst t l k = none → ∀ (i : Nat) (o : Oper), l[i]? = some o → o.dst ≠ some t := by
  intro l
  induction l with
  | nil => intro k h i o hi; simp at hi
  | cons o r ih =>
    intro k h i oi hi
    simp only [findDst] at h
    cases i with
    | zero =>
      simp at hi
      subst hi
      split at h
      · rename_i d hd
        split at h
        · cases h
        · rename_i hb
          rw [hd]
          intro e
          cases e
          rw [Nat.beq_refl] at hb
          cases hb
      · rename_i hd
        rw [hd]
        simp
    | succ i =>
      have hi : r[i]? = some oi := by simpa using hi
      split at h
      · split at h
        · cases h
        · exact ih _ h i oi hi
      · exact ih _ h i oi hi

theorem dstsOk_iff (l : List Oper) : dstsOk l = true → ∀ (k t i : Nat) (o : Oper), l[i]? = some o → o.dst = some t → findDst t l k = some (k + i) := by
  induction l with
  | nil => intro h k t i o hi; simp at hi
  | cons o r ih =>
    intro h k t i oi hi hd
    simp only [dstsOk] at h
    cases i with
    | zero =>
      simp at hi
      subst hi
      simp [findDst, hd]
    | succ i =>
      have hi : r[i]? = some oi := by simpa using hi
      split at h
      · rename_i d hod
        split at h
        · cases h
        · rename_i hno
          have hne : d ≠ t := fun e => by
            subst e
            exact findDst_none r 0 hno i oi hi hd
          simp only [findDst, hod]
          cases hb : Nat.beq d t with
          | true => exact (hne (Nat.eq_of_beq_eq_true hb)).elim
          | false =>
            simp only
            rw [ih h (k + 1) t i oi hi hd]
            congr 1
            omega
      · rename_i hod
        simp only [findDst, hod]
        rw [ih h (k + 1) t i oi hi hd]
        congr 1
        omega

def dstsLt (N : Nat) : List Oper → Bool
  | [] => true
  | o :: r => match o.dst with
    | some d => Nat.ble (d + 1) N && dstsLt N r
    | none => dstsLt N r

theorem dstsLt_iff {N : Nat} (l : List Oper) : dstsLt N l = true → ∀ (t i : Nat) (o : Oper), l[i]? = some o → o.dst = some t → t < N := by
  induction l with
  | nil => intro h t i o hi; simp at hi
  | cons o r ih =>
    intro h t i oi hi hd
    simp only [dstsLt] at h
    cases i with
    | zero =>
      simp at hi
      subst hi
      rw [hd] at h
      simp only [Bool.and_eq_true] at h
      exact Nat.le_of_ble_eq_true h.1
    | succ i =>
      have hi : r[i]? = some oi := by simpa using hi
      split at h
      · simp only [Bool.and_eq_true] at h
        exact ih h.2 t i oi hi hd
      · exact ih h t i oi hi hd

theorem chainOk_iff {ms : List Nat} (l : List Oper) : ∀ (k : Nat) (acts : List Nat), chainOk ms l k acts = true →
    (∀ (j : Nat) (o : Oper), l[j]? = some o → isAct o.op = true → ∀ a, a ∈ acts → bef ms a (k + j) = true) ∧
    (∀ (i j : Nat) (o o' : Oper), l[i]? = some o → l[j]? = some o' → i < j → isAct o.op = true → isAct o'.op = true → bef ms (k + i) (k + j) = true) := by
  induction l with
  | nil => intro k acts h; exact ⟨fun j o hj => by simp at hj, fun i j o o' hi => by simp at hi⟩
  | cons o r ih =>
    intro k acts h
    simp only [chainOk] at h
    cases ha : isAct o.op with
    | true =>
      rw [ha] at h
      simp only [Bool.and_eq_true, List.all_eq_true] at h
      obtain ⟨g1, g2⟩ := ih _ _ h.2
      refine ⟨fun j oj hj hact a haa => ?_, fun i j oi oj hi hj hij hai haj => ?_⟩
      · cases j with
        | zero => exact h.1 a haa
        | succ j =>
          have := g1 j oj (by simpa using hj) hact a (by simp [haa])
          rwa [show k + 1 + j = k + (j + 1) by omega] at this
      · cases j with
        | zero => omega
        | succ j =>
          cases i with
          | zero =>
            have := g1 j oj (by simpa using hj) haj k (by simp)
            rwa [show k + 1 + j = k + (j + 1) by omega] at this
          | succ i =>
            have := g2 i j oi oj (by simpa using hi) (by simpa using hj) (by omega) hai haj
            rwa [show k + 1 + i = k + (i + 1) by omega, show k + 1 + j = k + (j + 1) by omega] at this
    | false =>
      rw [ha] at h
      obtain ⟨g1, g2⟩ := ih _ _ h
      refine ⟨fun j oj hj hact a haa => ?_, fun i j oi oj hi hj hij hai haj => ?_⟩
      · cases j with
        | zero => simp at hj; subst hj; rw [ha] at hact; cases hact
        | succ j =>
          have := g1 j oj (by simpa using hj) hact a haa
          rwa [show k + 1 + j = k + (j + 1) by omega] at this
      · cases j with
        | zero => omega
        | succ j =>
          cases i with
          | zero => simp at hi; subst hi; rw [ha] at hai; cases hai
          | succ i =>
            have := g2 i j oi oj (by simpa using hi) (by simpa using hj) (by omega) hai haj
            rwa [show k + 1 + i = k + (i + 1) by omega, show k + 1 + j = k + (j + 1) by omega] at this

end Go.Rc
