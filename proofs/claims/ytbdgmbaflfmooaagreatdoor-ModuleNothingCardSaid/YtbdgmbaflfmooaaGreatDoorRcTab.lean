/- The types of a program as a walk needs them, computed; tries of numbered things. Conditions: none. -/
import Derived.Test.YtbdgmbaflfmooaaGreatDoorRcOps7
set_option linter.unusedVariables false
set_option linter.unusedSimpArgs false
namespace Go.Rc

/-! ### types -/
def fieldsOf : List Field → List (TypeId × Nat)
  | [] => []
  | f :: r => (f.type, f.offset) :: fieldsOf r

def tkOf : TypeDesc → TK
  | .string => .str
  | .bool => .bool
  | .int k => .int k
  | .slice e => .slice e
  | .struct fs => .struct (fieldsOf fs.toList)
  | .map k e => .map k e
  | .pointer e => .ptr e
  | .func _ _ _ => .func
  | .interface _ => .iface
  | .array n e => .arr n e
  | _ => .other

theorem fieldsOf_get (fs : List Field) (j : Nat) (t : TypeId) (o : Nat) (h : (fieldsOf fs)[j]? = some (t, o)) : ∃ f, fs[j]? = some f ∧ f.type = t ∧ f.offset = o := by
  induction fs generalizing j with
  | nil => simp [fieldsOf] at h
  | cons f r ih =>
    cases j with
    | zero => simp [fieldsOf] at h; exact ⟨f, rfl, h.1, h.2⟩
    | succ j => simp [fieldsOf] at h; simpa using ih j h

theorem fieldsOf_length (fs : List Field) : (fieldsOf fs).length = fs.length := by
  induction fs with
  | nil => rfl
  | cons f r ih => simp [fieldsOf, ih]

theorem tkOf_fits (d : TypeDesc) : (tkOf d).fits d := by
  cases d <;> simp [tkOf, TK.fits]
  rename_i fs
  exact ⟨by simp [fieldsOf_length], fun j t o h => by
    obtain ⟨f, h1, h2, h3⟩ := fieldsOf_get fs.toList j t o h
    exact ⟨f, by simpa using h1, h2, h3⟩⟩

def allOneV : List Value → Bool
  | [] => true
  | x :: r => match x.oneCell' with
    | true => allOneV r
    | false => false

theorem allOneV_iff {l : List Value} (h : allOneV l = true) : ∀ x, x ∈ l → x.oneCell' = true := by
  induction l with
  | nil => intro x hx; cases hx
  | cons v r ih =>
    simp only [allOneV] at h
    split at h
    · rename_i hb
      intro x hx
      rcases List.mem_cons.1 hx with rfl | hx
      · exact hb
      · exact ih h x hx
    · cases h

def zOf : Value → List Value
  | .agg cs => cs.toList
  | x => [x]

def mtOf (inf : TypeInfo) (name : String) : Option FuncId :=
  match inf.methods.find? (·.name == name) with
  | some m => match m.path.toList with
    | [] => match m.func with
      | some (f, false) => some f
      | _ => none
    | _ => none
  | none => none

theorem mtOf_ok {inf : TypeInfo} {name : String} {f : FuncId} (h : mtOf inf name = some f) : ∃ m : Method, inf.methods.find? (·.name == name) = some m ∧ m.path = #[] ∧ m.func = some (f, false) := by
  unfold mtOf at h
  split at h
  · rename_i m hm
    split at h
    · rename_i hp
      split at h
      · rename_i hf
        cases h
        exact ⟨m, hm, by simpa using hp, hf⟩
      · cases h
    · cases h
  · cases h

def namesOk : TypeDesc → Bool
  | .struct fs => fs.toList.all fun f => f.name != "_"
  | _ => true

def tiOf (P : Program) (t : TypeId) : Option TI :=
  match P.info? t with
  | some inf => match P.underlying t with
    | some d => match inf.zero with
      | some z => match Nat.beq (zOf z).length inf.size && allOneV (zOf z) && (z.isAgg == aggDesc d) with
        | true => some ⟨aggDesc d, inf.size, inf.bytes, zOf z, tkOf d, !P.eqGuardType P.depth t && !P.stoodInHeld t && namesOk d, mtOf inf⟩
        | false => none
      | none => none
    | none => none
  | none => none

theorem tiOf_ok (P : Program) : TbOk P (tiOf P) := by
  intro t i h
  unfold tiOf at h
  split at h
  · rename_i inf hinf
    split at h
    · rename_i d hd
      split at h
      · rename_i z hz
        split at h
        · rename_i hc
          cases h
          simp only [Bool.and_eq_true, beq_iff_eq] at hc
          obtain ⟨⟨h1, h2⟩, h3⟩ := hc
          have h1 := Nat.eq_of_beq_eq_true h1
          refine ⟨inf, d, hinf, hd, rfl, rfl, rfl, ?_, h1, allOneV_iff h2, ?_, tkOf_fits d, fun h => by
            simp only [Bool.and_eq_true, Bool.not_eq_true'] at h
            refine ⟨h.1.1, h.1.2, fun fields e f hf => ?_⟩
            have h2 := h.2
            rw [e] at h2
            simp only [namesOk, List.all_eq_true] at h2
            simpa using h2 f hf, fun name f h => mtOf_ok h⟩
          · rw [hz, ← h3]
            cases z <;> simp [zOf, Value.isAgg]
          · intro ha
            simp only at ha
            rw [ha] at h3
            cases z <;> simp_all [zOf, Value.isAgg]
        · cases h
      · cases h
    · cases h
  · cases h

/-! ### tries -/
theorem Tr.get_nil {α : Type} (n : Nat) : (Tr.nil : Tr α).get n = none := rfl
theorem Tr.get_zero {α : Type} (l r : Tr α) (v : Option α) : (Tr.node l v r).get 0 = v := rfl
theorem Tr.get_succ {α : Type} (l r : Tr α) (v : Option α) (m : Nat) : (Tr.node l v r).get (m + 1) = if m % 2 = 0 then l.get (m / 2) else r.get (m / 2) := by
  show Nat.casesOn (motive := fun _ => Option α) (m % 2) (l.get (m / 2)) (fun _ => r.get (m / 2)) = _
  cases h : m % 2 with
  | zero => rfl
  | succ k => rw [if_neg (by omega)]

theorem Tr.set_zero {α : Type} (t : Tr α) (n : Nat) (x : α) : t.set 0 n x = .nil := rfl
theorem Tr.set_nil {α : Type} (d n : Nat) (x : α) : (Tr.nil : Tr α).set (d + 1) n x = (Tr.node .nil none .nil : Tr α).set (d + 1) n x := by
  cases n <;> rfl
theorem Tr.set_node_zero {α : Type} (d : Nat) (l r : Tr α) (v : Option α) (x : α) : (Tr.node l v r).set (d + 1) 0 x = .node l (some x) r := rfl
theorem Tr.set_node_succ {α : Type} (d : Nat) (l r : Tr α) (v : Option α) (m : Nat) (x : α) :
    (Tr.node l v r).set (d + 1) (m + 1) x = if m % 2 = 0 then .node (l.set d (m / 2) x) v r else .node l v (r.set d (m / 2) x) := by
  show Nat.casesOn (motive := fun _ => Tr α) (m % 2) (.node (l.set d (m / 2) x) v r) (fun _ => .node l v (r.set d (m / 2) x)) = _
  cases h : m % 2 with
  | zero => rfl
  | succ k => rw [if_neg (by omega)]

/-- What is found behind a set. -/
theorem Tr.get_set {α : Type} (d : Nat) : ∀ (t : Tr α) (n m : Nat) (x y : α), (t.set d n x).get m = some y → (m = n ∧ y = x) ∨ (m ≠ n ∧ t.get m = some y) := by
  induction d with
  | zero => intro t n m x y h; rw [set_zero, get_nil] at h; cases h
  | succ d ih =>
    have node : ∀ (l : Tr α) (v : Option α) (r : Tr α) (n m : Nat) (x y : α), ((Tr.node l v r).set (d + 1) n x).get m = some y → (m = n ∧ y = x) ∨ (m ≠ n ∧ (Tr.node l v r).get m = some y) := by
      intro l v r n m x y h
      cases n with
      | zero =>
        rw [set_node_zero] at h
        cases m with
        | zero => rw [get_zero] at h; cases h; exact .inl ⟨rfl, rfl⟩
        | succ m => rw [get_succ] at h ⊢; exact .inr ⟨by omega, h⟩
      | succ n =>
        rw [set_node_succ] at h
        cases m with
        | zero =>
          refine .inr ⟨by omega, ?_⟩
          split at h <;> (rw [get_zero] at h ⊢; exact h)
        | succ m =>
          rw [get_succ]
          split at h
          · rename_i hn
            rw [get_succ] at h
            split at h
            · rename_i hm
              rw [if_pos hm]
              rcases ih l (n / 2) (m / 2) x y h with ⟨h1, h2⟩ | ⟨h1, h2⟩
              · exact .inl ⟨by omega, h2⟩
              · exact .inr ⟨fun e => h1 (by have : m = n := by omega
                                            rw [this]), h2⟩
            · rename_i hm
              rw [if_neg hm]
              exact .inr ⟨fun e => by have : m = n := by omega
                                      rw [this] at hm; exact hm hn, h⟩
          · rename_i hn
            rw [get_succ] at h
            split at h
            · rename_i hm
              rw [if_pos hm]
              exact .inr ⟨fun e => by have : m = n := by omega
                                      rw [this] at hm; exact hn hm, h⟩
            · rename_i hm
              rw [if_neg hm]
              rcases ih r (n / 2) (m / 2) x y h with ⟨h1, h2⟩ | ⟨h1, h2⟩
              · exact .inl ⟨by omega, h2⟩
              · exact .inr ⟨fun e => h1 (by have : m = n := by omega
                                            rw [this]), h2⟩
    intro t n m x y h
    cases t with
    | nil =>
      rw [set_nil] at h
      rcases node _ _ _ n m x y h with h | ⟨h1, h2⟩
      · exact .inl h
      · refine .inr ⟨h1, ?_⟩
        cases m with
        | zero => rw [get_zero] at h2; cases h2
        | succ m => rw [get_succ] at h2; split at h2 <;> (rw [get_nil] at h2; cases h2)
    | node l v r => exact node l v r n m x y h

end Go.Rc
