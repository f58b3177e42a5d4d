/- Calls of two functions that the machine knows by itself: a byte's place in a text, and two texts' order. Conditions: none. -/
import Derived.Test.YtbdgmbaflfmooaaGreatDoorRcRunC
import Derived.Laws.Externs
import Derived.KernelRfl
set_option linter.unusedVariables false
set_option linter.unusedSimpArgs false
namespace Go.Rc

def idxL (c : UInt8) : List UInt8 → Nat → Int
  | [], _ => -1
  | a :: r, k => match Nat.beq a.toNat c.toNat with
    | true => Int.ofNat k
    | false => idxL c r (Nat.succ k)

theorem beq_u8 (a c : UInt8) : (a == c) = Nat.beq a.toNat c.toNat := by
  rw [beq_eqD]
  by_cases h : a = c
  · subst h; simp
  · rw [decide_eq_false (fun e => h (UInt8.toNat_inj.1 e))]
    exact beq_eq_false_iff_ne.2 h

theorem idxL_eq (c : UInt8) (f : Nat → UInt8) : ∀ (l : List UInt8) (k : Nat), (∀ j x, l[j]? = some x → f (k + j) = x) →
    (match (List.range' k l.length).find? (fun i => f i == c) with | some i => (i : Int) | none => -1) = idxL c l k := by
  intro l
  induction l with
  | nil => intro k h; rfl
  | cons a r ih =>
    intro k h
    have h0 : f k = a := h 0 a rfl
    simp only [List.length_cons, List.range'_succ, List.find?_cons, h0, idxL, beq_u8]
    cases hb : Nat.beq a.toNat c.toNat with
    | true => rfl
    | false =>
      simp only
      have := ih (k + 1) (fun j x hj => by have := h (j + 1) x (by simpa using hj); rwa [show k + 1 + j = k + (j + 1) by omega])
      simpa only [beq_u8] using this

theorem size_toList (s : ByteArray) : s.data.toList.length = s.size := by rw [Array.length_toList]; rfl

theorem get_toList (s : ByteArray) (j : Nat) (x : UInt8) (h : s.data.toList[j]? = some x) : s[j]! = x := by
  have hj := (List.getElem?_eq_some_iff.1 h).1
  have hj' : j < s.size := by rw [← size_toList]; exact hj
  rw [getElem!_pos s j hj']
  have h2 := (List.getElem?_eq_some_iff.1 h).2
  rw [← h2]
  simp
  rfl

theorem firstIdx_eq (s : ByteArray) (c : UInt8) : firstIdx s c = idxL c s.data.toList 0 := by
  unfold firstIdx
  rw [← idxL_eq c (fun i => s[i]!) s.data.toList 0 (fun j x hj => by rw [Nat.zero_add]; exact get_toList s j x hj), size_toList, List.range_eq_range']
  generalize List.find? _ _ = q
  cases q <;> rfl

def cmpL : List UInt8 → List UInt8 → Int
  | [], [] => 0
  | [], _ :: _ => -1
  | _ :: _, [] => 1
  | a :: r, b :: s => match Nat.beq a.toNat b.toNat with
    | true => cmpL r s
    | false => match Nat.ble (a.toNat + 1) b.toNat with
      | true => -1
      | false => 1

theorem cmpL_eq (f g : Nat → UInt8) : ∀ (l m : List UInt8) (k : Nat), (∀ j x, l[j]? = some x → f (k + j) = x) → (∀ j x, m[j]? = some x → g (k + j) = x) →
    (match (List.range' k (min l.length m.length)).find? (fun i => f i != g i) with
      | some i => if f i < g i then (-1 : Int) else 1
      | none => if l.length < m.length then -1 else if l.length > m.length then 1 else 0) = cmpL l m := by
  intro l
  induction l with
  | nil => intro m k h1 h2; cases m <;> simp [cmpL]
  | cons a r ih =>
    intro m k h1 h2
    cases m with
    | nil => simp [cmpL]
    | cons b s =>
      have e1 : f k = a := h1 0 a rfl
      have e2 : g k = b := h2 0 b rfl
      have hmin : min (a :: r).length (b :: s).length = min r.length s.length + 1 := by simp only [List.length_cons]; omega
      rw [hmin, List.range'_succ, List.find?_cons, e1, e2]
      have hne : (a != b) = !Nat.beq a.toNat b.toNat := by
        show (!(a == b)) = _
        rw [beq_u8]
      rw [hne]
      simp only [cmpL]
      cases hb : Nat.beq a.toNat b.toNat with
      | true =>
        simp only [Bool.not_true]
        have := ih s (k + 1) (fun j x hj => by have := h1 (j + 1) x (by simpa using hj); rwa [show k + 1 + j = k + (j + 1) by omega]) (fun j x hj => by have := h2 (j + 1) x (by simpa using hj); rwa [show k + 1 + j = k + (j + 1) by omega])
        rw [← this]
        simp only [List.length_cons]
        generalize List.find? _ _ = q
        cases q <;> simp
      | false =>
        simp only [Bool.not_false, e1, e2]
        have : (a < b) ↔ a.toNat < b.toNat := UInt8.lt_iff_toNat_lt
        rw [ble_eq]
        by_cases h : a.toNat < b.toNat
        · rw [if_pos (this.2 h), decide_eq_true (by omega)]
        · rw [if_neg (fun e => h (this.1 e)), decide_eq_false (by omega)]

theorem cmp_eq (a b : ByteArray) : Extern.BytealgCompare.cmp a b = cmpL a.data.toList b.data.toList := by
  unfold Extern.BytealgCompare.cmp
  have := cmpL_eq (fun i => a[i]!) (fun i => b[i]!) a.data.toList b.data.toList 0 (fun j x hj => by rw [Nat.zero_add]; exact get_toList a j x hj) (fun j x hj => by rw [Nat.zero_add]; exact get_toList b j x hj)
  rw [← this, size_toList, size_toList, List.range_eq_range']
  generalize List.find? _ _ = q
  cases q <;> rfl

noncomputable def ctIb (args : List AV) (hs : HS) (κ π : KV) : Prop := match args with
  | [.d (.v (.string s)), .d (.v (.int .u8 (.ofNat c)))] => κ (.d (.v (.int .i64 (idxL c.toUInt8 s.data.toList 0)))) hs
  | _ => False

noncomputable def ctCs (args : List AV) (hs : HS) (κ π : KV) : Prop := match args with
  | [.d (.v (.string s)), .d (.v (.string t))] => κ (.d (.v (.int .i64 (cmpL s.data.toList t.data.toList)))) hs
  | _ => False

/-- What the two functions answer. ib, cs: their numbers. -/
noncomputable def ctExt (ib cs : FuncId) : CT := fun f => match Nat.beq f ib with
  | true => some ctIb
  | false => match Nat.beq f cs with
    | true => some ctCs
    | false => none

theorem all_two {ρ : List Value} {S : Nat → Prop} {w : World} {x y : Value} {xs : Array Value} (h : AllR (VR ρ S w) [.d (.v x), .d (.v y)] xs.toList) : xs = #[x, y] := by
  obtain ⟨l⟩ := xs
  simp only at h
  match l, h with
  | [u, v], h =>
    have h1 := dv_inv (h.2 0 _ u rfl rfl)
    have h2 := dv_inv (h.2 1 _ v rfl rfl)
    subst h1 h2
    rfl
  | [], h => have := h.1; simp at this
  | [_], h => have := h.1; simp at this
  | _ :: _ :: _ :: _, h => have := h.1; simp at this

theorem ctExt_ok {P : Program} {ib cs : FuncId}
    (h1 : ∀ args w, (callFunc ib args).run P w = ((Extern.BytealgIndexByte.indexByte args).run P w).andThen fun v w' => .ok (.value v) w')
    (h2 : ∀ args w, (callFunc cs args).run P w = ((Extern.BytealgCompare.compare args).run P w).andThen fun v w' => .ok (.value v) w') : CtOk P (ctExt ib cs) := by
  intro f c hc f' args hs κ π G ρ H w xs hG hst hh hargs hk R hR _
  obtain ⟨rfl, hk⟩ := hk
  unfold ctExt at hc
  split at hc
  · rename_i hb
    obtain rfl := Nat.eq_of_beq_eq_true hb
    cases hc
    unfold ctIb at hk
    split at hk
    · rename_i s c
      have e := all_two hargs
      subst e
      refine .inr ⟨_, ?_, hR _ _ hk ρ H w _ hst (Step.refl ρ H w) hh.same2 (.d _ _ (.v _ rfl))⟩
      rw [h1, run_indexByte_string]
      simp only [Result.andThen_ok, firstIdx_eq]
      rfl
    · exact hk.elim
  · split at hc
    · rename_i hb
      obtain rfl := Nat.eq_of_beq_eq_true hb
      cases hc
      unfold ctCs at hk
      split at hk
      · rename_i s t
        have e := all_two hargs
        subst e
        refine .inr ⟨_, ?_, hR _ _ hk ρ H w _ hst (Step.refl ρ H w) hh.same2 (.d _ _ (.v _ rfl))⟩
        rw [h2]
        have : (Extern.BytealgCompare.compare #[.string s, .string t]).run P w = .ok (.int .i64 (cmpL s.data.toList t.data.toList)) w := by
          change Sem.run P (do
            let a ← Extern.Bytes.bytesOf (.string s)
            let b ← Extern.Bytes.bytesOf (.string t)
            pure (goInt (Extern.BytealgCompare.cmp a b))) w = _
          simp only [Extern.Bytes.bytesOf, Sem.run_bind, Sem.run_pure, Result.andThen_ok, cmp_eq]
          rfl
        rw [this]
        rfl
      · exact hk.elim
    · cases hc

end Go.Rc
