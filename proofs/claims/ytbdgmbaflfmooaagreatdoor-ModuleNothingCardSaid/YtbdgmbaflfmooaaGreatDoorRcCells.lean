/- Cells of abstract values: parts, wholes, fills; what they are in a world. Conditions: none. -/
import Derived.Test.YtbdgmbaflfmooaaGreatDoorRcSat
set_option linter.unusedVariables false
set_option linter.unusedSimpArgs false
namespace Go.Rc

/-- Cell for cell. -/
def AllR (R : AV → Value → Prop) (cs : List AV) (vs : List Value) : Prop :=
  vs.length = cs.length ∧ ∀ (i : Nat) (c : AV) (x : Value), cs[i]? = some c → vs[i]? = some x → R c x

def allD : List AV → Option (List D)
  | [] => some []
  | .d x :: r => match allD r with
    | some l => some (x :: l)
    | none => none
  | _ => none

def mkAgg (cs : List AV) : AV := match allD cs with
  | some ds => .d (.agg ds)
  | none => .agg cs

theorem allD_map (cs : List AV) (ds : List D) (h : allD cs = some ds) : cs = ds.map .d := by
  induction cs generalizing ds with
  | nil => cases h; rfl
  | cons c r ih =>
    cases c with
    | d x =>
      simp only [allD] at h
      cases hr : allD r with
      | none => simp [hr] at h
      | some l =>
        simp [hr] at h
        subst h
        simp [ih l hr]
    | _ => simp [allD] at h

theorem allD_some (ds : List D) : allD (ds.map .d) = some ds := by
  induction ds with
  | nil => rfl
  | cons x r ih => simp [allD, ih]

variable {ρ : List Value} {S : Nat → Prop} {w : World}

theorem AllR.nil {R : AV → Value → Prop} : AllR R [] [] := ⟨rfl, fun i c x h => by simp at h⟩
theorem AllR.cons {R : AV → Value → Prop} {c : AV} {x : Value} {cs : List AV} {vs : List Value} (h : R c x) (t : AllR R cs vs) : AllR R (c :: cs) (x :: vs) := by
  refine ⟨by simp [t.1], fun i c' x' h1 h2 => ?_⟩
  cases i with
  | zero => simp at h1 h2; subst h1 h2; exact h
  | succ i => simp at h1 h2; exact t.2 i c' x' h1 h2
theorem AllR.imp {R R' : AV → Value → Prop} {cs : List AV} {vs : List Value} (h : AllR R cs vs) (k : ∀ c x, R c x → R' c x) : AllR R' cs vs :=
  ⟨h.1, fun i c x h1 h2 => k _ _ (h.2 i c x h1 h2)⟩
theorem AllR.append {R : AV → Value → Prop} {cs ds : List AV} {vs us : List Value} (h : AllR R cs vs) (k : AllR R ds us) : AllR R (cs ++ ds) (vs ++ us) := by
  refine ⟨by simp [h.1, k.1], fun i c x h1 h2 => ?_⟩
  rcases Nat.lt_or_ge i cs.length with hi | hi
  · rw [List.getElem?_append_left hi] at h1
    rw [List.getElem?_append_left (by rw [h.1]; exact hi)] at h2
    exact h.2 i c x h1 h2
  · rw [List.getElem?_append_right hi] at h1
    rw [List.getElem?_append_right (by rw [h.1]; exact hi), h.1] at h2
    exact k.2 _ c x h1 h2
theorem AllR.drop {R : AV → Value → Prop} {cs : List AV} {vs : List Value} (h : AllR R cs vs) (n : Nat) : AllR R (cs.drop n) (vs.drop n) :=
  ⟨by simp [h.1], fun i c x h1 h2 => by rw [List.getElem?_drop] at h1 h2; exact h.2 _ c x h1 h2⟩
theorem AllR.take {R : AV → Value → Prop} {cs : List AV} {vs : List Value} (h : AllR R cs vs) (n : Nat) : AllR R (cs.take n) (vs.take n) := by
  refine ⟨by simp [h.1], fun i c x h1 h2 => ?_⟩
  rw [List.getElem?_take] at h1 h2
  split at h1
  · rename_i hi
    rw [if_pos hi] at h2
    exact h.2 _ c x h1 h2
  · cases h1
theorem AllR.get {R : AV → Value → Prop} {cs : List AV} {vs : List Value} (h : AllR R cs vs) {i : Nat} {c : AV} (hc : cs[i]? = some c) : ∃ x, vs[i]? = some x ∧ R c x := by
  have hi : i < vs.length := by rw [h.1]; exact (List.getElem?_eq_some_iff.1 hc).1
  exact ⟨vs[i], by simp [hi], h.2 i c _ hc (by simp [hi])⟩
theorem AllR.set {R : AV → Value → Prop} {cs : List AV} {vs : List Value} (h : AllR R cs vs) (n : Nat) {c : AV} {x : Value} (hx : R c x) : AllR R (cs.set n c) (vs.set n x) := by
  refine ⟨by simp [h.1], fun i c' x' h1 h2 => ?_⟩
  by_cases hi : n = i
  · subst hi
    rcases Nat.lt_or_ge n cs.length with hn | hn
    · rw [List.getElem?_set_self hn] at h1
      rw [List.getElem?_set_self (by rw [h.1]; exact hn)] at h2
      cases h1; cases h2; exact hx
    · rw [List.getElem?_eq_none (by simp; exact hn)] at h1
      cases h1
  · rw [List.getElem?_set_ne hi] at h1 h2
    exact h.2 i c' x' h1 h2

theorem isAgg_of_one {x : Value} (h : x.oneCell' = true) : x.isAgg = false := by cases x <;> simp_all [Value.oneCell', Value.isAgg]

/-- A value's cells. -/
theorem VR.cells {v : AV} {x : Value} (h : VR ρ S w v x) : AllR (VR ρ S w) v.cells x.cells.toList := by
  have one : x.isAgg = false → (v.cells = [v]) → AllR (VR ρ S w) v.cells x.cells.toList := by
    intro h1 h2
    have hx : x.cells = #[x] := by cases x <;> simp_all [Value.cells, Value.isAgg]
    rw [h2, hx]
    exact .cons h .nil
  cases h with
  | d y v hd =>
    cases hd with
    | v x hx => exact one hx rfl
    | agg cs vs hl hh =>
      refine ⟨by simp [AV.cells, Value.cells, hl], fun i c x h1 h2 => ?_⟩
      simp only [AV.cells, Value.cells, List.getElem?_map, Option.map_eq_some_iff] at h1 h2
      obtain ⟨d, hd, rfl⟩ := h1
      exact .d d x (hh i d x hd (by simpa using h2))
    | nil => exact one rfl rfl
    | sl => exact one rfl rfl
    | cp => exact one rfl rfl
    | im => exact one rfl rfl
    | ifc => exact one rfl rfl
    | vw x v he =>
      cases ha : x.agg with
      | true =>
        obtain ⟨cs, hcs⟩ := exp_agg x ha
        simp only [AV.cells, ha, hcs, D.cells0]
        rw [hcs] at he
        cases he with
        | agg _ vs hl hh =>
          refine ⟨by simp [Value.cells, hl], fun i c x h1 h2 => ?_⟩
          simp only [Value.cells, List.getElem?_map, Option.map_eq_some_iff] at h1 h2
          obtain ⟨d, hd, rfl⟩ := h1
          exact .d d x (hh i d x hd (by simpa using h2))
      | false =>
        obtain ⟨ag, sz, es, hcs⟩ := exp_sl x ha
        have he' := he
        rw [hcs] at he'
        refine one (by cases he' <;> rfl) ?_
        simp only [AV.cells, ha]
  | ptr => exact one rfl rfl
  | row id n a len cap v h hn hv hx => exact one (isAgg_of_one hx) rfl
  | mp => exact one rfl rfl
  | agg cs vs hl hh =>
    exact ⟨by simp [AV.cells, Value.cells, hl], fun i c x h1 h2 => hh i c x h1 (by simpa [Value.cells] using h2)⟩
  | fn => exact one rfl rfl
  | rp id n sz i off a len cap v h hn hv hx => exact one (isAgg_of_one hx) rfl
  | win id n sz lo hi a len cap v h hn hlo hhi hv hx => exact one (isAgg_of_one hx) rfl
  | sl => exact one rfl rfl
  | ifc => exact one rfl rfl
  | tup => exact one rfl rfl
  | yl => exact one rfl rfl

theorem VR.mkAgg {cs : List AV} {vs : Array Value} (h : AllR (VR ρ S w) cs vs.toList) : VR ρ S w (mkAgg cs) (.agg vs) := by
  unfold Rc.mkAgg
  split
  · rename_i ds hd
    have e := allD_map cs ds hd
    subst e
    refine .d _ _ (.agg ds vs (by simpa using h.1) (fun i c x h1 h2 => ?_))
    have := h.2 i (.d c) x (by simp [h1]) (by simpa using h2)
    cases this with
    | d _ _ hh => exact hh
  · exact .agg cs vs (by simpa using h.1) (fun i c x h1 h2 => h.2 i c x h1 (by simpa using h2))

def AV.one : AV → Bool
  | .d (.v x) => x.oneCell'
  | .d (.agg _) => false
  | .d (.vw x) => !x.agg
  | .agg _ => false
  | .tup _ => false
  | _ => true

theorem VR.one {v : AV} {x : Value} (h : VR ρ S w v x) (ho : v.one = true) : x.oneCell' = true := by
  cases h with
  | d y v hd =>
    cases hd with
    | vw x v he =>
      simp only [AV.one, Bool.not_eq_true'] at ho
      obtain ⟨ag, sz, es, hcs⟩ := exp_sl x ho
      rw [hcs] at he
      cases he <;> rfl
    | _ => simp_all [AV.one, Value.oneCell']
  | row id n a len cap v h hn hv hx => exact hx
  | rp id n sz i off a len cap v h hn hv hx => exact hx
  | win id n sz lo hi a len cap v h hn hlo hhi hv hx => exact hx
  | agg => simp [AV.one] at ho
  | tup => simp [AV.one] at ho
  | _ => rfl

theorem VR.isAgg {v : AV} {x : Value} (h : VR ρ S w v x) : x.isAgg = v.isAgg := by
  cases h with
  | d y v hd =>
    cases hd with
    | vw x v he =>
      cases ha : x.agg with
      | true =>
        obtain ⟨cs, hcs⟩ := exp_agg x ha
        rw [hcs] at he
        cases he
        simp [AV.isAgg, Value.isAgg, ha]
      | false =>
        obtain ⟨ag, sz, es, hcs⟩ := exp_sl x ha
        rw [hcs] at he
        cases he <;> simp [AV.isAgg, Value.isAgg, ha]
    | _ => simp_all [AV.isAgg, Value.isAgg]
  | row id n a len cap v h hn hv hx => exact isAgg_of_one hx
  | rp id n sz i off a len cap v h hn hv hx => exact isAgg_of_one hx
  | win id n sz lo hi a len cap v h hn hlo hhi hv hx => exact isAgg_of_one hx
  | _ => rfl

theorem VR.of_cells {v : AV} {x : Value} (h : AllR (VR ρ S w) v.cells x.cells.toList) (ha : x.isAgg = v.isAgg) : VR ρ S w v x := by
  cases hv : v.isAgg with
  | true =>
    rw [hv] at ha
    cases x <;> simp only [Value.isAgg, Bool.false_eq_true] at ha
    rename_i vs
    cases v with
    | agg cs => exact .agg cs vs (by simpa [AV.cells, Value.cells] using h.1) (fun i c x h1 h2 => h.2 i c x h1 (by simpa [Value.cells] using h2))
    | d y =>
      cases y with
      | agg ds =>
        refine .d _ _ (.agg ds vs (by simpa [AV.cells, Value.cells] using h.1) (fun i c x h1 h2 => ?_))
        have := h.2 i (.d c) x (by simp [AV.cells, h1]) (by simpa [Value.cells] using h2)
        cases this with
        | d _ _ hh => exact hh
      | vw y =>
        simp only [AV.isAgg] at hv
        obtain ⟨ds, hds⟩ := exp_agg y hv
        refine .d _ _ (.vw y _ ?_)
        rw [hds]
        simp only [AV.cells, hv, hds, D.cells0] at h
        refine .agg ds vs (by simpa [Value.cells] using h.1) (fun i c x h1 h2 => ?_)
        have := h.2 i (.d c) x (by simp [h1]) (by simpa [Value.cells] using h2)
        cases this with
        | d _ _ hh => exact hh
      | _ => simp [AV.isAgg] at hv
    | _ => simp [AV.isAgg] at hv
  | false =>
    rw [hv] at ha
    have h1 : v.cells = [v] := by
      cases v with
      | d y => cases y <;> simp_all [AV.isAgg, AV.cells]
      | agg cs => simp [AV.isAgg] at hv
      | _ => rfl
    have h2 : x.cells.toList = [x] := by cases x <;> simp_all [Value.cells, Value.isAgg]
    rw [h1, h2] at h
    exact h.2 0 v x rfl rfl

/-- A part of a value's cells: the whole, so many from a place on, or one. ag, m: is the value an aggregate, of how many cells. -/
def part (agg : Bool) (sz off : Nat) (ag : Bool) (m : Nat) (v : AV) : Option AV :=
  match Nat.beq off 0 && Nat.beq sz m && (agg == ag) with
  | true => some v
  | false => match agg with
    | true => match Nat.beq ((v.cells.drop off).take sz).length sz with
      | true => some (mkAgg ((v.cells.drop off).take sz))
      | false => none
    | false => match v.cells[off]? with
      | some c => match c.isAgg with
        | true => none
        | false => some c
      | none => none

end Go.Rc
