/- One operation that reads or changes memory, computed on abstract values. Conditions: none. -/
import Derived.Test.YtbdgmbaflfmooaaGreatDoorRcStep
import Derived.Test.YtbdgmbaflfmooaaGreatDoorRcMore3
set_option linter.unusedVariables false
set_option linter.unusedSimpArgs false
namespace Go.Rc

/-- The heap, as a trie and the number of its objects. -/
structure HS where
  t : Tr AObj
  n : Nat

def HtOk (hs : HS) (H : Heap) : Prop := hs.n = H.length ∧ ∀ i o, hs.t.get i = some o → H[i]? = some o

noncomputable def HS.push (hs : HS) (o : AObj) : HS := ⟨hs.t.set 64 hs.n o, Nat.succ hs.n⟩
noncomputable def HS.put (hs : HS) (i : Nat) (o : AObj) : HS := ⟨hs.t.set 64 i o, hs.n⟩

theorem HtOk.push {hs : HS} {H : Heap} (h : HtOk hs H) (o : AObj) : HtOk (hs.push o) (H ++ [o]) := by
  refine ⟨by simp [HS.push, h.1], fun i o' hg => ?_⟩
  rcases Tr.get_set 64 _ _ _ _ _ hg with ⟨rfl, rfl⟩ | ⟨_, h2⟩
  · rw [h.1]; simp
  · have := h.2 i o' h2
    rw [List.getElem?_append_left (List.getElem?_eq_some_iff.1 this).1]
    exact this

theorem HtOk.put {hs : HS} {H : Heap} (h : HtOk hs H) {i : Nat} {o0 : AObj} (h0 : hs.t.get i = some o0) (o : AObj) : HtOk (hs.put i o) (H.set i o) := by
  refine ⟨by simp [HS.put, h.1], fun j o' hg => ?_⟩
  have hlt := (List.getElem?_eq_some_iff.1 (h.2 i o0 h0)).1
  rcases Tr.get_set 64 _ _ _ _ _ hg with ⟨rfl, rfl⟩ | ⟨h1, h2⟩
  · simp [hlt]
  · rw [List.getElem?_set_ne (fun e => h1 e.symm)]
    exact h.2 j o' h2

/-- What is not known of the heap stays as it is, and is not known behind the step. -/
def Keep (hs : HS) (H : Heap) (hs' : HS) (H' : Heap) : Prop := H.length ≤ H'.length ∧ ∀ id, hs.t.get id = none → id < H.length → hs'.t.get id = none ∧ H'[id]? = H[id]?

theorem Tr.get_set_none {α : Type} {d : Nat} {t : Tr α} {n m : Nat} {x : α} (h : t.get m = none) (hne : m ≠ n) : (t.set d n x).get m = none := by
  cases hg : (t.set d n x).get m with
  | none => rfl
  | some y =>
    rcases Tr.get_set d _ _ _ _ _ hg with ⟨e, _⟩ | ⟨_, e⟩
    · exact (hne e).elim
    · rw [h] at e; cases e

theorem Keep.refl (hs : HS) (H : Heap) : Keep hs H hs H := ⟨Nat.le_refl _, fun _ h _ => ⟨h, rfl⟩⟩
theorem Keep.trans {a b c : HS} {A B C : Heap} (h : Keep a A b B) (k : Keep b B c C) : Keep a A c C :=
  ⟨Nat.le_trans h.1 k.1, fun id h1 h2 => by
    obtain ⟨g1, g2⟩ := h.2 id h1 h2
    obtain ⟨k1, k2⟩ := k.2 id g1 (Nat.lt_of_lt_of_le h2 h.1)
    exact ⟨k1, k2.trans g2⟩⟩
theorem Keep.push {hs : HS} {H : Heap} (h : HtOk hs H) (o : AObj) : Keep hs H (hs.push o) (H ++ [o]) := ⟨by simp, fun id hn hl =>
  ⟨Tr.get_set_none (d := 64) (n := hs.n) (x := o) hn (by have := h.1; omega), by rw [List.getElem?_append_left hl]⟩⟩
theorem Keep.put {hs : HS} {H : Heap} {i : Nat} {o0 : AObj} (h0 : hs.t.get i = some o0) (o : AObj) : Keep hs H (hs.put i o) (H.set i o) := ⟨by simp, fun id hn _ => by
  have hne : id ≠ i := by
    intro e
    subst e
    rw [h0] at hn
    cases hn
  exact ⟨Tr.get_set_none (d := 64) (n := i) (x := o) hn hne, by rw [List.getElem?_set_ne (fun e => hne e.symm)]⟩⟩

/-- What is known of the heap behind a step; what is not known stays. -/
def Ht2 (hs : HS) (H : Heap) (hs' : HS) (H' : Heap) : Prop := HtOk hs' H' ∧ Keep hs H hs' H'

theorem HtOk.push2 {hs : HS} {H : Heap} (h : HtOk hs H) (o : AObj) : Ht2 hs H (hs.push o) (H ++ [o]) := ⟨h.push o, Keep.push h o⟩
theorem HtOk.put2 {hs : HS} {H : Heap} (h : HtOk hs H) {i : Nat} {o0 : AObj} (h0 : hs.t.get i = some o0) (o : AObj) : Ht2 hs H (hs.put i o) (H.set i o) := ⟨h.put h0 o, Keep.put h0 o⟩
theorem HtOk.same2 {hs : HS} {H : Heap} (h : HtOk hs H) : Ht2 hs H hs H := ⟨h, Keep.refl hs H⟩
theorem Ht2.trans {a b c : HS} {A B C : Heap} (h : Ht2 a A b B) (k : Ht2 b B c C) : Ht2 a A c C := ⟨k.1, h.2.trans k.2⟩

/-- What one operation does. -/
inductive R where
  | ok (v : AV) (hs : HS)
  | pan (v : AV) (hs : HS)
  | call (f : FuncId) (args : List AV)
  | dfr (f : FuncId) (args caps : List AV)
  | round (id : Nat) (args : List AV)
  | no

def isIfc : AV → Bool
  | .ifc _ _ => true
  | .d (.ifc _ _) => true
  | _ => false

/-- What a value holds that is appended. -/
noncomputable def srcA (hs : HS) (ie : TI) : AV → Option (List AV)
  | .d (.sl _ ag sz es) => match Nat.beq sz ie.sz && (ag == ie.agg) with
    | true => some (es.map .d)
    | false => none
  | .d (.v (.slice none 0 0)) => some []
  | .row id n => match hs.t.get id with
    | some (.row _ ag sz ys) => match Nat.beq sz ie.sz && (ag == ie.agg) && Nat.beq n ys.length with
      | true => some ys
      | false => none
    | _ => none
  | _ => none

theorem srcA_ok {hs : HS} {H : Heap} (hh : HtOk hs H) {ie : TI} {v : AV} {ys : List AV} (h : srcA hs ie v = some ys) : SrcOk H ie.agg ie.sz v ys := by
  unfold srcA at h
  split at h
  · split at h
    · cases h
      rename_i hq
      simp only [Bool.and_eq_true, beq_iff_eq] at hq
      rw [Nat.eq_of_beq_eq_true hq.1, hq.2]
      exact .d _ _ _ _ _
    · cases h
  · cases h
    exact .nil _ _ _
  · split at h
    · split at h
      · cases h
        rename_i hq
        simp only [Bool.and_eq_true, beq_iff_eq] at hq
        obtain ⟨⟨h1, h2⟩, h3⟩ := hq
        have h1 := Nat.eq_of_beq_eq_true h1
        subst h1 h2
        exact .row (hh.2 _ _ (by assumption)) (Nat.eq_of_beq_eq_true h3)
      · cases h
    · cases h
  · cases h

def isRowOf (id : Nat) : AV → Bool
  | .row j _ => Nat.beq id j
  | .win j _ _ _ _ => Nat.beq id j
  | _ => false

/-- append. -/
noncomputable def appA (T : Tb) (hs : HS) (e : TypeId) (ie : TI) (s x : AV) : R :=
  match srcA hs ie x with
  | some ys => match Nat.ble 1 ie.sz with
    | true => match s with
      | .row id n => match hs.t.get id with
        | some (.row e' ag sz es) => match Nat.beq e' e && Nat.beq sz ie.sz && (ag == ie.agg) && Nat.beq n es.length && !isRowOf id x && Nat.ble ((es.length + ys.length) * ie.bt) 140737488355328 && Nat.ble (es.length + ys.length) 140737488355328 with
          | true => .ok (.row id (es.length + ys.length)) (hs.put id (.row e ie.agg ie.sz (es ++ ys)))
          | false => .no
        | _ => .no
      | .d (.v (.slice none 0 0)) => match Nat.ble (ys.length * ie.bt) 140737488355328 && Nat.ble ys.length 140737488355328 with
        | true => .ok (.row hs.n ys.length) (hs.push (.row e ie.agg ie.sz ys))
        | false => .no
      | .d (.sl true ag sz es) => match Nat.beq sz ie.sz && (ag == ie.agg) && Nat.ble 1 ys.length && Nat.ble ((es.length + ys.length) * ie.bt) 140737488355328 && Nat.ble (es.length + ys.length) 140737488355328 with
        | true => .ok (.row hs.n (es.length + ys.length)) (hs.push (.row e ie.agg ie.sz (es.map .d ++ ys)))
        | false => .no
      | _ => .no
    | false => .no
  | none => .no

def notPtr : TK → Bool
  | .ptr _ => false
  | .other => false
  | _ => true

/-- The greater, the smaller of two numbers. -/
def maxI (m n : Int) : Int := match ltI m n with
  | true => n
  | false => m
def minI (m n : Int) : Int := match ltI n m with
  | true => n
  | false => m

/-- A call, but of a function's value. -/
noncomputable def stepB0 (T : Tb) (c : Call) (ev : Ev) (hs : HS) : R :=
  match c.callee with
  | .builtin .len => match c.args.toList with
    | [x] => match c.argTypes.toList with
      | [t] => match T t with
        | some i => match i.k with
          | .str => match ev x with
            | some (.d (.v (.string s))) => .ok (.d (.v (.int .i64 (.ofNat s.data.toList.length)))) hs
            | _ => .no
          | .slice _ => match evX ev x with
            | some (.row id n) => match hs.t.get id with
              | some (.row _ _ _ es) => match Nat.beq n es.length with
                | true => .ok (.d (.v (.int .i64 (.ofNat n)))) hs
                | false => .no
              | _ => .no
            | some (.win id n _ a b) => match hs.t.get id with
              | some (.row _ _ _ es) => match Nat.beq n es.length with
                | true => .ok (.d (.v (.int .i64 (.ofNat (Nat.sub b a))))) hs
                | false => .no
              | _ => .no
            | some v => match lenOf v with
              | some n => .ok (.d (.v (.int .i64 (.ofNat n)))) hs
              | none => .no
            | none => .no
          | .map _ _ => match ev x with
            | some (.mp id) => match hs.t.get id with
              | some (.map es) => .ok (.d (.v (.int .i64 (.ofNat es.length)))) hs
              | _ => .no
            | _ => .no
          | _ => .no
        | none => .no
      | _ => .no
    | _ => .no
  | .builtin .append => match c.args.toList with
    | [s, x] => match c.argTypes.toList with
      | [t, t'] => match Nat.beq t t' with
        | true => match T t with
          | some i => match i.k with
            | .slice e => match T e with
              | some ie => match evX ev s with
                | some vs => match evX ev x with
                  | some vx => appA T hs e ie vs vx
                  | none => .no
                | none => .no
              | none => .no
            | _ => .no
          | none => .no
        | false => .no
      | _ => .no
    | _ => .no
  | .builtin .max => match c.args.toList with
    | [x, y] => match ev x with
      | some (.d (.v (.int j m))) => match ev y with
        | some (.d (.v (.int k n))) => match sameK j k with
          | true => .ok (.d (.v (.int j (maxI m n)))) hs
          | false => .no
        | _ => .no
      | _ => .no
    | _ => .no
  | .builtin .min => match c.args.toList with
    | [x, y] => match ev x with
      | some (.d (.v (.int j m))) => match ev y with
        | some (.d (.v (.int k n))) => match sameK j k with
          | true => .ok (.d (.v (.int j (minI m n)))) hs
          | false => .no
        | _ => .no
      | _ => .no
    | _ => .no
  | .value f => match ev f with
    | some (.fn g first caps) => match evL ev c.args.toList with
      | some l => .call g (first ++ l ++ caps)
      | none => .no
    | some (.yl id) => match evL ev c.args.toList with
      | some l => .round id l
      | none => .no
    | _ => .no
  | .invoke r name => match ev r with
    | some v => match ifcA v with
      | some (t, x) => match T t with
        | some i => match notPtr i.k with
          | true => match i.mt name with
            | some g => match evL ev c.args.toList with
              | some l => .call g (x :: l)
              | none => .no
            | none => .no
          | false => .no
        | none => .no
      | none => .no
    | none => .no
  | _ => .no

noncomputable def sb_len (T : Tb) (c : Call) (ev : Ev) (hs : HS) : R := match c.args.toList with
    | [x] => match c.argTypes.toList with
      | [t] => match T t with
        | some i => match i.k with
          | .str => match ev x with
            | some (.d (.v (.string s))) => .ok (.d (.v (.int .i64 (.ofNat s.data.toList.length)))) hs
            | _ => .no
          | .slice _ => match evX ev x with
            | some (.row id n) => match hs.t.get id with
              | some (.row _ _ _ es) => match Nat.beq n es.length with
                | true => .ok (.d (.v (.int .i64 (.ofNat n)))) hs
                | false => .no
              | _ => .no
            | some (.win id n _ a b) => match hs.t.get id with
              | some (.row _ _ _ es) => match Nat.beq n es.length with
                | true => .ok (.d (.v (.int .i64 (.ofNat (Nat.sub b a))))) hs
                | false => .no
              | _ => .no
            | some v => match lenOf v with
              | some n => .ok (.d (.v (.int .i64 (.ofNat n)))) hs
              | none => .no
            | none => .no
          | .map _ _ => match ev x with
            | some (.mp id) => match hs.t.get id with
              | some (.map es) => .ok (.d (.v (.int .i64 (.ofNat es.length)))) hs
              | _ => .no
            | _ => .no
          | _ => .no
        | none => .no
      | _ => .no
    | _ => .no

noncomputable def sb_append (T : Tb) (c : Call) (ev : Ev) (hs : HS) : R := match c.args.toList with
    | [s, x] => match c.argTypes.toList with
      | [t, t'] => match Nat.beq t t' with
        | true => match T t with
          | some i => match i.k with
            | .slice e => match T e with
              | some ie => match evX ev s with
                | some vs => match evX ev x with
                  | some vx => appA T hs e ie vs vx
                  | none => .no
                | none => .no
              | none => .no
            | _ => .no
          | none => .no
        | false => .no
      | _ => .no
    | _ => .no

noncomputable def sb_max (T : Tb) (c : Call) (ev : Ev) (hs : HS) : R := match c.args.toList with
    | [x, y] => match ev x with
      | some (.d (.v (.int j m))) => match ev y with
        | some (.d (.v (.int k n))) => match sameK j k with
          | true => .ok (.d (.v (.int j (maxI m n)))) hs
          | false => .no
        | _ => .no
      | _ => .no
    | _ => .no

noncomputable def sb_min (T : Tb) (c : Call) (ev : Ev) (hs : HS) : R := match c.args.toList with
    | [x, y] => match ev x with
      | some (.d (.v (.int j m))) => match ev y with
        | some (.d (.v (.int k n))) => match sameK j k with
          | true => .ok (.d (.v (.int j (minI m n)))) hs
          | false => .no
        | _ => .no
      | _ => .no
    | _ => .no

noncomputable def sb_value (T : Tb) (f : Operand) (c : Call) (ev : Ev) (hs : HS) : R := match ev f with
    | some (.fn g first caps) => match evL ev c.args.toList with
      | some l => .call g (first ++ l ++ caps)
      | none => .no
    | some (.yl id) => match evL ev c.args.toList with
      | some l => .round id l
      | none => .no
    | _ => .no

noncomputable def sb_invoke (T : Tb) (r : Operand) (name : String) (c : Call) (ev : Ev) (hs : HS) : R := match ev r with
    | some v => match ifcA v with
      | some (t, x) => match T t with
        | some i => match notPtr i.k with
          | true => match i.mt name with
            | some g => match evL ev c.args.toList with
              | some l => .call g (x :: l)
              | none => .no
            | none => .no
          | false => .no
        | none => .no
      | none => .no
    | none => .no

noncomputable def sb_builtin (T : Tb) (b : Builtin) (c : Call) (ev : Ev) (hs : HS) : R :=
  match b with
  | .len => sb_len T c ev hs
  | .append => sb_append T c ev hs
  | .max => sb_max T c ev hs
  | .min => sb_min T c ev hs
  | _ => .no

noncomputable def stepB (T : Tb) (c : Call) (ev : Ev) (hs : HS) : R :=
  match c.callee with
  | .value f => sb_value T f c ev hs
  | .invoke r name => sb_invoke T r name c ev hs
  | .builtin b => sb_builtin T b c ev hs

theorem stepB_eq (T : Tb) (c : Call) (ev : Ev) (hs : HS) : stepB T c ev hs = stepB0 T c ev hs := by
  obtain ⟨callee, args, ts⟩ := c
  cases callee with
  | builtin b => cases b <;> rfl
  | _ => rfl

/-- A map's key and its elements' type. -/
noncomputable def mapT (T : Tb) (t : TypeId) : Option TypeId :=
  match T t with
  | some i => match i.k with
    | .map k e => match T k with
      | some ik => match ik.k with
        | .str => some e
        | _ => none
      | none => none
    | _ => none
  | none => none

/-- Operations. -/
noncomputable def stepO0 (T : Tb) (op : Op) (ev : Ev) (hs : HS) : R :=
  match op with
  | .load t ad => match T t with
    | some i => match ev ad with
      | some (.ptr id off) => match hs.t.get id with
        | some (.var _ ag m v0) => match part i.agg i.sz off ag m v0 with
          | some v => .ok v hs
          | none => .no
        | _ => .no
      | some (.rp id m sz k off) => match hs.t.get id with
        | some (.row _ ag sz' es) => match Nat.beq sz' sz && Nat.beq m es.length with
          | true => match nth es k with
            | some e => match part i.agg i.sz off ag sz e with
              | some v => .ok v hs
              | none => .no
            | none => .no
          | false => .no
        | _ => .no
      | some (.d (.cp c ag m off)) => match part i.agg i.sz off ag m (.d c) with
        | some v => .ok v hs
        | none => .no
      | _ => .no
    | none => .no
  | .store t ad x => match T t with
    | some i => match ev x with
      | some v => match ev ad with
        | some (.ptr id off) => match hs.t.get id with
          | some (.var ty ag m v0) => match putPart i.agg i.sz off ag m v0 v with
            | some v2 => .ok (.d (.v undef)) (hs.put id (.var ty ag m v2))
            | none => .no
          | _ => .no
        | some (.rp id m sz k off) => match hs.t.get id with
          | some (.row te ag sz' es) => match Nat.beq sz' sz && Nat.beq m es.length with
            | true => match nth es k with
              | some e => match putPart i.agg i.sz off ag sz e v with
                | some e2 => .ok (.d (.v undef)) (hs.put id (.row te ag sz (es.set k e2)))
                | none => .no
              | none => .no
            | false => .no
          | _ => .no
        | _ => .no
      | none => .no
    | none => .no
  | .alloc t => match T t with
    | some i => .ok (.ptr hs.n 0) (hs.push (.var t i.agg i.sz (zv i)))
    | none => .no
  | .box t x => match T t with
    | some i => match ev x with
      | some v => match Nat.beq v.cells.length i.sz && (v.isAgg == i.agg) with
        | true => .ok (.ptr hs.n 0) (hs.push (.var t i.agg i.sz v))
        | false => .no
      | none => .no
    | none => .no
  | .buildSlice t n ps => match T t with
    | some i => match i.k with
      | .slice e => match T e with
        | some ie => match Nat.ble 1 ie.sz with
          | true => match evParts ev ps.toList with
            | some l => match litE 0 l with
              | some es => match Nat.beq n es.length && allEl ie.agg ie.sz es && Nat.ble (es.length * ie.sz) 16777216 with
                | true => .ok (.row hs.n es.length) (hs.push (.row e ie.agg ie.sz es))
                | false => .no
              | none => .no
            | none => .no
          | false => .no
        | none => .no
      | _ => .no
    | none => .no
  | .indexAddr t x ix => match T t with
    | some i => match i.k with
      | .slice e => match T e with
        | some ie => match evX ev ix with
          | some (.d (.v (.int _ (.ofNat n)))) => match evX ev x with
            | some (.row id m) => match hs.t.get id with
              | some (.row _ _ sz es) => match Nat.beq sz ie.sz && Nat.beq m es.length && Nat.ble (n + 1) es.length with
                | true => .ok (.rp id m ie.sz n 0) hs
                | false => .no
              | _ => .no
            | some (.win id m sz' a b) => match hs.t.get id with
              | some (.row _ _ sz es) => match Nat.beq sz ie.sz && Nat.beq sz' ie.sz && Nat.beq m es.length && Nat.ble (a + n + 1) b with
                | true => .ok (.rp id m ie.sz (a + n) 0) hs
                | false => .no
              | _ => .no
            | some (.d (.sl _ ag sz es)) => match Nat.beq sz ie.sz && (ag == ie.agg) with
              | true => match nth es n with
                | some c => .ok (.d (.cp c ie.agg ie.sz 0)) hs
                | none => .no
              | false => .no
            | _ => .no
          | _ => .no
        | none => .no
      | _ => .no
    | none => .no
  | .fieldAddr s x f => match ev x with
    | some (.rp id m sz k of) => match T s with
      | some i => match i.k with
        | .struct fs => match nth fs f with
          | some (t, off) => match T t with
            | some ti => match Nat.ble 1 ti.sz with
              | true => match hs.t.get id with
                | some (.row _ _ sz' es) => match Nat.beq sz' sz && Nat.beq m es.length && Nat.ble (k + 1) es.length with
                  | true => .ok (.rp id m sz k (of + off)) hs
                  | false => .no
                | _ => .no
              | false => .no
            | none => .no
          | none => .no
        | _ => .no
      | none => .no
    | _ => match stepP T op ev with
      | some v => .ok v hs
      | none => .no
  | .makeMap t none => .ok (.mp hs.n) (hs.push (.map []))
  | .lookup t m x c => match mapT T t with
    | some e => match T e with
      | some ie => match ev x with
        | some (.d (.v (.string s))) => match ev m with
          | some (.mp id) => match hs.t.get id with
            | some (.map es) => .ok (lookA ie c (findA s es 0)) hs
            | _ => .no
          | some (.d (.v (.map none))) => .ok (lookA ie c none) hs
          | _ => .no
        | _ => .no
      | none => .no
    | none => .no
  | .mapUpdate t m x y => match mapT T t with
    | some e => match ev x with
      | some (.d (.v (.string s))) => match ev m with
        | some (.mp id) => match hs.t.get id with
          | some (.map es) => match ev y with
            | some v => .ok (.d (.v undef)) (hs.put id (.map (updA s v es)))
            | none => .no
          | _ => .no
        | _ => .no
      | _ => .no
    | none => .no
  | .typeAssert x _ asserted true => match T asserted with
    | some i => match notIfc i.k with
      | true => match ev x with
        | some v => match assertA i asserted v with
          | some r => .ok r hs
          | none => .no
        | none => .no
      | false => .no
    | none => .no
  | .panic x => match ev x with
    | some v => match isIfc v with
      | true => .pan v hs
      | false => .no
    | none => .no
  | .defer c => match c.callee with
    | .value f => match ev f with
      | some (.fn g first caps) => match evL ev c.args.toList with
        | some l => .dfr g (first ++ l) caps
        | none => .no
      | _ => .no
    | _ => .no
  | .call c => stepB T c ev hs
  | .binOp op t x (.const .nilIface) _ => match T t with
    | some i => match i.k with
      | .iface => match ev x with
        | some v => match ifcNil v with
          | some b => match op with
            | .eql => .ok (.d (.v (.bool b))) hs
            | .neq => .ok (.d (.v (.bool (!b)))) hs
            | _ => .no
          | none => .no
        | none => .no
      | _ => .no
    | none => .no
  | .binOp op t x y _ => match ev x with
    | some (.row id n) => match hs.t.get id with
      | some (.row _ _ _ es) => match Nat.beq n es.length && Nat.ble 1 n with
        | true => match ev y with
          | some (.d (.v (.slice none 0 0))) => match T t with
            | some i => match i.k with
              | .slice _ => match op with
                | .eql => .ok (.d (.v (.bool false))) hs
                | .neq => .ok (.d (.v (.bool true))) hs
                | _ => .no
              | _ => .no
            | none => .no
          | _ => .no
        | false => .no
      | _ => .no
    | some vx => match ev y with
      | some vy => match vx.isAgg && vy.isAgg with
        | true => match T t with
          | some i => match i.eq with
            | true => match i.k with
              | .struct fs => match eqF T fs 0 vx.cells vy.cells with
                | some b => match op with
                  | .eql => .ok (.d (.v (.bool b))) hs
                  | .neq => .ok (.d (.v (.bool (!b)))) hs
                  | _ => .no
                | none => .no
              | _ => .no
            | false => .no
          | none => .no
        | false => match binA T op t vx vy with
          | some v => .ok v hs
          | none => .no
      | none => .no
    | none => .no
  | .convert s t x => match stepP T op ev with
    | some v => .ok v hs
    | none => match T s with
      | some is => match is.k with
        | .slice e => match T e with
          | some ie => match ie.k with
            | .int .u8 => match Nat.beq ie.sz 1 with
              | true => match T t with
                | some it => match it.k with
                  | .str => match evX ev x with
                    | some v => match srcA hs ie v with
                      | some ys => match bytesA ys with
                        | some l => .ok (.d (.v (.string ⟨⟨l⟩⟩))) hs
                        | none => .no
                      | none => .no
                    | none => .no
                  | _ => .no
                | none => .no
              | false => .no
            | _ => .no
          | none => .no
        | _ => .no
      | none => .no
  | .range t x => match T t with
    | some i => match i.k with
      | .str => match ev x with
        | some (.d (.v (.string s))) => .ok (.ptr hs.n 0) (hs.push (.it s 0))
        | _ => .no
      | .map _ _ => match ev x with
        | some (.mp id) => match hs.t.get id with
          | some (.map es) => .ok (.ptr hs.n 0) (hs.push (.mit id es.length [] es.length))
          | _ => .no
        | _ => .no
      | _ => .no
    | none => .no
  | .next x false => match ev x with
    | some (.ptr id 0) => match hs.t.get id with
      | some (.mit m since seen last) => match hs.t.get m with
        | some (.map []) => match seen with
          | [] => .ok (.tup [.d (.v (.bool false))]) hs
          | _ => .no
        | some (.map [(k, v)]) => match seen with
          | [] => match Nat.ble 1 since with
            | true => .ok (.tup [.d (.v (.bool true)), .d (.v (.string k)), v]) (hs.put id (.mit m since [0] 1))
            | false => .no
          | [0] => match Nat.ble 1 last with
            | true => .ok (.tup [.d (.v (.bool false))]) hs
            | false => .no
          | _ => .no
        | _ => .no
      | _ => .no
    | _ => .no
  | .entry x => match ev x with
    | some (.ptr id 0) => match hs.t.get id with
      | some (.mit m since [0] 1) => match hs.t.get m with
        | some (.map [(k, v)]) => .ok (.tup [.d (.v (.string k)), v]) hs
        | _ => .no
      | _ => .no
    | _ => .no
  | .slice t x lo hi none => match ev x with
    | some (.row id n) => match T t with
      | some i => match i.k with
        | .slice e => match T e with
          | some ie => match hs.t.get id with
            | some (.row _ _ sz es) => match Nat.beq sz ie.sz && Nat.beq n es.length with
              | true => match evB ev 0 lo with
                | some l => match evB ev n hi with
                  | some h => match cutB n l h with
                    | some (a, b) => .ok (.win id n ie.sz a b) hs
                    | none => .no
                  | none => .no
                | none => .no
              | false => .no
            | _ => .no
          | none => .no
        | _ => .no
      | none => .no
    | some (.win id n sz' a b) => match T t with
      | some i => match i.k with
        | .slice e => match T e with
          | some ie => match hs.t.get id with
            | some (.row _ _ sz es) => match Nat.beq sz ie.sz && Nat.beq sz' ie.sz && Nat.beq n es.length with
              | true => match evB ev 0 lo with
                | some l => match evB ev (Nat.sub b a) hi with
                  | some h => match cutB (Nat.sub b a) l h with
                    | some (c, d) => .ok (.win id n ie.sz (a + c) (a + d)) hs
                    | none => .no
                  | none => .no
                | none => .no
              | false => .no
            | _ => .no
          | none => .no
        | _ => .no
      | none => .no
    | _ => match stepP T op ev with
      | some v => .ok v hs
      | none => .no
  | .next x true => match ev x with
    | some (.ptr id 0) => match hs.t.get id with
      | some (.it s pos) => match nth s.data.toList pos with
        | some b => match Nat.ble (b.toNat + 1) 128 with
          | true => .ok (.tup [.d (.v (.bool true)), .d (.v (.int .i64 (.ofNat pos))), .d (.v (.int .i32 (.ofNat b.toNat)))]) (hs.put id (.it s (Nat.succ pos)))
          | false => .no
        | none => .ok (.tup [.d (.v (.bool false))]) hs
      | _ => .no
    | _ => .no
  | op => match stepP T op ev with
    | some v => .ok v hs
    | none => .no

noncomputable def so_move (x : Operand) (T : Tb) (ev : Ev) (hs : HS) : R := match stepP T (.move x) ev with
    | some v => .ok v hs
    | none => .no

noncomputable def so_assign (x : Operand) (T : Tb) (ev : Ev) (hs : HS) : R := match stepP T (.assign x) ev with
    | some v => .ok v hs
    | none => .no

noncomputable def so_pick (c : Operand) (a : Operand) (b : Operand) (T : Tb) (ev : Ev) (hs : HS) : R := match stepP T (.pick c a b) ev with
    | some v => .ok v hs
    | none => .no

noncomputable def so_alloc (t : TypeId) (T : Tb) (ev : Ev) (hs : HS) : R := match T t with
    | some i => .ok (.ptr hs.n 0) (hs.push (.var t i.agg i.sz (zv i)))
    | none => .no

noncomputable def so_box (t : TypeId) (x : Operand) (T : Tb) (ev : Ev) (hs : HS) : R := match T t with
    | some i => match ev x with
      | some v => match Nat.beq v.cells.length i.sz && (v.isAgg == i.agg) with
        | true => .ok (.ptr hs.n 0) (hs.push (.var t i.agg i.sz v))
        | false => .no
      | none => .no
    | none => .no

noncomputable def so_build (t : TypeId) (ps : (Array (Nat × Operand))) (T : Tb) (ev : Ev) (hs : HS) : R := match stepP T (.build t ps) ev with
    | some v => .ok v hs
    | none => .no

noncomputable def so_buildSlice (t : TypeId) (n : Nat) (ps : (Array (Nat × Operand))) (T : Tb) (ev : Ev) (hs : HS) : R := match T t with
    | some i => match i.k with
      | .slice e => match T e with
        | some ie => match Nat.ble 1 ie.sz with
          | true => match evParts ev ps.toList with
            | some l => match litE 0 l with
              | some es => match Nat.beq n es.length && allEl ie.agg ie.sz es && Nat.ble (es.length * ie.sz) 16777216 with
                | true => .ok (.row hs.n es.length) (hs.push (.row e ie.agg ie.sz es))
                | false => .no
              | none => .no
            | none => .no
          | false => .no
        | none => .no
      | _ => .no
    | none => .no

noncomputable def so_insert (t : TypeId) (m : Operand) (k : Operand) (v : Operand) (T : Tb) (ev : Ev) (hs : HS) : R := match stepP T (.insert t m k v) ev with
    | some v => .ok v hs
    | none => .no

noncomputable def so_load (t : TypeId) (ad : Operand) (T : Tb) (ev : Ev) (hs : HS) : R := match T t with
    | some i => match ev ad with
      | some (.ptr id off) => match hs.t.get id with
        | some (.var _ ag m v0) => match part i.agg i.sz off ag m v0 with
          | some v => .ok v hs
          | none => .no
        | _ => .no
      | some (.rp id m sz k off) => match hs.t.get id with
        | some (.row _ ag sz' es) => match Nat.beq sz' sz && Nat.beq m es.length with
          | true => match nth es k with
            | some e => match part i.agg i.sz off ag sz e with
              | some v => .ok v hs
              | none => .no
            | none => .no
          | false => .no
        | _ => .no
      | some (.d (.cp c ag m off)) => match part i.agg i.sz off ag m (.d c) with
        | some v => .ok v hs
        | none => .no
      | _ => .no
    | none => .no

noncomputable def so_store (t : TypeId) (ad : Operand) (x : Operand) (T : Tb) (ev : Ev) (hs : HS) : R := match T t with
    | some i => match ev x with
      | some v => match ev ad with
        | some (.ptr id off) => match hs.t.get id with
          | some (.var ty ag m v0) => match putPart i.agg i.sz off ag m v0 v with
            | some v2 => .ok (.d (.v undef)) (hs.put id (.var ty ag m v2))
            | none => .no
          | _ => .no
        | some (.rp id m sz k off) => match hs.t.get id with
          | some (.row te ag sz' es) => match Nat.beq sz' sz && Nat.beq m es.length with
            | true => match nth es k with
              | some e => match putPart i.agg i.sz off ag sz e v with
                | some e2 => .ok (.d (.v undef)) (hs.put id (.row te ag sz (es.set k e2)))
                | none => .no
              | none => .no
            | false => .no
          | _ => .no
        | _ => .no
      | none => .no
    | none => .no

noncomputable def so_ready (g : Nat) (T : Tb) (ev : Ev) (hs : HS) : R := match stepP T (.ready g) ev with
    | some v => .ok v hs
    | none => .no

noncomputable def so_waits (g : Nat) (T : Tb) (ev : Ev) (hs : HS) : R := match stepP T (.waits g) ev with
    | some v => .ok v hs
    | none => .no

noncomputable def so_nilCheck (x : Operand) (T : Tb) (ev : Ev) (hs : HS) : R := match stepP T (.nilCheck x) ev with
    | some v => .ok v hs
    | none => .no

noncomputable def so_binOp (op : BinOp) (t : TypeId) (x : Operand) (y : Operand) (yt : TypeId) (T : Tb) (ev : Ev) (hs : HS) : R := match y with
    | .const .nilIface => match T t with
      | some i => match i.k with
        | .iface => match ev x with
          | some v => match ifcNil v with
            | some b => match op with
              | .eql => .ok (.d (.v (.bool b))) hs
              | .neq => .ok (.d (.v (.bool (!b)))) hs
              | _ => .no
            | none => .no
          | none => .no
        | _ => .no
      | none => .no
    | y => match ev x with
      | some (.row id n) => match hs.t.get id with
        | some (.row _ _ _ es) => match Nat.beq n es.length && Nat.ble 1 n with
          | true => match ev y with
            | some (.d (.v (.slice none 0 0))) => match T t with
              | some i => match i.k with
                | .slice _ => match op with
                  | .eql => .ok (.d (.v (.bool false))) hs
                  | .neq => .ok (.d (.v (.bool true))) hs
                  | _ => .no
                | _ => .no
              | none => .no
            | _ => .no
          | false => .no
        | _ => .no
      | some vx => match ev y with
        | some vy => match vx.isAgg && vy.isAgg with
          | true => match T t with
            | some i => match i.eq with
              | true => match i.k with
                | .struct fs => match eqF T fs 0 vx.cells vy.cells with
                  | some b => match op with
                    | .eql => .ok (.d (.v (.bool b))) hs
                    | .neq => .ok (.d (.v (.bool (!b)))) hs
                    | _ => .no
                  | none => .no
                | _ => .no
              | false => .no
            | none => .no
          | false => match binA T op t vx vy with
            | some v => .ok v hs
            | none => .no
        | none => .no
      | none => .no

noncomputable def so_unOp (op : UnOp) (t : TypeId) (x : Operand) (T : Tb) (ev : Ev) (hs : HS) : R := match stepP T (.unOp op t x) ev with
    | some v => .ok v hs
    | none => .no

noncomputable def so_convert (s : TypeId) (t : TypeId) (x : Operand) (T : Tb) (ev : Ev) (hs : HS) : R := match stepP T (.convert s t x) ev with
    | some v => .ok v hs
    | none => match T s with
      | some is => match is.k with
        | .slice e => match T e with
          | some ie => match ie.k with
            | .int .u8 => match Nat.beq ie.sz 1 with
              | true => match T t with
                | some it => match it.k with
                  | .str => match evX ev x with
                    | some v => match srcA hs ie v with
                      | some ys => match bytesA ys with
                        | some l => .ok (.d (.v (.string ⟨⟨l⟩⟩))) hs
                        | none => .no
                      | none => .no
                    | none => .no
                  | _ => .no
                | none => .no
              | false => .no
            | _ => .no
          | none => .no
        | _ => .no
      | none => .no

noncomputable def so_sliceToArrayPointer (t : TypeId) (x : Operand) (T : Tb) (ev : Ev) (hs : HS) : R := match stepP T (.sliceToArrayPointer t x) ev with
    | some v => .ok v hs
    | none => .no

noncomputable def so_makeInterface (t : TypeId) (x : Operand) (T : Tb) (ev : Ev) (hs : HS) : R := match stepP T (.makeInterface t x) ev with
    | some v => .ok v hs
    | none => .no

noncomputable def so_makeFunc (f : Fn) (fs : (Array Operand)) (cs : (Array Operand)) (T : Tb) (ev : Ev) (hs : HS) : R := match stepP T (.makeFunc f fs cs) ev with
    | some v => .ok v hs
    | none => .no

noncomputable def so_makeMap (t : TypeId) (r : (Option Operand)) (T : Tb) (ev : Ev) (hs : HS) : R := match r with
    | none => .ok (.mp hs.n) (hs.push (.map []))
    | _ => match stepP T (.makeMap t r) ev with
    | some v => .ok v hs
    | none => .no

noncomputable def so_makeChan (t : TypeId) (x : Operand) (T : Tb) (ev : Ev) (hs : HS) : R := match stepP T (.makeChan t x) ev with
    | some v => .ok v hs
    | none => .no

noncomputable def so_makeSlice (t : TypeId) (a : Operand) (b : Operand) (T : Tb) (ev : Ev) (hs : HS) : R := match stepP T (.makeSlice t a b) ev with
    | some v => .ok v hs
    | none => .no

noncomputable def so_slice (t : TypeId) (x : Operand) (lo : (Option Operand)) (hi : (Option Operand)) (mx : (Option Operand)) (T : Tb) (ev : Ev) (hs : HS) : R := match mx with
    | none => match ev x with
      | some (.row id n) => match T t with
        | some i => match i.k with
          | .slice e => match T e with
            | some ie => match hs.t.get id with
              | some (.row _ _ sz es) => match Nat.beq sz ie.sz && Nat.beq n es.length with
                | true => match evB ev 0 lo with
                  | some l => match evB ev n hi with
                    | some h => match cutB n l h with
                      | some (a, b) => .ok (.win id n ie.sz a b) hs
                      | none => .no
                    | none => .no
                  | none => .no
                | false => .no
              | _ => .no
            | none => .no
          | _ => .no
        | none => .no
      | some (.win id n sz' a b) => match T t with
        | some i => match i.k with
          | .slice e => match T e with
            | some ie => match hs.t.get id with
              | some (.row _ _ sz es) => match Nat.beq sz ie.sz && Nat.beq sz' ie.sz && Nat.beq n es.length with
                | true => match evB ev 0 lo with
                  | some l => match evB ev (Nat.sub b a) hi with
                    | some h => match cutB (Nat.sub b a) l h with
                      | some (c, d) => .ok (.win id n ie.sz (a + c) (a + d)) hs
                      | none => .no
                    | none => .no
                  | none => .no
                | false => .no
              | _ => .no
            | none => .no
          | _ => .no
        | none => .no
      | _ => match stepP T (.slice t x lo hi none) ev with
        | some v => .ok v hs
        | none => .no
    | _ => match stepP T (.slice t x lo hi mx) ev with
    | some v => .ok v hs
    | none => .no

noncomputable def so_fieldAddr (s : TypeId) (x : Operand) (f : Nat) (T : Tb) (ev : Ev) (hs : HS) : R := match ev x with
    | some (.rp id m sz k of) => match T s with
      | some i => match i.k with
        | .struct fs => match nth fs f with
          | some (t, off) => match T t with
            | some ti => match Nat.ble 1 ti.sz with
              | true => match hs.t.get id with
                | some (.row _ _ sz' es) => match Nat.beq sz' sz && Nat.beq m es.length && Nat.ble (k + 1) es.length with
                  | true => .ok (.rp id m sz k (of + off)) hs
                  | false => .no
                | _ => .no
              | false => .no
            | none => .no
          | none => .no
        | _ => .no
      | none => .no
    | _ => match stepP T (.fieldAddr s x f) ev with
      | some v => .ok v hs
      | none => .no

noncomputable def so_field (s : TypeId) (x : Operand) (f : Nat) (T : Tb) (ev : Ev) (hs : HS) : R := match stepP T (.field s x f) ev with
    | some v => .ok v hs
    | none => .no

noncomputable def so_indexAddr (t : TypeId) (x : Operand) (ix : Operand) (T : Tb) (ev : Ev) (hs : HS) : R := match T t with
    | some i => match i.k with
      | .slice e => match T e with
        | some ie => match evX ev ix with
          | some (.d (.v (.int _ (.ofNat n)))) => match evX ev x with
            | some (.row id m) => match hs.t.get id with
              | some (.row _ _ sz es) => match Nat.beq sz ie.sz && Nat.beq m es.length && Nat.ble (n + 1) es.length with
                | true => .ok (.rp id m ie.sz n 0) hs
                | false => .no
              | _ => .no
            | some (.win id m sz' a b) => match hs.t.get id with
              | some (.row _ _ sz es) => match Nat.beq sz ie.sz && Nat.beq sz' ie.sz && Nat.beq m es.length && Nat.ble (a + n + 1) b with
                | true => .ok (.rp id m ie.sz (a + n) 0) hs
                | false => .no
              | _ => .no
            | some (.d (.sl _ ag sz es)) => match Nat.beq sz ie.sz && (ag == ie.agg) with
              | true => match nth es n with
                | some c => .ok (.d (.cp c ie.agg ie.sz 0)) hs
                | none => .no
              | false => .no
            | _ => .no
          | _ => .no
        | none => .no
      | _ => .no
    | none => .no

noncomputable def so_index (t : TypeId) (x : Operand) (ix : Operand) (T : Tb) (ev : Ev) (hs : HS) : R := match stepP T (.index t x ix) ev with
    | some v => .ok v hs
    | none => .no

noncomputable def so_lookup (t : TypeId) (m : Operand) (x : Operand) (c : Bool) (T : Tb) (ev : Ev) (hs : HS) : R := match mapT T t with
    | some e => match T e with
      | some ie => match ev x with
        | some (.d (.v (.string s))) => match ev m with
          | some (.mp id) => match hs.t.get id with
            | some (.map es) => .ok (lookA ie c (findA s es 0)) hs
            | _ => .no
          | some (.d (.v (.map none))) => .ok (lookA ie c none) hs
          | _ => .no
        | _ => .no
      | none => .no
    | none => .no

noncomputable def so_mapUpdate (t : TypeId) (m : Operand) (x : Operand) (y : Operand) (T : Tb) (ev : Ev) (hs : HS) : R := match mapT T t with
    | some e => match ev x with
      | some (.d (.v (.string s))) => match ev m with
        | some (.mp id) => match hs.t.get id with
          | some (.map es) => match ev y with
            | some v => .ok (.d (.v undef)) (hs.put id (.map (updA s v es)))
            | none => .no
          | _ => .no
        | _ => .no
      | _ => .no
    | none => .no

noncomputable def so_mapEntry (t : TypeId) (m : Operand) (x : Operand) (T : Tb) (ev : Ev) (hs : HS) : R := match stepP T (.mapEntry t m x) ev with
    | some v => .ok v hs
    | none => .no

noncomputable def so_entryStore (t : TypeId) (m : Operand) (x : Operand) (y : Operand) (T : Tb) (ev : Ev) (hs : HS) : R := match stepP T (.entryStore t m x y) ev with
    | some v => .ok v hs
    | none => .no

noncomputable def so_range (t : TypeId) (x : Operand) (T : Tb) (ev : Ev) (hs : HS) : R := match T t with
    | some i => match i.k with
      | .str => match ev x with
        | some (.d (.v (.string s))) => .ok (.ptr hs.n 0) (hs.push (.it s 0))
        | _ => .no
      | .map _ _ => match ev x with
        | some (.mp id) => match hs.t.get id with
          | some (.map es) => .ok (.ptr hs.n 0) (hs.push (.mit id es.length [] es.length))
          | _ => .no
        | _ => .no
      | _ => .no
    | none => .no

noncomputable def so_next (x : Operand) (b : Bool) (T : Tb) (ev : Ev) (hs : HS) : R := match b with
    | false => match ev x with
      | some (.ptr id 0) => match hs.t.get id with
        | some (.mit m since seen last) => match hs.t.get m with
          | some (.map []) => match seen with
            | [] => .ok (.tup [.d (.v (.bool false))]) hs
            | _ => .no
          | some (.map [(k, v)]) => match seen with
            | [] => match Nat.ble 1 since with
              | true => .ok (.tup [.d (.v (.bool true)), .d (.v (.string k)), v]) (hs.put id (.mit m since [0] 1))
              | false => .no
            | [0] => match Nat.ble 1 last with
              | true => .ok (.tup [.d (.v (.bool false))]) hs
              | false => .no
            | _ => .no
          | _ => .no
        | _ => .no
      | _ => .no
    | true => match ev x with
      | some (.ptr id 0) => match hs.t.get id with
        | some (.it s pos) => match nth s.data.toList pos with
          | some b => match Nat.ble (b.toNat + 1) 128 with
            | true => .ok (.tup [.d (.v (.bool true)), .d (.v (.int .i64 (.ofNat pos))), .d (.v (.int .i32 (.ofNat b.toNat)))]) (hs.put id (.it s (Nat.succ pos)))
            | false => .no
          | none => .ok (.tup [.d (.v (.bool false))]) hs
        | _ => .no
      | _ => .no

noncomputable def so_entry (x : Operand) (T : Tb) (ev : Ev) (hs : HS) : R := match ev x with
    | some (.ptr id 0) => match hs.t.get id with
      | some (.mit m since [0] 1) => match hs.t.get m with
        | some (.map [(k, v)]) => .ok (.tup [.d (.v (.string k)), v]) hs
        | _ => .no
      | _ => .no
    | _ => .no

noncomputable def so_typeAssert (x : Operand) (t : TypeId) (asserted : TypeId) (c : Bool) (T : Tb) (ev : Ev) (hs : HS) : R := match c with
    | true => match T asserted with
      | some i => match notIfc i.k with
        | true => match ev x with
          | some v => match assertA i asserted v with
            | some r => .ok r hs
            | none => .no
          | none => .no
        | false => .no
      | none => .no
    | _ => match stepP T (.typeAssert x t asserted c) ev with
    | some v => .ok v hs
    | none => .no

noncomputable def so_extract (x : Operand) (k : Nat) (T : Tb) (ev : Ev) (hs : HS) : R := match stepP T (.extract x k) ev with
    | some v => .ok v hs
    | none => .no

noncomputable def so_call (c : Call) (T : Tb) (ev : Ev) (hs : HS) : R := stepB T c ev hs

noncomputable def so_go (c : Call) (T : Tb) (ev : Ev) (hs : HS) : R := match stepP T (.go c) ev with
    | some v => .ok v hs
    | none => .no

noncomputable def so_defer (c : Call) (T : Tb) (ev : Ev) (hs : HS) : R := match c.callee with
    | .value f => match ev f with
      | some (.fn g first caps) => match evL ev c.args.toList with
        | some l => .dfr g (first ++ l) caps
        | none => .no
      | _ => .no
    | _ => .no

noncomputable def so_panic (x : Operand) (T : Tb) (ev : Ev) (hs : HS) : R := match ev x with
    | some v => match isIfc v with
      | true => .pan v hs
      | false => .no
    | none => .no

noncomputable def so_send (a : Operand) (b : Operand) (T : Tb) (ev : Ev) (hs : HS) : R := match stepP T (.send a b) ev with
    | some v => .ok v hs
    | none => .no

noncomputable def so_recv (t : TypeId) (x : Operand) (c : Bool) (T : Tb) (ev : Ev) (hs : HS) : R := match stepP T (.recv t x c) ev with
    | some v => .ok v hs
    | none => .no

noncomputable def so_select (cs : (Array SelectCase)) (b : Bool) (T : Tb) (ev : Ev) (hs : HS) : R := match stepP T (.select cs b) ev with
    | some v => .ok v hs
    | none => .no

noncomputable def stepO (T : Tb) (op : Op) (ev : Ev) (hs : HS) : R :=
  @Op.rec (fun _ => Tb → Ev → HS → R)
    so_move so_assign so_pick so_alloc so_box so_build so_buildSlice so_insert
    so_load so_store so_ready so_waits so_nilCheck so_binOp so_unOp so_convert
    so_sliceToArrayPointer so_makeInterface so_makeFunc so_makeMap so_makeChan so_makeSlice so_slice so_fieldAddr
    so_field so_indexAddr so_index so_lookup so_mapUpdate so_mapEntry so_entryStore so_range
    so_next so_entry so_typeAssert so_extract so_call so_go so_defer so_panic
    so_send so_recv so_select op T ev hs

theorem stepO_eq (T : Tb) (op : Op) (ev : Ev) (hs : HS) : stepO T op ev hs = stepO0 T op ev hs := by
  cases op with
  | binOp a0 a1 a2 a3 a4 => cases a3 with
    | const v => cases v <;> rfl
    | _ => rfl
  | makeMap a0 a1 => cases a1 <;> rfl
  | slice a0 a1 a2 a3 a4 => cases a4 <;> rfl
  | next a0 a1 => cases a1 <;> rfl
  | typeAssert a0 a1 a2 a3 => cases a3 <;> rfl
  | _ => rfl

section
variable {P : Program} {T : Tb} {o : Oper} {ev : Ev} {H : Heap} {hs : HS}

theorem mapT_ok {t e : TypeId} (h : mapT T t = some e) : ∃ i k ik, T t = some i ∧ i.k = .map k e ∧ T k = some ik ∧ ik.k = .str := by
  unfold mapT at h
  split at h
  · split at h
    · split at h
      · split at h
        · cases h; exact ⟨_, _, _, by assumption, by assumption, by assumption, by assumption⟩
        · cases h
      · cases h
    · cases h
  · cases h

theorem resolve_value {P : Program} {a : Act} {c : Call} {ty : TypeId} {fx : Operand} {f : FuncId} {us vs : Array Value} (hc : c.callee = .value fx) (hf : a.eval fx = .func (.func f) us vs) (w : World) :
    (resolve a.eval c ty).run P w = .ok { target := .fn (.func f) vs, args := us ++ c.args.map a.eval } w := by
  unfold resolve
  simp only [hc, hf]
  rfl

theorem fn_inv {ρ : List Value} {S : Nat → Prop} {w : World} {f : FuncId} {first caps : List AV} {x : Value} (h : VR ρ S w (.fn f first caps) x) :
    ∃ us vs : Array Value, x = .func (.func f) us vs ∧ AllR (VR ρ S w) first us.toList ∧ AllR (VR ρ S w) caps vs.toList := by
  cases h with
  | fn _ _ _ us vs hl hl' h h' => exact ⟨us, vs, rfl, ⟨by simpa using hl, fun i c x p q => h i c x p (by simpa using q)⟩, ⟨by simpa using hl', fun i c x p q => h' i c x p (by simpa using q)⟩⟩


/-- What an operation that runs on does. -/
def StepOk (P : Program) (o : Oper) (ev : Ev) (hs : HS) (H : Heap) : R → Prop
  | .ok v hs' => ∃ H', Ht2 hs H hs' H' ∧ OpOk P o ev H v H'
  | .pan v hs' => ∃ H', Ht2 hs H hs' H' ∧ OpPan P o ev H v H'
  | .call f args => ∀ (G : Ctx) (ρ : List Value) (w : World) (a : Act), G.P = P → Sat G ρ H w → EvR ρ (Fz G ρ H w) w ev a →
      ∃ xs : Array Value, AllR (VR ρ (Fz G ρ H w) w) args xs.toList ∧ ∀ res, (callFunc f xs).run P w = res → (execOp a.eval o).run P w = res
  | .round id args => (∀ c, o.op ≠ .defer c) ∧ ∀ (G : Ctx) (ρ : List Value) (w : World) (a : Act), G.P = P → Sat G ρ H w → EvR ρ (Fz G ρ H w) w ev a →
      ∃ (l : Nat) (xs : Array Value), ρ[id]? = some (.func (.yield l) #[] #[]) ∧ AllR (VR ρ (Fz G ρ H w) w) args xs.toList ∧ ∀ res, (Instr.yield l xs).run P w = res → (execOp a.eval o).run P w = res
  | .dfr f args caps => ∃ fx c first l, o.op = .defer c ∧ c.callee = .value fx ∧ ev fx = some (.fn f first caps) ∧ evL ev c.args.toList = some l ∧ args = first ++ l
  | .no => True

theorem same {v : AV} (hh : HtOk hs H) (h : OpOk P o ev H v H) : StepOk P o ev hs H (.ok v hs) := ⟨H, hh.same2, h⟩

theorem StepOk.evX {r : R} (h : StepOk P o (evX ev) hs H r) (hr : ∀ f args caps, r ≠ .dfr f args caps) : StepOk P o ev hs H r := by
  cases r with
  | ok v hs' => obtain ⟨H', h1, h2⟩ := h; exact ⟨H', h1, h2.evX⟩
  | pan v hs' => obtain ⟨H', h1, h2⟩ := h; exact ⟨H', h1, fun G ρ w a hG hs he => h2 G ρ w a hG hs he.x⟩
  | call f args => exact fun G ρ w a hG hs he => h G ρ w a hG hs he.x
  | round id args => exact ⟨h.1, fun G ρ w a hG hs he => h.2 G ρ w a hG hs he.x⟩
  | dfr f args caps => exact (hr f args caps rfl).elim
  | no => trivial

theorem appA_dfr (T : Tb) (hs : HS) (e : TypeId) (ie : TI) (s x : AV) : ∀ f args caps, appA T hs e ie s x ≠ .dfr f args caps := by
  intro f args caps
  unfold appA
  repeat' split
  all_goals simp

theorem appA_ok (hT : TbOk P T) (hh : HtOk hs H) {t e : TypeId} {i ie : TI} {s x : Operand} {vs vx : AV} (ho : o.op = .call { callee := .builtin .append, args := #[s, x], argTypes := #[t, t] })
    (hi : T t = some i) (hk : i.k = .slice e) (hie : T e = some ie) (hs' : ev s = some vs) (hx : ev x = some vx) : StepOk P o ev hs H (appA T hs e ie vs vx) := by
  unfold appA
  split
  · rename_i ys hys
    have hsrc := srcA_ok hh hys
    split
    · rename_i hz
      have hz := Nat.le_of_ble_eq_true hz
      split
      · rename_i id n
        split
        · rename_i e' ag sz es hg
          split
          · rename_i hq
            simp only [Bool.and_eq_true, beq_iff_eq] at hq
            obtain ⟨⟨⟨⟨⟨⟨h1, h2⟩, h3⟩, h4⟩, h5⟩, h6⟩, h7⟩ := hq
            have h1 := Nat.eq_of_beq_eq_true h1
            have h2 := Nat.eq_of_beq_eq_true h2
            have h4 := Nat.eq_of_beq_eq_true h4
            subst h1 h2 h3
            refine ⟨_, hh.put2 hg _, ok_append_row hT ho hi hk hie hz hs' hx (hh.2 _ _ hg) h4 hsrc (fun m e => ?_) (Nat.le_of_ble_eq_true h6) (Nat.le_of_ble_eq_true h7)⟩
            rw [e] at h5
            simp [isRowOf] at h5
          · trivial
        · trivial
      · split
        · rename_i hq
          simp only [Bool.and_eq_true] at hq
          refine ⟨_, hh.push2 _, ?_⟩
          rw [hh.1]
          exact ok_append_nil hT ho hi hk hie hz hs' hx hsrc (Nat.le_of_ble_eq_true hq.1) (Nat.le_of_ble_eq_true hq.2)
        · trivial
      · split
        · rename_i hq
          simp only [Bool.and_eq_true, beq_iff_eq] at hq
          obtain ⟨⟨⟨⟨h1, h2⟩, h3⟩, h4⟩, h5⟩ := hq
          have h1 := Nat.eq_of_beq_eq_true h1
          subst h1 h2
          refine ⟨_, hh.push2 _, ?_⟩
          rw [hh.1]
          exact ok_append_full hT ho hi hk hie hz hs' hx hsrc (Nat.le_of_ble_eq_true h3) (Nat.le_of_ble_eq_true h4) (Nat.le_of_ble_eq_true h5)
        · trivial
      · trivial
    · trivial
  · trivial

theorem toList1 {α : Type} {a : Array α} {x : α} (h : a.toList = [x]) : a = #[x] := by
  cases a; simp at h; subst h; rfl
theorem toList2 {α : Type} {a : Array α} {x y : α} (h : a.toList = [x, y]) : a = #[x, y] := by
  cases a; simp at h; subst h; rfl

theorem run_method {t : TypeId} {i : TI} {info : TypeInfo} {d : TypeDesc} (hok : i.ok P t info d) (hn : notPtr i.k = true) {name : String} {g : FuncId} (hg : i.mt name = some g) (n : Nat) (u : Value) (w : World) :
    (method (n + 1) t u name).run P w = .ok (g, u) w := by
  obtain ⟨m, h1, h2, h3⟩ := hok.mtok name g hg
  have hti : (typeInfo t).run P w = .ok info w := by simp [typeInfo, hok.info]
  have hd : ∀ e, d ≠ .pointer e := by
    intro e he
    have hf := hok.k
    subst he
    cases hk : i.k <;> rw [hk] at hf hn <;> simp [TK.fits, notPtr] at hf hn
  have hr : ∀ wr, (receiverAt t (.val u) false wr).run P w = .ok u w := by
    intro wr
    unfold receiverAt
    simp only [Sem.run_bind, run_underlying hok.und, Result.andThen_ok]
    cases d <;> first | exact (hd _ rfl).elim | rfl
  simp only [method, Sem.run_bind, hti, Result.andThen_ok, h1, h2, h3, follow, Sem.run_pure]
  simp [hr]

theorem ok_maxmin {x y : Operand} {j k : IntKind} {m n r : Int} {b : Builtin} {ts : Array TypeId} (ho : o.op = .call { callee := .builtin b, args := #[x, y], argTypes := ts })
    (hx : ev x = some (.d (.v (.int j m)))) (hy : ev y = some (.d (.v (.int k n)))) (hk : sameK j k = true) (hb : (b = .max ∧ r = maxI m n) ∨ (b = .min ∧ r = minI m n)) : OpOk P o ev H (.d (.v (.int j r))) H :=
  .pure fun ρ S w a he => by
    have h1 := he.v hx
    have h2 := he.v hy
    refine ⟨.int j r, ?_, .d _ _ (.v _ rfl)⟩
    rcases hb with ⟨rfl, rfl⟩ | ⟨rfl, rfl⟩
    · simp only [execOp, ho, resolve, invoke, builtin, Builtin.max_, Builtin.max2, Sem.run_bind, Sem.run_pure, Result.andThen_ok, List.map_toArray, List.map_cons, List.map_nil, h1, h2, List.foldlM_cons, List.foldlM_nil, maxI, ltI_eq]
      by_cases h : m < n <;> simp [h]
    · simp only [execOp, ho, resolve, invoke, builtin, Builtin.min_, Builtin.min2, Sem.run_bind, Sem.run_pure, Result.andThen_ok, List.map_toArray, List.map_cons, List.map_nil, h1, h2, List.foldlM_cons, List.foldlM_nil, minI, ltI_eq]
      by_cases h : n < m <;> simp [h]

theorem stepB_ok (hT : TbOk P T) (hh : HtOk hs H) {c : Call} (ho : o.op = .call c) : StepOk P o ev hs H (stepB T c ev hs) := by
  obtain ⟨callee, args, argTypes⟩ := c
  rw [stepB_eq]
  unfold stepB0
  simp only
  split
  · split
    · rename_i x hx
      split
      · rename_i t ht
        obtain rfl := toList1 hx
        obtain rfl := toList1 ht
        split
        · split
          · split
            · rename_i s hs
              have := ok_len_str (P := P) (H := H) hT ho (by assumption) (by assumption) hs
              have e : s.size = s.data.toList.length := by rw [Array.length_toList]; rfl
              rw [e] at this
              exact same hh this
            · trivial
          · split
            · split
              · rename_i hg
                split
                · rename_i hq
                  exact same hh (by
                    have hq := Nat.eq_of_beq_eq_true hq
                    exact OpOk.evX <| ok_len_row hT ho (by assumption) (by assumption) (by assumption) (hh.2 _ _ hg) hq)
                · trivial
              · trivial
            · split
              · rename_i hg
                split
                · rename_i hq
                  exact same hh (OpOk.evX <| ok_len_win hT ho (by assumption) (by assumption) (by assumption) (hh.2 _ _ hg) (Nat.eq_of_beq_eq_true hq))
                · trivial
              · trivial
            · split
              · exact same hh (OpOk.evX <| ok_len hT ho (by assumption) (by assumption) (by assumption) (by assumption))
              · trivial
            · trivial
          · split
            · split
              · rename_i hg
                exact same hh (ok_len_map hT ho (by assumption) (by assumption) (by assumption) (hh.2 _ _ hg))
              · trivial
            · trivial
          · trivial
        · trivial
      · trivial
    · trivial
  · split
    · rename_i s x hx
      split
      · rename_i t t' ht
        obtain rfl := toList2 hx
        obtain rfl := toList2 ht
        split
        · rename_i he
          obtain rfl := Nat.eq_of_beq_eq_true he
          split
          · split
            · split
              · split
                · split
                  · exact (appA_ok (ev := evX ev) hT hh ho (by assumption) (by assumption) (by assumption) (by assumption) (by assumption)).evX (appA_dfr _ _ _ _ _ _)
                  · trivial
                · trivial
              · trivial
            · trivial
          · trivial
        · trivial
      · trivial
    · trivial
  · split
    · rename_i hargs
      obtain rfl := toList2 hargs
      split
      · split
        · split
          · rename_i hk
            exact same hh (ok_maxmin ho (by assumption) (by assumption) hk (.inl ⟨rfl, rfl⟩))
          · trivial
        · trivial
      · trivial
    · trivial
  · split
    · rename_i hargs
      obtain rfl := toList2 hargs
      split
      · split
        · split
          · rename_i hk
            exact same hh (ok_maxmin ho (by assumption) (by assumption) hk (.inr ⟨rfl, rfl⟩))
          · trivial
        · trivial
      · trivial
    · trivial
  · split
    · split
      · rename_i hf _ _ hl
        intro G ρ w a hG hst he
        obtain ⟨us, vs, hfe, hus, hvs⟩ := fn_inv (he _ _ hf)
        have hargs := evL_rel he _ _ hl
        refine ⟨us ++ args.map a.eval ++ vs, ?_, fun res hres => ?_⟩
        · simp only [Array.toList_append, Array.toList_map]
          exact (hus.append hargs).append hvs
        · simp only [execOp, ho, Sem.run_bind, resolve_value (c := { callee := .value _, args := args, argTypes := argTypes }) rfl hfe, Result.andThen_ok]
          exact hres
      · trivial
    · split
      · rename_i hf _ _ hl
        refine ⟨(fun c e => by rw [ho] at e; cases e), fun G ρ w a hG hst he => ?_⟩
        have hfv := he _ _ hf
        generalize hx : a.eval _ = x at hfv
        cases hfv with
        | yl _ l hρ =>
          have hargs := evL_rel he _ _ hl
          refine ⟨l, args.map a.eval, hρ, by simpa using hargs, fun res hres => ?_⟩
          simp only [execOp, ho, Sem.run_bind]
          unfold resolve
          simp only [hx, Deferred.ofValue, Sem.run_pure, Result.andThen_ok, invoke]
          simpa using hres
      · trivial
    · trivial
  · split
    · split
      · split
        · split
          · split
            · split
              · rename_i vx hv _ t x hia _ i hi _ hnp _ g hg _ l hl
                intro G ρ w a hG hst he
                have hx := he _ _ hv
                obtain ⟨u, hu, hux⟩ := ifcA_inv hx hia
                have hargs := evL_rel he _ _ hl
                refine ⟨#[u] ++ args.map a.eval, ?_, fun res hres => ?_⟩
                · simp only [Array.toList_append, Array.toList_map]
                  exact AllR.cons hux hargs
                · obtain ⟨info, d, hok⟩ := hT _ _ hi
                  have h0 : (#[Value.iface t u] ++ args.map a.eval : Array Value)[0]? = some (Value.iface t u) := by
                    rw [Array.getElem?_append_left (by simp)]
                    rfl
                  have h1 : (#[Value.iface t u] ++ args.map a.eval : Array Value).extract 1 (#[Value.iface t u] ++ args.map a.eval : Array Value).size = args.map a.eval := by
                    apply Array.toList_inj.1
                    simp [Array.toList_extract, List.extract_eq_drop_take']
                    exact List.take_of_length_le (by simp)
                  simp only [execOp, ho, resolve, Sem.run_bind, Sem.run_pure, Result.andThen_ok, hu, invoke, h0, h1, callMethod, run_program]
                  rw [show P.types.size + Made.depth = (P.types.size + 99) + 1 from rfl, run_method hok hnp hg]
                  exact hres
              · trivial
            · trivial
          · trivial
        · trivial
      · trivial
    · trivial
  · trivial

theorem run_panic {x : Operand} {v : AV} (ho : o.op = .panic x) (hx : ev x = some v) (hv : isIfc v = true) : OpPan P o ev H v H := by
  intro G ρ w a hG hs he next Q hn
  have h := he x v hx
  have hr : ∃ t y, a.eval x = .iface t y := by
    clear hn
    generalize a.eval x = z at h
    cases h with
    | d _ _ hd => cases hd <;> simp [isIfc] at hv; exact ⟨_, _, rfl⟩
    | ifc t y v h => exact ⟨_, _, rfl⟩
    | _ => simp [isIfc] at hv
  obtain ⟨t, y, hy⟩ := hr
  unfold Oper.wp
  have : (execOp a.eval o).run P w = .halt (.panic (.iface t y)) w := by
    simp only [execOp, ho, hy, Instr.panic, goPanic]
    rfl
  rw [this]
  simp only [Oper.upon]
  have := hn ρ w (.iface t y) hs (Step.refl ρ H w) (by rw [← hy]; exact h)
  exact this

theorem stepO_ok (hT : TbOk P T) (hh : HtOk hs H) : StepOk P o ev hs H (stepO T o.op ev hs) := by
  rw [stepO_eq]
  unfold stepO0
  split
  · split
    · split
      · split
        · rename_i hg
          split
          · exact same hh (ok_load_own hT (by assumption) (by assumption) (by assumption) (hh.2 _ _ hg) (by assumption))
          · trivial
        · trivial
      · split
        · rename_i hg
          split
          · rename_i hq
            simp only [Bool.and_eq_true] at hq
            have h1 := Nat.eq_of_beq_eq_true hq.1
            have h2 := Nat.eq_of_beq_eq_true hq.2
            subst h1
            split
            · rename_i hn
              rw [nth_eq] at hn
              split
              · exact same hh (ok_load_row hT (by assumption) (by assumption) (by assumption) (hh.2 _ _ hg) h2 hn (by assumption))
              · trivial
            · trivial
          · trivial
        · trivial
      · split
        · exact same hh (ok_load_cp hT (by assumption) (by assumption) (by assumption) (by assumption))
        · trivial
      · trivial
    · trivial
  · split
    · split
      · split
        · split
          · rename_i hg
            split
            · exact ⟨_, hh.put2 hg _, ok_store_own hT (by assumption) (by assumption) (by assumption) (by assumption) (hh.2 _ _ hg) (by assumption)⟩
            · trivial
          · trivial
        · split
          · rename_i hg
            split
            · rename_i hq
              simp only [Bool.and_eq_true] at hq
              have h1 := Nat.eq_of_beq_eq_true hq.1
              have h2 := Nat.eq_of_beq_eq_true hq.2
              subst h1
              split
              · rename_i hn
                rw [nth_eq] at hn
                split
                · exact ⟨_, hh.put2 hg _, ok_store_row hT (by assumption) (by assumption) (by assumption) (by assumption) (hh.2 _ _ hg) h2 hn (by assumption)⟩
                · trivial
              · trivial
            · trivial
          · trivial
        · trivial
      · trivial
    · trivial
  · split
    · refine ⟨_, hh.push2 _, ?_⟩
      rw [hh.1]
      exact ok_alloc hT (by assumption) (by assumption)
    · trivial
  · split
    · split
      · split
        · rename_i hq
          simp only [Bool.and_eq_true, beq_iff_eq] at hq
          refine ⟨_, hh.push2 _, ?_⟩
          rw [hh.1]
          exact ok_box (by assumption) (by assumption) (Nat.eq_of_beq_eq_true hq.1) hq.2
        · trivial
      · trivial
    · trivial
  · split
    · split
      · split
        · split
          · rename_i hz
            split
            · split
              · split
                · rename_i hq
                  simp only [Bool.and_eq_true] at hq
                  refine ⟨_, hh.push2 _, ?_⟩
                  rw [hh.1]
                  exact ok_buildRow hT (by assumption) (by assumption) (by assumption) (by assumption) (Nat.le_of_ble_eq_true hz) (by assumption) (by assumption) (Nat.eq_of_beq_eq_true hq.1.1) hq.1.2 (Nat.le_of_ble_eq_true hq.2)
                · trivial
              · trivial
            · trivial
          · trivial
        · trivial
      · trivial
    · trivial
  · split
    · split
      · split
        · split
          · split
            · split
              · rename_i hg
                split
                · rename_i hq
                  simp only [Bool.and_eq_true] at hq
                  have h1 := Nat.eq_of_beq_eq_true hq.1.1
                  have h2 := Nat.eq_of_beq_eq_true hq.1.2
                  have h3 := Nat.le_of_ble_eq_true hq.2
                  subst h1
                  have := OpOk.evX <| ok_index_row (P := P) (H := H) hT (by assumption) (by assumption) (by assumption) (by assumption) (by assumption) (by assumption) (hh.2 _ _ hg) h2 (Int.natCast_nonneg _) (by omega)
                  rw [Int.toNat_natCast] at this
                  exact same hh this
                · trivial
              · trivial
            · split
              · rename_i hg
                split
                · rename_i hq
                  simp only [Bool.and_eq_true] at hq
                  have h1 := Nat.eq_of_beq_eq_true hq.1.1.1
                  have h2 := Nat.eq_of_beq_eq_true hq.1.1.2
                  have h3 := Nat.eq_of_beq_eq_true hq.1.2
                  have h4 := Nat.le_of_ble_eq_true hq.2
                  subst h1 h2
                  exact same hh (OpOk.evX <| ok_index_win hT (by assumption) (by assumption) (by assumption) (by assumption) (by assumption) (by assumption) (hh.2 _ _ hg) h3 h4)
                · trivial
              · trivial
            · split
              · rename_i hq
                simp only [Bool.and_eq_true, beq_iff_eq] at hq
                obtain ⟨h1, rfl⟩ := hq
                have h1 := Nat.eq_of_beq_eq_true h1
                subst h1
                split
                · rename_i hn
                  rw [nth_eq] at hn
                  exact same hh (OpOk.evX <| ok_index_sl hT (by assumption) (by assumption) (by assumption) (by assumption) (by assumption) (by assumption) (Int.natCast_nonneg _) (by simpa using hn))
                · trivial
              · trivial
            · trivial
          · trivial
        · trivial
      · trivial
    · trivial
  · split
    · split
      · split
        · split
          · rename_i hn
            rw [nth_eq] at hn
            split
            · split
              · rename_i hb
                split
                · rename_i hg
                  split
                  · rename_i hq
                    simp only [Bool.and_eq_true] at hq
                    have h1 := Nat.eq_of_beq_eq_true hq.1.1
                    have h2 := Nat.eq_of_beq_eq_true hq.1.2
                    have h3 := Nat.le_of_ble_eq_true hq.2
                    subst h1
                    exact same hh (ok_rp_field hT (by assumption) (by assumption) (by assumption) hn (by assumption) (Nat.le_of_ble_eq_true hb) (by assumption) (hh.2 _ _ hg) h2 h3)
                  · trivial
                · trivial
              · trivial
            · trivial
          · trivial
        · trivial
      · trivial
    · split
      · exact same hh (stepP_ok hT (by assumption))
      · trivial
  · refine ⟨_, hh.push2 _, ?_⟩
    rw [hh.1]
    exact ok_makeMap (by assumption)
  · split
    · rename_i hm
      obtain ⟨i, k, ik, g1, g2, g3, g4⟩ := mapT_ok hm
      split
      · split
        · split
          · split
            · rename_i hg
              exact same hh (ok_lookup hT (by assumption) g1 g2 g3 g4 (by assumption) (by assumption) (hh.2 _ _ hg) (by assumption))
            · trivial
          · exact same hh (ok_lookup_nil hT (by assumption) g1 g2 g3 g4 (by assumption) (by assumption) (by assumption))
          · trivial
        · trivial
      · trivial
    · trivial
  · split
    · rename_i hm
      obtain ⟨i, k, ik, g1, g2, g3, g4⟩ := mapT_ok hm
      split
      · split
        · split
          · rename_i hg
            split
            · exact ⟨_, hh.put2 hg _, ok_mapUpdate hT (by assumption) g1 g2 g3 g4 (by assumption) (hh.2 _ _ hg) (by assumption) (by assumption)⟩
            · trivial
          · trivial
        · trivial
      · trivial
    · trivial
  · split
    · split
      · split
        · split
          · exact same hh (ok_typeAssert hT (by assumption) (by assumption) (by assumption) (by assumption) (by assumption))
          · trivial
        · trivial
      · trivial
    · trivial
  · split
    · split
      · exact ⟨_, hh.same2, run_panic (by assumption) (by assumption) (by assumption)⟩
      · trivial
    · trivial
  · split
    · split
      · split
        · exact ⟨_, _, _, _, by assumption, by assumption, by assumption, by assumption, rfl⟩
        · trivial
      · trivial
    · trivial
  · exact stepB_ok hT hh (by assumption)
  · split
    · split
      · split
        · split
          · split
            · exact same hh (ok_eqIfc hT (by assumption) (by assumption) (by assumption) (by assumption) (by assumption) (.inl ⟨rfl, rfl⟩))
            · exact same hh (ok_eqIfc hT (by assumption) (by assumption) (by assumption) (by assumption) (by assumption) (.inr ⟨rfl, rfl⟩))
            · trivial
          · trivial
        · trivial
      · trivial
    · trivial
  · split
    · split
      · rename_i hg
        split
        · rename_i hq
          simp only [Bool.and_eq_true] at hq
          have h1 := Nat.eq_of_beq_eq_true hq.1
          have h2 := Nat.le_of_ble_eq_true hq.2
          split
          · split
            · split
              · split
                · exact same hh (ok_eqRow hT (by assumption) (by assumption) (by assumption) (by assumption) (by assumption) (hh.2 _ _ hg) h1 h2 (.inl ⟨rfl, rfl⟩))
                · exact same hh (ok_eqRow hT (by assumption) (by assumption) (by assumption) (by assumption) (by assumption) (hh.2 _ _ hg) h1 h2 (.inr ⟨rfl, rfl⟩))
                · trivial
              · trivial
            · trivial
          · trivial
        · trivial
      · trivial
    · split
      · split
        · rename_i hag
          simp only [Bool.and_eq_true] at hag
          split
          · split
            · split
              · split
                · split
                  · exact same hh (ok_eqStruct hT (by assumption) (by assumption) (by assumption) (by assumption) (by assumption) (by assumption) hag.1 hag.2 (by assumption) (.inl ⟨rfl, rfl⟩))
                  · exact same hh (ok_eqStruct hT (by assumption) (by assumption) (by assumption) (by assumption) (by assumption) (by assumption) hag.1 hag.2 (by assumption) (.inr ⟨rfl, rfl⟩))
                  · trivial
                · trivial
              · trivial
            · trivial
          · trivial
        · split
          · exact same hh (binA_ok hT (by assumption) (by assumption) (by assumption) (by assumption))
          · trivial
      · trivial
    · trivial
  · split
    · exact same hh (stepP_ok hT (by assumption))
    · split
      · split
        · split
          · split
            · split
              · rename_i hz
                split
                · split
                  · split
                    · split
                      · rename_i hs
                        split
                        · exact same hh (OpOk.evX <| ok_bytes hT (by assumption) (by assumption) (by assumption) (by assumption) (by assumption) (Nat.eq_of_beq_eq_true hz) (by assumption) (by assumption) (by assumption) (srcA_ok hh hs) (by assumption))
                        · trivial
                      · trivial
                    · trivial
                  · trivial
                · trivial
              · trivial
            · trivial
          · trivial
        · trivial
      · trivial
  · split
    · split
      · split
        · refine ⟨_, hh.push2 _, ?_⟩
          rw [hh.1]
          exact ok_rangeStr hT (by assumption) (by assumption) (by assumption) (by assumption)
        · trivial
      · split
        · split
          · rename_i hg
            refine ⟨_, hh.push2 _, ?_⟩
            rw [hh.1]
            exact ok_rangeMap hT (by assumption) (by assumption) (by assumption) (by assumption) (hh.2 _ _ hg)
          · trivial
        · trivial
      · trivial
    · trivial
  · split
    · split
      · rename_i hg
        split
        · rename_i hm
          split
          · exact same hh (ok_next0 (by assumption) (by assumption) (hh.2 _ _ hg) (hh.2 _ _ hm))
          · trivial
        · rename_i hm
          split
          · split
            · rename_i hl
              exact ⟨_, hh.put2 hg _, ok_next1 (by assumption) (by assumption) (hh.2 _ _ hg) (hh.2 _ _ hm) (Nat.le_of_ble_eq_true hl)⟩
            · trivial
          · split
            · rename_i hl
              exact same hh (ok_nextOver (by assumption) (by assumption) (hh.2 _ _ hg) (hh.2 _ _ hm) (Nat.le_of_ble_eq_true hl))
            · trivial
          · trivial
        · trivial
      · trivial
    · trivial
  · split
    · split
      · rename_i hg
        split
        · rename_i hm
          exact same hh (ok_entry (by assumption) (by assumption) (hh.2 _ _ hg) (hh.2 _ _ hm))
        · trivial
      · trivial
    · trivial
  · split
    · split
      · split
        · split
          · split
            · rename_i hg
              split
              · rename_i hq
                simp only [Bool.and_eq_true] at hq
                have h1 := Nat.eq_of_beq_eq_true hq.1
                have h2 := Nat.eq_of_beq_eq_true hq.2
                subst h1
                split
                · split
                  · split
                    · rename_i hc
                      obtain ⟨rfl, rfl, g1, g2⟩ := cutB_eq hc
                      exact same hh (ok_win_row hT (by assumption) (by assumption) (by assumption) (by assumption) (by assumption) (hh.2 _ _ hg) h2 (by assumption) (by assumption) g1 g2)
                    · trivial
                  · trivial
                · trivial
              · trivial
            · trivial
          · trivial
        · trivial
      · trivial
    · split
      · split
        · split
          · split
            · rename_i hg
              split
              · rename_i hq
                simp only [Bool.and_eq_true] at hq
                have h1 := Nat.eq_of_beq_eq_true hq.1.1
                have h2 := Nat.eq_of_beq_eq_true hq.1.2
                have h3 := Nat.eq_of_beq_eq_true hq.2
                subst h1 h2
                split
                · split
                  · split
                    · rename_i hc
                      obtain ⟨rfl, rfl, g1, g2⟩ := cutB_eq hc
                      exact same hh (ok_win_win hT (by assumption) (by assumption) (by assumption) (by assumption) (by assumption) (hh.2 _ _ hg) h3 (by assumption) (by assumption) g1 g2)
                    · trivial
                  · trivial
                · trivial
              · trivial
            · trivial
          · trivial
        · trivial
      · trivial
    · split
      · exact same hh (stepP_ok hT (by assumption))
      · trivial
  · split
    · split
      · rename_i hg
        split
        · rename_i hb
          split
          · rename_i hl
            exact ⟨_, hh.put2 hg _, ok_nextStr (by assumption) (by assumption) (hh.2 _ _ hg) (by rw [← nth_eq]; exact hb) (Nat.le_of_ble_eq_true hl)⟩
          · trivial
        · rename_i hb
          exact same hh (ok_nextEnd (by assumption) (by assumption) (hh.2 _ _ hg) (by rw [← nth_eq]; exact hb))
      · trivial
    · trivial
  · split
    · exact same hh (stepP_ok hT (by assumption))
    · trivial
end
end Go.Rc
