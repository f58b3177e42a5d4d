/- What single operations of the machine do to abstract values: one lemma for each kind. Conditions: none. -/
import Derived.Test.YtbdgmbaflfmooaaGreatDoorRcCells
set_option linter.unusedVariables false
set_option linter.unusedSimpArgs false
namespace Go.Rc

inductive TK where
  | other
  | str
  | bool
  | int (k : IntKind)
  | slice (e : TypeId)
  | struct (fs : List (TypeId × Nat))
  | map (k e : TypeId)
  | ptr (e : TypeId)
  | func
  | iface
  | arr (n : Nat) (e : TypeId)

/-- What a walk needs of a type. -/
structure TI where
  agg : Bool
  sz : Nat
  bt : Nat
  z : List Value
  k : TK
  eq : Bool
  mt : String → Option FuncId

abbrev Tb := Nat → Option TI

def TK.fits : TK → TypeDesc → Prop
  | .other, _ => True
  | .str, d => d = .string
  | .bool, d => d = .bool
  | .int k, d => d = .int k
  | .slice e, d => d = .slice e
  | .struct fs, d => ∃ fields, d = .struct fields ∧ fields.size = fs.length ∧ ∀ (j : Nat) (t : TypeId) (o : Nat), fs[j]? = some (t, o) → ∃ f, fields[j]? = some f ∧ f.type = t ∧ f.offset = o
  | .map k e, d => d = .map k e
  | .ptr e, d => d = .pointer e
  | .func, d => ∃ a b c, d = .func a b c
  | .iface, d => ∃ ms, d = .interface ms
  | .arr n e, d => d = .array n e

def aggDesc : TypeDesc → Bool
  | .struct _ | .array _ _ => true
  | _ => false

structure TI.ok (P : Program) (t : TypeId) (i : TI) (inf : TypeInfo) (d : TypeDesc) : Prop where
  info : P.info? t = some inf
  und : P.underlying t = some d
  sz : inf.size = i.sz
  bt : inf.bytes = i.bt
  agg : aggDesc d = i.agg
  zero : inf.zero = some (if i.agg then .agg i.z.toArray else i.z.headD undef)
  zl : i.z.length = i.sz
  z1 : ∀ x, x ∈ i.z → x.oneCell' = true
  one : i.agg = false → i.sz = 1
  k : i.k.fits d
  eqok : i.eq = true → P.eqGuardType P.depth t = false ∧ P.stoodInHeld t = false ∧ ∀ fields, d = .struct fields → ∀ f, f ∈ fields.toList → f.name ≠ "_"
  mtok : ∀ name f, i.mt name = some f → ∃ m : Method, inf.methods.find? (·.name == name) = some m ∧ m.path = #[] ∧ m.func = some (f, false)

def TbOk (P : Program) (T : Tb) : Prop := ∀ t i, T t = some i → ∃ info d, i.ok P t info d

abbrev Ev := Operand → Option AV

def EvR (ρ : List Value) (S : Nat → Prop) (w : World) (ev : Ev) (a : Act) : Prop := ∀ x y, ev x = some y → VR ρ S w y (a.eval x)

/-- An operation that runs on and answers v. -/
def OpOk (P : Program) (o : Oper) (ev : Ev) (H : Heap) (v : AV) (H' : Heap) : Prop :=
  ∀ (G : Ctx) (ρ : List Value) (w : World) (a : Act), G.P = P → Sat G ρ H w → EvR ρ (Fz G ρ H w) w ev a →
    ∀ (next : Act → World → Prop) (Q : Exit → Act → World → Prop),
      (∀ (ρ' : List Value) (w' : World) (x : Value), Sat G ρ' H' w' → Step ρ ρ' H H' w w' → VR ρ' (Fz G ρ' H' w') w' v x → next (a.put o.dst x) w') →
      o.wp P a w next Q

/-- An operation that panics with v. -/
def OpPan (P : Program) (o : Oper) (ev : Ev) (H : Heap) (v : AV) (H' : Heap) : Prop :=
  ∀ (G : Ctx) (ρ : List Value) (w : World) (a : Act), G.P = P → Sat G ρ H w → EvR ρ (Fz G ρ H w) w ev a →
    ∀ (next : Act → World → Prop) (Q : Exit → Act → World → Prop),
      (∀ (ρ' : List Value) (w' : World) (x : Value), Sat G ρ' H' w' → Step ρ ρ' H H' w w' → VR ρ' (Fz G ρ' H' w') w' v x → Q (.panic [{ v := x, recovered := false }]) a w') →
      o.wp P a w next Q

theorem OpOk.of_run {P : Program} {o : Oper} {ev : Ev} {H H' : Heap} {v : AV}
    (h : ∀ (G : Ctx) (ρ : List Value) (w : World) (a : Act), G.P = P → Sat G ρ H w → EvR ρ (Fz G ρ H w) w ev a →
      ∃ ρ' w' x, (execOp a.eval o).run P w = .ok (.value x) w' ∧ Sat G ρ' H' w' ∧ Step ρ ρ' H H' w w' ∧ VR ρ' (Fz G ρ' H' w') w' v x) : OpOk P o ev H v H' := by
  intro G ρ w a hG hs he next Q hn
  obtain ⟨ρ', w', x, hr, h1, h2, h3⟩ := h G ρ w a hG hs he
  unfold Oper.wp
  rw [hr]
  exact hn ρ' w' x h1 h2 h3

theorem OpOk.of_skip {P : Program} {o : Oper} {ev : Ev} {H H' : Heap}
    (h : ∀ (G : Ctx) (ρ : List Value) (w : World) (a : Act), G.P = P → Sat G ρ H w → EvR ρ (Fz G ρ H w) w ev a →
      ∃ ρ' w', (execOp a.eval o).run P w = .ok .skip w' ∧ Sat G ρ' H' w' ∧ Step ρ ρ' H H' w w') : OpOk P o ev H (.d (.v undef)) H' := by
  intro G ρ w a hG hs he next Q hn
  obtain ⟨ρ', w', hr, h1, h2⟩ := h G ρ w a hG hs he
  unfold Oper.wp
  rw [hr]
  exact hn ρ' w' undef h1 h2 (.d _ _ (.v _ rfl))

/-- An operation that leaves the world alone. -/
theorem OpOk.pure {P : Program} {o : Oper} {ev : Ev} {H : Heap} {v : AV}
    (h : ∀ (ρ : List Value) (S : Nat → Prop) (w : World) (a : Act), EvR ρ S w ev a → ∃ x, (execOp a.eval o).run P w = .ok (.value x) w ∧ VR ρ S w v x) : OpOk P o ev H v H :=
  .of_run fun G ρ w a _ hs he => let ⟨x, h1, h2⟩ := h ρ _ w a he; ⟨ρ, w, x, h1, hs, Step.refl ρ H w, h2⟩

theorem addr_add (b o n : Nat) : (⟨b, o, none⟩ : Addr).add n = ⟨b, o + n, none⟩ := by
  unfold Addr.add
  split
  · simp_all
  · rfl

section
variable {P : Program} {T : Tb} {o : Oper} {ev : Ev} {H : Heap}

theorem run_isAgg {t : TypeId} {i : TI} {info : TypeInfo} {d : TypeDesc} (h : i.ok P t info d) (w : World) : (isAgg t).run P w = .ok i.agg w := by
  unfold isAgg
  rw [Sem.run_bind, run_underlying h.und, Result.andThen_ok, ← h.agg]
  cases d <;> rfl

theorem run_sizeOf' {t : TypeId} {i : TI} {info : TypeInfo} {d : TypeDesc} (h : i.ok P t info d) (w : World) : (sizeOf t).run P w = .ok i.sz w := by
  simp [sizeOf, typeInfo, h.info, h.sz]

theorem run_zeroValue {t : TypeId} {i : TI} {info : TypeInfo} {d : TypeDesc} (h : i.ok P t info d) (w : World) :
    (zeroValue t).run P w = .ok (if i.agg then .agg i.z.toArray else i.z.headD undef) w := by
  simp only [zeroValue, typeInfo, Sem.run_bind, run_program, Result.andThen_ok, h.info, Sem.run_pure, h.zero]

/-- What is loaded from a place among cells. -/
theorem run_load_part {ρ : List Value} {S : Nat → Prop} {w : World} {t : TypeId} {i : TI} {info : TypeInfo} {d : TypeDesc} (h : i.ok P t info d) {ag : Bool} {m : Nat} {v0 : AV} (hm : v0.cells.length = m) (hag : v0.isAgg = ag) {vs : List Value} (hc : AllR (VR ρ S w) v0.cells vs)
    {b o off : Nat} (hcell : ∀ (j : Nat) (x : Value), vs[j]? = some x → w.cell? ⟨b, o + j, none⟩ = some x) {v : AV} (hp : part i.agg i.sz off ag m v0 = some v) :
    ∃ x, (loadVar t ⟨b, o + off, none⟩).run P w = .ok x w ∧ VR ρ S w v x := by
  unfold part at hp
  unfold loadVar
  rw [Sem.run_bind, run_isAgg h, Result.andThen_ok]
  have hrunA : ∀ (hl : ((v0.cells.drop off).take i.sz).length = i.sz), (loadCells ⟨b, o + off, none⟩ i.sz).run P w = .ok ((vs.drop off).take i.sz).toArray w := by
    intro hlen
    have hr := (hc.drop off).take i.sz
    have := run_loadCells_list (P := P) w ⟨b, o + off, none⟩ ((vs.drop off).take i.sz) (fun j x hj => by
      rw [addr_add, Nat.add_assoc]
      refine hcell (off + j) x ?_
      rw [List.getElem?_take] at hj
      split at hj
      · rw [List.getElem?_drop] at hj
        exact hj
      · cases hj)
    rwa [hr.1, hlen] at this
  split at hp
  · rename_i hw
    cases hp
    simp only [Bool.and_eq_true, beq_iff_eq] at hw
    obtain ⟨⟨h0, h1⟩, h2⟩ := hw
    have h0 : off = 0 := Nat.eq_of_beq_eq_true h0
    have h1 : i.sz = m := Nat.eq_of_beq_eq_true h1
    subst h0
    cases ha : i.agg with
    | true =>
      have e : (vs.drop 0).take i.sz = vs := by simp [h1, ← hm, ← hc.1]
      have hr := hrunA (by simp [h1, hm])
      rw [e] at hr
      refine ⟨.agg vs.toArray, ?_, VR.of_cells (by simpa [Value.cells] using hc) ?_⟩
      · simp only [if_true, Sem.run_bind, run_sizeOf' h, Result.andThen_ok, hr, Sem.run_pure]
      · rw [hag, ← h2, ha]; rfl
    | false =>
      have hz := h.one ha
      have hva : v0.isAgg = false := by rw [hag, ← h2, ha]
      have hvc : v0.cells = [v0] := by
        cases v0 with
        | d y => cases y <;> simp_all [AV.isAgg, AV.cells]
        | agg cs => simp [AV.isAgg] at hva
        | _ => rfl
      rw [hvc] at hc
      obtain ⟨x, hx, hv⟩ := hc.get (i := 0) (c := v0) rfl
      refine ⟨x, ?_, hv⟩
      have := hcell 0 x hx
      simp only [Nat.add_zero] at this ⊢
      simp [run_load, this]
  · cases ha : i.agg with
    | true =>
      simp only [ha] at hp
      split at hp
      · rename_i hl
        cases hp
        have hlen : ((v0.cells.drop off).take i.sz).length = i.sz := Nat.eq_of_beq_eq_true hl
        have hr := (hc.drop off).take i.sz
        refine ⟨.agg ((vs.drop off).take i.sz).toArray, ?_, VR.mkAgg (by simpa using hr)⟩
        simp only [if_true, Sem.run_bind, run_sizeOf' h, Result.andThen_ok, hrunA hlen, Sem.run_pure]
      · cases hp
    | false =>
      simp only [ha] at hp
      split at hp
      · rename_i c hcc
        split at hp
        · cases hp
        · cases hp
          obtain ⟨x, hx, hv⟩ := hc.get hcc
          refine ⟨x, ?_, hv⟩
          have := hcell off x hx
          simp [run_load, this]
      · cases hp

/-! ### moves -/
theorem ok_move {x : Operand} {v : AV} (ho : o.op = .move x ∨ o.op = .assign x) (hv : ev x = some v) : OpOk P o ev H v H :=
  .pure fun ρ S w a he => ⟨a.eval x, by rcases ho with ho | ho <;> simp [execOp, ho], he x v hv⟩

theorem ok_pick {c x y : Operand} {t : Bool} {v : AV} (ho : o.op = .pick c x y) (hc : ev c = some (.d (.v (.bool t)))) (hv : (if t then ev x else ev y) = some v) : OpOk P o ev H v H :=
  .pure fun ρ S w a he => by
    have h1 := he c _ hc
    cases h1 with
    | d _ _ hd =>
      generalize hx : a.eval c = cv at hd
      cases hd
      cases t with
      | true => exact ⟨a.eval x, by simp [execOp, ho, hx, asBool], he x v hv⟩
      | false => exact ⟨a.eval y, by simp [execOp, ho, hx, asBool], he y v hv⟩

/-! ### new variables -/
def zv (i : TI) : AV := match i.agg with
  | true => .d (.agg (i.z.map .v))
  | false => .d (.v (i.z.headD undef))

/-- A value of a type's form. -/
def elOk (ag : Bool) (sz : Nat) (e : AV) : Bool := Nat.beq e.cells.length sz && (e.isAgg == ag) && e.cells.all AV.one

theorem elOk_iff {ag : Bool} {sz : Nat} {e : AV} (h : elOk ag sz e = true) : e.cells.length = sz ∧ e.isAgg = ag ∧ e.cells.all AV.one = true := by
  simp only [elOk, Bool.and_eq_true, beq_iff_eq] at h
  exact ⟨Nat.eq_of_beq_eq_true h.1.1, h.1.2, h.2⟩

theorem zvalue_cells {t : TypeId} {i : TI} {info : TypeInfo} {d : TypeDesc} (hok : i.ok P t info d) : (if i.agg then Value.agg i.z.toArray else i.z.headD undef).cells = i.z.toArray := by
  cases ha : i.agg with
  | true => rfl
  | false =>
    have h1 := hok.one ha
    have h2 := hok.zl
    rw [h1] at h2
    match hz : i.z, h2 with
    | [x], _ =>
      have := hok.z1 x (by simp [hz])
      cases x <;> simp_all [Value.cells, Value.oneCell']

theorem zv_cells {t : TypeId} {i : TI} {info : TypeInfo} {d : TypeDesc} (hok : i.ok P t info d) : (zv i).cells = i.z.map (fun x => .d (.v x)) ∧ (zv i).isAgg = i.agg := by
  unfold zv
  cases ha : i.agg with
  | true => simp [AV.cells, AV.isAgg]
  | false =>
    have h1 := hok.one ha
    have h2 := hok.zl
    rw [h1] at h2
    match hz : i.z, h2 with
    | [x], _ => simp [AV.cells, AV.isAgg]

theorem ok_alloc {t : TypeId} {i : TI} (hT : TbOk P T) (ho : o.op = .alloc t) (hi : T t = some i) : OpOk P o ev H (.ptr H.length 0) (H ++ [.var t i.agg i.sz (zv i)]) := by
  obtain ⟨info, d, hok⟩ := hT t i hi
  refine .of_run fun G ρ w a _ hs he => ?_
  have hz := zvalue_cells hok
  obtain ⟨zc, za⟩ := zv_cells hok
  obtain ⟨s1, s2⟩ := hs.alloc_own (.cells i.z.toArray t) (.var t i.agg i.sz (zv i)) (.pointer (some ⟨w.heap.size, 0, none⟩)) rfl rfl (fun hs s => by
    refine ⟨by rw [zc]; simp [hok.zl], za, w.heap.size, i.z.toArray, rfl, heap_alloc_new w _, by rw [zc]; simp, fun j c y h1 h2 => ?_⟩
    rw [zc] at h1
    simp only [List.getElem?_map, Option.map_eq_some_iff] at h1
    obtain ⟨x, hx, rfl⟩ := h1
    have : x = y := by simpa [hx] using h2
    subst this
    exact .d _ _ (.v _ (isAgg_of_one (hok.z1 x (List.mem_of_getElem? hx)))))
  refine ⟨_, _, .pointer (some ⟨w.heap.size, 0, none⟩), ?_, s1, s2, .ptr _ 0 w.heap.size ?_⟩
  · simp only [execOp, ho, Instr.alloc, Sem.run_bind, run_zeroValue hok, Result.andThen_ok, newVar, newRow, hz, run_newObj, Sem.run_pure]
    rfl
  · rw [← hs.len]
    simp

theorem ok_box {t : TypeId} {x : Operand} {v : AV} {ag : Bool} {m : Nat} (ho : o.op = .box t x) (hv : ev x = some v) (hm : v.cells.length = m) (ha : v.isAgg = ag) : OpOk P o ev H (.ptr H.length 0) (H ++ [.var t ag m v]) := by
  refine .of_run fun G ρ w a _ hs he => ?_
  have hvx := he x v hv
  have hc := hvx.cells
  obtain ⟨s1, s2⟩ := hs.alloc_own (.cells (a.eval x).cells t) (.var t ag m v) (.pointer (some ⟨w.heap.size, 0, none⟩)) rfl rfl (fun hs s => by
    refine ⟨hm, ha, w.heap.size, (a.eval x).cells, rfl, heap_alloc_new w _, by simpa using hc.1, fun i c y h1 h2 => ?_⟩
    exact (hc.2 i c y h1 (by simpa using h2)).keep s.rp (hs.kp s))
  refine ⟨_, _, .pointer (some ⟨w.heap.size, 0, none⟩), ?_, s1, s2, .ptr _ 0 w.heap.size ?_⟩
  · simp only [execOp, ho, Instr.box, Sem.run_bind, Result.andThen_ok, newVar, newRow, run_newObj, Sem.run_pure]
    rfl
  · rw [← hs.len]
    simp

/-! ### loads -/
theorem ok_load_own {t : TypeId} {i : TI} {ad : Operand} {id off : Nat} {ty : TypeId} {ag : Bool} {m : Nat} {v0 v : AV} (hT : TbOk P T) (ho : o.op = .load t ad) (hi : T t = some i)
    (hv : ev ad = some (.ptr id off)) (hH : H[id]? = some (.var ty ag m v0)) (hp : part i.agg i.sz off ag m v0 = some v) : OpOk P o ev H v H := by
  obtain ⟨info, d, hok⟩ := hT t i hi
  refine .of_run fun G ρ w a _ hs he => ?_
  have h1 := he ad _ hv
  generalize hx : a.eval ad = x at h1
  cases h1 with
  | ptr _ _ b hb =>
    obtain ⟨hm, hag, b', vs, e, hh, hl, hc⟩ := hs.obj id _ _ hH hb
    cases e
    obtain ⟨y, hy, hvy⟩ := run_load_part (P := P) (o := 0) (off := off) hok hm hag (vs := vs.toList) ⟨by simpa using hl, fun i c x h1 h2 => hc i c x h1 (by simpa using h2)⟩ (b := b)
      (fun j x hj => by rw [cell_of_row w b _ vs ty (0, 0) hh]; simpa using hj) hp
    refine ⟨ρ, w, y, ?_, hs, Step.refl ρ H w, hvy⟩
    simp only [Nat.zero_add] at hy
    simp only [execOp, ho, hx, Instr.loadAt, Instr.sureAddr, Sem.run_bind, Sem.run_pure, Result.andThen_ok, hy]

theorem ok_load_cp {t : TypeId} {i : TI} {ad : Operand} {off : Nat} {c : D} {ag : Bool} {m : Nat} {v : AV} (hT : TbOk P T) (ho : o.op = .load t ad) (hi : T t = some i)
    (hv : ev ad = some (.d (.cp c ag m off))) (hp : part i.agg i.sz off ag m (.d c) = some v) : OpOk P o ev H v H := by
  obtain ⟨info, d, hok⟩ := hT t i hi
  refine .pure fun ρ S w a he => ?_
  have h1 := he ad _ hv
  generalize hx : a.eval ad = x at h1
  cases h1 with
  | d _ _ hd =>
    cases hd with
    | cp _ _ _ _ b o' cell hS hm ha hc hr =>
      have hcl : (AV.d c).cells = c.cells.map .d := AV.cells_d c
      have hca : (AV.d c).isAgg = c.isAgg := AV.isAgg_d c
      obtain ⟨y, hy, hvy⟩ := run_load_part (P := P) (ρ := ρ) (S := S) (w := w) (o := o') (off := off) hok (v0 := .d c) (by rw [hcl]; simpa using hm) (by rw [hca]; exact ha) (vs := (List.range c.cells.length).map cell) ⟨by simp [hcl], fun i c x h1 h2 => by
          rw [hcl] at h1
          simp only [List.getElem?_map, Option.map_eq_some_iff] at h1 h2
          obtain ⟨d, hd, rfl⟩ := h1
          obtain ⟨k, hk, rfl⟩ := h2
          have : i = k := by
            have := (List.getElem?_eq_some_iff.1 hk).2
            simpa using this
          subst this
          exact .d _ _ (hr i d hd)⟩ (b := b)
        (fun j x hj => by
          simp only [List.getElem?_map, Option.map_eq_some_iff] at hj
          obtain ⟨k, hk, rfl⟩ := hj
          have hk' := List.getElem?_eq_some_iff.1 hk
          have : j = k := by simpa using hk'.2
          subst this
          have hj : j < c.cells.length := by simpa using hk'.1
          exact (hc j c.cells[j] (by simp [hj])).1) hp
      refine ⟨y, ?_, hvy⟩
      simp only [execOp, ho, hx, Instr.loadAt, Instr.sureAddr, Sem.run_bind, Sem.run_pure, Result.andThen_ok, hy]

end
end Go.Rc
