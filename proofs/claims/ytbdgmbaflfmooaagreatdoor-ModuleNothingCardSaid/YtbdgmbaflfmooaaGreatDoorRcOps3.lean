/- Literals of structs and slices. Conditions: none. -/
import Derived.Test.YtbdgmbaflfmooaaGreatDoorRcOps2
set_option linter.unusedVariables false
set_option linter.unusedSimpArgs false
namespace Go.Rc

def placesOf (T : Tb) : List (TypeId × Nat) → Option (List (Nat × Nat))
  | [] => some []
  | (t, off) :: r => match T t with
    | some i => match placesOf T r with
      | some l => some ((off, i.sz) :: l)
      | none => none
    | none => none

/-- The parts of a literal, laid into its cells. -/
def fillA (place : Nat → Option (Nat × Nat)) : List AV → List (Nat × AV) → Option (List AV)
  | cs, [] => some cs
  | cs, (i, v) :: rest => match place i with
    | some (off, size) => match Nat.beq v.cells.length size with
      | true => match setL cs off v.cells with
        | some cs' => fillA place cs' rest
        | none => none
      | false => none
    | none => none

theorem foldl_set (us : List Value) (off : Nat) (vs : Array Value) (h : off + us.length ≤ vs.size) :
    ((us.toArray.zipIdx).foldl (fun cs (x : Value × Nat) => cs.setIfInBounds (off + x.2) x.1) vs).toList = vs.toList.take off ++ us ++ vs.toList.drop (off + us.length) := by
  have key : ∀ (us : List Value) (k : Nat) (vs : Array Value), off + k + us.length ≤ vs.size →
      ((us.zipIdx k).foldl (fun cs (x : Value × Nat) => cs.setIfInBounds (off + x.2) x.1) vs).toList = vs.toList.take (off + k) ++ us ++ vs.toList.drop (off + k + us.length) := by
    intro us
    induction us with
    | nil => intro k vs h; simp
    | cons u us ih =>
      intro k vs h
      simp only [List.zipIdx_cons, List.foldl_cons]
      rw [ih (k + 1) _ (by simp at h ⊢; omega)]
      simp only [Array.toList_setIfInBounds, List.length_cons]
      have hk : off + k < vs.toList.length := by simp at h ⊢; omega
      rw [show off + (k + 1) = off + k + 1 by omega, show off + k + (us.length + 1) = off + k + 1 + us.length by omega]
      rw [List.drop_set_of_lt (by omega)]
      rw [List.take_succ_eq_append_getElem (by simpa using hk)]
      simp [List.take_set_of_le]
  have := key us 0 vs (by simpa using h)
  simpa using this

theorem fill_rel {R : AV → Value → Prop} {place : Nat → Option (Nat × Nat)} (parts : List (Nat × AV)) (us : List (Nat × Value))
    (hl : us.length = parts.length) (hp : ∀ (j i : Nat) (v : AV) (k : Nat) (x : Value), parts[j]? = some (i, v) → us[j]? = some (k, x) → k = i ∧ AllR R v.cells x.cells.toList)
    (cs r : List AV) (vs : Array Value) (hc : AllR R cs vs.toList) (hf : fillA place cs parts = some r) :
    ∃ vs', Instr.fill place vs us = some vs' ∧ AllR R r vs'.toList := by
  induction parts generalizing us cs vs with
  | nil =>
    obtain rfl : us = [] := List.eq_nil_of_length_eq_zero hl
    simp only [fillA] at hf
    cases hf
    exact ⟨vs, rfl, hc⟩
  | cons p parts ih =>
    cases us with
    | nil => simp at hl
    | cons u us =>
      obtain ⟨i, v⟩ := p
      obtain ⟨k, x⟩ := u
      obtain ⟨rfl, hv⟩ := hp 0 i v k x rfl rfl
      simp only [fillA] at hf
      split at hf
      · rename_i off size hpl
        split at hf
        · rename_i hlen
          have hlen' : v.cells.length = size := Nat.eq_of_beq_eq_true hlen
          split at hf
          · rename_i cs' hset
            have hfit := (setL_eq cs v.cells cs' off hset).1
            have hsz : x.cells.size = size := by rw [← hlen', ← hv.1]; simp
            have hvl : vs.size = cs.length := by rw [← hc.1]; simp
            have hcs' : AllR R cs' ((x.cells.zipIdx).foldl (fun cs (x : Value × Nat) => cs.setIfInBounds (off + x.2) x.1) vs).toList := by
              have := foldl_set x.cells.toList off vs (by rw [hv.1]; omega)
              simp only [Array.toArray_toList] at this
              rw [this]
              exact hc.setL hv hset
            obtain ⟨vs', h1, h2⟩ := ih us (by simpa using hl) (fun j i v k x hj hk => hp (j + 1) i v k x (by simpa using hj) (by simpa using hk)) cs' _ hcs' hf
            refine ⟨vs', ?_, h2⟩
            simp only [Instr.fill, hpl]
            rw [if_neg (by simp [hsz]; omega)]
            exact h1
          · cases hf
        · cases hf
      · cases hf

section
variable {P : Program} {T : Tb} {o : Oper} {ev : Ev} {H : Heap}

def evParts (ev : Ev) : List (Nat × Operand) → Option (List (Nat × AV))
  | [] => some []
  | (i, x) :: r => match ev x with
    | some v => match evParts ev r with
      | some l => some ((i, v) :: l)
      | none => none
    | none => none

theorem evParts_rel {ρ : List Value} {S : Nat → Prop} {w : World} {a : Act} (he : EvR ρ S w ev a) (ps : List (Nat × Operand)) (l : List (Nat × AV)) (h : evParts ev ps = some l) :
    (ps.map fun (i, x) => (i, a.eval x)).length = l.length ∧
    ∀ (j i : Nat) (v : AV) (k : Nat) (x : Value), l[j]? = some (i, v) → (ps.map fun (i, x) => (i, a.eval x))[j]? = some (k, x) → k = i ∧ VR ρ S w v x := by
  induction ps generalizing l with
  | nil => simp only [evParts] at h; cases h; exact ⟨rfl, fun j i v k x h => by simp at h⟩
  | cons p ps ih =>
    obtain ⟨i, x⟩ := p
    simp only [evParts] at h
    split at h
    · rename_i v hv
      split at h
      · rename_i l' hl'
        cases h
        obtain ⟨h1, h2⟩ := ih l' hl'
        refine ⟨by simpa using h1, fun j i' v' k x' hj hk => ?_⟩
        cases j with
        | zero =>
          simp at hj hk
          obtain ⟨rfl, rfl⟩ := hj
          obtain ⟨rfl, rfl⟩ := hk
          exact ⟨rfl, he x _ hv⟩
        | succ j => exact h2 j i' v' k x' (by simpa using hj) (by simpa using hk)
      · cases h
    · cases h

theorem places_eq (hT : TbOk P T) (fs : List (TypeId × Nat)) (pl : List (Nat × Nat)) (h : placesOf T fs = some pl) (fields : List Field) (hl : fields.length = fs.length)
    (hf : ∀ (j : Nat) (t : TypeId) (o : Nat), fs[j]? = some (t, o) → ∃ f, fields[j]? = some f ∧ f.type = t ∧ f.offset = o) :
    fields.mapM (fun f => (P.info? f.type).map fun i => (f.offset, i.size)) = some pl := by
  induction fs generalizing pl fields with
  | nil =>
    simp only [placesOf] at h
    cases h
    obtain rfl : fields = [] := List.eq_nil_of_length_eq_zero hl
    rfl
  | cons p fs ih =>
    obtain ⟨t, off⟩ := p
    cases fields with
    | nil => simp at hl
    | cons f fields =>
      simp only [placesOf] at h
      split at h
      · rename_i i hi
        split at h
        · rename_i l hl'
          cases h
          obtain ⟨f', h1, h2, h3⟩ := hf 0 t off rfl
          cases h1
          subst h2 h3
          obtain ⟨info, d, hok⟩ := hT f.type i hi
          have := ih l hl' fields (by simpa using hl) (fun j t o hj => hf (j + 1) t o (by simpa using hj))
          simp [List.mapM_cons, hok.info, this, hok.sz]
        · cases h
      · cases h

def zc (i : TI) : List AV := i.z.map fun x => .d (.v x)

theorem zc_rel {ρ : List Value} {S : Nat → Prop} {w : World} (zs : List Value) (h : ∀ x, x ∈ zs → x.oneCell' = true) : AllR (VR ρ S w) (zs.map fun x => .d (.v x)) zs := by
  refine ⟨by simp, fun i c x h1 h2 => ?_⟩
  simp only [List.getElem?_map, Option.map_eq_some_iff] at h1
  obtain ⟨y, hy, rfl⟩ := h1
  rw [h2] at hy
  cases hy
  exact .d _ _ (.v _ (isAgg_of_one (h x (List.mem_of_getElem? h2))))

theorem ok_build {t : TypeId} {ps : Array (Nat × Operand)} {i : TI} {fs : List (TypeId × Nat)} {pl : List (Nat × Nat)} {l : List (Nat × AV)} {r : List AV} (hT : TbOk P T) (ho : o.op = .build t ps) (hi : T t = some i) (ha : i.agg = true)
    (hk : i.k = .struct fs) (hpl : placesOf T fs = some pl) (hl : evParts ev ps.toList = some l) (hr : fillA (pl[·]?) (zc i) l = some r) : OpOk P o ev H (mkAgg r) H :=
  .pure fun ρ S w a he => by
    obtain ⟨info, d, hok⟩ := hT t i hi
    have hfit := hok.k
    rw [hk] at hfit
    obtain ⟨fields, rfl, hfl, hfs⟩ := hfit
    obtain ⟨h1, h2⟩ := evParts_rel he ps.toList l hl
    obtain ⟨vs', hfill, hall⟩ := fill_rel (R := VR ρ S w) (place := (pl[·]?)) l (ps.toList.map fun (i, x) => (i, a.eval x)) h1
      (fun j i v k x hj hk => ⟨(h2 j i v k x hj hk).1, (h2 j i v k x hj hk).2.cells⟩) (zc i) r i.z.toArray (by simpa [zc] using zc_rel i.z hok.z1) hr
    have hb : P.built t ((ps.map fun (i, x) => (i, a.eval x)).toList) = some vs' := by
      unfold Program.built
      simp only [hok.info, hok.und, hok.zero, ha, if_true]
      rw [places_eq hT fs pl hpl fields.toList (by simpa using hfl) (fun j t o hj => by obtain ⟨f, h1, h2⟩ := hfs j t o hj; exact ⟨f, by simpa using h1, h2⟩)]
      simp only [Value.cells]
      simpa using hfill
    refine ⟨.agg vs', ?_, VR.mkAgg hall⟩
    simp only [execOp, ho, Sem.run_bind, run_build w t _ vs' hb, Result.andThen_ok, Sem.run_pure]

/-! ### slice literals -/
/-- The elements, each at its place; a place without a part would be zero: not here. -/
def litE : Nat → List (Nat × AV) → Option (List AV)
  | _, [] => some []
  | k, (i, v) :: r => match Nat.beq i k with
    | true => match litE (k + 1) r with
      | some l => some (v :: l)
      | none => none
    | false => none

def allEl (ag : Bool) (sz : Nat) : List AV → Bool
  | [] => true
  | v :: r => match elOk ag sz v with
    | true => allEl ag sz r
    | false => false

theorem allEl_iff {ag : Bool} {sz : Nat} {es : List AV} (h : allEl ag sz es = true) : ∀ e, e ∈ es → elOk ag sz e = true := by
  induction es with
  | nil => intro e he; cases he
  | cons v r ih =>
    simp only [allEl] at h
    split at h
    · rename_i hb
      intro e he
      rcases List.mem_cons.1 he with rfl | he
      · exact hb
      · exact ih h e he
    · cases h

theorem allOne_iff {ag : Bool} {sz : Nat} {es : List AV} (h : allEl ag sz es = true) : ∀ e, e ∈ es → e.cells.all AV.one = true := fun e he => (elOk_iff (allEl_iff h e he)).2.2
theorem allSz_iff {ag : Bool} {sz : Nat} {es : List AV} (h : allEl ag sz es = true) : ∀ e, e ∈ es → e.cells.length = sz := fun e he => (elOk_iff (allEl_iff h e he)).1
theorem allAg_iff {ag : Bool} {sz : Nat} {es : List AV} (h : allEl ag sz es = true) : ∀ e, e ∈ es → e.isAgg = ag := fun e he => (elOk_iff (allEl_iff h e he)).2.1

theorem overL_some (cs ns : List AV) (h : ns.length ≤ cs.length) : overL cs ns = some (ns ++ cs.drop ns.length) := by
  induction ns generalizing cs with
  | nil => cases cs <;> rfl
  | cons n ns ih =>
    cases cs with
    | nil => simp at h
    | cons c cs => simp [overL, ih cs (by simpa using h)]

theorem setL_some (cs ns : List AV) (k : Nat) (h : k + ns.length ≤ cs.length) : setL cs k ns = some (cs.take k ++ ns ++ cs.drop (k + ns.length)) := by
  induction k generalizing cs with
  | zero => simp [setL, overL_some cs ns (by omega)]
  | succ k ih =>
    cases cs with
    | nil => simp at h
    | cons c cs =>
      simp only [setL]
      rw [ih cs (by simp at h; omega), show k + 1 + ns.length = (k + ns.length) + 1 by omega]
      simp

theorem fillA_lit (sz : Nat) (l : List (Nat × AV)) (es : List AV) (k : Nat) (hl : litE k l = some es) (hs : ∀ e, e ∈ es → e.cells.length = sz) (pre cs : List AV) (hp : pre.length = k * sz) (hc : cs.length = es.length * sz) :
    fillA (fun i => some (i * sz, sz)) (pre ++ cs) l = some (pre ++ es.flatMap AV.cells) := by
  induction l generalizing es k pre cs with
  | nil =>
    simp only [litE] at hl
    cases hl
    obtain rfl : cs = [] := List.eq_nil_of_length_eq_zero (by simpa using hc)
    simp [fillA]
  | cons p l ih =>
    obtain ⟨i, v⟩ := p
    simp only [litE] at hl
    split at hl
    · rename_i hb
      have hik : i = k := Nat.eq_of_beq_eq_true hb
      subst hik
      split at hl
      · rename_i es' hes
        cases hl
        have hv : v.cells.length = sz := hs v (by simp)
        have hcl : cs.length = es'.length * sz + sz := by rw [hc, List.length_cons, Nat.succ_mul]
        simp only [fillA]
        rw [show Nat.beq v.cells.length sz = true from by rw [hv]; exact Nat.beq_refl sz]
        simp only
        rw [setL_some _ _ _ (by simp [hp, hv, hcl])]
        simp only [List.take_append_of_le_length (Nat.le_of_eq hp.symm), show (pre ++ cs).drop (i * sz + v.cells.length) = cs.drop sz by rw [hv, ← hp, List.drop_append]; simp]
        rw [List.take_of_length_le (Nat.le_of_eq hp)]
        rw [ih es' (i + 1) hes (fun e he => hs e (by simp [he])) (pre ++ v.cells) (cs.drop sz) (by simp [hp, hv, Nat.succ_mul]) (by simp [hcl])]
        simp
      · cases hl
    · cases hl

theorem get_flat {sz : Nat} (es : List AV) (hs : ∀ e, e ∈ es → e.cells.length = sz) : ∀ (i : Nat) (e : AV) (j : Nat) (c : AV), es[i]? = some e → e.cells[j]? = some c → (es.flatMap AV.cells)[i * sz + j]? = some c := by
  induction es with
  | nil => intro i e j c h; simp at h
  | cons v r ih =>
    intro i e j c h1 h2
    have hv : v.cells.length = sz := hs v (by simp)
    cases i with
    | zero =>
      simp at h1
      subst h1
      have hj := (List.getElem?_eq_some_iff.1 h2).1
      simp only [List.flatMap_cons, Nat.zero_mul, Nat.zero_add]
      rw [List.getElem?_append_left hj]
      exact h2
    | succ i =>
      simp at h1
      have := ih (fun e he => hs e (by simp [he])) i e j c h1 h2
      simp only [List.flatMap_cons]
      rw [List.getElem?_append_right (by rw [hv, Nat.succ_mul]; omega), hv, show (i + 1) * sz + j - sz = i * sz + j by rw [Nat.succ_mul]; omega]
      exact this

theorem length_flat {sz : Nat} (es : List AV) (hs : ∀ e, e ∈ es → e.cells.length = sz) : (es.flatMap AV.cells).length = es.length * sz := by
  induction es with
  | nil => simp
  | cons v r ih =>
    simp only [List.flatMap_cons, List.length_append, List.length_cons]
    rw [ih (fun e he => hs e (by simp [he])), hs v (by simp), Nat.succ_mul]
    omega

/-- What the machine lays for a slice's literal. -/
theorem run_buildSlice {ρ : List Value} {S : Nat → Prop} {w : World} {a : Act} (he : EvR ρ S w ev a) {t e : TypeId} {i ie : TI} {ps : Array (Nat × Operand)} {l : List (Nat × AV)} {es : List AV} (hT : TbOk P T) (hi : T t = some i)
    (hk : i.k = .slice e) (hie : T e = some ie) (hsz : 0 < ie.sz) (hl : evParts ev ps.toList = some l) (hes : litE 0 l = some es) (hs : allEl ie.agg ie.sz es = true) (hn : es.length * ie.sz ≤ 16777216) :
    ∃ vs : Array Value, (Instr.buildSlice t es.length (ps.map fun (i, x) => (i, a.eval x))).run P w = .ok (.slice (some ⟨w.heap.size, 0, none⟩) es.length es.length) (w.alloc (.cells vs e)) ∧
      AllR (VR ρ S w) (es.flatMap AV.cells) vs.toList := by
  obtain ⟨info, d, hok⟩ := hT t i hi
  obtain ⟨info', d', hok'⟩ := hT e ie hie
  have hfit := hok.k
  rw [hk] at hfit
  have hd : d = .slice e := hfit
  subst hd
  obtain ⟨h1, h2⟩ := evParts_rel he ps.toList l hl
  have hss := allSz_iff hs
  have hz1 : (if ie.agg then Value.agg ie.z.toArray else ie.z.headD undef).cells.toList = ie.z := by
    rw [zvalue_cells hok']
  have hz1' : (if ie.agg then Value.agg ie.z.toArray else ie.z.headD undef).cells.toList = ie.z := by
    cases ha : ie.agg with
    | true => simp [Value.cells]
    | false =>
      have h1 := hok'.one ha
      have h2 := hok'.zl
      rw [h1] at h2
      match hz : ie.z, h2 with
      | [x], _ =>
        have := hok'.z1 x (by simp [hz])
        cases x <;> simp_all [Value.cells, Value.oneCell']
  by_cases hlen : es.length * ie.sz = 0
  · have he0 : es = [] := by
      rcases Nat.mul_eq_zero.1 hlen with h | h
      · exact List.eq_nil_of_length_eq_zero h
      · omega
    subst he0
    have hl0 : l = [] := by
      cases l with
      | nil => rfl
      | cons p r =>
        obtain ⟨k, v⟩ := p
        simp only [litE] at hes
        split at hes
        · split at hes <;> cases hes
        · cases hes
    subst hl0
    have hps : ps = #[] := by
      have : ps.toList = [] := by
        cases hp : ps.toList with
        | nil => rfl
        | cons p r =>
          obtain ⟨k, x⟩ := p
          rw [hp] at hl
          simp only [evParts] at hl
          split at hl
          · split at hl <;> cases hl
          · cases hl
      simpa using this
    subst hps
    refine ⟨#[], ?_, ⟨rfl, fun i c x h => by simp at h⟩⟩
    simp [Instr.buildSlice, run_underlying hok.und, run_sizeOf' hok', Instr.fill, newRow]
    congr 2
    simp
  · have hzs : ie.z ≠ [] := by
      intro h
      have := hok'.zl
      rw [h] at this
      simp at this
      omega
    generalize hzz : (if ie.agg then Value.agg ie.z.toArray else ie.z.headD undef) = zz at hz1
    let arr : Array Value := (Array.range (es.length * ie.sz)).map (zz.cells[· % zz.cells.size]!)
    have harr : ∀ x, x ∈ arr.toList → x.oneCell' = true := by
      intro x hx
      simp only [arr, Array.toList_map, List.mem_map] at hx
      obtain ⟨k, hk, rfl⟩ := hx
      have hszz : 0 < zz.cells.size := by
        rw [← Array.length_toList, hz1]
        exact List.length_pos_iff.2 hzs
      have hlt := Nat.mod_lt k hszz
      rw [getElem!_pos zz.cells (k % zz.cells.size) hlt]
      refine hok'.z1 _ ?_
      rw [← hz1]
      simp
    obtain ⟨vs', hfill, hall⟩ := fill_rel (R := VR ρ S w) (place := fun i => some (i * ie.sz, ie.sz)) l (ps.toList.map fun (i, x) => (i, a.eval x)) h1
      (fun j i v k x hj hk => ⟨(h2 j i v k x hj hk).1, (h2 j i v k x hj hk).2.cells⟩) (arr.toList.map fun x => .d (.v x)) (es.flatMap AV.cells) arr (zc_rel _ harr)
      (by
        have := fillA_lit ie.sz l es 0 hes hss [] (arr.toList.map fun x => .d (.v x)) (by simp) (by simp [arr])
        simpa using this)
    refine ⟨vs', ?_, hall⟩
    simp only [Instr.buildSlice, Sem.run_bind, run_underlying hok.und, Result.andThen_ok, run_sizeOf' hok']
    rw [if_neg (by simpa using Nat.not_lt.2 hn), if_neg hlen]
    simp only [Sem.run_bind, run_zeroValue hok', Result.andThen_ok, hzz, Sem.run_pure]
    have hf' : Instr.fill (fun i => some (i * ie.sz, ie.sz)) ((Array.range (es.length * ie.sz)).map (zz.cells[· % zz.cells.size]!)) (ps.map fun (i, x) => (i, a.eval x)).toList = some vs' := by
      simpa [arr] using hfill
    simp only [hf', Sem.run_bind, newRow, run_newObj, Result.andThen_ok, Sem.run_pure]
    rfl

theorem allD_get {es : List AV} {ds : List D} (h : allD es = some ds) : es = ds.map .d := allD_map es ds h

theorem D.cells_av (x : D) : (AV.d x).cells = x.cells.map .d := AV.cells_d x

/-- A literal that nobody writes, of pure data. -/
theorem ok_buildSlice {t e : TypeId} {n : Nat} {i ie : TI} {ps : Array (Nat × Operand)} {l : List (Nat × AV)} {es : List AV} {ds : List D} (hT : TbOk P T) (ho : o.op = .buildSlice t n ps) (hi : T t = some i)
    (hk : i.k = .slice e) (hie : T e = some ie) (hsz : 0 < ie.sz) (hl : evParts ev ps.toList = some l) (hes : litE 0 l = some es) (hn : n = es.length) (hs : allEl ie.agg ie.sz es = true) (hb : es.length * ie.sz ≤ 16777216) (hd : allD es = some ds) :
    OpOk P o ev H (.d (.sl true ie.agg ie.sz ds)) H :=
  .of_run fun G ρ w a _ hst he => by
    subst hn
    obtain ⟨vs, hr, hall⟩ := run_buildSlice he hT hi hk hie hsz hl hes hs hb
    obtain ⟨s1, s2, s3⟩ := hst.alloc_imm (.cells vs e)
    refine ⟨ρ, _, .slice (some ⟨w.heap.size, 0, none⟩) es.length es.length, by simp only [execOp, ho, Sem.run_bind, hr, Result.andThen_ok, Sem.run_pure], s1, s2, ?_⟩
    have hds := allD_get hd
    subst hds
    have hss := allSz_iff hs
    have hoo := allOne_iff hs
    have haa := allAg_iff hs
    have hlen : (ds.map AV.d).length = ds.length := by simp
    rw [hlen]
    have key : ∀ (i : Nat) (x : D) (j : Nat) (c : D), ds[i]? = some x → x.cells[j]? = some c → ∃ v, vs[i * ie.sz + j]? = some v ∧ v.oneCell' = true ∧ VR ρ (Fz G ρ H w) w (.d c) v := by
      intro i x j c h1 h2
      have hj : (AV.d x).cells[j]? = some (.d c) := by rw [D.cells_av]; simp [h2]
      have := get_flat (ds.map AV.d) hss i (.d x) j (.d c) (by simp [h1]) hj
      obtain ⟨v, hv, hvr⟩ := hall.get this
      exact ⟨v, by simpa using hv, hvr.one (List.all_eq_true.1 (hoo (.d x) (by simpa using List.mem_of_getElem? h1)) _ (List.mem_of_getElem? hj)), hvr⟩
    refine .d _ _ (.sl true ie.agg ie.sz ds w.heap.size 0 ds.length (fun k => vs.getD k undef) (Nat.le_refl _) ?_ (fun _ => rfl) (fun _ => s3) ?_ ?_ ?_)
    · have : ds.length ≤ ds.length * ie.sz := Nat.le_mul_of_pos_right _ hsz
      simp only [maxLen]
      rw [hlen] at hb
      omega
    · intro i x hx
      have h1 := hss (.d x) (by simpa using List.mem_of_getElem? hx)
      have h2 := haa (.d x) (by simpa using List.mem_of_getElem? hx)
      rw [D.cells_av] at h1
      exact ⟨by simpa using h1, by rw [← h2]; cases x <;> rfl⟩
    · intro i x j c h1 h2
      obtain ⟨v, hv, ho, _⟩ := key i x j c h1 h2
      have e1 : vs.getD (i * ie.sz + j) undef = v := by simp [hv]
      rw [Nat.zero_add, cell_of_row _ w.heap.size (i * ie.sz + j) vs e (0, 0) (heap_alloc_new w _)]
      exact ⟨by simp [hv], by rw [e1]; exact ho⟩
    · intro i x j c h1 h2
      obtain ⟨v, hv, _, hvr⟩ := key i x j c h1 h2
      have e1 : vs.getD (i * ie.sz + j) undef = v := by simp [hv]
      simp only [e1]
      cases hvr with
      | d _ _ hh => exact hh.keep (hst.kp s2)

end
end Go.Rc
