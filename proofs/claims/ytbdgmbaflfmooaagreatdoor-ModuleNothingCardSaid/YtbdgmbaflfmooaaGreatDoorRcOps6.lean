/- Function values, interfaces, lengths, indexes of strings, cuts, append. Conditions: none. -/
import Derived.Test.YtbdgmbaflfmooaaGreatDoorRcOps5
set_option linter.unusedVariables false
set_option linter.unusedSimpArgs false
namespace Go.Rc

def evL (ev : Ev) : List Operand → Option (List AV)
  | [] => some []
  | x :: r => match ev x with
    | some v => match evL ev r with
      | some l => some (v :: l)
      | none => none
    | none => none

section
variable {P : Program} {T : Tb} {o : Oper} {ev : Ev} {H : Heap}

theorem evL_rel {ρ : List Value} {S : Nat → Prop} {w : World} {a : Act} (he : EvR ρ S w ev a) (xs : List Operand) (l : List AV) (h : evL ev xs = some l) : AllR (VR ρ S w) l (xs.map a.eval) := by
  induction xs generalizing l with
  | nil => simp only [evL] at h; cases h; exact .nil
  | cons x r ih =>
    simp only [evL] at h
    split at h
    · rename_i v hv
      split at h
      · rename_i l' hl
        cases h
        exact .cons (he x v hv) (ih l' hl)
      · cases h
    · cases h

/-! ### function values, interfaces -/
theorem ok_makeFunc {f : FuncId} {fs cs : Array Operand} {us vs : List AV} (ho : o.op = .makeFunc (.func f) fs cs) (hf : evL ev fs.toList = some us) (hc : evL ev cs.toList = some vs) : OpOk P o ev H (.fn f us vs) H :=
  .pure fun ρ S w a he => by
    have h1 := evL_rel he _ _ hf
    have h2 := evL_rel he _ _ hc
    refine ⟨.func (.func f) (fs.map a.eval) (cs.map a.eval), by simp [execOp, ho, Instr.makeFunc], .fn f us vs _ _ (by simpa using h1.1) (by simpa using h2.1) (fun i c x p q => h1.2 i c x p ?_) (fun i c x p q => h2.2 i c x p ?_)⟩
    · simpa using q
    · simpa using q

def mkIfc (t : TypeId) : AV → AV
  | .d x => .d (.ifc t x)
  | v => .ifc t v

theorem ok_makeInterface {t : TypeId} {i : TI} {x : Operand} {v : AV} (hT : TbOk P T) (ho : o.op = .makeInterface t x) (hi : T t = some i) (hk : i.k ≠ .iface) (hno : ∀ info d, i.ok P t info d → ∀ ms, d ≠ .interface ms) (hv : ev x = some v) :
    OpOk P o ev H (mkIfc t v) H :=
  .pure fun ρ S w a he => by
    obtain ⟨info, d, hok⟩ := hT t i hi
    have hd := hno info d hok
    refine ⟨.iface t (a.eval x), ?_, ?_⟩
    · simp only [execOp, ho, Instr.makeInterface, Sem.run_bind, run_underlying hok.und, Result.andThen_ok]
      cases d <;> first | rfl | exact (hd _ rfl).elim
    · have h := he x v hv
      cases v <;> first
        | (cases h with | d _ _ hd => exact .d _ _ (.ifc t _ _ hd))
        | exact .ifc t _ _ h

/-! ### len -/
theorem ok_len_val {t ty : TypeId} {x : Operand} {n : Nat} (ho : o.op = .call { callee := .builtin .len, args := #[x], argTypes := #[t] })
    (hrun : ∀ (ρ : List Value) (w : World) (G : Ctx) (a : Act), G.P = P → Sat G ρ H w → EvR ρ (Fz G ρ H w) w ev a → (Builtin.len_ #[t] o.type #[a.eval x]).run P w = .ok (goInt n) w) : OpOk P o ev H (.d (.v (.int .i64 n))) H :=
  .of_run fun G ρ w a hG hs he => ⟨ρ, w, .int .i64 n, by
    simp only [execOp, ho, resolve, invoke, builtin, Sem.run_bind, Sem.run_pure, Result.andThen_ok, List.map_toArray, List.map_cons, List.map_nil, hrun ρ w G a hG hs he]
    rfl, hs, Step.refl ρ H w, .d _ _ (.v _ rfl)⟩

theorem ok_len_str {t : TypeId} {i : TI} {x : Operand} {s : ByteArray} (hT : TbOk P T) (ho : o.op = .call { callee := .builtin .len, args := #[x], argTypes := #[t] }) (hi : T t = some i) (hk : i.k = .str)
    (hx : ev x = some (.d (.v (.string s)))) : OpOk P o ev H (.d (.v (.int .i64 s.size))) H :=
  ok_len_val (ty := 0) ho fun ρ w G a hG hs he => by
    obtain ⟨info, d, hok⟩ := hT t i hi
    have hfit := hok.k
    rw [hk] at hfit
    have hd : d = .string := hfit
    subst hd
    rw [he.v hx]
    simp [Builtin.len_, run_underlying hok.und]

/-- How many elements a slice has. -/
def lenOf : AV → Option Nat
  | .d (.sl _ _ _ es) => some es.length
  | .sl _ _ es => some es.length
  | .d (.v (.slice _ n _)) => some n
  | _ => none

theorem run_len_slice {t e ty : TypeId} {i : TI} (hT : TbOk P T) (hi : T t = some i) (hk : i.k = .slice e) (a : Option Addr) (n c : Nat) (w : World) :
    (Builtin.len_ #[t] ty #[.slice a n c]).run P w = .ok (goInt n) w := by
  obtain ⟨info, d, hok⟩ := hT t i hi
  have hfit := hok.k
  rw [hk] at hfit
  have hd : d = .slice e := hfit
  subst hd
  simp [Builtin.len_, run_underlying hok.und]

theorem ok_len {t e : TypeId} {i : TI} {x : Operand} {v : AV} {n : Nat} (hT : TbOk P T) (ho : o.op = .call { callee := .builtin .len, args := #[x], argTypes := #[t] }) (hi : T t = some i) (hk : i.k = .slice e)
    (hx : ev x = some v) (hn : lenOf v = some n) : OpOk P o ev H (.d (.v (.int .i64 n))) H :=
  ok_len_val (ty := 0) ho fun ρ w G a hG hs he => by
    have h := he x v hx
    generalize a.eval x = y at h
    cases h with
    | d _ _ hd =>
      cases hd <;> simp only [lenOf, Option.some.injEq, reduceCtorEq] at hn
      · cases y <;> simp only [lenOf, Option.some.injEq, reduceCtorEq] at hn
        subst hn
        exact run_len_slice hT hi hk _ _ _ w
      · subst hn
        exact run_len_slice hT hi hk _ _ _ w
      · subst hn
        exact run_len_slice hT hi hk _ _ _ w
    | sl => simp only [lenOf, Option.some.injEq] at hn; subst hn; exact run_len_slice hT hi hk _ _ _ w
    | _ => simp [lenOf] at hn

theorem ok_len_row {t e : TypeId} {i : TI} {x : Operand} {id n sz : Nat} {te : TypeId} {ag : Bool} {es : List AV} (hT : TbOk P T) (ho : o.op = .call { callee := .builtin .len, args := #[x], argTypes := #[t] }) (hi : T t = some i) (hk : i.k = .slice e)
    (hx : ev x = some (.row id n)) (hH : H[id]? = some (.row te ag sz es)) (hn : n = es.length) : OpOk P o ev H (.d (.v (.int .i64 n))) H :=
  ok_len_val (ty := 0) ho fun ρ w G a hG hs he => by
    subst hn
    have h := he x _ hx
    generalize a.eval x = y at h
    cases h with
    | row _ _ ad len cap v hρ hle hv hone =>
      obtain ⟨xs, hown, _⟩ := hs.obj id _ _ hH hρ
      have : len = es.length := by
        rcases hown.2 with ⟨e1, e2⟩ | ⟨g, cap', cur, e1, _⟩
        · cases e1; exact e2.symm
        · cases e1; rfl
      subst this
      have hv' := hv rfl
      subst hv'
      exact run_len_slice hT hi hk _ _ _ w

theorem ok_len_map {t k e : TypeId} {i : TI} {x : Operand} {id : Nat} {es : List (ByteArray × AV)} (hT : TbOk P T) (ho : o.op = .call { callee := .builtin .len, args := #[x], argTypes := #[t] }) (hi : T t = some i) (hk : i.k = .map k e)
    (hx : ev x = some (.mp id)) (hH : H[id]? = some (.map es)) : OpOk P o ev H (.d (.v (.int .i64 es.length))) H :=
  ok_len_val (ty := 0) ho fun ρ w G a hG hs he => by
    obtain ⟨info, d, hok⟩ := hT t i hi
    have hfit := hok.k
    rw [hk] at hfit
    have hd : d = .map k e := hfit
    subst hd
    have h := he x _ hx
    generalize a.eval x = y at h
    cases h with
    | mp _ r hρ =>
      obtain ⟨r', ms, clock, e1, hh, hc⟩ := hs.obj id _ _ hH hρ
      cases e1
      have hg : (getObj r).run P w = .ok (.map ms clock) w := by simp [getObj, Sem.run, hh]
      simp [Builtin.len_, run_underlying hok.und, hg, hc.1]

/-! ### strings -/
theorem ok_index_str {t : TypeId} {i : TI} {x ix : Operand} {s : ByteArray} {k : IntKind} {n : Int} {b : UInt8} (hT : TbOk P T) (ho : o.op = .index t x ix) (hi : T t = some i) (hk : i.k = .str)
    (hx : ev x = some (.d (.v (.string s)))) (hix : ev ix = some (.d (.v (.int k n)))) (h0 : 0 ≤ n) (hb : s.data.toList[n.toNat]? = some b) : OpOk P o ev H (.d (.v (.int .u8 b.toNat))) H :=
  .pure fun ρ S w a he => by
    obtain ⟨info, d, hok⟩ := hT t i hi
    have hfit := hok.k
    rw [hk] at hfit
    have hd : d = .string := hfit
    subst hd
    have hget : s[n.toNat]? = some b := by
      have hlt := (List.getElem?_eq_some_iff.1 hb).1
      have hlt' : n.toNat < s.size := by
        have : s.data.toList.length = s.size := by rw [Array.length_toList]; rfl
        omega
      rw [getElem?_pos s n.toNat hlt']
      have h2 := (List.getElem?_eq_some_iff.1 hb).2
      rw [← h2]
      simp
      rfl
    refine ⟨.int .u8 b.toNat, ?_, .d _ _ (.v _ rfl)⟩
    simp only [execOp, ho, he.v hx, he.v hix, Instr.index, asIntOf, Sem.run_bind, Sem.run_pure, Result.andThen_ok, run_underlying hok.und]
    rw [if_pos h0, hget]
    rfl

/-- A bound of a cut: left out, or a number. -/
def evB (ev : Ev) (dflt : Int) : Option Operand → Option Int
  | none => some dflt
  | some x => match ev x with
    | some (.d (.v (.int _ n))) => some n
    | _ => none

theorem run_bound {k : IntKind} {n : Int} {y : Nat} {c : BoundsCode} {w : World} (h0 : 0 ≤ n) (h1 : n ≤ y) : (Instr.sliceBound (.int k n) y c).run P w = .ok n.toNat w := by
  simp [Instr.sliceBound, asIntOf, h0, h1]

theorem run_bounds {ev : Ev} {isSlice : Bool} {len cap : Nat} {ρ : List Value} {S : Nat → Prop} {a : Act} {w : World} (he : EvR ρ S w ev a) {lo hi : Option Operand} {l h : Int} (hl : evB ev 0 lo = some l) (hh : evB ev len hi = some h)
    (h0 : 0 ≤ l) (h1 : l ≤ h) (h2 : h ≤ cap) : (Instr.sliceBounds isSlice len cap (lo.map a.eval) (hi.map a.eval) none).run P w = .ok (l.toNat, h.toNat, cap) w := by
  have eh : (match hi.map a.eval with | some v => Instr.sliceBound v cap (if isSlice then .sliceAcap else .sliceAlen) | none => pure len : Sem Nat).run P w = .ok h.toNat w := by
    cases hi with
    | none => simp only [evB, Option.some.injEq] at hh; subst hh; simp
    | some x =>
      simp only [evB] at hh
      split at hh
      · rename_i k n hx
        cases hh
        rw [Option.map_some, he.v hx]
        exact run_bound (by omega) h2
      · cases hh
  have el : (match lo.map a.eval with | some v => Instr.sliceBound v h.toNat .sliceB | none => pure 0 : Sem Nat).run P w = .ok l.toNat w := by
    cases lo with
    | none => simp only [evB, Option.some.injEq] at hl; subst hl; simp
    | some x =>
      simp only [evB] at hl
      split at hl
      · rename_i k n hx
        cases hl
        rw [Option.map_some, he.v hx]
        exact run_bound (y := h.toNat) h0 (by omega)
      · cases hl
  unfold Instr.sliceBounds
  simp only [Sem.run_bind, Sem.run_pure, Result.andThen_ok]
  cases hhi : hi.map a.eval with
  | none =>
    rw [hhi] at eh
    simp only [Sem.run_pure, Result.ok.injEq, and_true] at eh
    cases hlo : lo.map a.eval with
    | none =>
      rw [hlo] at el
      simp only [Sem.run_pure, Result.ok.injEq, and_true] at el
      simp [eh, ← el]
    | some v =>
      rw [hlo] at el
      simp only at el
      simp [eh, el]
  | some u =>
    rw [hhi] at eh
    simp only at eh
    cases hlo : lo.map a.eval with
    | none =>
      rw [hlo] at el
      simp only [Sem.run_pure, Result.ok.injEq, and_true] at el
      simp [eh, ← el]
    | some v =>
      rw [hlo] at el
      simp only at el
      simp [eh, el]

theorem ok_slice_str {t : TypeId} {i : TI} {x : Operand} {lo hi : Option Operand} {s : ByteArray} {l h : Int} (hT : TbOk P T) (ho : o.op = .slice t x lo hi none) (hi' : T t = some i) (hk : i.k = .str)
    (hx : ev x = some (.d (.v (.string s)))) (hl : evB ev 0 lo = some l) (hh : evB ev s.size hi = some h) (h0 : 0 ≤ l) (h1 : l ≤ h) (h2 : h ≤ s.size) : OpOk P o ev H (.d (.v (.string (s.extract l.toNat h.toNat)))) H :=
  .pure fun ρ S w a he => by
    obtain ⟨info, d, hok⟩ := hT t i hi'
    have hfit := hok.k
    rw [hk] at hfit
    have hd : d = .string := hfit
    subst hd
    refine ⟨.string (s.extract l.toNat h.toNat), ?_, .d _ _ (.v _ rfl)⟩
    have hb := run_bounds (P := P) (isSlice := false) (len := s.size) (cap := s.size) he hl hh h0 h1 h2
    simp [execOp, ho, he.v hx, Instr.sliceAt, Instr.slice, run_underlying hok.und, hb]

/-- A cut of a slice that is read. -/
theorem ok_slice_sl {t e : TypeId} {i ie : TI} {x : Operand} {lo hi : Option Operand} {full : Bool} {es : List D} {l h : Int} (hT : TbOk P T) (ho : o.op = .slice t x lo hi none) (hi' : T t = some i) (hk : i.k = .slice e) (hie : T e = some ie)
    (hx : ev x = some (.d (.sl full ie.agg ie.sz es))) (hl : evB ev 0 lo = some l) (hh : evB ev es.length hi = some h) (h0 : 0 ≤ l) (h1 : l ≤ h) (h2 : h ≤ es.length) : OpOk P o ev H (.d (.sl (full && hi.isNone) ie.agg ie.sz ((es.take h.toNat).drop l.toNat))) H :=
  .pure fun ρ S w a he => by
    obtain ⟨info, d, hok⟩ := hT t i hi'
    obtain ⟨info', d', hok'⟩ := hT e ie hie
    have hfit := hok.k
    rw [hk] at hfit
    have hd : d = .slice e := hfit
    subst hd
    have hxv := he x _ hx
    generalize hxa : a.eval x = y at hxv
    have hhl : hi = none → h = es.length := by
      intro e
      subst e
      simpa [evB] using hh.symm
    cases hxv with
    | d _ _ hd =>
      cases hd with
      | nil =>
        have hb := run_bounds (P := P) (isSlice := true) (len := 0) (cap := 0) he hl hh h0 h1 (by simpa using h2)
        have e1 : l.toNat = 0 := by simp at h2; omega
        have e2 : h.toNat = 0 := by simp at h2; omega
        rw [e1, e2] at hb
        refine ⟨.slice none 0 0, ?_, by simpa using .d _ _ (.nil _ _ _)⟩
        simp [execOp, ho, hxa, Instr.sliceAt, Instr.slice, run_underlying hok.und, hb, run_sizeOf' hok']
      | sl _ _ _ _ b of cap cell hcap hmax hfull hS hsz hc hr =>
        have hb := run_bounds (P := P) (isSlice := true) (len := es.length) (cap := cap) he hl hh h0 h1 (by omega)
        have hlen : ((es.take h.toNat).drop l.toNat).length = h.toNat - l.toNat := by
          rw [List.length_drop, List.length_take]
          omega
        have hel : ∀ (k : Nat) (q : D), ((es.take h.toNat).drop l.toNat)[k]? = some q → es[l.toNat + k]? = some q := by
          intro k q hk
          rw [List.getElem?_drop, List.getElem?_take] at hk
          split at hk
          · exact hk
          · cases hk
        let of' := if cap = l.toNat then of else of + l.toNat * ie.sz
        refine ⟨.slice (some ⟨b, of', none⟩) ((es.take h.toNat).drop l.toNat).length (cap - l.toNat), ?_, ?_⟩
        · simp only [execOp, ho, hxa, Instr.sliceAt, Instr.slice, Sem.run_bind, run_underlying hok.und, Result.andThen_ok, hb, Option.map_none, run_sizeOf' hok', Sem.run_pure, hlen, of']
          split
          · rfl
          · simp [addr_add]
        · have hpos : ∀ (k : Nat) (q : D), ((es.take h.toNat).drop l.toNat)[k]? = some q → of' = of + l.toNat * ie.sz := by
            intro k q hk
            have := (List.getElem?_eq_some_iff.1 hk).1
            simp only [of']
            rw [if_neg (by omega)]
          have key : ∀ (k j : Nat), of + l.toNat * ie.sz + (k * ie.sz + j) = of + ((l.toNat + k) * ie.sz + j) := by
            intro k j
            rw [Nat.add_mul]
            omega
          have := DR.sl (S := S) (w := w) (full && hi.isNone) ie.agg ie.sz ((es.take h.toNat).drop l.toNat) b of' (cap - l.toNat) (fun k => cell (l.toNat * ie.sz + k)) (by omega) (by omega)
            (fun hf => by
              simp only [Bool.and_eq_true, Option.isNone_iff_eq_none] at hf
              have := hfull hf.1
              have := hhl hf.2
              omega)
            (fun hp => hS (by omega))
            (fun k q hk => hsz _ q (hel k q hk))
            (fun k q j c hk hj => by
              rw [hpos k q hk, key, show l.toNat * ie.sz + (k * ie.sz + j) = (l.toNat + k) * ie.sz + j by rw [Nat.add_mul]; omega]
              exact hc _ q j c (hel k q hk) hj)
            (fun k q j c hk hj => by
              rw [show l.toNat * ie.sz + (k * ie.sz + j) = (l.toNat + k) * ie.sz + j by rw [Nat.add_mul]; omega]
              exact hr _ q j c (hel k q hk) hj)
          exact .d _ _ this

end
end Go.Rc
