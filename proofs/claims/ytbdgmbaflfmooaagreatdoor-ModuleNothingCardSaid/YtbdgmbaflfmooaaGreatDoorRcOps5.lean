/- Tests, arithmetic, function values, lengths, indexes of strings, cuts. Conditions: none. -/
import Derived.Test.YtbdgmbaflfmooaaGreatDoorRcOps4
set_option linter.unusedVariables false
set_option linter.unusedSimpArgs false
namespace Go.Rc

section
variable {P : Program} {T : Tb} {o : Oper} {ev : Ev} {H : Heap}

theorem EvR.v {ρ : List Value} {S : Nat → Prop} {w : World} {a : Act} (he : EvR ρ S w ev a) {x : Operand} {y : Value} (h : ev x = some (.d (.v y))) : a.eval x = y := by
  have := he x _ h
  cases this with
  | d _ _ hd =>
    generalize a.eval x = z at hd
    cases hd
    rfl

/-! ### nilCheck, extract -/
def sound : AV → Bool
  | .ptr .. => true
  | .fn .. => true
  | .d (.cp ..) => true
  | .d (.v (.func (.func _) _ _)) => true
  | .d (.v (.func (.yield _) _ _)) => true
  | .d (.v (.pointer (some _))) => true
  | _ => false

theorem ok_nilCheck {x : Operand} {v : AV} (ho : o.op = .nilCheck x) (hv : ev x = some v) (hs : sound v = true) : OpOk P o ev H v H :=
  .pure fun ρ S w a he => by
    have h := he x v hv
    refine ⟨a.eval x, ?_, h⟩
    generalize hx : a.eval x = y at h
    simp only [execOp, ho, hx]
    cases h with
    | ptr => rfl
    | fn => rfl
    | d _ _ hd =>
      cases hd with
      | cp => rfl
      | v y hy =>
        cases y with
        | pointer p => cases p <;> first | rfl | simp [sound] at hs
        | func f a b => cases f <;> first | rfl | simp [sound] at hs
        | _ => simp [sound] at hs
      | _ => simp [sound] at hs
    | _ => simp [sound] at hs

theorem ok_extract {x : Operand} {k : Nat} {vs : List AV} {v : AV} (ho : o.op = .extract x k) (hv : ev x = some (.tup vs)) (hk : vs[k]? = some v) : OpOk P o ev H v H :=
  .pure fun ρ S w a he => by
    have h := he x _ hv
    generalize hx : a.eval x = y at h
    cases h with
    | tup _ us hl hh =>
      have hlt := (List.getElem?_eq_some_iff.1 hk).1
      have hu : us[k]? = some us[k] := by simp [hl, hlt]
      exact ⟨us[k], by simp [execOp, ho, hx, Instr.extract, hl, hlt], hh k v _ hk hu⟩

/-! ### tests and arithmetic on values of one cell -/
def sameK : IntKind → IntKind → Bool
  | .i64, .i64 => true
  | .u8, .u8 => true
  | .i32, .i32 => true
  | .u32, .u32 => true
  | .u64, .u64 => true
  | .i8, .i8 => true
  | .i16, .i16 => true
  | .u16, .u16 => true
  | _, _ => false

theorem sameK_eq {j k : IntKind} (h : sameK j k = true) : j = k := by cases j <;> cases k <;> simp_all [sameK]

def cmpInt : BinOp → Int → Int → Option Bool
  | .eql, a, b => some (a == b)
  | .neq, a, b => some (a != b)
  | .lss, a, b => some (decide (a < b))
  | .leq, a, b => some (decide (a ≤ b))
  | .gtr, a, b => some (decide (a > b))
  | .geq, a, b => some (decide (a ≥ b))
  | _, _, _ => none

def cmpStr : BinOp → ByteArray → ByteArray → Option Bool
  | .eql, a, b => some (decide (a = b))
  | .neq, a, b => some (!decide (a = b))
  | .lss, a, b => some (Op.bytesLess a.data.toList b.data.toList)
  | .leq, a, b => some (Op.bytesLess a.data.toList b.data.toList || decide (a = b))
  | .gtr, a, b => some (!(Op.bytesLess a.data.toList b.data.toList || decide (a = b)))
  | .geq, a, b => some (!(Op.bytesLess a.data.toList b.data.toList))
  | _, _, _ => none

theorem bytes_ext {a b : ByteArray} (h : a.data.toList = b.data.toList) : a = b := by
  cases a with
  | mk a => cases b with
    | mk b =>
      cases a
      cases b
      simp at h
      subst h
      rfl

theorem data_beq (a b : ByteArray) : (a.data.toList == b.data.toList) = decide (a = b) := by
  by_cases h : a = b
  · subst h; simp
  · rw [decide_eq_false h]
    exact beq_eq_false_iff_ne.2 (fun e => h (bytes_ext e))

theorem ok_cmpInt {op : BinOp} {t yt : TypeId} {x y : Operand} {j k : IntKind} {m n : Int} {b : Bool} (ho : o.op = .binOp op t x y yt) (hx : ev x = some (.d (.v (.int j m)))) (hy : ev y = some (.d (.v (.int k n))))
    (hk : sameK j k = true) (hb : cmpInt op m n = some b) : OpOk P o ev H (.d (.v (.bool b))) H :=
  .pure fun ρ S w a he => by
    obtain rfl := sameK_eq hk
    refine ⟨.bool b, ?_, .d _ _ (.v _ rfl)⟩
    simp only [execOp, ho, he.v hx, he.v hy]
    cases op <;> simp only [cmpInt, Option.some.injEq, reduceCtorEq] at hb <;> subst hb <;> simp only [binOp, Op.intCmp, eqGuard] <;> simp

theorem ok_cmpStr {op : BinOp} {t yt : TypeId} {x y : Operand} {m n : ByteArray} {b : Bool} (ho : o.op = .binOp op t x y yt) (hx : ev x = some (.d (.v (.string m)))) (hy : ev y = some (.d (.v (.string n))))
    (hb : cmpStr op m n = some b) : OpOk P o ev H (.d (.v (.bool b))) H :=
  .pure fun ρ S w a he => by
    refine ⟨.bool b, ?_, .d _ _ (.v _ rfl)⟩
    simp only [execOp, ho, he.v hx, he.v hy]
    cases op <;> simp only [cmpStr, Option.some.injEq, reduceCtorEq] at hb <;> subst hb <;> simp only [binOp, Op.stringOp, eqGuard, ByteArray.toList_eq, data_beq] <;> rfl

theorem ok_cmpBool {op : BinOp} {t yt : TypeId} {i : TI} {x y : Operand} {m n b : Bool} (hT : TbOk P T) (ho : o.op = .binOp op t x y yt) (hi : T t = some i) (hk : i.k = .bool)
    (hx : ev x = some (.d (.v (.bool m)))) (hy : ev y = some (.d (.v (.bool n)))) (hb : (op = .eql ∧ b = (m == n)) ∨ (op = .neq ∧ b = !(m == n))) : OpOk P o ev H (.d (.v (.bool b))) H :=
  .pure fun ρ S w a he => by
    obtain ⟨info, d, hok⟩ := hT t i hi
    have hfit := hok.k
    rw [hk] at hfit
    have hd : d = .bool := hfit
    subst hd
    refine ⟨.bool b, ?_, .d _ _ (.v _ rfl)⟩
    simp only [execOp, ho, he.v hx, he.v hy]
    have key : (Op.equal t (.bool m) (.bool n)).run P w = .ok (m == n) w := by
      show (Op.equalIn (9999 + 1) t (.bool m) (.bool n)).run P w = .ok (m == n) w
      generalize 9999 = q
      simp only [Op.equalIn, Sem.run_bind, run_underlying hok.und, Result.andThen_ok, Sem.run_pure]
    rcases hb with ⟨rfl, rfl⟩ | ⟨rfl, rfl⟩
    · simp only [binOp, eqGuard, Sem.run_bind, key, Result.andThen_ok, Sem.run_pure]
      simp [key]
    · simp only [binOp, eqGuard, Sem.run_bind, key, Result.andThen_ok, Sem.run_pure]
      simp [key]

def arInt : BinOp → IntKind → Int → Int → Option Int
  | .add, k, a, b => some (k.wrap (a + b))
  | .sub, k, a, b => some (k.wrap (a - b))
  | .mul, k, a, b => some (k.wrap (a * b))
  | _, _, _, _ => none

theorem ok_arInt {op : BinOp} {t yt : TypeId} {x y : Operand} {j k : IntKind} {m n r : Int} (ho : o.op = .binOp op t x y yt) (hx : ev x = some (.d (.v (.int j m)))) (hy : ev y = some (.d (.v (.int k n))))
    (hk : sameK j k = true) (hr : arInt op j m n = some r) : OpOk P o ev H (.d (.v (.int j r))) H :=
  .pure fun ρ S w a he => by
    obtain rfl := sameK_eq hk
    refine ⟨.int j r, ?_, .d _ _ (.v _ rfl)⟩
    simp only [execOp, ho, he.v hx, he.v hy]
    cases op <;> simp only [arInt, Option.some.injEq, reduceCtorEq] at hr <;> subst hr <;> simp only [binOp, Op.intArith, eqGuard] <;> simp

/-- Any operation of two values whose run is known. -/
theorem ok_binRun {op : BinOp} {t yt : TypeId} {x y : Operand} {m n r : Value} (ho : o.op = .binOp op t x y yt) (hx : ev x = some (.d (.v m))) (hy : ev y = some (.d (.v n)))
    (hg : ∀ w, (eqGuard op t x y m n).run P w = .ok () w) (hr : ∀ w, (binOp op t m n).run P w = .ok r w) (ha : r.isAgg = false) : OpOk P o ev H (.d (.v r)) H :=
  .pure fun ρ S w a he => ⟨r, by simp [execOp, ho, he.v hx, he.v hy, hg, hr], .d _ _ (.v _ ha)⟩

theorem ok_concat {t yt : TypeId} {x y : Operand} {m n : ByteArray} (ho : o.op = .binOp .add t x y yt) (hx : ev x = some (.d (.v (.string m)))) (hy : ev y = some (.d (.v (.string n))))
    (hl : m.size + n.size ≤ 9223372036854775807) : OpOk P o ev H (.d (.v (.string (m ++ n)))) H :=
  .pure fun ρ S w a he => by
    refine ⟨.string (m ++ n), ?_, .d _ _ (.v _ rfl)⟩
    simp only [execOp, ho, he.v hx, he.v hy, binOp, Op.stringOp, eqGuard]
    have h : ¬ ((m.size + n.size : Nat) : Int) > IntKind.i64.max := by
      have : IntKind.i64.max = 9223372036854775807 := rfl
      omega
    rw [if_neg h]
    rfl

theorem ok_not {t : TypeId} {x : Operand} {b : Bool} (ho : o.op = .unOp .not t x) (hx : ev x = some (.d (.v (.bool b)))) : OpOk P o ev H (.d (.v (.bool (!b)))) H :=
  .pure fun ρ S w a he => ⟨.bool (!b), by simp [execOp, ho, he.v hx, Op.unary], .d _ _ (.v _ rfl)⟩

theorem ok_neg {t : TypeId} {x : Operand} {k : IntKind} {n : Int} (ho : o.op = .unOp .neg t x) (hx : ev x = some (.d (.v (.int k n)))) : OpOk P o ev H (.d (.v (.int k (k.wrap (0 - n))))) H :=
  .pure fun ρ S w a he => ⟨.int k (k.wrap (0 - n)), by simp [execOp, ho, he.v hx, Op.unary, Op.intArith], .d _ _ (.v _ rfl)⟩

theorem ok_convInt {s t : TypeId} {is it : TI} {x : Operand} {j k : IntKind} {n : Int} (hT : TbOk P T) (ho : o.op = .convert s t x) (his : T s = some is) (hit : T t = some it) (hk : it.k = .int k)
    (hx : ev x = some (.d (.v (.int j n)))) : OpOk P o ev H (.d (.v (.int k (k.wrap n)))) H :=
  .pure fun ρ S w a he => by
    obtain ⟨info, d, hok⟩ := hT s is his
    obtain ⟨info', d', hok'⟩ := hT t it hit
    have hfit := hok'.k
    rw [hk] at hfit
    have hd : d' = .int k := hfit
    subst hd
    refine ⟨.int k (k.wrap n), ?_, .d _ _ (.v _ rfl)⟩
    simp [execOp, ho, he.v hx, convert, run_underlying hok.und, run_underlying hok'.und, Conv.intToInt]

theorem ok_convStr {s t : TypeId} {is it : TI} {x : Operand} {b : ByteArray} (hT : TbOk P T) (ho : o.op = .convert s t x) (his : T s = some is) (hit : T t = some it) (hk : it.k = .str)
    (hx : ev x = some (.d (.v (.string b)))) : OpOk P o ev H (.d (.v (.string b))) H :=
  .pure fun ρ S w a he => by
    obtain ⟨info, d, hok⟩ := hT s is his
    obtain ⟨info', d', hok'⟩ := hT t it hit
    have hfit := hok'.k
    rw [hk] at hfit
    have hd : d' = .string := hfit
    subst hd
    refine ⟨.string b, ?_, .d _ _ (.v _ rfl)⟩
    simp [execOp, ho, he.v hx, convert, run_underlying hok.und, run_underlying hok'.und]

/-! ### tests against nil -/
def isNil : AV → Option Bool
  | .ptr .. => some false
  | .mp _ => some false
  | .fn .. => some false
  | .ifc .. => some false
  | .sl .. => some false
  | .d (.cp ..) => some false
  | .d (.im _) => some false
  | .d (.ifc ..) => some false
  | .d (.sl _ _ _ (_ :: _)) => some false
  | .d (.v (.pointer none)) => some true
  | .d (.v (.pointer (some _))) => some false
  | .d (.v (.slice none 0 0)) => some true
  | .d (.v (.map none)) => some true
  | .d (.v .nilFunc) => some true
  | .d (.v (.func ..)) => some false
  | .d (.v .nilIface) => some true
  | .d (.v (.iface ..)) => some false
  | _ => none

def nilKind : TK → Value → Bool
  | .ptr _, .pointer none => true
  | .slice _, .slice none _ _ => true
  | .map .., .map none => true
  | .func, .nilFunc => true
  | _, _ => false

/-- A value's shape, as far as a test against nil asks. -/
def shapeOf : TK → Value → Option Bool
  | .ptr _, .pointer a => some a.isNone
  | .slice _, .slice a _ _ => some a.isNone
  | .map .., .map r => some r.isNone
  | .func, .nilFunc => some true
  | .func, .func .. => some false
  | _, _ => none

theorem run_eqNil {t : TypeId} {i : TI} (hT : TbOk P T) (hi : T t = some i) {x y : Value} {b : Bool} (hy : nilKind i.k y = true) (hx : shapeOf i.k x = some b) (w : World) : (Op.equal t x y).run P w = .ok b w := by
  show (Op.equalIn (9999 + 1) t x y).run P w = .ok b w
  generalize 9999 = q
  obtain ⟨info, d, hok⟩ := hT t i hi
  have hfit := hok.k
  cases hk : i.k <;> rw [hk] at hfit hy hx <;> simp only [nilKind, Bool.false_eq_true] at hy
  · rename_i e
    have hd : d = .slice e := hfit
    subst hd
    cases y with
    | slice a n c =>
      cases a with
      | some a => simp [nilKind] at hy
      | none =>
        cases x with
        | slice a2 n2 c2 =>
          simp only [shapeOf, Option.some.injEq] at hx
          subst hx
          cases a2 <;> simp [Op.equalIn, run_underlying hok.und]
        | _ => simp [shapeOf] at hx
    | _ => simp [nilKind] at hy
  · rename_i k e
    have hd : d = .map k e := hfit
    subst hd
    cases y with
    | map a =>
      cases a with
      | some a => simp [nilKind] at hy
      | none =>
        cases x with
        | map a2 =>
          simp only [shapeOf, Option.some.injEq] at hx
          subst hx
          cases a2 <;> simp [Op.equalIn, run_underlying hok.und]
        | _ => simp [shapeOf] at hx
    | _ => simp [nilKind] at hy
  · rename_i e
    have hd : d = .pointer e := hfit
    subst hd
    cases y with
    | pointer a =>
      cases a with
      | some a => simp [nilKind] at hy
      | none =>
        cases x with
        | pointer a2 =>
          simp only [shapeOf, Option.some.injEq] at hx
          subst hx
          cases a2 <;> simp [Op.equalIn, run_underlying hok.und]
        | _ => simp [shapeOf] at hx
    | _ => simp [nilKind] at hy
  · obtain ⟨p, q, r, hd⟩ := hfit
    subst hd
    cases y with
    | nilFunc =>
      cases x with
      | nilFunc =>
        simp only [shapeOf, Option.some.injEq] at hx
        subst hx
        simp [Op.equalIn, run_underlying hok.und]
      | func f g h =>
        simp only [shapeOf, Option.some.injEq] at hx
        subst hx
        simp [Op.equalIn, run_underlying hok.und]
      | _ => simp [shapeOf] at hx
    | _ => simp [nilKind] at hy

def kindOf : TK → AV → Option Bool
  | .ptr _, .ptr .. => some false
  | .ptr _, .d (.cp ..) => some false
  | .ptr _, .d (.v (.pointer a)) => some a.isNone
  | .slice _, .sl .. => some false
  | .slice _, .d (.sl _ _ _ (_ :: _)) => some false
  | .slice _, .d (.v (.slice a _ _)) => some a.isNone
  | .map .., .mp _ => some false
  | .map .., .d (.im _) => some false
  | .map .., .d (.v (.map r)) => some r.isNone
  | .func, .fn .. => some false
  | .func, .d (.v .nilFunc) => some true
  | .func, .d (.v (.func ..)) => some false
  | _, _ => none

theorem kindOf_shape {ρ : List Value} {S : Nat → Prop} {w : World} {k : TK} {v : AV} {x : Value} {b : Bool} (h : VR ρ S w v x) (hk : kindOf k v = some b) : shapeOf k x = some b := by
  cases k <;> cases h <;> try (simp [kindOf] at hk; done)
  all_goals try (simp [kindOf] at hk; subst hk; rfl)
  all_goals
    rename_i hd
    cases hd <;> try (simp [kindOf] at hk; done)
    all_goals try (simp [kindOf] at hk; subst hk; rfl)
    all_goals try (cases x <;> simp_all [kindOf, shapeOf]; done)
    all_goals try (rename_i es _ _ _ _ _ _ _ _ _ _ _ ; cases es <;> simp [kindOf] at hk <;> subst hk <;> simp [shapeOf]; done)

theorem ok_eqNil {t yt : TypeId} {i : TI} {x y : Operand} {op : BinOp} {v : AV} {n : Value} {b c : Bool} (hT : TbOk P T) (ho : o.op = .binOp op t x y yt) (hi : T t = some i) (hx : ev x = some v) (hy : ev y = some (.d (.v n)))
    (hn : nilKind i.k n = true) (hb : kindOf i.k v = some b) (hc : (op = .eql ∧ c = b) ∨ (op = .neq ∧ c = !b)) : OpOk P o ev H (.d (.v (.bool c))) H :=
  .pure fun ρ S w a he => by
    have hs := kindOf_shape (he x v hx) hb
    have key := run_eqNil hT hi hn hs w
    refine ⟨.bool c, ?_, .d _ _ (.v _ rfl)⟩
    simp only [execOp, ho, he.v hy]
    generalize a.eval x = z at hs key
    have hg : ∀ op : BinOp, (eqGuard op t x y z n).run P w = .ok () w := by
      intro op
      cases hk : i.k <;> rw [hk] at hn hs <;> cases n <;> simp [nilKind] at hn <;> cases z <;> simp [shapeOf] at hs <;> cases op <;> rfl
    have hbn : ∀ (op : BinOp) (c : Bool), (op = .eql ∧ c = b) ∨ (op = .neq ∧ c = !b) → (binOp op t z n).run P w = .ok (.bool c) w := by
      intro op c hc
      rcases hc with ⟨rfl, rfl⟩ | ⟨rfl, rfl⟩ <;> cases hk : i.k <;> rw [hk] at hn hs <;> cases n <;> simp [nilKind] at hn <;> cases z <;> simp [shapeOf] at hs <;> simp [binOp, key]
    simp only [Sem.run_bind, hg, Result.andThen_ok, hbn op c hc, Sem.run_pure]

end
end Go.Rc
