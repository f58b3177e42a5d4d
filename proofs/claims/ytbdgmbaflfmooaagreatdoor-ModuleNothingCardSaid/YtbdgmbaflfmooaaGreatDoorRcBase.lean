/- Abstract values for walks: pure data (D), values that may point into the heap of a call (AV), what they mean in a world. Conditions: none; plain definitions and lemmas. -/
import Derived.WalkKit
import Derived.Maps.AppendAt
set_option linter.unusedVariables false
set_option linter.unusedSimpArgs false
namespace Go.Rc

/-! ### typed data -/
structure Tok where
  kind : Int
  frm : Int
  to : Int
  text : ByteArray

inductive Nd where
  | mk (kind frm to : Int) (text : ByteArray) (kids : List Nd)

def Nd.kind : Nd → Int | .mk k _ _ _ _ => k
def Nd.frm : Nd → Int | .mk _ f _ _ _ => f
def Nd.to : Nd → Int | .mk _ _ t _ _ => t
def Nd.text : Nd → ByteArray | .mk _ _ _ s _ => s
def Nd.kids : Nd → List Nd | .mk _ _ _ _ l => l

inductive Ty where
  | mk (kind : Int) (name : ByteArray) (n : Int) (flag : Bool) (names : List ByteArray) (marks : List Bool) (kids : List Ty)

def Ty.kind : Ty → Int | .mk k _ _ _ _ _ _ => k
def Ty.name : Ty → ByteArray | .mk _ s _ _ _ _ _ => s
def Ty.n : Ty → Int | .mk _ _ n _ _ _ _ => n
def Ty.flag : Ty → Bool | .mk _ _ _ f _ _ _ => f
def Ty.names : Ty → List ByteArray | .mk _ _ _ _ l _ _ => l
def Ty.marks : Ty → List Bool | .mk _ _ _ _ _ l _ => l
def Ty.kids : Ty → List Ty | .mk _ _ _ _ _ _ l => l

/-- A method: its name, whether its receiver is a pointer, its type. A declared type. -/
structure Mth where
  name : ByteArray
  ptr : Bool
  sig : Ty

structure Nmd where
  name : ByteArray
  under : Ty
  methods : List Mth

structure Fil where
  path : ByteArray
  text : ByteArray

/-- Data that a walk knows by what it says. -/
inductive Vw where
  | tok (t : Tok)
  | toks (l : List Tok)
  | nd (n : Nd)
  | nds (l : List Nd)
  | strs (l : List ByteArray)
  | ints (l : List Int)
  | bools (l : List Bool)
  | ty (t : Ty)
  | tys (l : List Ty)
  | mth (m : Mth)
  | mths (l : List Mth)
  | nmd (n : Nmd)
  | nmds (l : List Nmd)
  | fil (f : Fil)
  | fils (l : List Fil)

/-- Pure data: what is read from memory that nobody writes any more. -/
inductive D where
  | vw (x : Vw)
  | v (x : Value)
  | agg (cs : List D)
  | sl (full ag : Bool) (sz : Nat) (es : List D)
  | cp (c : D) (ag : Bool) (m off : Nat)
  | im (es : List (ByteArray × D))
  | ifc (t : TypeId) (x : D)

instance : Inhabited D := ⟨.v undef⟩

/-- What typed data is, one step down. -/
def exp : Vw → D
  | .tok t => .agg [.v (.int .i64 t.kind), .v (.int .i64 t.frm), .v (.int .i64 t.to), .v (.string t.text)]
  | .toks l => .sl false true 4 (l.map fun t => .vw (.tok t))
  | .nd n => .agg [.v (.int .i64 n.kind), .v (.int .i64 n.frm), .v (.int .i64 n.to), .v (.string n.text), .vw (.nds n.kids)]
  | .nds l => .sl false true 5 (l.map fun n => .vw (.nd n))
  | .strs l => .sl false false 1 (l.map fun s => .v (.string s))
  | .ints l => .sl false false 1 (l.map fun n => .v (.int .i64 n))
  | .bools l => .sl false false 1 (l.map fun b => .v (.bool b))
  | .ty t => .agg [.v (.int .i64 t.kind), .v (.string t.name), .v (.int .i64 t.n), .v (.bool t.flag), .vw (.strs t.names), .vw (.bools t.marks), .vw (.tys t.kids)]
  | .tys l => .sl false true 7 (l.map fun t => .vw (.ty t))
  | .mth m => .agg [.v (.string m.name), .v (.bool m.ptr), .v (.int .i64 m.sig.kind), .v (.string m.sig.name), .v (.int .i64 m.sig.n), .v (.bool m.sig.flag), .vw (.strs m.sig.names), .vw (.bools m.sig.marks), .vw (.tys m.sig.kids)]
  | .mths l => .sl false true 9 (l.map fun m => .vw (.mth m))
  | .nmd n => .agg [.v (.string n.name), .v (.int .i64 n.under.kind), .v (.string n.under.name), .v (.int .i64 n.under.n), .v (.bool n.under.flag), .vw (.strs n.under.names), .vw (.bools n.under.marks), .vw (.tys n.under.kids), .vw (.mths n.methods)]
  | .nmds l => .sl false true 9 (l.map fun n => .vw (.nmd n))
  | .fil f => .agg [.v (.string f.path), .v (.string f.text)]
  | .fils l => .sl false true 2 (l.map fun f => .vw (.fil f))

def Vw.agg : Vw → Bool
  | .tok _ | .nd _ | .ty _ | .mth _ | .nmd _ | .fil _ => true
  | _ => false

/-! ### tries -/
inductive Tr (α : Type) where
  | nil
  | node (l : Tr α) (v : Option α) (r : Tr α)

noncomputable def Tr.get {α : Type} (t : Tr α) : Nat → Option α :=
  Tr.rec (motive := fun _ => Nat → Option α) (fun _ => none)
    (fun _ v _ gl gr n => Nat.casesOn (motive := fun _ => Option α) n v (fun m => Nat.casesOn (motive := fun _ => Option α) (m % 2) (gl (m / 2)) (fun _ => gr (m / 2)))) t

noncomputable def Tr.set {α : Type} (d : Nat) : Tr α → Nat → α → Tr α :=
  Nat.rec (motive := fun _ => Tr α → Nat → α → Tr α) (fun _ _ _ => .nil)
    (fun _ ih t n x => Tr.casesOn (motive := fun _ => Tr α) t
      (Nat.casesOn (motive := fun _ => Tr α) n (.node .nil (some x) .nil) (fun m => Nat.casesOn (motive := fun _ => Tr α) (m % 2) (.node (ih .nil (m / 2) x) none .nil) (fun _ => .node .nil none (ih .nil (m / 2) x))))
      (fun l v r => Nat.casesOn (motive := fun _ => Tr α) n (.node l (some x) r) (fun m => Nat.casesOn (motive := fun _ => Tr α) (m % 2) (.node (ih l (m / 2) x) v r) (fun _ => .node l v (ih r (m / 2) x))))) d

/-- Values of a walk: ids name objects of the walk's own heap. -/
inductive AV where
  | d (x : D)
  | ptr (id off : Nat)
  | row (id n : Nat)
  | mp (id : Nat)
  | agg (cs : List AV)
  | fn (f : FuncId) (first caps : List AV)
  | rp (id n sz i off : Nat)
  | win (id n sz lo hi : Nat)
  | sl (ag : Bool) (sz : Nat) (es : List AV)
  | ifc (t : TypeId) (x : AV)
  | tup (vs : List AV)
  | yl (id : Nat)

instance : Inhabited AV := ⟨.d default⟩

inductive AObj where
  | var (t : TypeId) (ag : Bool) (m : Nat) (v : AV)
  | row (t : TypeId) (ag : Bool) (sz : Nat) (es : List AV)
  | map (es : List (ByteArray × AV))
  | it (s : ByteArray) (pos : Nat)
  | mit (m since : Nat) (seen : List Nat) (last : Nat)
  | fz (x : D)
  | dead
  | slot
  | lp (st : LoopState) (pend : Option Code) (N : Nat) (ps : List Tmp) (assign body : Code) (env : Tr AV)
  | dfr

instance : Inhabited AObj := ⟨.dead⟩

abbrev Env := List (Nat × AV)
abbrev Heap := List AObj

/-- The cells of what is no more than typed data. -/
def D.cells0 : D → List D
  | .agg cs => cs
  | x => [x]

def D.cells : D → List D
  | .agg cs => cs
  | .vw x => match x.agg with
    | true => (exp x).cells0
    | false => [.vw x]
  | x => [x]

def AV.cells : AV → List AV
  | .agg cs => cs
  | .d (.agg cs) => cs.map .d
  | .d (.vw x) => match x.agg with
    | true => (exp x).cells0.map .d
    | false => [.d (.vw x)]
  | x => [x]

def D.isAgg : D → Bool
  | .agg _ => true
  | .vw x => x.agg
  | _ => false

def AV.isAgg : AV → Bool
  | .agg _ => true
  | .d (.agg _) => true
  | .d (.vw x) => x.agg
  | _ => false

theorem AV.cells_d (x : D) : (AV.d x).cells = x.cells.map .d := by
  cases x <;> try rfl
  rename_i x
  simp only [AV.cells, D.cells]
  cases x.agg <;> rfl

theorem AV.isAgg_d (x : D) : (AV.d x).isAgg = x.isAgg := by cases x <;> rfl

theorem exp_agg (x : Vw) (h : x.agg = true) : ∃ cs, exp x = .agg cs := by
  cases x <;> first | exact ⟨_, rfl⟩ | cases h

theorem exp_sl (x : Vw) (h : x.agg = false) : ∃ ag sz es, exp x = .sl false ag sz es := by
  cases x <;> first | exact ⟨_, _, _, rfl⟩ | cases h

def AObj.owns : AObj → Bool
  | .var .. | .row .. | .map .. | .it .. | .mit .. | .lp .. | .dfr => true
  | _ => false

/-- The block that a handle names. -/
def blk : Value → Option Nat
  | .pointer (some a) => some a.block
  | .slice (some a) _ _ => some a.block
  | .map (some r) => some r
  | .func (.yield l) _ _ => some l
  | _ => none

def _root_.Go.Value.isAgg : Value → Bool
  | .agg _ => true
  | _ => false

/-- What a piece of data is in a world, read in blocks of which S holds. -/
inductive DR (S : Nat → Prop) (w : World) : D → Value → Prop
  | v (x : Value) (h : x.isAgg = false) : DR S w (.v x) x
  | agg (cs : List D) (vs : Array Value) (hl : vs.size = cs.length)
      (h : ∀ (i : Nat) (c : D) (x : Value), cs[i]? = some c → vs[i]? = some x → DR S w c x) : DR S w (.agg cs) (.agg vs)
  | nil (full ag : Bool) (sz : Nat) : DR S w (.sl full ag sz []) (.slice none 0 0)
  | sl (full ag : Bool) (sz : Nat) (es : List D) (b o cap : Nat) (cell : Nat → Value)
      (hcap : es.length ≤ cap) (hmax : cap ≤ maxLen) (hfull : full = true → cap = es.length) (hS : 0 < es.length → S b)
      (hsz : ∀ (i : Nat) (e : D), es[i]? = some e → e.cells.length = sz ∧ e.isAgg = ag)
      (hc : ∀ (i : Nat) (e : D) (j : Nat) (c : D), es[i]? = some e → e.cells[j]? = some c → w.cell? ⟨b, o + (i * sz + j), none⟩ = some (cell (i * sz + j)) ∧ (cell (i * sz + j)).oneCell' = true)
      (hr : ∀ (i : Nat) (e : D) (j : Nat) (c : D), es[i]? = some e → e.cells[j]? = some c → DR S w c (cell (i * sz + j))) :
      DR S w (.sl full ag sz es) (.slice (some ⟨b, o, none⟩) es.length cap)
  | cp (c : D) (ag : Bool) (m off b o : Nat) (cell : Nat → Value) (hS : S b) (hm : c.cells.length = m) (ha : c.isAgg = ag)
      (hc : ∀ (j : Nat) (x : D), c.cells[j]? = some x → w.cell? ⟨b, o + j, none⟩ = some (cell j) ∧ (cell j).oneCell' = true)
      (hr : ∀ (j : Nat) (x : D), c.cells[j]? = some x → DR S w x (cell j)) :
      DR S w (.cp c ag m off) (.pointer (some ⟨b, o + off, none⟩))
  | im (es : List (ByteArray × D)) (r : Nat) (ms : Array MapEntry) (clock : Nat) (hS : S r) (hw : w.heap[r]? = some (.map ms clock))
      (hl : ms.size = es.length)
      (hk : ∀ (i : Nat) (k : ByteArray) (x : D) (m : MapEntry), es[i]? = some (k, x) → ms[i]? = some m → m.key = .string k)
      (hb : ∀ (i : Nat) (m : MapEntry), ms[i]? = some m → m.born < clock)
      (hn : ∀ (i j : Nat) (m n : MapEntry), ms[i]? = some m → ms[j]? = some n → i ≠ j → m.born ≠ n.born)
      (hr : ∀ (i : Nat) (k : ByteArray) (x : D) (m : MapEntry), es[i]? = some (k, x) → ms[i]? = some m → DR S w x m.val) :
      DR S w (.im es) (.map (some r))
  | ifc (t : TypeId) (x : D) (v : Value) (h : DR S w x v) : DR S w (.ifc t x) (.iface t v)
  | vw (x : Vw) (v : Value) (h : DR S w (exp x) v) : DR S w (.vw x) v

/-- What a value of a walk is: ρ holds the handles of the walk's objects. -/
inductive VR (ρ : List Value) (S : Nat → Prop) (w : World) : AV → Value → Prop
  | d (x : D) (v : Value) (h : DR S w x v) : VR ρ S w (.d x) v
  | ptr (id off b : Nat) (h : ρ[id]? = some (.pointer (some ⟨b, 0, none⟩))) : VR ρ S w (.ptr id off) (.pointer (some ⟨b, off, none⟩))
  | row (id n : Nat) (a : Option Addr) (len cap : Nat) (v : Value) (h : ρ[id]? = some (.slice a len cap)) (hn : n ≤ len)
      (hv : n = len → v = .slice a len cap) (hx : v.oneCell' = true) : VR ρ S w (.row id n) v
  | mp (id : Nat) (r : Nat) (h : ρ[id]? = some (.map (some r))) : VR ρ S w (.mp id) (.map (some r))
  | agg (cs : List AV) (vs : Array Value) (hl : vs.size = cs.length)
      (h : ∀ (i : Nat) (c : AV) (x : Value), cs[i]? = some c → vs[i]? = some x → VR ρ S w c x) : VR ρ S w (.agg cs) (.agg vs)
  | fn (f : FuncId) (first caps : List AV) (us vs : Array Value) (hl : us.size = first.length) (hl' : vs.size = caps.length)
      (h : ∀ (i : Nat) (c : AV) (x : Value), first[i]? = some c → us[i]? = some x → VR ρ S w c x)
      (h' : ∀ (i : Nat) (c : AV) (x : Value), caps[i]? = some c → vs[i]? = some x → VR ρ S w c x) : VR ρ S w (.fn f first caps) (.func (.func f) us vs)
  | rp (id n sz i off : Nat) (a : Option Addr) (len cap : Nat) (v : Value) (h : ρ[id]? = some (.slice a len cap)) (hn : n ≤ len)
      (hv : n = len → ∃ b, a = some ⟨b, 0, none⟩ ∧ v = .pointer (some ⟨b, i * sz + off, none⟩)) (hx : v.oneCell' = true) : VR ρ S w (.rp id n sz i off) v
  | win (id n sz lo hi : Nat) (a : Option Addr) (len cap : Nat) (v : Value) (h : ρ[id]? = some (.slice a len cap)) (hn : n ≤ len) (hlo : lo ≤ hi) (hhi : hi ≤ n)
      (hv : n = len → ∃ a', v = .slice a' (hi - lo) (cap - lo) ∧ (lo < hi → ∃ b, a = some ⟨b, 0, none⟩ ∧ a' = some ⟨b, lo * sz, none⟩)) (hx : v.oneCell' = true) : VR ρ S w (.win id n sz lo hi) v
  | sl (ag : Bool) (sz : Nat) (es : List AV) (b : Nat) (cell : Nat → Value) (hmax : es.length ≤ maxLen) (hS : S b)
      (hsz : ∀ (i : Nat) (e : AV), es[i]? = some e → e.cells.length = sz ∧ e.isAgg = ag)
      (hc : ∀ (i : Nat) (e : AV) (j : Nat) (c : AV), es[i]? = some e → e.cells[j]? = some c → w.cell? ⟨b, i * sz + j, none⟩ = some (cell (i * sz + j)) ∧ (cell (i * sz + j)).oneCell' = true)
      (hr : ∀ (i : Nat) (e : AV) (j : Nat) (c : AV), es[i]? = some e → e.cells[j]? = some c → VR ρ S w c (cell (i * sz + j))) :
      VR ρ S w (.sl ag sz es) (.slice (some ⟨b, 0, none⟩) es.length es.length)
  | ifc (t : TypeId) (x : AV) (v : Value) (h : VR ρ S w x v) : VR ρ S w (.ifc t x) (.iface t v)
  | tup (xs : List AV) (vs : Array Value) (hl : vs.size = xs.length)
      (h : ∀ (i : Nat) (c : AV) (x : Value), xs[i]? = some c → vs[i]? = some x → VR ρ S w c x) : VR ρ S w (.tup xs) (.tuple vs)
  | yl (id l : Nat) (h : ρ[id]? = some (.func (.yield l) #[] #[])) : VR ρ S w (.yl id) (.func (.yield l) #[] #[])

/-- The blocks of S are there in w' as they were. -/
def Kp (S S' : Nat → Prop) (w w' : World) : Prop := ∀ b, S b → S' b ∧ w'.heap[b]? = w.heap[b]?

theorem Kp.refl (S : Nat → Prop) (w : World) : Kp S S w w := fun b h => ⟨h, rfl⟩
theorem Kp.trans {S S' S'' : Nat → Prop} {w w' w'' : World} (h : Kp S S' w w') (k : Kp S' S'' w' w'') : Kp S S'' w w'' :=
  fun b hb => ⟨(k b (h b hb).1).1, (k b (h b hb).1).2.trans (h b hb).2⟩

theorem cell_keep {w w' : World} {b o : Nat} (h : w'.heap[b]? = w.heap[b]?) : w'.cell? ⟨b, o, none⟩ = w.cell? ⟨b, o, none⟩ :=
  World.cell?_of_block (a := ⟨b, o, none⟩) h

/-- A slice's cells exist only where its elements have cells; where they have none nothing is read. -/
theorem DR.keep {S S' : Nat → Prop} {w w' : World} (hk : Kp S S' w w') {x : D} {v : Value} (h : DR S w x v) : DR S' w' x v := by
  induction h with
  | v x h => exact .v x h
  | agg cs vs hl h ih => exact .agg cs vs hl ih
  | nil full ag sz => exact .nil full ag sz
  | sl full ag sz es b o cap cell hcap hmax hfull hS hsz hc hr ih =>
    refine .sl full ag sz es b o cap cell hcap hmax hfull (fun hp => (hk b (hS hp)).1) hsz (fun i e j c he hj => ?_) ih
    have hp : 0 < es.length := by
      have := (List.getElem?_eq_some_iff.1 he).1
      omega
    rw [cell_keep (hk b (hS hp)).2]
    exact hc i e j c he hj
  | cp c ag m off b o cell hS hm ha hc hr ih =>
    refine .cp c ag m off b o cell (hk b hS).1 hm ha (fun j c hj => ?_) ih
    rw [cell_keep (hk b hS).2]
    exact hc j c hj
  | im es r ms clock hS hw hl hk' hb hn hr ih =>
    exact .im es r ms clock (hk r hS).1 ((hk r hS).2.trans hw) hl hk' hb hn ih
  | ifc t x v h ih => exact .ifc t x v ih
  | vw x v h ih => exact .vw x v ih

/-- The handles: pointers and maps stay; rows may only have grown. -/
def Rp (ρ ρ' : List Value) : Prop := ∀ (id : Nat) (h : Value), ρ[id]? = some h → ∃ h', ρ'[id]? = some h' ∧
  (h' = h ∨ (∃ (a : Option Addr) (n c : Nat) (a' : Option Addr) (n' c' : Nat), h = .slice a n c ∧ h' = .slice a' n' c' ∧ n < n') ∨ h = .tuple #[])

theorem Rp.refl (ρ : List Value) : Rp ρ ρ := fun id h hh => ⟨h, hh, .inl rfl⟩
theorem Rp.trans {ρ ρ' ρ'' : List Value} (h : Rp ρ ρ') (k : Rp ρ' ρ'') : Rp ρ ρ'' := by
  intro id x hx
  obtain ⟨y, hy, e⟩ := h id x hx
  obtain ⟨z, hz, e'⟩ := k id y hy
  refine ⟨z, hz, ?_⟩
  rcases e with rfl | ⟨a, n, c, a', n', c', rfl, rfl, hlt⟩ | rfl
  · exact e'
  · rcases e' with rfl | ⟨a2, n2, c2, a3, n3, c3, h2, rfl, hlt2⟩ | h2
    · exact .inr (.inl ⟨_, _, _, _, _, _, rfl, rfl, hlt⟩)
    · cases h2
      exact .inr (.inl ⟨_, _, _, _, _, _, rfl, rfl, by omega⟩)
    · cases h2
  · exact .inr (.inr rfl)

theorem Rp.append (ρ l : List Value) : Rp ρ (ρ ++ l) := fun id h hh =>
  ⟨h, by rw [List.getElem?_append_left (List.getElem?_eq_some_iff.1 hh).1]; exact hh, .inl rfl⟩

theorem VR.keep {ρ ρ' : List Value} {S S' : Nat → Prop} {w w' : World} (hρ : Rp ρ ρ') (hk : Kp S S' w w') {x : AV} {v : Value} (h : VR ρ S w x v) : VR ρ' S' w' x v := by
  induction h with
  | d x v h => exact .d x v (h.keep hk)
  | ptr id off b h =>
    obtain ⟨h', hh, e⟩ := hρ id _ h
    rcases e with rfl | ⟨a, n, c, a', n', c', e, _⟩ | e
    · exact .ptr id off b hh
    · cases e
    · cases e
  | row id n a len cap v h hn hv hx =>
    obtain ⟨h', hh, e⟩ := hρ id _ h
    rcases e with rfl | ⟨a0, n0, c0, a', n', c', e, rfl, hlt⟩ | e
    · exact .row id n a len cap v hh hn hv hx
    · cases e
      exact .row id n a' n' c' v hh (by omega) (fun e => by omega) hx
    · cases e
  | mp id r h =>
    obtain ⟨h', hh, e⟩ := hρ id _ h
    rcases e with rfl | ⟨a, n, c, a', n', c', e, _⟩ | e
    · exact .mp id r hh
    · cases e
    · cases e
  | agg cs vs hl h ih => exact .agg cs vs hl ih
  | fn f first caps us vs hl hl' h h' ih ih' => exact .fn f first caps us vs hl hl' ih ih'
  | rp id n sz i off a len cap v h hn hv hx =>
    obtain ⟨h', hh, e⟩ := hρ id _ h
    rcases e with rfl | ⟨a0, n0, c0, a', n', c', e, rfl, hlt⟩ | e
    · exact .rp id n sz i off a len cap v hh hn hv hx
    · cases e
      exact .rp id n sz i off a' n' c' v hh (by omega) (fun e => by omega) hx
    · cases e
  | win id n sz lo hi a len cap v h hn hlo hhi hv hx =>
    obtain ⟨h', hh, e⟩ := hρ id _ h
    rcases e with rfl | ⟨a0, n0, c0, a', n', c', e, rfl, hlt⟩ | e
    · exact .win id n sz lo hi a len cap v hh hn hlo hhi hv hx
    · cases e
      exact .win id n sz lo hi a' n' c' v hh (by omega) hlo hhi (fun e => by omega) hx
    · cases e
  | sl ag sz es b cell hmax hS hsz hc hr ih =>
    refine .sl ag sz es b cell hmax (hk b hS).1 hsz (fun i e j c he hj => ?_) ih
    rw [cell_keep (hk b hS).2]
    exact hc i e j c he hj
  | ifc t x v h ih => exact .ifc t x v ih
  | tup xs vs hl h ih => exact .tup xs vs hl ih
  | yl id l h =>
    obtain ⟨h', hh, e⟩ := hρ id _ h
    rcases e with rfl | ⟨a, n, c, a', n', c', e, _⟩ | e
    · exact .yl id l hh
    · cases e
    · cases e

end Go.Rc
