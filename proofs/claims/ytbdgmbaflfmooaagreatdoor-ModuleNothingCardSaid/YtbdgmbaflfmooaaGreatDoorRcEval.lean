/- A run of code, computed on abstract values: calls are run through. Conditions: none. -/
import Derived.Test.YtbdgmbaflfmooaaGreatDoorRcMore4
import Derived.Defers
import Derived.LoopN
import Derived.TacticsIn
import Derived.LoopNIn
import Derived.Scope
import Derived.RangeFuncRecord
set_option linter.unusedVariables false
set_option linter.unusedSimpArgs false
namespace Go.Rc

/-- How a run ends. -/
inductive Fin where
  | norm
  | exit (id : Nat)
  | ret
  | pan (v : AV)

/-- A call that waits for its function's end; the mark that a range over a function leaves. -/
inductive Df where
  | call (f : FuncId) (args : List AV) (caps : List AV)
  | mark (id : Nat)

/-- What is to be so behind an end; behind a call that returns, or panics. -/
abbrev KE := Fin → Tr AV → HS → List Df → Prop
abbrev KV := AV → HS → Prop
abbrev CF := FuncId → List AV → HS → KV → KV → Prop
abbrev RF := Nat → List AV → HS → KV → Prop

/-- A branch that nothing is asked of yet. -/
noncomputable def boolP (b : Bool) (t e : Prop) : Prop := Bool.rec (motive := fun _ => Prop) e t b

theorem boolP_true {t e : Prop} : boolP true t e = t := rfl
theorem boolP_false {t e : Prop} : boolP false t e = e := rfl

noncomputable def evO (env : Tr AV) : Ev
  | .tmp t => env.get t
  | .const v => match v.isAgg with
    | true => none
    | false => some (.d (.v v))
  | .global g => none
  | .func f => some (.fn f [] [])

noncomputable def setO (N : Nat) (env : Tr AV) (dst : Option Tmp) (v : AV) : Tr AV :=
  match dst with
  | some d => match Nat.ble (Nat.succ d) N with
    | true => env.set 64 d v
    | false => env
  | none => env

/-- Is an operation wanted? What was asked is known from then on. -/
noncomputable def guardK (all : List Oper) (N : Nat) (g : Option (Nat × Bool)) (env : Tr AV) (go skip : Tr AV → Prop) : Prop :=
  match g with
  | none => go env
  | some (j, want) => match nth all j with
    | some o => match o.dst with
      | some d => match env.get d with
        | some (.d (.v (.bool b))) => match want with
          | true => boolP b (go (setO N env (some d) (.d (.v (.bool true))))) (skip (setO N env (some d) (.d (.v (.bool false)))))
          | false => boolP b (skip (setO N env (some d) (.d (.v (.bool true))))) (go (setO N env (some d) (.d (.v (.bool false)))))
        | some (.d (.v (.tuple _))) => skip env
        | _ => False
      | none => False
    | none => False

/-- One operation: what it does is handed on; where a value decides that is not known, both ways are. -/
noncomputable def stepK (T : Tb) (op : Op) (ev : Ev) (hs : HS) (k : R → Prop) : Prop := k (stepO T op ev hs)

theorem stepK_ok {T : Tb} {op : Op} {ev : Ev} {hs : HS} {k : R → Prop} (h : stepK T op ev hs k) : k (stepO T op ev hs) := h

/-- inR: are we in a round of a range over a function? rr: a round. -/
noncomputable def opsK (T : Tb) (cf : CF) (rr : RF) (inR : Bool) (N : Nat) (all : List Oper) (l : List Oper) : Tr AV → HS → List Df → KE → Prop :=
  List.rec (motive := fun _ => Tr AV → HS → List Df → KE → Prop) (fun env hs ds κ => κ .norm env hs ds)
    (fun o _ ih env hs ds κ =>
      guardK all N o.guard env (fun env => stepK T o.op (evO env) hs fun r => match r with
        | .ok v hs' => ih (setO N env o.dst v) hs' ds κ
        | .pan v hs' => κ (.pan v) env hs' ds
        | .call f args => cf f args hs (fun v hs' => ih (setO N env o.dst v) hs' ds κ) (fun v hs' => κ (.pan v) env hs' ds)
        | .dfr f args caps => match inR with
          | true => False
          | false => ih (setO N env o.dst (.d (.v undef))) hs (.call f args caps :: ds) κ
        | .round id args => rr id args hs (fun v hs' => ih (setO N env o.dst v) hs' ds κ)
        | .no => moreK o.op (evO env) hs (fun v hs' => ih (setO N env o.dst v) hs' ds κ))
        (fun env => ih (setO N env o.dst (.d (.v undef))) hs ds κ)) l

theorem opsK_nil (T : Tb) (cf : CF) (rr : RF) (inR : Bool) (N : Nat) (all : List Oper) (env : Tr AV) (hs : HS) (ds : List Df) (κ : KE) : opsK T cf rr inR N all [] env hs ds κ = κ .norm env hs ds := rfl
theorem opsK_cons (T : Tb) (cf : CF) (rr : RF) (inR : Bool) (N : Nat) (all : List Oper) (o : Oper) (r : List Oper) (env : Tr AV) (hs : HS) (ds : List Df) (κ : KE) : opsK T cf rr inR N all (o :: r) env hs ds κ =
      guardK all N o.guard env (fun env => stepK T o.op (evO env) hs fun q => match q with
        | .ok v hs' => opsK T cf rr inR N all r (setO N env o.dst v) hs' ds κ
        | .pan v hs' => κ (.pan v) env hs' ds
        | .call f args => cf f args hs (fun v hs' => opsK T cf rr inR N all r (setO N env o.dst v) hs' ds κ) (fun v hs' => κ (.pan v) env hs' ds)
        | .dfr f args caps => match inR with
          | true => False
          | false => opsK T cf rr inR N all r (setO N env o.dst (.d (.v undef))) hs (.call f args caps :: ds) κ
        | .round id args => rr id args hs (fun v hs' => opsK T cf rr inR N all r (setO N env o.dst v) hs' ds κ)
        | .no => moreK o.op (evO env) hs (fun v hs' => opsK T cf rr inR N all r (setO N env o.dst v) hs' ds κ))
        (fun env => opsK T cf rr inR N all r (setO N env o.dst (.d (.v undef))) hs ds κ) := rfl

/-! ### frames: of a function, of a round -/
def Fw : Option Nat → Fence
  | none => Fence.wide
  | some l => Fence.wide.inRound l

theorem Fw_fn (ro : Option Nat) (f : FuncId) : (Fw ro).fn f := by cases ro <;> exact trivial
theorem Fw_round (ro : Option Nat) : (Fw ro).round = ro := by cases ro <;> rfl
theorem Fw_depth (ro : Option Nat) : (Fw ro).depth = none := by cases ro <;> rfl
theorem Fw_dep {ro : Option Nat} {n : Nat} : (Fw ro).depth.isSome = true → 1 ≤ n := by rw [Fw_depth]; intro h; cases h

theorem callsIn_Fw {ro : Option Nat} {n : Nat} {P : Program} {f : FuncId} {args : Array Value} {w : World} {R : Ending → World → Prop} (h : Calls P f args w R) : CallsIn (Fw ro) n P f args w R := by
  cases ro with
  | none => exact callsIn_wide.2 h
  | some l => exact callsIn_wide.2 h

theorem rowsIn_Fw {ro : Option Nat} {n : Nat} {P : Program} {row : String} {args : Array Value} {w : World} {R : Value → World → Prop} (h : Rows P row args w R) : RowsIn (Fw ro) n P row args w R := by
  intro c cs _
  obtain ⟨v, w', r, s⟩ := h c cs
  refine ⟨v, w', r, ?_⟩
  cases ro with
  | none => exact stepsIn_wide.2 s
  | some l => exact stepsIn_wide.2 s

theorem wpIn_of_wp {ro : Option Nat} {n : Nat} {P : Program} {o : Oper} {a : Act} {w : World} {next : Act → World → Prop} {Q : Exit → Act → World → Prop} (hd : ro = none ∨ ∀ c, o.op ≠ .defer c) (h : o.wp P a w next Q) : o.wpIn (Fw ro) n P a w next Q := by
  refine ⟨fun f _ => Fw_fn ro f, ?_⟩
  have hs : o.semAt (Fw ro).round a.eval = execOp a.eval o := by
    rw [Fw_round]
    rcases hd with rfl | hd
    · rfl
    · exact Oper.semAt_eq _ _ _ hd
  rw [hs]
  unfold Oper.wp at h
  generalize (execOp a.eval o).run P w = r at h
  unfold Oper.upon at h
  unfold Oper.uponIn
  split at h
  · exact h
  · exact h
  · exact h
  · exact ⟨Fw_dep, callsIn_Fw h⟩
  · exact ⟨Fw_dep, rowsIn_Fw h⟩
  · exact h
  · exact h.elim

section
variable {P : Program} {b : Frame} {a : Act} {k : List Item} {cs : List Frame} {w : World} {Q : Exit → Act → World → Prop} {F : Fence} {n : Nat}
theorem stepR_scope {c : Code} : step P (lone (b.atR a (.code (.scope c) :: k)) cs w) = .next (lone (b.atR a (.code c :: .inScope c :: k)) cs w) :=
  step_lone_go (by simp [stepG, stepG.exec, Frame.atR])
theorem stepR_inScope {c : Code} : step P (lone (b.atR a (.inScope c :: k)) cs w) = .next (lone (b.atR a k) cs w) :=
  step_lone_go (by simp [stepG, stepG.exec, Frame.atR])

theorem wpIn_scope_straight {c : Code} (h : c.wpIn F n P (Exit.noGoto Q) a w) : (Code.scope c).wpIn F n P Q a w := by
  intro b k cs hro hb hr
  have h0 : (lone (b.atR a (.code (.scope c) :: k)) cs w).fenced P F := fenced_calm hb hr rfl
  obtain ⟨e, a₁, w₁, hq, harr⟩ := h b (.inScope c :: k) cs hro hb hr
  cases e with
  | normal => exact ⟨.normal, a₁, w₁, hq, .head h0 stepR_scope (StepsIn.trans harr (.one (fenced_calm hb hr rfl) stepR_inScope))⟩
  | exit id => exact ⟨.exit id, a₁, w₁, hq, fun k' hk => .head h0 stepR_scope (harr.1 k' (by simp [exitTo, hk])),
      fun hr' hk => let ⟨k₁, h1, h2⟩ := harr.2 hr' (by simp [exitTo, hk]); ⟨k₁, h1, .head h0 stepR_scope h2⟩⟩
  | goto l => exact hq.elim
  | ret => exact ⟨_, a₁, w₁, hq, .of_steps (.one h0 stepR_scope) harr⟩
  | panic ch => exact ⟨_, a₁, w₁, hq, .of_steps (.one h0 stepR_scope) harr⟩
  | outgrown => exact ⟨_, a₁, w₁, hq, .of_steps (.one h0 stepR_scope) harr⟩
end

/-! ### what it means -/
def EnvOk (ρ : List Value) (S : Nat → Prop) (w : World) (env : Tr AV) (a : Act) (N : Nat) : Prop :=
  a.tmps.size = N ∧ ∀ t v, env.get t = some v → t < N ∧ VR ρ S w v (a.tmps.getD t undef)

def DfOk (ρ : List Value) (S : Nat → Prop) (w : World) : Df → Deferred → Prop
  | .call f args caps, e => ∃ cs : Array Value, e.target = .fn (.func f) cs ∧ AllR (VR ρ S w) args e.args.toList ∧ AllR (VR ρ S w) caps cs.toList
  | .mark id, e => ∃ r, ρ[id]? = some (.pointer (some ⟨r, 0, none⟩)) ∧ e.target = .collected r

def DsOk (ρ : List Value) (S : Nat → Prop) (w : World) (ds : List Df) (l : List Deferred) : Prop :=
  l.length = ds.length ∧ ∀ (i : Nat) (d : Df) (e : Deferred), ds[i]? = some d → l[i]? = some e → DfOk ρ S w d e

def FinR (ρ : List Value) (S : Nat → Prop) (w : World) : Fin → Exit → Prop
  | .norm, e => e = .normal
  | .exit id, e => e = .exit id
  | .ret, e => e = .ret
  | .pan v, e => ∃ x, e = .panic [{ v := x, recovered := false }] ∧ VR ρ S w v x

theorem EnvOk.keep {ρ ρ' : List Value} {S S' : Nat → Prop} {w w' : World} {env : Tr AV} {a : Act} {N : Nat} (hρ : Rp ρ ρ') (hk : Kp S S' w w') (h : EnvOk ρ S w env a N) : EnvOk ρ' S' w' env a N :=
  ⟨h.1, fun t v ht => ⟨(h.2 t v ht).1, (h.2 t v ht).2.keep hρ hk⟩⟩

theorem DfOk.keep {ρ ρ' : List Value} {S S' : Nat → Prop} {w w' : World} {d : Df} {e : Deferred} (hρ : Rp ρ ρ') (hk : Kp S S' w w') (h : DfOk ρ S w d e) : DfOk ρ' S' w' d e := by
  cases d with
  | call f args caps =>
    obtain ⟨cs, g1, g2, g3⟩ := h
    exact ⟨cs, g1, g2.imp fun _ _ h => h.keep hρ hk, g3.imp fun _ _ h => h.keep hρ hk⟩
  | mark id =>
    obtain ⟨r, g1, g2⟩ := h
    obtain ⟨h', hh, e⟩ := hρ id _ g1
    rcases e with rfl | ⟨_, _, _, _, _, _, e, _⟩ | e
    · exact ⟨r, hh, g2⟩
    · cases e
    · cases e

theorem DsOk.keep {ρ ρ' : List Value} {S S' : Nat → Prop} {w w' : World} {ds : List Df} {l : List Deferred} (hρ : Rp ρ ρ') (hk : Kp S S' w w') (h : DsOk ρ S w ds l) : DsOk ρ' S' w' ds l :=
  ⟨h.1, fun i d e h1 h2 => (h.2 i d e h1 h2).keep hρ hk⟩

theorem DsOk.cons {ρ : List Value} {S : Nat → Prop} {w : World} {ds : List Df} {l : List Deferred} {d : Df} {e : Deferred} (h : DfOk ρ S w d e) (k : DsOk ρ S w ds l) : DsOk ρ S w (d :: ds) (e :: l) :=
  ⟨by simp [k.1], fun i d' e' h1 h2 => by
    cases i with
    | zero => simp at h1 h2; subst h1 h2; exact h
    | succ i => exact k.2 i d' e' (by simpa using h1) (by simpa using h2)⟩

theorem EnvOk.ev {ρ : List Value} {S : Nat → Prop} {w : World} {env : Tr AV} {a : Act} {N : Nat} (h : EnvOk ρ S w env a N) : EvR ρ S w (evO env) a := by
  intro x y hx
  cases x with
  | tmp t => exact (h.2 t y hx).2
  | const v =>
    simp only [evO] at hx
    split at hx
    · cases hx
    · cases hx
      rename_i hv
      exact .d _ _ (.v _ hv)
  | global g => simp [evO] at hx
  | func f =>
    simp only [evO] at hx
    cases hx
    exact .fn f [] [] #[] #[] rfl rfl (fun i c x h => by simp at h) (fun i c x h => by simp at h)

theorem EnvOk.put {ρ : List Value} {S : Nat → Prop} {w : World} {env : Tr AV} {a : Act} {N : Nat} (h : EnvOk ρ S w env a N) (dst : Option Tmp) {v : AV} {x : Value} (hv : VR ρ S w v x) : EnvOk ρ S w (setO N env dst v) (a.put dst x) N := by
  cases dst with
  | none => exact h
  | some d =>
    refine ⟨by simp [Act.put, h.1], fun t u ht => ?_⟩
    simp only [setO] at ht
    have old : env.get t = some u → t ≠ d → t < N ∧ VR ρ S w u ((a.put (some d) x).tmps.getD t undef) := by
      intro hg hne
      refine ⟨(h.2 t u hg).1, ?_⟩
      have := (h.2 t u hg).2
      simp only [Act.put, Array.getD_eq_getD_getElem?] at this ⊢
      rw [Array.getElem?_setIfInBounds_ne (fun e => hne e.symm)]
      exact this
    split at ht
    · rename_i hlt
      have hlt : d < N := Nat.le_of_ble_eq_true hlt
      rcases Tr.get_set 64 _ _ _ _ _ ht with ⟨rfl, rfl⟩ | ⟨hne, hg⟩
      · refine ⟨hlt, ?_⟩
        simp only [Act.put, Array.getD_eq_getD_getElem?]
        rw [Array.getElem?_setIfInBounds_self_of_lt (by rw [h.1]; exact hlt)]
        exact hv
      · exact old hg hne
    · rename_i hlt
      have hlt : ¬ d < N := fun h => by
        have := Nat.ble_eq_true_of_le (n := d.succ) (m := N) h
        simp_all
      refine old ht (fun e => ?_)
      subst e
      exact hlt (h.2 _ _ ht).1

/-- A call: of a function, or of one that the machine knows by itself. -/
def CallsV (P : Program) (f : FuncId) (xs : Array Value) (w : World) (R : Ending → World → Prop) : Prop :=
  ((callFunc f xs).run P w = .ok (.enter f xs) w ∧ Calls P f xs w R) ∨ ∃ x, (callFunc f xs).run P w = .ok (.value x) w ∧ R (.returned x) w

/-- A call: what is asked of its end is so, if it is asked of each end that it may come to. -/
def CallOk (P : Program) (cf : CF) : Prop :=
  ∀ (f : FuncId) (args : List AV) (hs : HS) (κ π : KV) (G : Ctx) (ρ : List Value) (H : Heap) (w : World) (xs : Array Value), G.P = P → Sat G ρ H w → HtOk hs H → AllR (VR ρ (Fz G ρ H w) w) args xs.toList →
    cf f args hs κ π → ∀ R : Ending → World → Prop,
    (∀ v hs', κ v hs' → ∀ ρ' H' w' x, Sat G ρ' H' w' → Step ρ ρ' H H' w w' → Ht2 hs H hs' H' → VR ρ' (Fz G ρ' H' w') w' v x → R (.returned x) w') →
    (∀ v hs', π v hs' → ∀ ρ' H' w' x, Sat G ρ' H' w' → Step ρ ρ' H H' w w' → Ht2 hs H hs' H' → VR ρ' (Fz G ρ' H' w') w' v x → R (.panicked [{ v := x, recovered := false }]) w') →
    CallsV P f xs w R

/-- What follows of a run's end. -/
def Done (G : Ctx) (ρ : List Value) (hs0 : HS) (H : Heap) (w : World) (N : Nat) (Q : Exit → Act → World → Prop) (κ : KE) : Prop :=
  ∀ fin env hs ds, κ fin env hs ds → ∀ ρ' H' w' a' e, Sat G ρ' H' w' → Step ρ ρ' H H' w w' → Ht2 hs0 H hs H' → EnvOk ρ' (Fz G ρ' H' w') w' env a' N → DsOk ρ' (Fz G ρ' H' w') w' ds a'.defers →
      FinR ρ' (Fz G ρ' H' w') w' fin e → Q e a' w'

theorem Done.step {G : Ctx} {ρ ρ' : List Value} {hs hs' : HS} {H H' : Heap} {w w' : World} {N : Nat} {Q : Exit → Act → World → Prop} {κ : KE} (s : Step ρ ρ' H H' w w') (t : Ht2 hs H hs' H') (h : Done G ρ hs H w N Q κ) : Done G ρ' hs' H' w' N Q κ :=
  fun fin env hs2 ds hk ρ2 H2 w2 a2 e h1 h2 h3 h4 h5 h6 => h fin env hs2 ds hk ρ2 H2 w2 a2 e h1 (s.trans h2) (t.trans h3) h4 h5 h6

/-- A round of a range over a function. -/
def RoundOk (P : Program) (rr : RF) : Prop :=
  ∀ (id : Nat) (args : List AV) (hs : HS) (κ : KV) (G : Ctx) (ρ : List Value) (H : Heap) (w : World) (l : Nat) (xs : Array Value), G.P = P → Sat G ρ H w → HtOk hs H → ρ[id]? = some (.func (.yield l) #[] #[]) → AllR (VR ρ (Fz G ρ H w) w) args xs.toList →
    rr id args hs κ → ∀ R : Ending → World → Prop,
    (∀ v hs', κ v hs' → ∀ ρ' H' w' x, Sat G ρ' H' w' → Step ρ ρ' H H' w w' → Ht2 hs H hs' H' → VR ρ' (Fz G ρ' H' w') w' v x → R (.returned x) w') →
        ∃ fn tmps assign body, (Instr.yield l xs).run P w = .ok (.round l fn tmps assign body) w ∧ RoundIn Fence.wide 0 P l fn tmps assign body w R

def asB : Value → Option Bool
  | .bool b => some b
  | _ => none

theorem yielded_at {all : List Oper} {ops : Array Oper} (ho : ops.toList = all) {a : Act} {j d : Nat} {o' : Oper} (h1 : nth all j = some o') (h2 : o'.dst = some d) {x : Value} (hd : d < a.tmps.size) (hx : a.tmps.getD d undef = x) :
    yielded ops a.tmps j = asB x := by
  rw [nth_eq, ← ho, Array.getElem?_toList] at h1
  unfold yielded
  rw [h1]
  simp only [Option.bind_some, h2]
  rw [Array.getD_eq_getD_getElem?, Array.getElem?_eq_getElem hd, Option.getD_some] at hx
  rw [Array.getElem?_eq_getElem hd, hx]
  cases x <;> rfl

theorem EnvOk.setv {ρ : List Value} {S : Nat → Prop} {w : World} {env : Tr AV} {a : Act} {N : Nat} (h : EnvOk ρ S w env a N) (d : Tmp) {v : AV} (hv : VR ρ S w v (a.tmps.getD d undef)) : EnvOk ρ S w (setO N env (some d) v) a N := by
  refine ⟨h.1, fun t u ht => ?_⟩
  simp only [setO] at ht
  split at ht
  · rename_i hlt
    have hlt : d < N := Nat.le_of_ble_eq_true hlt
    rcases Tr.get_set 64 _ _ _ _ _ ht with ⟨rfl, rfl⟩ | ⟨_, hg⟩
    · exact ⟨hlt, hv⟩
    · exact h.2 t u hg
  · exact h.2 t u ht

theorem guard_ok {all : List Oper} {ops : Array Oper} (ho : ops.toList = all) {ρ : List Value} {S : Nat → Prop} {w : World} {env : Tr AV} {a : Act} {N : Nat} (he : EnvOk ρ S w env a N) (o : Oper) {go skip : Tr AV → Prop}
    (h : guardK all N o.guard env go skip) : ∃ env', EnvOk ρ S w env' a N ∧ ((Region.wanted o (yielded ops a.tmps) = true ∧ go env') ∨ (Region.wanted o (yielded ops a.tmps) = false ∧ skip env')) := by
  unfold guardK at h
  unfold Region.wanted
  cases hg : o.guard with
  | none => rw [hg] at h; exact ⟨env, he, .inl ⟨rfl, h⟩⟩
  | some p =>
    obtain ⟨j, want⟩ := p
    rw [hg] at h
    simp only at h ⊢
    split at h
    · rename_i o' h1
      split at h
      · rename_i d h2
        split at h
        · rename_i b hb
          have hv := he.2 d _ hb
          have hlt : d < a.tmps.size := by rw [he.1]; exact hv.1
          have hv2 := hv.2
          generalize hx : a.tmps.getD d undef = x at hv2
          have hy := yielded_at ho h1 h2 hlt hx
          cases hv2 with
          | d _ _ hd =>
            cases hd
            rw [hy]
            have hset : ∀ c, c = b → EnvOk ρ S w (setO N env (some d) (.d (.v (.bool c)))) a N := fun c e => he.setv d (by rw [hx, e]; exact .d _ _ (.v _ rfl))
            cases b <;> cases want <;> first
              | exact ⟨_, hset _ rfl, .inl ⟨rfl, h⟩⟩
              | exact ⟨_, hset _ rfl, .inr ⟨rfl, h⟩⟩
        · rename_i us hb
          have hv := he.2 d _ hb
          have hlt : d < a.tmps.size := by rw [he.1]; exact hv.1
          have hv2 := hv.2
          generalize hx : a.tmps.getD d undef = x at hv2
          have hy := yielded_at ho h1 h2 hlt hx
          cases hv2 with
          | d _ _ hd =>
            cases hd
            rw [hy]
            exact ⟨_, he, .inr ⟨rfl, h⟩⟩
        · exact h.elim
      · exact h.elim
    · exact h.elim

theorem defer_step (T : Tb) (c : Call) (ev : Ev) (hs : HS) : stepO T (.defer c) ev hs = .no ∨ ∃ f args caps, stepO T (.defer c) ev hs = .dfr f args caps := by
  rw [stepO_eq]
  unfold stepO0
  simp only
  repeat' split
  all_goals first | exact .inl rfl | exact .inr ⟨_, _, _, rfl⟩

theorem not_defer {T : Tb} {op : Op} {ev : Ev} {hs : HS} (h : ∀ f args caps, stepO T op ev hs ≠ .dfr f args caps) (h' : stepO T op ev hs ≠ .no) : ∀ c, op ≠ .defer c := by
  intro c e
  subst e
  rcases defer_step T c ev hs with g | ⟨f, args, caps, g⟩
  · exact h' g
  · exact h f args caps g

theorem opsK_ok {P : Program} {T : Tb} (hT : TbOk P T) {cf : CF} (hcf : CallOk P cf) {rr : RF} (hrr : RoundOk P rr) {ro : Option Nat} {N : Nat} {ops : Array Oper} {all : List Oper} (hall : ops.toList = all) (l : List Oper) :
    ∀ (env : Tr AV) (hs : HS) (ds : List Df) (κ : KE) (G : Ctx) (ρ : List Value) (H : Heap) (w : World) (a : Act) (Q : Exit → Act → World → Prop), G.P = P → Sat G ρ H w → HtOk hs H → EnvOk ρ (Fz G ρ H w) w env a N → DsOk ρ (Fz G ρ H w) w ds a.defers →
      opsK T cf rr ro.isSome N all l env hs ds κ → Done G ρ hs H w N Q κ → wpListIn (Fw ro) 0 P ops Q l a w := by
  induction l with
  | nil =>
    intro env hs ds κ G ρ H w a Q hG hst hh he hd hk hq
    exact hq _ _ _ _ hk ρ H w a .normal hst (Step.refl ρ H w) hh.same2 he hd rfl
  | cons o r ih =>
    intro env hs ds κ G ρ H w a Q hG hst hh he hd hk hq
    rw [opsK_cons] at hk
    unfold wpListIn
    obtain ⟨env', he, hgd⟩ := guard_ok hall he o hk
    rcases hgd with ⟨hw, hk⟩ | ⟨hw, hk⟩
    · rw [hw]
      simp only [if_true]
      have hso := stepO_ok (P := P) (T := T) (o := o) (ev := evO env') (H := H) hT hh
      have hk := stepK_ok hk
      split at hk
      · rename_i v hs' hr
        rw [hr] at hso
        obtain ⟨H', hh', hok⟩ := hso
        refine wpIn_of_wp (.inr (not_defer (by rw [hr]; simp) (by rw [hr]; simp))) ?_
        refine hok G ρ w a hG hst he.ev _ _ fun ρ' w' x h1 h2 h3 => ?_
        have hk' := hst.kp h2
        exact ih _ _ _ κ G ρ' H' w' _ Q hG h1 hh'.1 ((he.keep h2.rp hk').put o.dst h3) (by have := hd.keep h2.rp hk'; cases o.dst <;> exact this) hk (hq.step h2 hh')
      · rename_i v hs' hr
        rw [hr] at hso
        obtain ⟨H', hh', hok⟩ := hso
        refine wpIn_of_wp (.inr (not_defer (by rw [hr]; simp) (by rw [hr]; simp))) ?_
        refine hok G ρ w a hG hst he.ev _ _ fun ρ' w' x h1 h2 h3 => ?_
        have hk' := hst.kp h2
        exact hq _ _ _ _ hk ρ' H' w' a _ h1 h2 hh' (he.keep h2.rp hk') (hd.keep h2.rp hk') ⟨x, rfl, h3⟩
      · rename_i f args hr
        rw [hr] at hso
        obtain ⟨xs, hall', hrun⟩ := hso G ρ w a hG hst he.ev
        refine wpIn_of_wp (.inr (not_defer (by rw [hr]; simp) (by rw [hr]; simp))) ?_
        unfold Oper.wp
        rcases hcf f args hs _ _ G ρ H w xs hG hst hh hall' hk (fun e w'' => match e with | .returned v => wpListIn (Fw ro) 0 P ops Q r (a.put o.dst v) w'' | .panicked chain => Q (.panic chain) a w'' | .outgrown => LetsOut Q)
          (fun v hs' hk ρ' H' w' x h1 h2 h3 h4 => by
            have hk' := hst.kp h2
            exact ih _ _ _ κ G ρ' H' w' _ Q hG h1 h3.1 ((he.keep h2.rp hk').put o.dst h4) (by have := hd.keep h2.rp hk'; cases o.dst <;> exact this) hk (hq.step h2 h3))
          (fun v hs' hk ρ' H' w' x h1 h2 h3 h4 => by
            have hk' := hst.kp h2
            exact hq _ _ _ _ hk ρ' H' w' a _ h1 h2 h3 (he.keep h2.rp hk') (hd.keep h2.rp hk') ⟨x, rfl, h4⟩) with ⟨g1, g2⟩ | ⟨x, g1, g2⟩
        · rw [hrun _ g1]
          simp only [Oper.upon]
          exact Calls.mono g2 (fun e _ h => by cases e <;> exact h)
        · rw [hrun _ g1]
          exact g2
      · rename_i f args caps hr
        rw [hr] at hso
        obtain ⟨fx, c, first, l, hop, hc, hf, hl, rfl⟩ := hso
        cases ro with
        | some l => exact hk.elim
        | none =>
          obtain ⟨us, vs, hfe, hus, hvs⟩ := fn_inv (he.ev fx _ hf)
          have hargs := evL_rel he.ev _ _ hl
          refine wpIn_of_wp (.inl rfl) ?_
          unfold Oper.wp
          have : (execOp a.eval o).run P w = .ok (.defer { target := .fn (.func f) vs, args := us ++ c.args.map a.eval }) w := by
            simp only [execOp, hop, Sem.run_bind, resolve_value hc hfe, Result.andThen_ok]
            rfl
          rw [this]
          simp only [Oper.upon]
          have hd' : DsOk ρ (Fz G ρ H w) w (.call f (first ++ l) caps :: ds) ({ target := .fn (.func f) vs, args := us ++ c.args.map a.eval } :: a.defers) :=
            hd.cons ⟨vs, rfl, by simp only [Array.toList_append, Array.toList_map]; exact hus.append hargs, hvs⟩
          have he' : EnvOk ρ (Fz G ρ H w) w env' { a with defers := { target := .fn (.func f) vs, args := us ++ c.args.map a.eval } :: a.defers } N := he
          exact ih _ _ _ κ G ρ H w _ Q hG hst hh (he'.put o.dst (.d _ _ (.v _ rfl))) (by cases o.dst <;> exact hd') hk hq
      · rename_i id args hr
        rw [hr] at hso
        obtain ⟨hnd, hso⟩ := hso
        obtain ⟨l, xs, hρ, hall', hrun⟩ := hso G ρ w a hG hst he.ev
        obtain ⟨fn, tmps, assign, body, g1, g2⟩ := hrr id args hs _ G ρ H w l xs hG hst hh hρ hall' hk (fun e w'' => match e with | .returned v => wpListIn (Fw ro) 0 P ops Q r (a.put o.dst v) w'' | .panicked chain => Q (.panic chain) a w'' | .outgrown => LetsOut Q)
          (fun v hs' hk ρ' H' w' x h1 h2 h3 h4 => by
            have hk' := hst.kp h2
            exact ih _ _ _ κ G ρ' H' w' _ Q hG h1 h3.1 ((he.keep h2.rp hk').put o.dst h4) (by have := hd.keep h2.rp hk'; cases o.dst <;> exact this) hk (hq.step h2 h3))
        refine ⟨fun f _ => Fw_fn ro f, ?_⟩
        rw [Oper.semAt_eq _ _ _ hnd, hrun _ g1]
        refine ⟨Fw_dep, ?_⟩
        have : RoundIn (Fw ro) 0 P l fn tmps assign body w (fun e w'' => match e with | .returned v => wpListIn (Fw ro) 0 P ops Q r (a.put o.dst v) w'' | .panicked chain => Q (.panic chain) a w'' | .outgrown => LetsOut Q) := by
          cases ro with
          | none => exact g2
          | some _ => exact g2
        exact RoundIn.mono this (fun e _ h => by cases e <;> exact h)
      · have hmo := moreK_ok (o := o) (next := fun a w => wpListIn (Fw ro) 0 P ops Q r a w) (Q := Q) hh hk hG hst he.ev fun v hs' hk ρ' H' w' x h1 h2 hh' h3 => by
          have hk' := hst.kp h2
          exact ih _ _ _ κ G ρ' H' w' _ Q hG h1 hh'.1 ((he.keep h2.rp hk').put o.dst h3) (by have := hd.keep h2.rp hk'; cases o.dst <;> exact this) hk (hq.step h2 hh')
        exact wpIn_of_wp (.inr hmo.2) hmo.1
    · rw [hw]
      simp only [Bool.false_eq_true, if_false]
      exact ⟨fun f _ => Fw_fn ro f, ih _ _ _ κ G ρ H w _ Q hG hst hh (he.put o.dst (.d _ _ (.v _ rfl))) (by cases o.dst <;> exact hd) hk hq⟩

end Go.Rc
