/- A run of code, computed on abstract values: calls are run through. Conditions: none. -/
import Derived.Test.YtpddpbcfkmnmaaaGreatDoorRcStepH
import Derived.Defers
import Derived.LoopN
import Derived.TacticsIn
import Derived.LoopNIn
import Derived.Scope
import Derived.RangeFuncRecord
set_option linter.unusedVariables false
set_option linter.unusedSimpArgs false
namespace Go.Rc

/-- How a run ends. -/
inductive Fin where
  | norm
  | exit (id : Nat)
  | ret
  | pan (v : AV)

/-- A call that waits for its function's end; the mark that a range over a function leaves. -/
inductive Df where
  | call (f : FuncId) (args : List AV) (caps : List AV)
  | mark (id : Nat)

inductive Res where
  | no
  | mk (fin : Fin) (env : Tr AV) (hs : HS) (ds : List Df)

/-- How a call ends. m: which objects it may have changed, if that is known. -/
inductive CR where
  | no
  | ret (v : AV) (hs : HS) (m : Option (List Nat))
  | pan (v : AV) (hs : HS)

noncomputable def evO (env : Tr AV) : Ev
  | .tmp t => env.get t
  | .const v => match v.isAgg with
    | true => none
    | false => some (.d (.v v))
  | .global g => none
  | .func f => some (.fn f [] [])

noncomputable def setO (N : Nat) (env : Tr AV) (dst : Option Tmp) (v : AV) : Tr AV :=
  match dst with
  | some d => match Nat.ble (Nat.succ d) N with
    | true => env.set 64 d v
    | false => env
  | none => env

/-- Is an operation wanted? What was asked is known from then on. -/
inductive GR where
  | no
  | go (env : Tr AV)
  | skip (env : Tr AV)

noncomputable def guardA (all : List Oper) (N : Nat) (g : Option (Nat × Bool)) (env : Tr AV) : GR :=
  match g with
  | none => .go env
  | some (j, want) => match nth all j with
    | some o => match o.dst with
      | some d => match env.get d with
        | some (.d (.v (.bool b))) => match b with
          | true => match want with
            | true => .go (setO N env (some d) (.d (.v (.bool true))))
            | false => .skip (setO N env (some d) (.d (.v (.bool true))))
          | false => match want with
            | true => .skip (setO N env (some d) (.d (.v (.bool false))))
            | false => .go (setO N env (some d) (.d (.v (.bool false))))
        | some (.d (.v (.tuple _))) => .skip env
        | _ => .no
      | none => .no
    | none => .no

/-- inR: are we in a round of a range over a function? rr: a round. -/
noncomputable def exOps (T : Tb) (cf : FuncId → List AV → HS → CR) (rr : Nat → List AV → HS → CR) (inR : Bool) (N : Nat) (all : List Oper) (l : List Oper) : Tr AV → HS → List Df → Res :=
  List.rec (motive := fun _ => Tr AV → HS → List Df → Res) (fun env hs ds => .mk .norm env hs ds)
    (fun o _ ih env hs ds =>
      match guardA all N o.guard env with
      | .no => .no
      | .skip env => ih (setO N env o.dst (.d (.v undef))) hs ds
      | .go env => match stepO T o.op (evO env) hs with
        | .ok v hs' => ih (setO N env o.dst v) hs' ds
        | .pan v hs' => .mk (.pan v) env hs' ds
        | .call f args => match cf f args hs with
          | .ret v hs' _ => ih (setO N env o.dst v) hs' ds
          | .pan v hs' => .mk (.pan v) env hs' ds
          | .no => .no
        | .dfr f args caps => match inR with
          | true => .no
          | false => ih (setO N env o.dst (.d (.v undef))) hs (.call f args caps :: ds)
        | .round id args => match rr id args hs with
          | .ret v hs' _ => ih (setO N env o.dst v) hs' ds
          | _ => .no
        | .no => .no) l

theorem exOps_nil (T : Tb) (cf : FuncId → List AV → HS → CR) (rr : Nat → List AV → HS → CR) (inR : Bool) (N : Nat) (all : List Oper) (env : Tr AV) (hs : HS) (ds : List Df) : exOps T cf rr inR N all [] env hs ds = .mk .norm env hs ds := rfl
theorem exOps_cons (T : Tb) (cf : FuncId → List AV → HS → CR) (rr : Nat → List AV → HS → CR) (inR : Bool) (N : Nat) (all : List Oper) (o : Oper) (r : List Oper) (env : Tr AV) (hs : HS) (ds : List Df) : exOps T cf rr inR N all (o :: r) env hs ds =
      match guardA all N o.guard env with
      | .no => .no
      | .skip env => exOps T cf rr inR N all r (setO N env o.dst (.d (.v undef))) hs ds
      | .go env => match stepO T o.op (evO env) hs with
        | .ok v hs' => exOps T cf rr inR N all r (setO N env o.dst v) hs' ds
        | .pan v hs' => .mk (.pan v) env hs' ds
        | .call f args => match cf f args hs with
          | .ret v hs' _ => exOps T cf rr inR N all r (setO N env o.dst v) hs' ds
          | .pan v hs' => .mk (.pan v) env hs' ds
          | .no => .no
        | .dfr f args caps => match inR with
          | true => .no
          | false => exOps T cf rr inR N all r (setO N env o.dst (.d (.v undef))) hs (.call f args caps :: ds)
        | .round id args => match rr id args hs with
          | .ret v hs' _ => exOps T cf rr inR N all r (setO N env o.dst v) hs' ds
          | _ => .no
        | .no => .no := rfl

/-! ### frames: of a function, of a round -/
def Fw : Option Nat → Fence
  | none => Fence.wide
  | some l => Fence.wide.inRound l

theorem Fw_fn (ro : Option Nat) (f : FuncId) : (Fw ro).fn f := by cases ro <;> exact trivial
theorem Fw_round (ro : Option Nat) : (Fw ro).round = ro := by cases ro <;> rfl
theorem Fw_depth (ro : Option Nat) : (Fw ro).depth = none := by cases ro <;> rfl
theorem Fw_dep {ro : Option Nat} {n : Nat} : (Fw ro).depth.isSome = true → 1 ≤ n := by rw [Fw_depth]; intro h; cases h

theorem callsIn_Fw {ro : Option Nat} {n : Nat} {P : Program} {f : FuncId} {args : Array Value} {w : World} {R : Ending → World → Prop} (h : Calls P f args w R) : CallsIn (Fw ro) n P f args w R := by
  cases ro with
  | none => exact callsIn_wide.2 h
  | some l => exact callsIn_wide.2 h

theorem rowsIn_Fw {ro : Option Nat} {n : Nat} {P : Program} {row : String} {args : Array Value} {w : World} {R : Value → World → Prop} (h : Rows P row args w R) : RowsIn (Fw ro) n P row args w R := by
  intro c cs _
  obtain ⟨v, w', r, s⟩ := h c cs
  refine ⟨v, w', r, ?_⟩
  cases ro with
  | none => exact stepsIn_wide.2 s
  | some l => exact stepsIn_wide.2 s

theorem wpIn_of_wp {ro : Option Nat} {n : Nat} {P : Program} {o : Oper} {a : Act} {w : World} {next : Act → World → Prop} {Q : Exit → Act → World → Prop} (hd : ro = none ∨ ∀ c, o.op ≠ .defer c) (h : o.wp P a w next Q) : o.wpIn (Fw ro) n P a w next Q := by
  refine ⟨fun f _ => Fw_fn ro f, ?_⟩
  have hs : o.semAt (Fw ro).round a.eval = execOp a.eval o := by
    rw [Fw_round]
    rcases hd with rfl | hd
    · rfl
    · exact Oper.semAt_eq _ _ _ hd
  rw [hs]
  unfold Oper.wp at h
  generalize (execOp a.eval o).run P w = r at h
  unfold Oper.upon at h
  unfold Oper.uponIn
  split at h
  · exact h
  · exact h
  · exact h
  · exact ⟨Fw_dep, callsIn_Fw h⟩
  · exact ⟨Fw_dep, rowsIn_Fw h⟩
  · exact h
  · exact h.elim

section
variable {P : Program} {b : Frame} {a : Act} {k : List Item} {cs : List Frame} {w : World} {Q : Exit → Act → World → Prop} {F : Fence} {n : Nat}
theorem stepR_scope {c : Code} : step P (lone (b.atR a (.code (.scope c) :: k)) cs w) = .next (lone (b.atR a (.code c :: .inScope c :: k)) cs w) :=
  step_lone_go (by simp [stepG, stepG.exec, Frame.atR])
theorem stepR_inScope {c : Code} : step P (lone (b.atR a (.inScope c :: k)) cs w) = .next (lone (b.atR a k) cs w) :=
  step_lone_go (by simp [stepG, stepG.exec, Frame.atR])

theorem wpIn_scope_straight {c : Code} (h : c.wpIn F n P (Exit.noGoto Q) a w) : (Code.scope c).wpIn F n P Q a w := by
  intro b k cs hro hb hr
  have h0 : (lone (b.atR a (.code (.scope c) :: k)) cs w).fenced P F := fenced_calm hb hr rfl
  obtain ⟨e, a₁, w₁, hq, harr⟩ := h b (.inScope c :: k) cs hro hb hr
  cases e with
  | normal => exact ⟨.normal, a₁, w₁, hq, .head h0 stepR_scope (StepsIn.trans harr (.one (fenced_calm hb hr rfl) stepR_inScope))⟩
  | exit id => exact ⟨.exit id, a₁, w₁, hq, fun k' hk => .head h0 stepR_scope (harr.1 k' (by simp [exitTo, hk])),
      fun hr' hk => let ⟨k₁, h1, h2⟩ := harr.2 hr' (by simp [exitTo, hk]); ⟨k₁, h1, .head h0 stepR_scope h2⟩⟩
  | goto l => exact hq.elim
  | ret => exact ⟨_, a₁, w₁, hq, .of_steps (.one h0 stepR_scope) harr⟩
  | panic ch => exact ⟨_, a₁, w₁, hq, .of_steps (.one h0 stepR_scope) harr⟩
  | outgrown => exact ⟨_, a₁, w₁, hq, .of_steps (.one h0 stepR_scope) harr⟩
end

/-! ### what it means -/
def EnvOk (ρ : List Value) (S : Nat → Prop) (w : World) (env : Tr AV) (a : Act) (N : Nat) : Prop :=
  a.tmps.size = N ∧ ∀ t v, env.get t = some v → t < N ∧ VR ρ S w v (a.tmps.getD t undef)

def DfOk (ρ : List Value) (S : Nat → Prop) (w : World) : Df → Deferred → Prop
  | .call f args caps, e => ∃ cs : Array Value, e.target = .fn (.func f) cs ∧ AllR (VR ρ S w) args e.args.toList ∧ AllR (VR ρ S w) caps cs.toList
  | .mark id, e => ∃ r, ρ[id]? = some (.pointer (some ⟨r, 0, none⟩)) ∧ e.target = .collected r

def DsOk (ρ : List Value) (S : Nat → Prop) (w : World) (ds : List Df) (l : List Deferred) : Prop :=
  l.length = ds.length ∧ ∀ (i : Nat) (d : Df) (e : Deferred), ds[i]? = some d → l[i]? = some e → DfOk ρ S w d e

def FinR (ρ : List Value) (S : Nat → Prop) (w : World) : Fin → Exit → Prop
  | .norm, e => e = .normal
  | .exit id, e => e = .exit id
  | .ret, e => e = .ret
  | .pan v, e => ∃ x, e = .panic [{ v := x, recovered := false }] ∧ VR ρ S w v x

theorem EnvOk.keep {ρ ρ' : List Value} {S S' : Nat → Prop} {w w' : World} {env : Tr AV} {a : Act} {N : Nat} (hρ : Rp ρ ρ') (hk : Kp S S' w w') (h : EnvOk ρ S w env a N) : EnvOk ρ' S' w' env a N :=
  ⟨h.1, fun t v ht => ⟨(h.2 t v ht).1, (h.2 t v ht).2.keep hρ hk⟩⟩

theorem DfOk.keep {ρ ρ' : List Value} {S S' : Nat → Prop} {w w' : World} {d : Df} {e : Deferred} (hρ : Rp ρ ρ') (hk : Kp S S' w w') (h : DfOk ρ S w d e) : DfOk ρ' S' w' d e := by
  cases d with
  | call f args caps =>
    obtain ⟨cs, g1, g2, g3⟩ := h
    exact ⟨cs, g1, g2.imp fun _ _ h => h.keep hρ hk, g3.imp fun _ _ h => h.keep hρ hk⟩
  | mark id =>
    obtain ⟨r, g1, g2⟩ := h
    obtain ⟨h', hh, e⟩ := hρ id _ g1
    rcases e with rfl | ⟨_, _, _, _, _, _, e, _⟩ | e
    · exact ⟨r, hh, g2⟩
    · cases e
    · cases e

theorem DsOk.keep {ρ ρ' : List Value} {S S' : Nat → Prop} {w w' : World} {ds : List Df} {l : List Deferred} (hρ : Rp ρ ρ') (hk : Kp S S' w w') (h : DsOk ρ S w ds l) : DsOk ρ' S' w' ds l :=
  ⟨h.1, fun i d e h1 h2 => (h.2 i d e h1 h2).keep hρ hk⟩

theorem DsOk.cons {ρ : List Value} {S : Nat → Prop} {w : World} {ds : List Df} {l : List Deferred} {d : Df} {e : Deferred} (h : DfOk ρ S w d e) (k : DsOk ρ S w ds l) : DsOk ρ S w (d :: ds) (e :: l) :=
  ⟨by simp [k.1], fun i d' e' h1 h2 => by
    cases i with
    | zero => simp at h1 h2; subst h1 h2; exact h
    | succ i => exact k.2 i d' e' (by simpa using h1) (by simpa using h2)⟩

theorem EnvOk.ev {ρ : List Value} {S : Nat → Prop} {w : World} {env : Tr AV} {a : Act} {N : Nat} (h : EnvOk ρ S w env a N) : EvR ρ S w (evO env) a := by
  intro x y hx
  cases x with
  | tmp t => exact (h.2 t y hx).2
  | const v =>
    simp only [evO] at hx
    split at hx
    · cases hx
    · cases hx
      rename_i hv
      exact .d _ _ (.v _ hv)
  | global g => simp [evO] at hx
  | func f =>
    simp only [evO] at hx
    cases hx
    exact .fn f [] [] #[] #[] rfl rfl (fun i c x h => by simp at h) (fun i c x h => by simp at h)

theorem EnvOk.put {ρ : List Value} {S : Nat → Prop} {w : World} {env : Tr AV} {a : Act} {N : Nat} (h : EnvOk ρ S w env a N) (dst : Option Tmp) {v : AV} {x : Value} (hv : VR ρ S w v x) : EnvOk ρ S w (setO N env dst v) (a.put dst x) N := by
  cases dst with
  | none => exact h
  | some d =>
    refine ⟨by simp [Act.put, h.1], fun t u ht => ?_⟩
    simp only [setO] at ht
    have old : env.get t = some u → t ≠ d → t < N ∧ VR ρ S w u ((a.put (some d) x).tmps.getD t undef) := by
      intro hg hne
      refine ⟨(h.2 t u hg).1, ?_⟩
      have := (h.2 t u hg).2
      simp only [Act.put, Array.getD_eq_getD_getElem?] at this ⊢
      rw [Array.getElem?_setIfInBounds_ne (fun e => hne e.symm)]
      exact this
    split at ht
    · rename_i hlt
      have hlt : d < N := Nat.le_of_ble_eq_true hlt
      rcases Tr.get_set 64 _ _ _ _ _ ht with ⟨rfl, rfl⟩ | ⟨hne, hg⟩
      · refine ⟨hlt, ?_⟩
        simp only [Act.put, Array.getD_eq_getD_getElem?]
        rw [Array.getElem?_setIfInBounds_self_of_lt (by rw [h.1]; exact hlt)]
        exact hv
      · exact old hg hne
    · rename_i hlt
      have hlt : ¬ d < N := fun h => by
        have := Nat.ble_eq_true_of_le (n := d.succ) (m := N) h
        simp_all
      refine old ht (fun e => ?_)
      subst e
      exact hlt (h.2 _ _ ht).1

/-- A call: of a function, or of one that the machine knows by itself. -/
def CallsV (P : Program) (f : FuncId) (xs : Array Value) (w : World) (R : Ending → World → Prop) : Prop :=
  ((callFunc f xs).run P w = .ok (.enter f xs) w ∧ Calls P f xs w R) ∨ ∃ x, (callFunc f xs).run P w = .ok (.value x) w ∧ R (.returned x) w

def CallOk (P : Program) (cf : FuncId → List AV → HS → CR) : Prop :=
  ∀ (f : FuncId) (args : List AV) (hs : HS) (G : Ctx) (ρ : List Value) (H : Heap) (w : World) (xs : Array Value), G.P = P → Sat G ρ H w → HtOk hs H → AllR (VR ρ (Fz G ρ H w) w) args xs.toList →
    ∀ R : Ending → World → Prop,
    match cf f args hs with
    | .no => True
    | .ret v hs' _ => (∀ ρ' H' w' x, Sat G ρ' H' w' → Step ρ ρ' H H' w w' → HtOk hs' H' → VR ρ' (Fz G ρ' H' w') w' v x → R (.returned x) w') →
        CallsV P f xs w R
    | .pan v hs' => (∀ ρ' H' w' x, Sat G ρ' H' w' → Step ρ ρ' H H' w w' → HtOk hs' H' → VR ρ' (Fz G ρ' H' w') w' v x → R (.panicked [{ v := x, recovered := false }]) w') →
        CallsV P f xs w R

/-- What follows of a run's result. -/
def Done (G : Ctx) (ρ : List Value) (H : Heap) (w : World) (N : Nat) (Q : Exit → Act → World → Prop) : Res → Prop
  | .no => False
  | .mk fin env hs ds => ∀ ρ' H' w' a' e, Sat G ρ' H' w' → Step ρ ρ' H H' w w' → HtOk hs H' → EnvOk ρ' (Fz G ρ' H' w') w' env a' N → DsOk ρ' (Fz G ρ' H' w') w' ds a'.defers →
      FinR ρ' (Fz G ρ' H' w') w' fin e → Q e a' w'

theorem Step.trans {ρ ρ' ρ'' : List Value} {H H' H'' : Heap} {w w' w'' : World} (h : Step ρ ρ' H H' w w') (k : Step ρ' ρ'' H' H'' w' w'') : Step ρ ρ'' H H'' w w'' where
  os := k.os.trans h.os
  tape := k.tape.trans h.tape
  output := k.output.trans h.output
  size := Nat.le_trans h.size k.size
  blocks := fun b hb hn => by
    have h1 := h.blocks b hb hn
    rw [k.blocks b (Nat.lt_of_lt_of_le hb h.size) (fun ho => ?_), h1]
    rcases h.own b ho with h2 | h2
    · exact hn h2
    · omega
  own := fun b hb => by
    rcases k.own b hb with h1 | h1
    · exact h.own b h1
    · exact .inr (Nat.le_trans h.size h1)
  rp := h.rp.trans k.rp

theorem Done.step {G : Ctx} {ρ ρ' : List Value} {H H' : Heap} {w w' : World} {N : Nat} {Q : Exit → Act → World → Prop} {r : Res} (s : Step ρ ρ' H H' w w') (h : Done G ρ H w N Q r) : Done G ρ' H' w' N Q r := by
  cases r with
  | no => exact h
  | mk fin env hs ds => exact fun ρ2 H2 w2 a2 e h1 h2 h3 h4 h5 h6 => h ρ2 H2 w2 a2 e h1 (s.trans h2) h3 h4 h5 h6

/-- A round of a range over a function. -/
def RoundOk (P : Program) (rr : Nat → List AV → HS → CR) : Prop :=
  ∀ (id : Nat) (args : List AV) (hs : HS) (G : Ctx) (ρ : List Value) (H : Heap) (w : World) (l : Nat) (xs : Array Value), G.P = P → Sat G ρ H w → HtOk hs H → ρ[id]? = some (.func (.yield l) #[] #[]) → AllR (VR ρ (Fz G ρ H w) w) args xs.toList →
    ∀ R : Ending → World → Prop,
    match rr id args hs with
    | .ret v hs' _ => (∀ ρ' H' w' x, Sat G ρ' H' w' → Step ρ ρ' H H' w w' → HtOk hs' H' → VR ρ' (Fz G ρ' H' w') w' v x → R (.returned x) w') →
        ∃ fn tmps assign body, (Instr.yield l xs).run P w = .ok (.round l fn tmps assign body) w ∧ RoundIn Fence.wide 0 P l fn tmps assign body w R
    | _ => True

def asB : Value → Option Bool
  | .bool b => some b
  | _ => none

theorem yielded_at {all : List Oper} {ops : Array Oper} (ho : ops.toList = all) {a : Act} {j d : Nat} {o' : Oper} (h1 : nth all j = some o') (h2 : o'.dst = some d) {x : Value} (hd : d < a.tmps.size) (hx : a.tmps.getD d undef = x) :
    yielded ops a.tmps j = asB x := by
  rw [nth_eq, ← ho, Array.getElem?_toList] at h1
  unfold yielded
  rw [h1]
  simp only [Option.bind_some, h2]
  rw [Array.getD_eq_getD_getElem?, Array.getElem?_eq_getElem hd, Option.getD_some] at hx
  rw [Array.getElem?_eq_getElem hd, hx]
  cases x <;> rfl

theorem EnvOk.setv {ρ : List Value} {S : Nat → Prop} {w : World} {env : Tr AV} {a : Act} {N : Nat} (h : EnvOk ρ S w env a N) (d : Tmp) {v : AV} (hv : VR ρ S w v (a.tmps.getD d undef)) : EnvOk ρ S w (setO N env (some d) v) a N := by
  refine ⟨h.1, fun t u ht => ?_⟩
  simp only [setO] at ht
  split at ht
  · rename_i hlt
    have hlt : d < N := Nat.le_of_ble_eq_true hlt
    rcases Tr.get_set 64 _ _ _ _ _ ht with ⟨rfl, rfl⟩ | ⟨_, hg⟩
    · exact ⟨hlt, hv⟩
    · exact h.2 t u hg
  · exact h.2 t u ht

theorem guard_ok {all : List Oper} {ops : Array Oper} (ho : ops.toList = all) {ρ : List Value} {S : Nat → Prop} {w : World} {env : Tr AV} {a : Act} {N : Nat} (he : EnvOk ρ S w env a N) (o : Oper) :
    match guardA all N o.guard env with
    | .no => True
    | .go env' => Region.wanted o (yielded ops a.tmps) = true ∧ EnvOk ρ S w env' a N
    | .skip env' => Region.wanted o (yielded ops a.tmps) = false ∧ EnvOk ρ S w env' a N := by
  unfold guardA Region.wanted
  cases hg : o.guard with
  | none => exact ⟨rfl, he⟩
  | some p =>
    obtain ⟨j, want⟩ := p
    simp only
    cases h1 : nth all j with
    | none => trivial
    | some o' =>
      simp only
      cases h2 : o'.dst with
      | none => trivial
      | some d =>
        simp only
        cases hb : env.get d with
        | none => trivial
        | some v =>
          have hv := he.2 d _ hb
          have hlt : d < a.tmps.size := by rw [he.1]; exact hv.1
          have hv2 := hv.2
          generalize hx : a.tmps.getD d undef = x at hv2
          have hy := yielded_at ho h1 h2 hlt hx
          cases v with
          | d y =>
            cases y with
            | v z =>
              cases z with
              | bool b =>
                cases hv2 with
                | d _ _ hd =>
                  cases hd
                  rw [hy]
                  cases b <;> cases want <;> exact ⟨rfl, he.setv d (by rw [hx]; exact .d _ _ (.v _ rfl))⟩
              | tuple us =>
                cases hv2 with
                | d _ _ hd =>
                  cases hd
                  rw [hy]
                  exact ⟨rfl, he⟩
              | _ => trivial
            | _ => trivial
          | _ => trivial

theorem defer_step (T : Tb) (c : Call) (ev : Ev) (hs : HS) : stepO T (.defer c) ev hs = .no ∨ ∃ f args caps, stepO T (.defer c) ev hs = .dfr f args caps := by
  rw [stepO_eq]
  unfold stepO0
  simp only
  repeat' split
  all_goals first | exact .inl rfl | exact .inr ⟨_, _, _, rfl⟩

theorem not_defer {T : Tb} {op : Op} {ev : Ev} {hs : HS} (h : ∀ f args caps, stepO T op ev hs ≠ .dfr f args caps) (h' : stepO T op ev hs ≠ .no) : ∀ c, op ≠ .defer c := by
  intro c e
  subst e
  rcases defer_step T c ev hs with g | ⟨f, args, caps, g⟩
  · exact h' g
  · exact h f args caps g

theorem exOps_ok {P : Program} {T : Tb} (hT : TbOk P T) {cf : FuncId → List AV → HS → CR} (hcf : CallOk P cf) {rr : Nat → List AV → HS → CR} (hrr : RoundOk P rr) {ro : Option Nat} {N : Nat} {ops : Array Oper} {all : List Oper} (hall : ops.toList = all) (l : List Oper) :
    ∀ (env : Tr AV) (hs : HS) (ds : List Df) (G : Ctx) (ρ : List Value) (H : Heap) (w : World) (a : Act) (Q : Exit → Act → World → Prop), G.P = P → Sat G ρ H w → HtOk hs H → EnvOk ρ (Fz G ρ H w) w env a N → DsOk ρ (Fz G ρ H w) w ds a.defers →
      Done G ρ H w N Q (exOps T cf rr ro.isSome N all l env hs ds) → wpListIn (Fw ro) 0 P ops Q l a w := by
  induction l with
  | nil =>
    intro env hs ds G ρ H w a Q hG hst hh he hd hq
    exact hq ρ H w a .normal hst (Step.refl ρ H w) hh he hd rfl
  | cons o r ih =>
    intro env hs ds G ρ H w a Q hG hst hh he hd hq
    rw [exOps_cons] at hq
    unfold wpListIn
    have hgd := guard_ok hall he o
    split at hq
    · exact hq.elim
    · rename_i env' hw
      rw [hw] at hgd
      obtain ⟨hw, he⟩ := hgd
      rw [hw]
      simp only [Bool.false_eq_true, if_false]
      exact ⟨fun f _ => Fw_fn ro f, ih _ _ _ G ρ H w _ Q hG hst hh (he.put o.dst (.d _ _ (.v _ rfl))) (by cases o.dst <;> exact hd) hq⟩
    · rename_i env' hw
      rw [hw] at hgd
      obtain ⟨hw, he⟩ := hgd
      rw [hw]
      simp only [if_true]
      have hso := stepO_ok (P := P) (T := T) (o := o) (ev := evO env') (H := H) hT hh
      split at hq
      · rename_i v hs' hr
        rw [hr] at hso
        obtain ⟨H', hh', hok⟩ := hso
        refine wpIn_of_wp (.inr (not_defer (by rw [hr]; simp) (by rw [hr]; simp))) ?_
        refine hok G ρ w a hG hst he.ev _ _ fun ρ' w' x h1 h2 h3 => ?_
        have hk := hst.kp h2
        exact ih _ _ _ G ρ' H' w' _ Q hG h1 hh' ((he.keep h2.rp hk).put o.dst h3) (by have := hd.keep h2.rp hk; cases o.dst <;> exact this) (hq.step h2)
      · rename_i v hs' hr
        rw [hr] at hso
        obtain ⟨H', hh', hok⟩ := hso
        refine wpIn_of_wp (.inr (not_defer (by rw [hr]; simp) (by rw [hr]; simp))) ?_
        refine hok G ρ w a hG hst he.ev _ _ fun ρ' w' x h1 h2 h3 => ?_
        have hk := hst.kp h2
        exact hq ρ' H' w' a _ h1 h2 hh' (he.keep h2.rp hk) (hd.keep h2.rp hk) ⟨x, rfl, h3⟩
      · rename_i f args hr
        rw [hr] at hso
        obtain ⟨xs, hall', hrun⟩ := hso G ρ w a hG hst he.ev
        have hcall := hcf f args hs G ρ H w xs hG hst hh hall'
        refine wpIn_of_wp (.inr (not_defer (by rw [hr]; simp) (by rw [hr]; simp))) ?_
        unfold Oper.wp
        split at hq
        · rename_i v hs' _ hr'
          have := hcall (fun e w'' => match e with | .returned v => wpListIn (Fw ro) 0 P ops Q r (a.put o.dst v) w'' | .panicked chain => Q (.panic chain) a w'' | .outgrown => LetsOut Q)
          rw [hr'] at this
          rcases this (fun ρ' H' w' x h1 h2 h3 h4 => by
            have hk := hst.kp h2
            exact ih _ _ _ G ρ' H' w' _ Q hG h1 h3 ((he.keep h2.rp hk).put o.dst h4) (by have := hd.keep h2.rp hk; cases o.dst <;> exact this) (hq.step h2)) with ⟨g1, g2⟩ | ⟨x, g1, g2⟩
          · rw [hrun _ g1]
            simp only [Oper.upon]
            exact Calls.mono g2 (fun e _ h => by cases e <;> exact h)
          · rw [hrun _ g1]
            exact g2
        · rename_i v hs' hr'
          have := hcall (fun e w'' => match e with | .returned v => wpListIn (Fw ro) 0 P ops Q r (a.put o.dst v) w'' | .panicked chain => Q (.panic chain) a w'' | .outgrown => LetsOut Q)
          rw [hr'] at this
          rcases this (fun ρ' H' w' x h1 h2 h3 h4 => by
            have hk := hst.kp h2
            exact hq ρ' H' w' a _ h1 h2 h3 (he.keep h2.rp hk) (hd.keep h2.rp hk) ⟨x, rfl, h4⟩) with ⟨g1, g2⟩ | ⟨x, g1, g2⟩
          · rw [hrun _ g1]
            simp only [Oper.upon]
            exact Calls.mono g2 (fun e _ h => by cases e <;> exact h)
          · rw [hrun _ g1]
            exact g2
        · exact hq.elim
      · rename_i f args caps hr
        rw [hr] at hso
        obtain ⟨fx, c, first, l, hop, hc, hf, hl, rfl⟩ := hso
        cases ro with
        | some l => exact hq.elim
        | none =>
          obtain ⟨us, vs, hfe, hus, hvs⟩ := fn_inv (he.ev fx _ hf)
          have hargs := evL_rel he.ev _ _ hl
          refine wpIn_of_wp (.inl rfl) ?_
          unfold Oper.wp
          have : (execOp a.eval o).run P w = .ok (.defer { target := .fn (.func f) vs, args := us ++ c.args.map a.eval }) w := by
            simp only [execOp, hop, Sem.run_bind, resolve_value hc hfe, Result.andThen_ok]
            rfl
          rw [this]
          simp only [Oper.upon]
          have hd' : DsOk ρ (Fz G ρ H w) w (.call f (first ++ l) caps :: ds) ({ target := .fn (.func f) vs, args := us ++ c.args.map a.eval } :: a.defers) :=
            hd.cons ⟨vs, rfl, by simp only [Array.toList_append, Array.toList_map]; exact hus.append hargs, hvs⟩
          have he' : EnvOk ρ (Fz G ρ H w) w env' { a with defers := { target := .fn (.func f) vs, args := us ++ c.args.map a.eval } :: a.defers } N := he
          exact ih _ _ _ G ρ H w _ Q hG hst hh (he'.put o.dst (.d _ _ (.v _ rfl))) (by cases o.dst <;> exact hd') hq
      · rename_i id args hr
        rw [hr] at hso
        obtain ⟨hnd, hso⟩ := hso
        obtain ⟨l, xs, hρ, hall', hrun⟩ := hso G ρ w a hG hst he.ev
        have hround := hrr id args hs G ρ H w l xs hG hst hh hρ hall'
        split at hq
        · rename_i v hs' _ hr'
          have := hround (fun e w'' => match e with | .returned v => wpListIn (Fw ro) 0 P ops Q r (a.put o.dst v) w'' | .panicked chain => Q (.panic chain) a w'' | .outgrown => LetsOut Q)
          rw [hr'] at this
          obtain ⟨fn, tmps, assign, body, g1, g2⟩ := this (fun ρ' H' w' x h1 h2 h3 h4 => by
            have hk := hst.kp h2
            exact ih _ _ _ G ρ' H' w' _ Q hG h1 h3 ((he.keep h2.rp hk).put o.dst h4) (by have := hd.keep h2.rp hk; cases o.dst <;> exact this) (hq.step h2))
          refine ⟨fun f _ => Fw_fn ro f, ?_⟩
          rw [Oper.semAt_eq _ _ _ hnd, hrun _ g1]
          refine ⟨Fw_dep, ?_⟩
          have : RoundIn (Fw ro) 0 P l fn tmps assign body w (fun e w'' => match e with | .returned v => wpListIn (Fw ro) 0 P ops Q r (a.put o.dst v) w'' | .panicked chain => Q (.panic chain) a w'' | .outgrown => LetsOut Q) := by
            cases ro with
            | none => exact g2
            | some _ => exact g2
          exact RoundIn.mono this (fun e _ h => by cases e <;> exact h)
        · exact hq.elim
      · exact hq.elim

end Go.Rc
