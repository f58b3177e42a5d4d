/- A run of a function, computed on abstract values: blocks, loops, calls, calls that wait, panics that are caught. Conditions: none. -/
import Derived.Test.YtbdgmbaflfmooaaGreatDoorRcDrawN
import Derived.RecoverIn
set_option linter.unusedVariables false
set_option linter.unusedSimpArgs false
namespace Go.Rc

noncomputable def resA (T : Tb) (env : Tr AV) (hs : HS) : List ResultVar → Option (List AV)
  | [] => some []
  | .tmp t :: r => match env.get t with
    | some v => match resA T env hs r with
      | some l => some (v :: l)
      | none => none
    | none => none
  | .cell ad ty :: r => match T ty with
    | some i => match env.get ad with
      | some (.ptr id off) => match hs.t.get id with
        | some (.var _ ag m v0) => match part i.agg i.sz off ag m v0 with
          | some v => match resA T env hs r with
            | some l => some (v :: l)
            | none => none
          | none => none
        | _ => none
      | _ => none
    | none => none

def oneA : List AV → AV
  | [v] => v
  | l => .tup l

noncomputable def envFrom (t : Tr AV) : Nat → List AV → Tr AV
  | _, [] => t
  | i, v :: r => envFrom (t.set 64 i v) (Nat.succ i) r

/-- A run of code: the frame's size, the function, whether this is a round of a range over a function. -/
abbrev RunF := Nat → Option FuncId → Bool → Code → Tr AV → HS → List Df → KE → Prop
abbrev LK := Tr AV → HS → List Df → KE → Prop
abbrev CT := FuncId → Option (List AV → HS → KV → KV → Prop)
abbrev LT := FuncId → Nat → Option LK

noncomputable def mOr : Option AV → AV
  | some v => v
  | none => .d (.v .nilIface)

/-- A function that was deferred: it asks first what is to be recovered. m: the panic that is under way. -/
noncomputable def dfK (P : Program) (T : Tb) (run : RunF) (f : FuncId) (args : List AV) (m : Option AV) (hs : HS) (κ : HS → Prop) : Prop :=
  match P.funcs[f]? with
  | some fn => match fn.body with
    | some (.seq (.region _ ops false) rest) => match ops.toList with
      | [o0, o1] => match o0.guard with
        | none => match o1.guard with
          | none => match o0.op with
            | .call c => match c.callee with
              | .builtin .recover => match Nat.ble args.length fn.ntmps with
                | true => match fn.results.toList with
                  | [] => match (match o1.op with | .assign x => evO (setO fn.ntmps (envFrom .nil 0 args) o0.dst (mOr m)) x | _ => none) with
                    | some v1 => run fn.ntmps (some f) false rest (setO fn.ntmps (setO fn.ntmps (envFrom .nil 0 args) o0.dst (mOr m)) o1.dst v1) hs [] fun fin _ hs' ds => match ds with
                      | [] => match fin with
                        | .norm => κ hs'
                        | .ret => κ hs'
                        | _ => False
                      | _ => False
                    | none => False
                  | _ => False
                | false => False
              | _ => False
            | _ => False
          | _ => False
        | _ => False
      | _ => False
    | _ => False
  | none => False

/-- The calls that wait, one behind the other. none: the function's end is no panic. -/
noncomputable def dsK (P : Program) (T : Tb) (run : RunF) : List Df → Option AV → HS → (HS → Prop) → KV → Prop
  | [], none, hs, κ, π => κ hs
  | [], some v, hs, κ, π => π v hs
  | .call f args caps :: r, m, hs, κ, π => dfK P T run f (args ++ caps) m hs fun hs' => dsK P T run r none hs' κ π
  | .mark id :: r, m, hs, κ, π => match hs.t.get id with
    | some .dfr => dsK P T run r m (hs.put id .dead) κ π
    | _ => False

noncomputable def resK (T : Tb) (fn : Func) (env : Tr AV) (κ : KV) (hs : HS) : Prop := match resA T env hs fn.results.toList with
  | some l => κ (oneA l) hs
  | none => False

/-- A call. -/
noncomputable def fK (P : Program) (T : Tb) (run : RunF) (f : FuncId) (args : List AV) (hs : HS) (κ π : KV) : Prop :=
  match P.funcs[f]? with
  | some fn => match fn.body with
    | some c => match Nat.ble args.length fn.ntmps with
      | true => run fn.ntmps (some f) false c (envFrom .nil 0 args) hs [] fun fin env hs' ds => match fin with
        | .norm => dsK P T run ds none hs' (resK T fn env κ) π
        | .ret => dsK P T run ds none hs' (resK T fn env κ) π
        | .pan v => dsK P T run ds (some v) hs' (resK T fn env κ) π
        | .exit _ => False
      | false => False
    | none => False
  | none => False

/-- What is known of a call, ahead of a run of it. -/
noncomputable def hook (ct : CT) (g : CF) (f : FuncId) (args : List AV) (hs : HS) (κ π : KV) : Prop :=
  match ct f with
  | some c => c args hs κ π
  | none => g f args hs κ π

noncomputable def setPs (N : Nat) : List Tmp → List AV → Tr AV → Tr AV
  | t :: ts, v :: vs, env => setPs N ts vs (setO N env (some t) v)
  | _, _, env => env

/-- A round of a range over a function. -/
noncomputable def roundK (run : RunF) (id : Nat) (args : List AV) (hs : HS) (κ : KV) : Prop :=
  match hs.t.get id with
  | some (.lp .ready _ N ps assign body env) => match Nat.beq args.length ps.length with
    | true => run N none true assign (setPs N ps args env) hs [] fun fin env1 hs1 ds1 => match fin with
      | .norm => match ds1 with
        | [] => match hs1.t.get id with
          | some (.lp .ready pend1 N1 ps1 as1 bd1 en1) => run N none true body env1 (hs1.put id (.lp .busy pend1 N1 ps1 as1 bd1 en1)) [] fun fin _ hs2 ds2 => match hs2.t.get id with
            | some (.lp _ _ N2 ps2 as2 bd2 en2) => match fin with
              | .norm => κ (.d (.v (.bool true))) (hs2.put id (.lp .ready none N2 ps2 as2 bd2 en2))
              | .ret => κ (.d (.v (.bool false))) (hs2.put id (.lp .done (some .ret) N2 ps2 as2 bd2 en2))
              | .exit e => κ (.d (.v (.bool false))) (hs2.put id (.lp .done (some (.exit e)) N2 ps2 as2 bd2 en2))
              | .pan _ => False
            | _ => False
          | _ => False
        | _ => False
      | _ => False
    | false => False
  | _ => False

noncomputable def hasBody (P : Program) (f : FuncId) : Bool := match P.funcs[f]? with
  | some fn => match fn.body with
    | some _ => true
    | none => false
  | none => false

/-- A range over a function. -/
noncomputable def rangeK (P : Program) (cf : CF) (N : Nat) (g : Operand) (ps : Array Tmp) (assign body : Code) (env : Tr AV) (hs : HS) (ds : List Df) (κ : KE) : Prop :=
  match evO env g with
  | some (.fn f first caps) => match hasBody P f with
    | true => cf f (first ++ [.yl (Nat.succ hs.n)] ++ caps) ((hs.push .dfr).push (.lp .ready none N ps.toList assign body env)) (fun _ hs3 => match hs3.t.get (Nat.succ hs.n) with
        | some (.lp st pend _ _ _ _ _) => match st with
          | .busy => False
          | _ => match pend with
            | none => κ .norm env (hs3.put (Nat.succ hs.n) .dead) (.mark hs.n :: ds)
            | some .ret => κ .ret env (hs3.put (Nat.succ hs.n) .dead) (.mark hs.n :: ds)
            | some (.exit e) => κ (.exit e) env (hs3.put (Nat.succ hs.n) .dead) (.mark hs.n :: ds)
            | _ => False
        | _ => False) (fun _ _ => False)
    | false => False
  | _ => False

/-- A loop's name: its first region's number. -/
def loopId : Code → Nat
  | .region id _ _ => id
  | .seq a _ => loopId a
  | .cond _ a _ => loopId a
  | .block _ c => loopId c
  | .loop c => loopId c
  | .scope c => loopId c
  | _ => 0

def loopsOf : Code → List Code
  | .seq a b => loopsOf a ++ loopsOf b
  | .cond _ a b => loopsOf a ++ loopsOf b
  | .block _ c => loopsOf c
  | .loop c => c :: loopsOf c
  | .scope c => loopsOf c
  | _ => []

noncomputable def seqK (run : RunF) (N : Nat) (fo : Option FuncId) (inR : Bool) (b : Code) (κ : KE) (fin : Fin) (env : Tr AV) (hs : HS) (ds : List Df) : Prop := match fin with
  | .norm => run N fo inR b env hs ds κ
  | fin => κ fin env hs ds

noncomputable def blockK (id : Nat) (κ : KE) (fin : Fin) (env : Tr AV) (hs : HS) (ds : List Df) : Prop := match fin with
  | .exit id' => match Nat.beq id' id with
    | true => κ .norm env hs ds
    | false => κ (.exit id') env hs ds
  | fin => κ fin env hs ds

noncomputable def ks_norm (P : Program) (T : Tb) (ct : CT) (lt : LT) (run : RunF) (N : Nat) (fo : Option FuncId) (inR : Bool) (env : Tr AV) (hs : HS) (ds : List Df) (κ : KE) : Prop := κ .norm env hs ds
noncomputable def ks_label (l : Nat) (P : Program) (T : Tb) (ct : CT) (lt : LT) (run : RunF) (N : Nat) (fo : Option FuncId) (inR : Bool) (env : Tr AV) (hs : HS) (ds : List Df) (κ : KE) : Prop := κ .norm env hs ds
noncomputable def ks_region (id : Nat) (ops : Array Oper) (draw : Bool) (P : Program) (T : Tb) (ct : CT) (lt : LT) (run : RunF) (N : Nat) (fo : Option FuncId) (inR : Bool) (env : Tr AV) (hs : HS) (ds : List Df) (κ : KE) : Prop :=
  match draw with
  | false => opsK T (hook ct (fK P T run)) (roundK run) inR N ops.toList ops.toList env hs ds κ
  | true => drK T (hook ct (fK P T run)) N ops.toList env hs ds κ
noncomputable def ks_seq (a b : Code) (P : Program) (T : Tb) (ct : CT) (lt : LT) (run : RunF) (N : Nat) (fo : Option FuncId) (inR : Bool) (env : Tr AV) (hs : HS) (ds : List Df) (κ : KE) : Prop :=
  run N fo inR a env hs ds (seqK run N fo inR b κ)
noncomputable def ks_cond (c : Operand) (a b : Code) (P : Program) (T : Tb) (ct : CT) (lt : LT) (run : RunF) (N : Nat) (fo : Option FuncId) (inR : Bool) (env : Tr AV) (hs : HS) (ds : List Df) (κ : KE) : Prop :=
  match evO env c with
  | some (.d (.v (.bool t))) => boolP t (run N fo inR a env hs ds κ) (run N fo inR b env hs ds κ)
  | _ => False
noncomputable def ks_block (id : Nat) (c : Code) (P : Program) (T : Tb) (ct : CT) (lt : LT) (run : RunF) (N : Nat) (fo : Option FuncId) (inR : Bool) (env : Tr AV) (hs : HS) (ds : List Df) (κ : KE) : Prop :=
  run N fo inR c env hs ds (blockK id κ)
noncomputable def ks_loop (c : Code) (P : Program) (T : Tb) (ct : CT) (lt : LT) (run : RunF) (N : Nat) (fo : Option FuncId) (inR : Bool) (env : Tr AV) (hs : HS) (ds : List Df) (κ : KE) : Prop :=
  match (match inR with | true => none | false => match fo with | some f => lt f (loopId c) | none => none) with
  | some g => g env hs ds κ
  | none => run N fo inR c env hs ds (seqK run N fo inR (.loop c) κ)
noncomputable def ks_rangeFunc (g : Operand) (ps : Array Tmp) (assign body : Code) (P : Program) (T : Tb) (ct : CT) (lt : LT) (run : RunF) (N : Nat) (fo : Option FuncId) (inR : Bool) (env : Tr AV) (hs : HS) (ds : List Df) (κ : KE) : Prop :=
  match inR with
  | true => False
  | false => rangeK P (hook ct (fK P T run)) N g ps assign body env hs ds κ
noncomputable def ks_exit (id : Nat) (P : Program) (T : Tb) (ct : CT) (lt : LT) (run : RunF) (N : Nat) (fo : Option FuncId) (inR : Bool) (env : Tr AV) (hs : HS) (ds : List Df) (κ : KE) : Prop := κ (.exit id) env hs ds
noncomputable def ks_scope (c : Code) (P : Program) (T : Tb) (ct : CT) (lt : LT) (run : RunF) (N : Nat) (fo : Option FuncId) (inR : Bool) (env : Tr AV) (hs : HS) (ds : List Df) (κ : KE) : Prop := run N fo inR c env hs ds κ
noncomputable def ks_goto (l : Nat) (P : Program) (T : Tb) (ct : CT) (lt : LT) (run : RunF) (N : Nat) (fo : Option FuncId) (inR : Bool) (env : Tr AV) (hs : HS) (ds : List Df) (κ : KE) : Prop := False
noncomputable def ks_ret (P : Program) (T : Tb) (ct : CT) (lt : LT) (run : RunF) (N : Nat) (fo : Option FuncId) (inR : Bool) (env : Tr AV) (hs : HS) (ds : List Df) (κ : KE) : Prop := κ .ret env hs ds
noncomputable def ks_refuse (w : String) (P : Program) (T : Tb) (ct : CT) (lt : LT) (run : RunF) (N : Nat) (fo : Option FuncId) (inR : Bool) (env : Tr AV) (hs : HS) (ds : List Df) (κ : KE) : Prop := False

noncomputable def stepC (P : Program) (T : Tb) (ct : CT) (lt : LT) (run : RunF) (N : Nat) (fo : Option FuncId) (inR : Bool) (c : Code) (env : Tr AV) (hs : HS) (ds : List Df) (κ : KE) : Prop :=
  @Code.casesOn (fun _ => Program → Tb → CT → LT → RunF → Nat → Option FuncId → Bool → Tr AV → HS → List Df → KE → Prop) c
    ks_norm ks_region ks_seq ks_cond ks_block ks_loop ks_rangeFunc ks_exit ks_scope ks_label ks_goto ks_ret ks_refuse P T ct lt run N fo inR env hs ds κ

noncomputable def runK (P : Program) (T : Tb) (ct : CT) (lt : LT) (k : Nat) : RunF :=
  Nat.rec (motive := fun _ => RunF) (fun _ _ _ _ _ _ _ _ => False) (fun _ ih => stepC P T ct lt ih) k

/-! ### soundness -/
/-- A loop, from the begin of a round. -/
def loopWp (F : Fence) (n : Nat) (P : Program) (c : Code) (Q : Exit → Act → World → Prop) (a : Act) (w : World) : Prop :=
  ∀ (b : Frame) (k : List Item) (cs : List Frame), b.roundOf = F.round → F.fn b.fn → F.room (cs.length + 1 + n) →
    ∃ e a' w', Q e a' w' ∧ ArrivesIn (Machine.fenced P F) P (lone (b.atR a (.code c :: .inLoop c :: k)) cs w) b k cs e a' w'

theorem loopWp.wp {F : Fence} {n : Nat} {P : Program} {Q : Exit → Act → World → Prop} {a : Act} {w : World} {c : Code} (h : loopWp F n P c Q a w) : (Code.loop c).wpIn F n P Q a w := by
  intro b k cs hro hb hr
  obtain ⟨e, a', w', hq, harr⟩ := h b k cs hro hb hr
  exact ⟨e, a', w', hq, .of_steps (.one (fenced_calm hb hr rfl) stepR_loop) harr⟩

theorem loopWp.round {F : Fence} {n : Nat} {P : Program} {Q : Exit → Act → World → Prop} {a : Act} {w : World} {c : Code} (h : c.wpIn F n P (Exit.then (loopWp F n P c Q) Q) a w) : loopWp F n P c Q a w := by
  intro b k cs hro hb hr
  obtain ⟨e, a₁, w₁, hq, harr⟩ := h b (.inLoop c :: k) cs hro hb hr
  cases e with
  | normal =>
    obtain ⟨e₂, a₂, w₂, hq₂, harr₂⟩ := hq b k cs hro hb hr
    exact ⟨e₂, a₂, w₂, hq₂, .of_steps (StepsIn.trans harr (.one (fenced_calm hb hr rfl) stepR_inLoop)) harr₂⟩
  | exit id => exact ⟨_, a₁, w₁, hq, .pass (x := .inLoop c) rfl (fun _ _ => .inl (by simp)) harr⟩
  | goto l => exact ⟨_, a₁, w₁, hq, .pass (x := .inLoop c) rfl (fun _ _ => .inl (by simp)) harr⟩
  | ret => exact ⟨_, a₁, w₁, hq, .pass (x := .inLoop c) rfl (fun _ _ => .inl (by simp)) harr⟩
  | panic ch => exact ⟨_, a₁, w₁, hq, .pass (x := .inLoop c) rfl (fun _ _ => .inl (by simp)) harr⟩
  | outgrown => exact ⟨_, a₁, w₁, hq, .pass (x := .inLoop c) rfl (fun _ _ => .inl (by simp)) harr⟩

def wpL (P : Program) (ro : Option Nat) (c : Code) (Q : Exit → Act → World → Prop) (a : Act) (w : World) : Prop :=
  match c with
  | .loop b => loopWp (Fw ro) 0 P b Q a w
  | c => c.wpIn (Fw ro) 0 P Q a w

theorem wpL.wp {P : Program} {ro : Option Nat} {c : Code} {Q : Exit → Act → World → Prop} {a : Act} {w : World} (h : wpL P ro c Q a w) : c.wpIn (Fw ro) 0 P Q a w := by
  cases c <;> try exact h
  exact loopWp.wp h

/-- The loops of a function's code that runs. -/
def InF (P : Program) (N : Nat) (fo : Option FuncId) (c : Code) : Prop := ∀ f, fo = some f → ∃ fn body, P.funcs[f]? = some fn ∧ fn.body = some body ∧ fn.ntmps = N ∧ ∀ b, b ∈ loopsOf c → b ∈ loopsOf body

def RunOk (P : Program) (run : RunF) : Prop :=
  ∀ N fo (ro : Option Nat) c env hs ds κ G ρ H w a Q, G.P = P → InF P N fo c → Sat G ρ H w → HtOk hs H → EnvOk ρ (Fz G ρ H w) w env a N → DsOk ρ (Fz G ρ H w) w ds a.defers →
    run N fo ro.isSome c env hs ds κ → Done G ρ hs H w N Q κ → wpL P ro c Q a w

def LoopOk (P : Program) (N : Nat) (b : Code) (g : LK) : Prop :=
  ∀ env hs ds κ G ρ H w a Q, G.P = P → Sat G ρ H w → HtOk hs H → EnvOk ρ (Fz G ρ H w) w env a N → DsOk ρ (Fz G ρ H w) w ds a.defers →
    g env hs ds κ → Done G ρ hs H w N Q κ → loopWp (Fw none) 0 P b Q a w

def LtOk (P : Program) (lt : LT) : Prop := ∀ f fn body b g, P.funcs[f]? = some fn → fn.body = some body → b ∈ loopsOf body → lt f (loopId b) = some g → LoopOk P fn.ntmps b g

def CtOk (P : Program) (ct : CT) : Prop := ∀ f c, ct f = some c → CallOk P (fun f' args hs κ π => f' = f ∧ c args hs κ π)

def NameOk (P : Program) : Prop := ∀ (f : FuncId) (fn : Func), P.funcs[f]? = some fn → (fn.name == "runtime.NumGoroutine") = false

theorem run_callFunc {P : Program} (hN : NameOk P) {f : FuncId} {fn : Func} {c : Code} (hf : P.funcs[f]? = some fn) (hb : fn.body = some c) (xs : Array Value) (w : World) : (callFunc f xs).run P w = .ok (.enter f xs) w := by
  unfold callFunc
  simp only [Sem.run_bind, run_program, Result.andThen_ok, hf]
  rw [if_neg (by rw [hN f fn hf]; simp)]
  simp [hb]

variable {P : Program} {T : Tb}

def rvS (tmps : Array Value) : ResultVar → Sem Value
  | .tmp t => pure (tmps.getD t undef)
  | .cell ad t => do loadVar t (← asAddr (tmps.getD ad undef))

theorem resA_ok (hT : TbOk P T) {G : Ctx} {ρ : List Value} {H : Heap} {w : World} {hs : HS} (hst : Sat G ρ H w) (hh : HtOk hs H) {env : Tr AV} {a : Act} {N : Nat} (he : EnvOk ρ (Fz G ρ H w) w env a N) (l : List ResultVar) :
    ∀ vs, resA T env hs l = some vs → ∃ xs : List Value, (l.mapM (rvS a.tmps)).run P w = .ok xs w ∧ AllR (VR ρ (Fz G ρ H w) w) vs xs := by
  induction l with
  | nil => intro vs h; simp only [resA] at h; cases h; exact ⟨[], by simp, .nil⟩
  | cons r l ih =>
    intro vs h
    cases r with
    | tmp t =>
      simp only [resA] at h
      split at h
      · rename_i v hv
        split at h
        · rename_i l' hl
          cases h
          obtain ⟨xs, h1, h2⟩ := ih l' hl
          exact ⟨a.tmps.getD t undef :: xs, by simp only [List.mapM_cons, Sem.run_bind, rvS, Sem.run_pure, Result.andThen_ok, h1], .cons (he.2 t v hv).2 h2⟩
        · cases h
      · cases h
    | cell ad ty =>
      simp only [resA] at h
      split at h
      · rename_i i hi
        split at h
        · rename_i id off hv
          split at h
          · rename_i ty' ag m v0 hg
            split at h
            · rename_i v hp
              split at h
              · rename_i l' hl
                cases h
                obtain ⟨xs, h1, h2⟩ := ih l' hl
                obtain ⟨info, d, hok⟩ := hT ty i hi
                have hve := (he.2 ad _ hv).2
                generalize hx : a.tmps.getD ad undef = x at hve
                cases hve with
                | ptr _ _ b hb =>
                  obtain ⟨hm, hag, b', vs', e, hhb, hl', hc⟩ := hst.obj id _ _ (hh.2 _ _ hg) hb
                  cases e
                  obtain ⟨y, hy, hvy⟩ := run_load_part (P := P) (o := 0) (off := off) hok hm hag (vs := vs'.toList) ⟨by simpa using hl', fun i c x h1 h2 => hc i c x h1 (by simpa using h2)⟩ (b := b)
                    (fun j x hj => by rw [cell_of_row w b _ vs' ty' (0, 0) hhb]; simpa using hj) hp
                  simp only [Nat.zero_add] at hy
                  refine ⟨y :: xs, ?_, .cons hvy h2⟩
                  have hr : (rvS a.tmps (.cell ad ty)).run P w = .ok y w := by
                    simp only [rvS, Sem.run_bind, hx, asAddr, Sem.run_pure, Result.andThen_ok, hy]
                  simp only [List.mapM_cons, Sem.run_bind, hr, Sem.run_pure, Result.andThen_ok, h1]
              · cases h
            · cases h
          · cases h
        · cases h
      · cases h

theorem oneA_ok {ρ : List Value} {S : Nat → Prop} {w : World} {vs : List AV} {xs : List Value} (h : AllR (VR ρ S w) vs xs) : VR ρ S w (oneA vs) (if h : xs.toArray.size = 1 then xs.toArray[0] else .tuple xs.toArray) := by
  match vs, xs, h with
  | [], [], h => exact .tup _ _ rfl (fun i c x h => by simp at h)
  | [v], [x], h => simp [oneA]; exact h.2 0 v x rfl rfl
  | v :: v' :: r, x :: x' :: s, h =>
    simp only [oneA]
    rw [dif_neg (by simp)]
    exact .tup _ _ (by simpa using h.1) (fun i c y h1 h2 => h.2 i c y h1 (by simpa using h2))
  | [], _ :: _, h => have := h.1; simp at this
  | [_], [], h => have := h.1; simp at this
  | [_], _ :: _ :: _, h => have := h.1; simp at this
  | _ :: _ :: _, [], h => have := h.1; simp at this
  | _ :: _ :: _, [_], h => have := h.1; simp at this

theorem results_ok (hT : TbOk P T) {G : Ctx} {ρ : List Value} {H : Heap} {w : World} {hs : HS} (hst : Sat G ρ H w) (hh : HtOk hs H) {env : Tr AV} {a : Act} {N : Nat} (he : EnvOk ρ (Fz G ρ H w) w env a N) {fn : Func} {l : List AV}
    (h : resA T env hs fn.results.toList = some l) : ∃ x, (results fn a.tmps).run P w = .ok x w ∧ VR ρ (Fz G ρ H w) w (oneA l) x := by
  obtain ⟨xs, h1, h2⟩ := resA_ok hT hst hh he _ l h
  refine ⟨_, ?_, oneA_ok h2⟩
  unfold results
  rw [Array.mapM_eq_mapM_toList]
  simp only [Sem.run_bind, map_eq_pure_bind, bind_assoc]
  have : ∀ (g : ResultVar → Sem Value) (h : g = (rvS a.tmps)), (List.mapM g fn.results.toList).run P w = .ok xs w := by
    intro g hg
    rw [hg]
    exact h1
  rw [this _ (by funext r; cases r <;> rfl)]
  simp only [Result.andThen_ok, Sem.run_bind, Sem.run_pure]

theorem envFrom_ok {ρ : List Value} {S : Nat → Prop} {w : World} (N : Nat) (xs : Array Value) : ∀ (l : List AV) (i : Nat) (t : Tr AV),
    (∀ (j : Nat) (v : AV), l[j]? = some v → i + j < N ∧ VR ρ S w v (xs.getD (i + j) undef)) → (∀ j v, t.get j = some v → j < N ∧ VR ρ S w v (xs.getD j undef)) →
    ∀ j v, (envFrom t i l).get j = some v → j < N ∧ VR ρ S w v (xs.getD j undef) := by
  intro l
  induction l with
  | nil => intro i t _ h; exact h
  | cons v r ih =>
    intro i t h1 h2
    refine ih (i + 1) _ (fun j u hj => ?_) (fun j u hj => ?_)
    · have := h1 (j + 1) u (by simpa using hj)
      rw [show i + 1 + j = i + (j + 1) by omega]
      exact this
    · rcases Tr.get_set 64 _ _ _ _ _ hj with ⟨rfl, rfl⟩ | ⟨_, hg⟩
      · exact h1 0 u rfl
      · exact h2 j u hg

theorem enter_env {ρ : List Value} {S : Nat → Prop} {w : World} {args : List AV} {xs : Array Value} {N : Nat} (h : AllR (VR ρ S w) args xs.toList) (hl : args.length ≤ N) :
    EnvOk ρ S w (envFrom .nil 0 args) { tmps := xs ++ Array.replicate (N - xs.size) undef, defers := [] } N := by
  have hx : xs.size = args.length := by rw [← h.1]; simp
  refine ⟨by simp [hx]; omega, envFrom_ok N _ args 0 .nil (fun j v hj => ?_) (fun j v hj => by rw [Tr.get_nil] at hj; cases hj)⟩
  obtain ⟨x, h1, h2⟩ := h.get hj
  have hjl := (List.getElem?_eq_some_iff.1 hj).1
  refine ⟨by omega, ?_⟩
  rw [Nat.zero_add]
  have : (xs ++ Array.replicate (N - xs.size) undef).getD j undef = x := by
    rw [Array.getD_eq_getD_getElem?, Array.getElem?_append_left (by omega)]
    have : xs[j]? = some x := by simpa using h1
    rw [this]
    rfl
  rw [this]
  exact h2

theorem DsOk.nil {ρ : List Value} {S : Nat → Prop} {w : World} : DsOk ρ S w [] [] := ⟨rfl, fun i d e h => by simp at h⟩

/-- The mode of a frame that ends. -/
def modeR (ρ : List Value) (S : Nat → Prop) (w : World) : Option AV → FrameMode → Prop
  | none, u => u = .returning
  | some v, u => ∃ x, u = .panicking [{ v := x, recovered := false }] ∧ VR ρ S w v x

/-- A loop's record is written. -/
theorem Sat.putLoop {G : Ctx} {ρ : List Value} {H : Heap} {w : World} (h : Sat G ρ H w) {id l N : Nat} {st : LoopState} {pend : Option Code} {ps : List Tmp} {as bd : Code} {env : Tr AV} (h0 : H[id]? = some (.lp st pend N ps as bd env)) (hρ : ρ[id]? = some (.func (.yield l) #[] #[])) :
    ∃ r : Loop, w.heap[l]? = some (.loop r) ∧ r.state = st ∧ r.pending = pend ∧ r.params = ps.toArray ∧ r.assign = as ∧ r.body = bd ∧ r.tmps.size = N ∧
      (∀ t v, env.get t = some v → t < N ∧ VR ρ (Fz G ρ H w) w v (r.tmps.getD t undef)) ∧
      (∀ (st' : LoopState) (pend' : Option Code), Sat G ρ (H.set id (.lp st' pend' N ps as bd env)) (w.putObj l (.loop { r with state := st', pending := pend' })) ∧ Step ρ ρ H (H.set id (.lp st' pend' N ps as bd env)) w (w.putObj l (.loop { r with state := st', pending := pend' }))) ∧
      (∀ (st' : LoopState) (pend' : Option Code), Sat G ρ (H.set id .dead) (w.putObj l (.loop { r with state := st', pending := pend' })) ∧ Step ρ ρ H (H.set id .dead) w (w.putObj l (.loop { r with state := st', pending := pend' }))) := by
  obtain ⟨l', e, fn, tmps, dfs, hh, hn, he⟩ := h.obj id _ _ h0 hρ
  cases e
  have hlt := (Array.getElem?_eq_some_iff.1 hh).1
  refine ⟨_, hh, rfl, rfl, rfl, rfl, rfl, hn, he, fun st' pend' => ?_, fun st' pend' => ?_⟩
  · have := h.change (w' := w.putObj l (.loop { state := st', pending := pend', fn := fn, tmps := tmps, params := ps.toArray, assign := as, body := bd, defers := dfs })) h0 hρ (.lp st' pend' N ps as bd env) (.func (.yield l) #[] #[]) rfl rfl rfl (by simp)
      (fun b hb hne => World.putObj_heap_other (fun e => hne rfl (by rw [e]; rfl))) (fun b _ hb => .inl ⟨rfl, hb⟩) (.inl rfl)
      (fun hk hr => ⟨l, rfl, fn, tmps, dfs, World.putObj_heap_same hlt, hn, fun t v ht => ⟨(he t v ht).1, (he t v ht).2.keep hr hk⟩⟩)
    rw [set_same hρ] at this
    exact this
  · have := h.change (w' := w.putObj l (.loop { state := st', pending := pend', fn := fn, tmps := tmps, params := ps.toArray, assign := as, body := bd, defers := dfs })) h0 hρ .dead (.func (.yield l) #[] #[]) rfl rfl rfl (by simp)
      (fun b hb hne => World.putObj_heap_other (fun e => hne rfl (by rw [e]; rfl))) (fun b hb _ => by cases hb) (.inl rfl)
      (fun hk hr => trivial)
    rw [set_same hρ] at this
    exact this

theorem setPs_ok {ρ : List Value} {S : Nat → Prop} {w : World} {N : Nat} : ∀ (ps : List Tmp) (args : List AV) (xs : List Value) (env : Tr AV) (tmps : Array Value), args.length = ps.length → AllR (VR ρ S w) args xs → EnvOk ρ S w env { tmps := tmps, defers := [] } N →
    EnvOk ρ S w (setPs N ps args env) { tmps := (ps.zip xs).foldl (fun tmps (t, a) => tmps.setIfInBounds t a) tmps, defers := [] } N := by
  intro ps
  induction ps with
  | nil =>
    intro args xs env tmps hl hx he
    cases args with
    | nil => exact he
    | cons => simp at hl
  | cons t ps ih =>
    intro args xs env tmps hl hx he
    cases args with
    | nil => simp at hl
    | cons v args =>
      cases xs with
      | nil => have := hx.1; simp at this
      | cons x xs =>
        simp only [setPs, List.zip_cons_cons, List.foldl_cons]
        refine ih args xs _ _ (by simpa using hl) ⟨by have := hx.1; simpa using this, fun i c y h1 h2 => hx.2 (i + 1) c y (by simpa using h1) (by simpa using h2)⟩ ?_
        have := he.put (some t) (hx.2 0 v x rfl rfl)
        exact this

theorem Step.rpf {ρ ρ' : List Value} {H H' : Heap} {w w' : World} (s : Step ρ ρ' H H' w w') {id l : Nat} (h : ρ[id]? = some (.func (.yield l) #[] #[])) : ρ'[id]? = some (.func (.yield l) #[] #[]) := by
  obtain ⟨h', hh, e⟩ := s.rp id _ h
  rcases e with rfl | ⟨_, _, _, _, _, _, e, _⟩ | e
  · exact hh
  · cases e
  · cases e

end Go.Rc
