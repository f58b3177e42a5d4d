/- A run of a function, computed on abstract values: blocks, loops, calls, calls that wait, panics that are caught. Conditions: none. -/
import Derived.Test.YtpddpbcfkmnmaaaGreatDoorRcDraw5
import Derived.RecoverIn
set_option linter.unusedVariables false
set_option linter.unusedSimpArgs false
namespace Go.Rc

noncomputable def resA (T : Tb) (env : Tr AV) (hs : HS) : List ResultVar → Option (List AV)
  | [] => some []
  | .tmp t :: r => match env.get t with
    | some v => match resA T env hs r with
      | some l => some (v :: l)
      | none => none
    | none => none
  | .cell ad ty :: r => match T ty with
    | some i => match env.get ad with
      | some (.ptr id off) => match hs.t.get id with
        | some (.var _ ag m v0) => match part i.agg i.sz off ag m v0 with
          | some v => match resA T env hs r with
            | some l => some (v :: l)
            | none => none
          | none => none
        | _ => none
      | _ => none
    | none => none

def oneA : List AV → AV
  | [v] => v
  | l => .tup l

noncomputable def envFrom (t : Tr AV) : Nat → List AV → Tr AV
  | _, [] => t
  | i, v :: r => envFrom (t.set 64 i v) (Nat.succ i) r

/-- A function that was deferred: it asks first what is to be recovered. m: the panic that is under way. -/
noncomputable def exDf (P : Program) (T : Tb) (run : Nat → Bool → Code → Tr AV → HS → List Df → Res) (f : FuncId) (args : List AV) (m : Option AV) (hs : HS) : CR :=
  match P.funcs[f]? with
  | some fn => match fn.body with
    | some (.seq (.region _ ops false) rest) => match ops.toList with
      | [o0, o1] => match o0.guard with
        | none => match o1.guard with
          | none => match o0.op with
            | .call c => match c.callee with
              | .builtin .recover => match Nat.ble args.length fn.ntmps with
                | true => match fn.results.toList with
                  | [] => match (match o1.op with | .assign x => evO (setO fn.ntmps (envFrom .nil 0 args) o0.dst (match m with | some v => v | none => .d (.v .nilIface))) x | _ => none) with
                    | some v1 => match run fn.ntmps false rest (setO fn.ntmps (setO fn.ntmps (envFrom .nil 0 args) o0.dst (match m with | some v => v | none => .d (.v .nilIface))) o1.dst v1) hs [] with
                      | .mk .norm _ hs' [] => .ret (.tup []) hs' none
                      | .mk .ret _ hs' [] => .ret (.tup []) hs' none
                      | _ => .no
                    | none => .no
                  | _ => .no
                | false => .no
              | _ => .no
            | _ => .no
          | _ => .no
        | _ => .no
      | _ => .no
    | _ => .no
  | none => .no

/-- The calls that wait, one behind the other. none: the function's end is no panic. -/
noncomputable def exDs (P : Program) (T : Tb) (run : Nat → Bool → Code → Tr AV → HS → List Df → Res) : List Df → Option AV → HS → CR
  | [], none, hs => .ret (.tup []) hs none
  | [], some v, hs => .pan v hs
  | .call f args caps :: r, m, hs => match exDf P T run f (args ++ caps) m hs with
    | .ret _ hs' _ => exDs P T run r none hs'
    | _ => .no
  | .mark id :: r, m, hs => match hs.t.get id with
    | some .dfr => exDs P T run r m (hs.put id .dead)
    | _ => .no

/-- A call. -/
noncomputable def exF (P : Program) (T : Tb) (run : Nat → Bool → Code → Tr AV → HS → List Df → Res) (f : FuncId) (args : List AV) (hs : HS) : CR :=
  match P.funcs[f]? with
  | some fn => match fn.body with
    | some c => match Nat.ble args.length fn.ntmps with
      | true => match run fn.ntmps false c (envFrom .nil 0 args) hs [] with
        | .mk fin env hs' ds => match fin with
          | .pan v => match exDs P T run ds (some v) hs' with
            | .ret _ hs2 _ => match resA T env hs2 fn.results.toList with
              | some l => .ret (oneA l) hs2 none
              | none => .no
            | r => r
          | .exit _ => .no
          | _ => match exDs P T run ds none hs' with
            | .ret _ hs2 _ => match resA T env hs2 fn.results.toList with
              | some l => .ret (oneA l) hs2 none
              | none => .no
            | r => r
        | .no => .no
      | false => .no
    | none => .no
  | none => .no

/-- What is known of a call, ahead of a run of it. -/
noncomputable def hook (ct : FuncId → List AV → HS → CR) (g : FuncId → List AV → HS → CR) (f : FuncId) (args : List AV) (hs : HS) : CR :=
  match ct f args hs with
  | .no => g f args hs
  | r => r

noncomputable def setPs (N : Nat) : List Tmp → List AV → Tr AV → Tr AV
  | t :: ts, v :: vs, env => setPs N ts vs (setO N env (some t) v)
  | _, _, env => env

/-- A round of a range over a function. -/
noncomputable def exRound (run : Nat → Bool → Code → Tr AV → HS → List Df → Res) (id : Nat) (args : List AV) (hs : HS) : CR :=
  match hs.t.get id with
  | some (.lp .ready _ N ps assign body env) => match Nat.beq args.length ps.length with
    | true => match run N true assign (setPs N ps args env) hs [] with
      | .mk .norm env1 hs1 [] => match hs1.t.get id with
        | some (.lp .ready pend1 N1 ps1 as1 bd1 en1) => match run N true body env1 (hs1.put id (.lp .busy pend1 N1 ps1 as1 bd1 en1)) [] with
          | .mk fin _ hs2 [] => match hs2.t.get id with
            | some (.lp _ _ N2 ps2 as2 bd2 en2) => match fin with
              | .norm => .ret (.d (.v (.bool true))) (hs2.put id (.lp .ready none N2 ps2 as2 bd2 en2)) none
              | .ret => .ret (.d (.v (.bool false))) (hs2.put id (.lp .done (some .ret) N2 ps2 as2 bd2 en2)) none
              | .exit e => .ret (.d (.v (.bool false))) (hs2.put id (.lp .done (some (.exit e)) N2 ps2 as2 bd2 en2)) none
              | .pan _ => .no
            | _ => .no
          | _ => .no
        | _ => .no
      | _ => .no
    | false => .no
  | _ => .no

noncomputable def hasBody (P : Program) (f : FuncId) : Bool := match P.funcs[f]? with
  | some fn => match fn.body with
    | some _ => true
    | none => false
  | none => false

/-- A range over a function. -/
noncomputable def exRange (P : Program) (cf : FuncId → List AV → HS → CR) (N : Nat) (g : Operand) (ps : Array Tmp) (assign body : Code) (env : Tr AV) (hs : HS) (ds : List Df) : Res :=
  match evO env g with
  | some (.fn f first caps) => match hasBody P f with
    | true => match cf f (first ++ [.yl (Nat.succ hs.n)] ++ caps) ((hs.push .dfr).push (.lp .ready none N ps.toList assign body env)) with
      | .ret _ hs3 _ => match hs3.t.get (Nat.succ hs.n) with
        | some (.lp st pend _ _ _ _ _) => match st with
          | .busy => .no
          | _ => match pend with
            | none => .mk .norm env (hs3.put (Nat.succ hs.n) .dead) (.mark hs.n :: ds)
            | some .ret => .mk .ret env (hs3.put (Nat.succ hs.n) .dead) (.mark hs.n :: ds)
            | some (.exit e) => .mk (.exit e) env (hs3.put (Nat.succ hs.n) .dead) (.mark hs.n :: ds)
            | _ => .no
        | _ => .no
      | _ => .no
    | false => .no
  | _ => .no

noncomputable def exStep0 (P : Program) (T : Tb) (ct : FuncId → List AV → HS → CR) (run : Nat → Bool → Code → Tr AV → HS → List Df → Res) (N : Nat) (inR : Bool) (c : Code) (env : Tr AV) (hs : HS) (ds : List Df) : Res :=
  match c with
  | .skip => .mk .norm env hs ds
  | .label _ => .mk .norm env hs ds
  | .region _ ops false => exOps T (hook ct (exF P T run)) (exRound run) inR N ops.toList ops.toList env hs ds
  | .region _ ops true => exD T (hook ct (exF P T run)) N ops.toList env hs ds
  | .seq a b => match run N inR a env hs ds with
    | .mk .norm env' hs' ds' => run N inR b env' hs' ds'
    | r => r
  | .cond c a b => match evO env c with
    | some (.d (.v (.bool t))) => match t with
      | true => run N inR a env hs ds
      | false => run N inR b env hs ds
    | _ => .no
  | .block id c => match run N inR c env hs ds with
    | .mk (.exit id') env' hs' ds' => match Nat.beq id' id with
      | true => .mk .norm env' hs' ds'
      | false => .mk (.exit id') env' hs' ds'
    | r => r
  | .loop c => match run N inR c env hs ds with
    | .mk .norm env' hs' ds' => run N inR (.loop c) env' hs' ds'
    | r => r
  | .rangeFunc g ps assign body => match inR with
    | true => .no
    | false => exRange P (hook ct (exF P T run)) N g ps assign body env hs ds
  | .scope c => run N inR c env hs ds
  | .exit id => .mk (.exit id) env hs ds
  | .ret => .mk .ret env hs ds
  | _ => .no


noncomputable def es_norm (P : Program) (T : Tb) (ct : FuncId → List AV → HS → CR) (run : Nat → Bool → Code → Tr AV → HS → List Df → Res) (N : Nat) (inR : Bool) (env : Tr AV) (hs : HS) (ds : List Df) : Res := .mk .norm env hs ds
noncomputable def es_label (l : Nat) (P : Program) (T : Tb) (ct : FuncId → List AV → HS → CR) (run : Nat → Bool → Code → Tr AV → HS → List Df → Res) (N : Nat) (inR : Bool) (env : Tr AV) (hs : HS) (ds : List Df) : Res := .mk .norm env hs ds
noncomputable def es_region (id : Nat) (ops : Array Oper) (draw : Bool) (P : Program) (T : Tb) (ct : FuncId → List AV → HS → CR) (run : Nat → Bool → Code → Tr AV → HS → List Df → Res) (N : Nat) (inR : Bool) (env : Tr AV) (hs : HS) (ds : List Df) : Res :=
  match draw with
  | false => exOps T (hook ct (exF P T run)) (exRound run) inR N ops.toList ops.toList env hs ds
  | true => exD T (hook ct (exF P T run)) N ops.toList env hs ds
noncomputable def es_seq (a b : Code) (P : Program) (T : Tb) (ct : FuncId → List AV → HS → CR) (run : Nat → Bool → Code → Tr AV → HS → List Df → Res) (N : Nat) (inR : Bool) (env : Tr AV) (hs : HS) (ds : List Df) : Res :=
  match run N inR a env hs ds with
  | .mk .norm env' hs' ds' => run N inR b env' hs' ds'
  | r => r
noncomputable def es_cond (c : Operand) (a b : Code) (P : Program) (T : Tb) (ct : FuncId → List AV → HS → CR) (run : Nat → Bool → Code → Tr AV → HS → List Df → Res) (N : Nat) (inR : Bool) (env : Tr AV) (hs : HS) (ds : List Df) : Res :=
  match evO env c with
  | some (.d (.v (.bool t))) => match t with
    | true => run N inR a env hs ds
    | false => run N inR b env hs ds
  | _ => .no
noncomputable def es_block (id : Nat) (c : Code) (P : Program) (T : Tb) (ct : FuncId → List AV → HS → CR) (run : Nat → Bool → Code → Tr AV → HS → List Df → Res) (N : Nat) (inR : Bool) (env : Tr AV) (hs : HS) (ds : List Df) : Res :=
  match run N inR c env hs ds with
  | .mk (.exit id') env' hs' ds' => match Nat.beq id' id with
    | true => .mk .norm env' hs' ds'
    | false => .mk (.exit id') env' hs' ds'
  | r => r
noncomputable def es_loop (c : Code) (P : Program) (T : Tb) (ct : FuncId → List AV → HS → CR) (run : Nat → Bool → Code → Tr AV → HS → List Df → Res) (N : Nat) (inR : Bool) (env : Tr AV) (hs : HS) (ds : List Df) : Res :=
  match run N inR c env hs ds with
  | .mk .norm env' hs' ds' => run N inR (.loop c) env' hs' ds'
  | r => r
noncomputable def es_rangeFunc (g : Operand) (ps : Array Tmp) (assign body : Code) (P : Program) (T : Tb) (ct : FuncId → List AV → HS → CR) (run : Nat → Bool → Code → Tr AV → HS → List Df → Res) (N : Nat) (inR : Bool) (env : Tr AV) (hs : HS) (ds : List Df) : Res :=
  match inR with
  | true => .no
  | false => exRange P (hook ct (exF P T run)) N g ps assign body env hs ds
noncomputable def es_exit (id : Nat) (P : Program) (T : Tb) (ct : FuncId → List AV → HS → CR) (run : Nat → Bool → Code → Tr AV → HS → List Df → Res) (N : Nat) (inR : Bool) (env : Tr AV) (hs : HS) (ds : List Df) : Res := .mk (.exit id) env hs ds
noncomputable def es_scope (c : Code) (P : Program) (T : Tb) (ct : FuncId → List AV → HS → CR) (run : Nat → Bool → Code → Tr AV → HS → List Df → Res) (N : Nat) (inR : Bool) (env : Tr AV) (hs : HS) (ds : List Df) : Res := run N inR c env hs ds
noncomputable def es_goto (l : Nat) (P : Program) (T : Tb) (ct : FuncId → List AV → HS → CR) (run : Nat → Bool → Code → Tr AV → HS → List Df → Res) (N : Nat) (inR : Bool) (env : Tr AV) (hs : HS) (ds : List Df) : Res := .no
noncomputable def es_ret (P : Program) (T : Tb) (ct : FuncId → List AV → HS → CR) (run : Nat → Bool → Code → Tr AV → HS → List Df → Res) (N : Nat) (inR : Bool) (env : Tr AV) (hs : HS) (ds : List Df) : Res := .mk .ret env hs ds
noncomputable def es_refuse (w : String) (P : Program) (T : Tb) (ct : FuncId → List AV → HS → CR) (run : Nat → Bool → Code → Tr AV → HS → List Df → Res) (N : Nat) (inR : Bool) (env : Tr AV) (hs : HS) (ds : List Df) : Res := .no

noncomputable def exStep (P : Program) (T : Tb) (ct : FuncId → List AV → HS → CR) (run : Nat → Bool → Code → Tr AV → HS → List Df → Res) (N : Nat) (inR : Bool) (c : Code) (env : Tr AV) (hs : HS) (ds : List Df) : Res :=
  @Code.casesOn (fun _ => Program → Tb → (FuncId → List AV → HS → CR) → (Nat → Bool → Code → Tr AV → HS → List Df → Res) → Nat → Bool → Tr AV → HS → List Df → Res) c
    es_norm es_region es_seq es_cond es_block es_loop es_rangeFunc es_exit es_scope es_label es_goto es_ret es_refuse P T ct run N inR env hs ds

theorem exStep_eq (P : Program) (T : Tb) (ct : FuncId → List AV → HS → CR) (run : Nat → Bool → Code → Tr AV → HS → List Df → Res) (N : Nat) (inR : Bool) (c : Code) (env : Tr AV) (hs : HS) (ds : List Df) :
    exStep P T ct run N inR c env hs ds = exStep0 P T ct run N inR c env hs ds := by
  cases c with
  | region id ops draw => cases draw <;> rfl
  | _ => rfl

noncomputable def exC (P : Program) (T : Tb) (ct : FuncId → List AV → HS → CR) (k : Nat) : Nat → Bool → Code → Tr AV → HS → List Df → Res :=
  Nat.rec (motive := fun _ => Nat → Bool → Code → Tr AV → HS → List Df → Res) (fun _ _ _ _ _ _ => .no) (fun _ ih => exStep P T ct ih) k

/-! ### soundness -/
def wpL (P : Program) (ro : Option Nat) (k : Nat) (c : Code) (Q : Exit → Act → World → Prop) (a : Act) (w : World) : Prop :=
  match c with
  | .loop b => Code.roundsIn (Fw ro) 0 P b Q k a w
  | c => c.wpIn (Fw ro) 0 P Q a w

theorem wpL.wp {P : Program} {ro : Option Nat} {k : Nat} {c : Code} {Q : Exit → Act → World → Prop} {a : Act} {w : World} (h : wpL P ro k c Q a w) : c.wpIn (Fw ro) 0 P Q a w := by
  cases c <;> try exact h
  exact wpIn_loop_rounds k h

def RunOk (P : Program) (k : Nat) (run : Nat → Bool → Code → Tr AV → HS → List Df → Res) : Prop :=
  ∀ N (ro : Option Nat) c env hs ds G ρ H w a Q, G.P = P → Sat G ρ H w → HtOk hs H → EnvOk ρ (Fz G ρ H w) w env a N → DsOk ρ (Fz G ρ H w) w ds a.defers →
    Done G ρ H w N Q (run N ro.isSome c env hs ds) → wpL P ro k c Q a w

def NameOk (P : Program) : Prop := ∀ (f : FuncId) (fn : Func), P.funcs[f]? = some fn → (fn.name == "runtime.NumGoroutine") = false

theorem run_callFunc {P : Program} (hN : NameOk P) {f : FuncId} {fn : Func} {c : Code} (hf : P.funcs[f]? = some fn) (hb : fn.body = some c) (xs : Array Value) (w : World) : (callFunc f xs).run P w = .ok (.enter f xs) w := by
  unfold callFunc
  simp only [Sem.run_bind, run_program, Result.andThen_ok, hf]
  rw [if_neg (by rw [hN f fn hf]; simp)]
  simp [hb]

variable {P : Program} {T : Tb}

def rvS (tmps : Array Value) : ResultVar → Sem Value
  | .tmp t => pure (tmps.getD t undef)
  | .cell ad t => do loadVar t (← asAddr (tmps.getD ad undef))

theorem resA_ok (hT : TbOk P T) {G : Ctx} {ρ : List Value} {H : Heap} {w : World} {hs : HS} (hst : Sat G ρ H w) (hh : HtOk hs H) {env : Tr AV} {a : Act} {N : Nat} (he : EnvOk ρ (Fz G ρ H w) w env a N) (l : List ResultVar) :
    ∀ vs, resA T env hs l = some vs → ∃ xs : List Value, (l.mapM (rvS a.tmps)).run P w = .ok xs w ∧ AllR (VR ρ (Fz G ρ H w) w) vs xs := by
  induction l with
  | nil => intro vs h; simp only [resA] at h; cases h; exact ⟨[], by simp, .nil⟩
  | cons r l ih =>
    intro vs h
    cases r with
    | tmp t =>
      simp only [resA] at h
      split at h
      · rename_i v hv
        split at h
        · rename_i l' hl
          cases h
          obtain ⟨xs, h1, h2⟩ := ih l' hl
          exact ⟨a.tmps.getD t undef :: xs, by simp only [List.mapM_cons, Sem.run_bind, rvS, Sem.run_pure, Result.andThen_ok, h1], .cons (he.2 t v hv).2 h2⟩
        · cases h
      · cases h
    | cell ad ty =>
      simp only [resA] at h
      split at h
      · rename_i i hi
        split at h
        · rename_i id off hv
          split at h
          · rename_i ty' ag m v0 hg
            split at h
            · rename_i v hp
              split at h
              · rename_i l' hl
                cases h
                obtain ⟨xs, h1, h2⟩ := ih l' hl
                obtain ⟨info, d, hok⟩ := hT ty i hi
                have hve := (he.2 ad _ hv).2
                generalize hx : a.tmps.getD ad undef = x at hve
                cases hve with
                | ptr _ _ b hb =>
                  obtain ⟨hm, hag, b', vs', e, hhb, hl', hc⟩ := hst.obj id _ _ (hh.2 _ _ hg) hb
                  cases e
                  obtain ⟨y, hy, hvy⟩ := run_load_part (P := P) (o := 0) (off := off) hok hm hag (vs := vs'.toList) ⟨by simpa using hl', fun i c x h1 h2 => hc i c x h1 (by simpa using h2)⟩ (b := b)
                    (fun j x hj => by rw [cell_of_row w b _ vs' ty' (0, 0) hhb]; simpa using hj) hp
                  simp only [Nat.zero_add] at hy
                  refine ⟨y :: xs, ?_, .cons hvy h2⟩
                  have hr : (rvS a.tmps (.cell ad ty)).run P w = .ok y w := by
                    simp only [rvS, Sem.run_bind, hx, asAddr, Sem.run_pure, Result.andThen_ok, hy]
                  simp only [List.mapM_cons, Sem.run_bind, hr, Sem.run_pure, Result.andThen_ok, h1]
              · cases h
            · cases h
          · cases h
        · cases h
      · cases h

theorem oneA_ok {ρ : List Value} {S : Nat → Prop} {w : World} {vs : List AV} {xs : List Value} (h : AllR (VR ρ S w) vs xs) : VR ρ S w (oneA vs) (if h : xs.toArray.size = 1 then xs.toArray[0] else .tuple xs.toArray) := by
  match vs, xs, h with
  | [], [], h => exact .tup _ _ rfl (fun i c x h => by simp at h)
  | [v], [x], h => simp [oneA]; exact h.2 0 v x rfl rfl
  | v :: v' :: r, x :: x' :: s, h =>
    simp only [oneA]
    rw [dif_neg (by simp)]
    exact .tup _ _ (by simpa using h.1) (fun i c y h1 h2 => h.2 i c y h1 (by simpa using h2))
  | [], _ :: _, h => have := h.1; simp at this
  | [_], [], h => have := h.1; simp at this
  | [_], _ :: _ :: _, h => have := h.1; simp at this
  | _ :: _ :: _, [], h => have := h.1; simp at this
  | _ :: _ :: _, [_], h => have := h.1; simp at this

theorem results_ok (hT : TbOk P T) {G : Ctx} {ρ : List Value} {H : Heap} {w : World} {hs : HS} (hst : Sat G ρ H w) (hh : HtOk hs H) {env : Tr AV} {a : Act} {N : Nat} (he : EnvOk ρ (Fz G ρ H w) w env a N) {fn : Func} {l : List AV}
    (h : resA T env hs fn.results.toList = some l) : ∃ x, (results fn a.tmps).run P w = .ok x w ∧ VR ρ (Fz G ρ H w) w (oneA l) x := by
  obtain ⟨xs, h1, h2⟩ := resA_ok hT hst hh he _ l h
  refine ⟨_, ?_, oneA_ok h2⟩
  unfold results
  rw [Array.mapM_eq_mapM_toList]
  simp only [Sem.run_bind, map_eq_pure_bind, bind_assoc]
  have : ∀ (g : ResultVar → Sem Value) (h : g = (rvS a.tmps)), (List.mapM g fn.results.toList).run P w = .ok xs w := by
    intro g hg
    rw [hg]
    exact h1
  rw [this _ (by funext r; cases r <;> rfl)]
  simp only [Result.andThen_ok, Sem.run_bind, Sem.run_pure]

theorem envFrom_ok {ρ : List Value} {S : Nat → Prop} {w : World} (N : Nat) (xs : Array Value) : ∀ (l : List AV) (i : Nat) (t : Tr AV),
    (∀ (j : Nat) (v : AV), l[j]? = some v → i + j < N ∧ VR ρ S w v (xs.getD (i + j) undef)) → (∀ j v, t.get j = some v → j < N ∧ VR ρ S w v (xs.getD j undef)) →
    ∀ j v, (envFrom t i l).get j = some v → j < N ∧ VR ρ S w v (xs.getD j undef) := by
  intro l
  induction l with
  | nil => intro i t _ h; exact h
  | cons v r ih =>
    intro i t h1 h2
    refine ih (i + 1) _ (fun j u hj => ?_) (fun j u hj => ?_)
    · have := h1 (j + 1) u (by simpa using hj)
      rw [show i + 1 + j = i + (j + 1) by omega]
      exact this
    · rcases Tr.get_set 64 _ _ _ _ _ hj with ⟨rfl, rfl⟩ | ⟨_, hg⟩
      · exact h1 0 u rfl
      · exact h2 j u hg

theorem enter_env {ρ : List Value} {S : Nat → Prop} {w : World} {args : List AV} {xs : Array Value} {N : Nat} (h : AllR (VR ρ S w) args xs.toList) (hl : args.length ≤ N) :
    EnvOk ρ S w (envFrom .nil 0 args) { tmps := xs ++ Array.replicate (N - xs.size) undef, defers := [] } N := by
  have hx : xs.size = args.length := by rw [← h.1]; simp
  refine ⟨by simp [hx]; omega, envFrom_ok N _ args 0 .nil (fun j v hj => ?_) (fun j v hj => by rw [Tr.get_nil] at hj; cases hj)⟩
  obtain ⟨x, h1, h2⟩ := h.get hj
  have hjl := (List.getElem?_eq_some_iff.1 hj).1
  refine ⟨by omega, ?_⟩
  rw [Nat.zero_add]
  have : (xs ++ Array.replicate (N - xs.size) undef).getD j undef = x := by
    rw [Array.getD_eq_getD_getElem?, Array.getElem?_append_left (by omega)]
    have : xs[j]? = some x := by simpa using h1
    rw [this]
    rfl
  rw [this]
  exact h2

theorem DsOk.nil {ρ : List Value} {S : Nat → Prop} {w : World} : DsOk ρ S w [] [] := ⟨rfl, fun i d e h => by simp at h⟩

/-- The mode of a frame that ends. -/
def modeR (ρ : List Value) (S : Nat → Prop) (w : World) : Option AV → FrameMode → Prop
  | none, u => u = .returning
  | some v, u => ∃ x, u = .panicking [{ v := x, recovered := false }] ∧ VR ρ S w v x

theorem exDf_ok (hT : TbOk P T) {run : Nat → Bool → Code → Tr AV → HS → List Df → Res} {k : Nat} (hrun : RunOk P k run) {f : FuncId} {args : List AV} {m : Option AV} {hs hs' : HS} {rv : AV} {G : Ctx} {ρ : List Value} {H : Heap} {w : World} {xs : Array Value} {u : FrameMode}
    (hG : G.P = P) (hst : Sat G ρ H w) (hh : HtOk hs H) (hargs : AllR (VR ρ (Fz G ρ H w) w) args xs.toList) (hu : modeR ρ (Fz G ρ H w) w m u) (h : exDf P T run f args m hs = .ret rv hs' none) {R : Ending → FrameMode → World → Prop}
    (hR : ∀ ρ' H' w' u' x, Sat G ρ' H' w' → Step ρ ρ' H H' w w' → HtOk hs' H' → settle u' = .returning → R (.returned x) u' w') : (∃ fn c, P.funcs[f]? = some fn ∧ fn.body = some c) ∧ CallsDIn Fence.wide 0 P f xs u w R := by
  unfold exDf at h
  split at h
  · rename_i fn hf
    split at h
    · rename_i id ops rest hb
      split at h
      · rename_i o0 o1 hops
        split at h
        · rename_i hg0
          split at h
          · rename_i hg1
            split at h
            · rename_i c ho0
              split at h
              · rename_i hc
                split at h
                · rename_i hl
                  have hl := Nat.le_of_ble_eq_true hl
                  split at h
                  · rename_i hres
                    split at h
                    · rename_i v1 hv1
                      refine ⟨⟨fn, _, hf, hb⟩, callsDIn_of_wpSIn hf hb trivial fun c₀ cs hmode => ?_⟩
                      refine wpSIn_seq (wpSIn_region ?_)
                      have henv := enter_env (N := fn.ntmps) hargs hl
                      generalize hv0 : (match m with | some v => v | none => AV.d (.v .nilIface)) = v0 at h hv1
                      have hexec : (execOp ({ tmps := xs ++ Array.replicate (fn.ntmps - xs.size) undef, defers := [] } : Act).eval o0).run P w = .ok .recover w := by
                        obtain ⟨callee, cargs, cts⟩ := c
                        simp only at hc
                        subst hc
                        simp only [execOp, ho0, resolve, invoke, builtin, Sem.run_bind, Sem.run_pure, Result.andThen_ok]
                      have hops' : ops = #[o0, o1] := toList2 hops
                      subst hops'
                      have hnil : fn.results = #[] := by simpa using hres
                      -- the rest, from a state behind recover
                      have fin : ∀ (x0 : Value) (cs' : List Frame) (u' : FrameMode), VR ρ (Fz G ρ H w) w v0 x0 → cs' = { c₀ with mode := u' } :: cs → settle u' = .returning →
                          wpOpsSIn Fence.wide 0 P #[o0, o1] (Exit.thenS (rest.wpSIn Fence.wide 0 P (bodyPostS P fn c₀ cs R)) (bodyPostS P fn c₀ cs R)) [1] (({ tmps := xs ++ Array.replicate (fn.ntmps - xs.size) undef, defers := [] } : Act).put o0.dst x0) cs' w := by
                        intro x0 cs' u' hx0 hcs hset
                        have henv0 := henv.put o0.dst hx0
                        simp only [wpOpsSIn]
                        have h1 : (#[o0, o1] : Array Oper)[1]? = some o1 := rfl
                        simp only [h1, Region.wanted, hg1, if_true]
                        refine ⟨fun _ _ => trivial, ?_⟩
                        have hex : ∃ y, (execOp (({ tmps := xs ++ Array.replicate (fn.ntmps - xs.size) undef, defers := [] } : Act).put o0.dst x0).eval o1).run P w = .ok (.value y) w ∧ VR ρ (Fz G ρ H w) w v1 y := by
                          split at hv1
                          · rename_i x ho1
                            exact ⟨_, by simp only [execOp, ho1]; rfl, henv0.ev x _ hv1⟩
                          · cases hv1
                        obtain ⟨y, hy, hvy⟩ := hex
                        rw [hy]
                        simp only [wpOpsSIn, Exit.thenS]
                        refine wpSIn_of_wpIn rfl (hrun fn.ntmps none rest _ hs [] G ρ H w _ _ hG hst hh (henv0.put o1.dst hvy) (by cases o0.dst <;> cases o1.dst <;> exact DsOk.nil) ?_).wp
                        split at h
                        · rename_i env' hs2 hr
                          cases h
                          rw [show (none : Option Nat).isSome = false from rfl, hr]
                          intro ρ' H' w' a' e s1 s2 s3 s4 s5 s6
                          cases s6
                          have hd : a'.defers = [] := List.eq_nil_of_length_eq_zero (by rw [s5.1]; rfl)
                          exact ⟨hd, u', hcs, .tuple #[], results_none hnil _ _ _, hR ρ' H' w' u' _ s1 s2 s3 hset⟩
                        · rename_i env' hs2 hr
                          cases h
                          rw [show (none : Option Nat).isSome = false from rfl, hr]
                          intro ρ' H' w' a' e s1 s2 s3 s4 s5 s6
                          cases s6
                          have hd : a'.defers = [] := List.eq_nil_of_length_eq_zero (by rw [s5.1]; rfl)
                          exact ⟨hd, u', hcs, .tuple #[], results_none hnil _ _ _, hR ρ' H' w' u' _ s1 s2 s3 hset⟩
                        · cases h
                      show wpOpsSIn Fence.wide 0 P #[o0, o1] _ [0, 1] _ _ _
                      rw [show ([0, 1] : List Nat) = 0 :: [1] from rfl]
                      unfold wpOpsSIn
                      have h0 : (#[o0, o1] : Array Oper)[0]? = some o0 := rfl
                      simp only [h0, Region.wanted, hg0, if_true, hexec]
                      refine ⟨fun _ _ => trivial, ?_⟩
                      cases m with
                      | none =>
                        simp only [modeR] at hu
                        subst hu
                        have : recoverD (c₀ :: cs) = none := by simp [recoverD, hmode]
                        rw [this]
                        exact fin .nilIface _ .returning (by rw [← hv0]; exact .d _ _ (.v _ rfl)) (by rw [← hmode]) rfl
                      | some v =>
                        obtain ⟨x, hux, hvx⟩ := hu
                        subst hux
                        have : recoverD (c₀ :: cs) = some (x, { c₀ with mode := .panicking [{ v := x, recovered := true }] } :: cs) := by simp [recoverD, hmode]
                        rw [this]
                        exact fin x _ (.panicking [{ v := x, recovered := true }]) (by rw [← hv0]; exact hvx) rfl rfl
                    · cases h
                  · cases h
                · cases h
              · cases h
            · cases h
          · cases h
        · cases h
      · cases h
    · cases h
  · cases h

/-- A loop's record is written. -/
theorem Sat.putLoop {G : Ctx} {ρ : List Value} {H : Heap} {w : World} (h : Sat G ρ H w) {id l N : Nat} {st : LoopState} {pend : Option Code} {ps : List Tmp} {as bd : Code} {env : Tr AV} (h0 : H[id]? = some (.lp st pend N ps as bd env)) (hρ : ρ[id]? = some (.func (.yield l) #[] #[])) :
    ∃ r : Loop, w.heap[l]? = some (.loop r) ∧ r.state = st ∧ r.pending = pend ∧ r.params = ps.toArray ∧ r.assign = as ∧ r.body = bd ∧ r.tmps.size = N ∧
      (∀ t v, env.get t = some v → t < N ∧ VR ρ (Fz G ρ H w) w v (r.tmps.getD t undef)) ∧
      (∀ (st' : LoopState) (pend' : Option Code), Sat G ρ (H.set id (.lp st' pend' N ps as bd env)) (w.putObj l (.loop { r with state := st', pending := pend' })) ∧ Step ρ ρ H (H.set id (.lp st' pend' N ps as bd env)) w (w.putObj l (.loop { r with state := st', pending := pend' }))) ∧
      (∀ (st' : LoopState) (pend' : Option Code), Sat G ρ (H.set id .dead) (w.putObj l (.loop { r with state := st', pending := pend' })) ∧ Step ρ ρ H (H.set id .dead) w (w.putObj l (.loop { r with state := st', pending := pend' }))) := by
  obtain ⟨l', e, fn, tmps, dfs, hh, hn, he⟩ := h.obj id _ _ h0 hρ
  cases e
  have hlt := (Array.getElem?_eq_some_iff.1 hh).1
  refine ⟨_, hh, rfl, rfl, rfl, rfl, rfl, hn, he, fun st' pend' => ?_, fun st' pend' => ?_⟩
  · have := h.change (w' := w.putObj l (.loop { state := st', pending := pend', fn := fn, tmps := tmps, params := ps.toArray, assign := as, body := bd, defers := dfs })) h0 hρ (.lp st' pend' N ps as bd env) (.func (.yield l) #[] #[]) rfl rfl rfl (by simp)
      (fun b hb hne => World.putObj_heap_other (fun e => hne rfl (by rw [e]; rfl))) (fun b _ hb => .inl ⟨rfl, hb⟩) (.inl rfl)
      (fun hk hr => ⟨l, rfl, fn, tmps, dfs, World.putObj_heap_same hlt, hn, fun t v ht => ⟨(he t v ht).1, (he t v ht).2.keep hr hk⟩⟩)
    rw [set_same hρ] at this
    exact this
  · have := h.change (w' := w.putObj l (.loop { state := st', pending := pend', fn := fn, tmps := tmps, params := ps.toArray, assign := as, body := bd, defers := dfs })) h0 hρ .dead (.func (.yield l) #[] #[]) rfl rfl rfl (by simp)
      (fun b hb hne => World.putObj_heap_other (fun e => hne rfl (by rw [e]; rfl))) (fun b hb _ => by cases hb) (.inl rfl)
      (fun hk hr => trivial)
    rw [set_same hρ] at this
    exact this

theorem exDs_ok (hT : TbOk P T) (hN : NameOk P) {run : Nat → Bool → Code → Tr AV → HS → List Df → Res} {k : Nat} (hrun : RunOk P k run) {fn : Func} {tmps : Array Value} {R : Ending → World → Prop} (ds : List Df) :
    ∀ (l : List Deferred) (m : Option AV) (hs : HS) (G : Ctx) (ρ : List Value) (H : Heap) (w : World) (u : FrameMode), G.P = P → Sat G ρ H w → HtOk hs H → DsOk ρ (Fz G ρ H w) w ds l → modeR ρ (Fz G ρ H w) w m u →
    match exDs P T run ds m hs with
    | .no => True
    | .ret _ hs2 _ => (∀ ρ' H' w', Sat G ρ' H' w' → Step ρ ρ' H H' w w' → HtOk hs2 H' → ∃ v, (results fn tmps).run P w' = .ok v w' ∧ R (.returned v) w') → LeavesInM Fence.wide 0 P fn tmps R l u w
    | .pan v hs2 => (∀ ρ' H' w' x, Sat G ρ' H' w' → Step ρ ρ' H H' w w' → HtOk hs2 H' → VR ρ' (Fz G ρ' H' w') w' v x → R (.panicked [{ v := x, recovered := false }]) w') → LeavesInM Fence.wide 0 P fn tmps R l u w := by
  induction ds with
  | nil =>
    intro l m hs G ρ H w u hG hst hh hd hu
    obtain rfl : l = [] := List.eq_nil_of_length_eq_zero hd.1
    cases m with
    | none =>
      simp only [modeR] at hu
      subst hu
      intro hK
      exact hK ρ H w hst (Step.refl ρ H w) hh
    | some v =>
      obtain ⟨x, rfl, hx⟩ := hu
      intro hK
      exact hK ρ H w x hst (Step.refl ρ H w) hh hx
  | cons d ds ih =>
    intro l m hs G ρ H w u hG hst hh hd hu
    cases l with
    | nil => have := hd.1; simp at this
    | cons e l =>
      have hd0 := hd.2 0 d e rfl rfl
      have hd' : DsOk ρ (Fz G ρ H w) w ds l := ⟨by have := hd.1; simpa using this, fun i d e h1 h2 => hd.2 (i + 1) d e (by simpa using h1) (by simpa using h2)⟩
      have hne : u ≠ .run := by
        cases m with
        | none => simp only [modeR] at hu; rw [hu]; simp
        | some v => obtain ⟨x, rfl, _⟩ := hu; simp
      cases d with
      | mark id =>
        obtain ⟨r, hρ, htar⟩ := hd0
        simp only [exDs]
        cases hg : hs.t.get id with
        | none => trivial
        | some ob =>
          cases ob with
          | dfr =>
            simp only
            have hH := hh.2 id _ hg
            obtain ⟨r', e', hheap⟩ := hst.obj id _ _ hH hρ
            cases e'
            have hlt := (Array.getElem?_eq_some_iff.1 hheap).1
            have hch := hst.change (w' := w.putObj r (.deferred none)) hH hρ .dead (.pointer (some ⟨r, 0, none⟩)) rfl rfl rfl (by simp)
              (fun b hb hne => World.putObj_heap_other (fun e => hne rfl (by rw [e]; rfl))) (fun b hb _ => by cases hb) (.inl rfl) (fun hk hr => trivial)
            rw [set_same hρ] at hch
            obtain ⟨s1, s2⟩ := hch
            have hk := hst.kp s2
            have hu' : modeR ρ (Fz G ρ (H.set id .dead) (w.putObj r (.deferred none))) (w.putObj r (.deferred none)) m u := by
              cases m with
              | none => exact hu
              | some v => obtain ⟨x, e, hx⟩ := hu; exact ⟨x, e, hx.keep s2.rp hk⟩
            have := ih l m (hs.put id .dead) G ρ _ _ u hG s1 (hh.put hg .dead) (hd'.keep s2.rp hk) hu'
            have wrap : LeavesInM Fence.wide 0 P fn tmps R l u (w.putObj r (.deferred none)) → LeavesInM Fence.wide 0 P fn tmps R (e :: l) u w :=
              fun h => ⟨hne, .inl ⟨r, _, htar, run_takeDeferred hheap, h⟩⟩
            cases hds : exDs P T run ds m (hs.put id .dead) with
            | no => trivial
            | ret rv hs2 _ =>
              rw [hds] at this
              exact fun hK => wrap (this fun ρ2 H2 w2 t1 t2 t3 => hK ρ2 H2 w2 t1 (s2.trans t2) t3)
            | pan v hs2 =>
              rw [hds] at this
              exact fun hK => wrap (this fun ρ2 H2 w2 x t1 t2 t3 t4 => hK ρ2 H2 w2 x t1 (s2.trans t2) t3 t4)
          | _ => trivial
      | call f args caps =>
        obtain ⟨cs, hdt, hda, hdc⟩ := hd0
        have hall : AllR (VR ρ (Fz G ρ H w) w) (args ++ caps) (e.args ++ cs).toList := by
          rw [Array.toList_append]
          exact hda.append hdc
        simp only [exDs]
        cases hdf : exDf P T run f (args ++ caps) m hs with
        | no => trivial
        | pan v hs' => trivial
        | ret rv hs' mm =>
          simp only
          have hmm : mm = none := by
            unfold exDf at hdf
            repeat' split at hdf
            all_goals first | (cases hdf; rfl) | cases hdf
          subst hmm
          obtain ⟨et, eargs⟩ := e
          simp only at hdt hda hall
          subst hdt
          have key : ∀ (Rd : Ending → FrameMode → World → Prop), (∀ ρ' H' w' u' x, Sat G ρ' H' w' → Step ρ ρ' H H' w w' → HtOk hs' H' → settle u' = .returning → Rd (.returned x) u' w') →
              (invoke (.fn (.func f) cs) eargs).run P w = .ok (.enter f (eargs ++ cs)) w ∧ CallsDIn Fence.wide 0 P f (eargs ++ cs) u w Rd := by
            intro Rd hRd
            obtain ⟨⟨fn', c', h1, h2⟩, h3⟩ := exDf_ok hT hrun hG hst hh hall hu hdf hRd
            exact ⟨by simp only [invoke]; exact run_callFunc hN h1 h2 _ _, h3⟩
          have wrap : ∀ (g : (invoke (.fn (.func f) cs) eargs).run P w = .ok (.enter f (eargs ++ cs)) w ∧ CallsDIn Fence.wide 0 P f (eargs ++ cs) u w (fun e u' w' => match e with
              | .returned _ => LeavesInM Fence.wide 0 P fn tmps R l (settle u') w'
              | .panicked chain => LeavesInM Fence.wide 0 P fn tmps R l (raised u' chain) w'
              | .outgrown => R .outgrown w')), LeavesInM Fence.wide 0 P fn tmps R ({ target := .fn (.func f) cs, args := eargs } :: l) u w :=
            fun g => ⟨hne, .inr ⟨(fun h => by cases h), _, _, _, _, rfl, g.1, fun _ _ => trivial, g.2.mono (fun e u' w' h => by cases e <;> exact h)⟩⟩
          cases hds : exDs P T run ds none hs' with
          | no => trivial
          | ret rv2 hs2 _ =>
            intro hK
            refine wrap (key _ (fun ρ' H' w' u' x s1 s2 s3 s4 => ?_))
            have := ih l none hs' G ρ' H' w' (settle u') hG s1 s3 (hd'.keep s2.rp (hst.kp s2)) s4
            rw [hds] at this
            exact this (fun ρ2 H2 w2 t1 t2 t3 => hK ρ2 H2 w2 t1 (s2.trans t2) t3)
          | pan v hs2 =>
            intro hK
            refine wrap (key _ (fun ρ' H' w' u' x s1 s2 s3 s4 => ?_))
            have := ih l none hs' G ρ' H' w' (settle u') hG s1 s3 (hd'.keep s2.rp (hst.kp s2)) s4
            rw [hds] at this
            exact this (fun ρ2 H2 w2 x t1 t2 t3 t4 => hK ρ2 H2 w2 x t1 (s2.trans t2) t3 t4)

theorem exF_ok (hT : TbOk P T) (hN : NameOk P) {run : Nat → Bool → Code → Tr AV → HS → List Df → Res} {k : Nat} (hrun : RunOk P k run) : CallOk P (exF P T run) := by
  intro f args hs G ρ H w xs hG hst hh hargs R
  unfold exF
  cases hf : P.funcs[f]? with
  | none => trivial
  | some fn =>
    simp only
    cases hb : fn.body with
    | none => trivial
    | some c =>
      simp only
      cases hl : Nat.ble args.length fn.ntmps with
      | false => trivial
      | true =>
        have hl' := Nat.le_of_ble_eq_true hl
        simp only
        have henv := enter_env (N := fn.ntmps) hargs hl'
        have hcall := run_callFunc hN hf hb xs w
        cases hr : run fn.ntmps false c (envFrom .nil 0 args) hs [] with
        | no => trivial
        | mk fin env hs' ds =>
          have main : Done G ρ H w fn.ntmps (bodyPostM Fence.wide 0 P fn R) (.mk fin env hs' ds) → Calls P f xs w R := by
            intro hD
            refine callsIn_wide.1 (callsIn_of_wp_marks (F := Fence.wide) (n := 0) hf hb trivial ?_)
            exact (hrun fn.ntmps none c _ hs [] G ρ H w _ _ hG hst hh henv DsOk.nil (by rw [show (none : Option Nat).isSome = false from rfl, hr]; exact hD)).wp
          -- the ends that are no panics
          have quiet : ∀ (m : Option AV) (u : FrameMode) hs2 rv mm l, exDs P T run ds m hs' = .ret rv hs2 mm → resA T env hs2 fn.results.toList = some l → (∀ ρ' H' w' x, Sat G ρ' H' w' → Step ρ ρ' H H' w w' → HtOk hs2 H' → VR ρ' (Fz G ρ' H' w') w' (oneA l) x → R (.returned x) w') →
              ∀ ρ' H' w' a', Sat G ρ' H' w' → Step ρ ρ' H H' w w' → HtOk hs' H' → EnvOk ρ' (Fz G ρ' H' w') w' env a' fn.ntmps → DsOk ρ' (Fz G ρ' H' w') w' ds a'.defers → modeR ρ' (Fz G ρ' H' w') w' m u → LeavesInM Fence.wide 0 P fn a'.tmps R a'.defers u w' := by
            intro m u hs2 rv mm l h1 h2 hR ρ' H' w' a' s1 s2 s3 s4 s5 s6
            have := exDs_ok (fn := fn) (tmps := a'.tmps) (R := R) hT hN hrun ds a'.defers m hs' G ρ' H' w' u hG s1 s3 s5 s6
            rw [h1] at this
            refine this (fun ρ2 H2 w2 t1 t2 t3 => ?_)
            have hk := s1.kp t2
            obtain ⟨x, g1, g2⟩ := results_ok hT t1 t3 (s4.keep t2.rp hk) h2
            exact ⟨x, g1, hR ρ2 H2 w2 x t1 (s2.trans t2) t3 g2⟩
          have quietP : ∀ (m : Option AV) (u : FrameMode) v hs2, exDs P T run ds m hs' = .pan v hs2 → (∀ ρ' H' w' x, Sat G ρ' H' w' → Step ρ ρ' H H' w w' → HtOk hs2 H' → VR ρ' (Fz G ρ' H' w') w' v x → R (.panicked [{ v := x, recovered := false }]) w') →
              ∀ ρ' H' w' (a' : Act), Sat G ρ' H' w' → Step ρ ρ' H H' w w' → HtOk hs' H' → DsOk ρ' (Fz G ρ' H' w') w' ds a'.defers → modeR ρ' (Fz G ρ' H' w') w' m u → LeavesInM Fence.wide 0 P fn a'.tmps R a'.defers u w' := by
            intro m u v hs2 h1 hR ρ' H' w' a' s1 s2 s3 s5 s6
            have := exDs_ok (fn := fn) (tmps := a'.tmps) (R := R) hT hN hrun ds a'.defers m hs' G ρ' H' w' u hG s1 s3 s5 s6
            rw [h1] at this
            exact this (fun ρ2 H2 w2 x t1 t2 t3 t4 => hR ρ2 H2 w2 x t1 (s2.trans t2) t3 t4)
          cases fin with
          | exit id => trivial
          | norm =>
            simp only
            cases hds : exDs P T run ds none hs' with
            | no => trivial
            | pan v hs2 =>
              intro hR
              exact .inl ⟨hcall, main fun ρ' H' w' a' e s1 s2 s3 s4 s5 s6 => by cases s6; exact quietP _ _ v hs2 hds hR ρ' H' w' a' s1 s2 s3 s5 rfl⟩
            | ret rv hs2 _ =>
              simp only
              cases hres : resA T env hs2 fn.results.toList with
              | none => trivial
              | some l =>
                intro hR
                exact .inl ⟨hcall, main fun ρ' H' w' a' e s1 s2 s3 s4 s5 s6 => by cases s6; exact quiet _ _ hs2 rv _ l hds hres hR ρ' H' w' a' s1 s2 s3 s4 s5 rfl⟩
          | ret =>
            simp only
            cases hds : exDs P T run ds none hs' with
            | no => trivial
            | pan v hs2 =>
              intro hR
              exact .inl ⟨hcall, main fun ρ' H' w' a' e s1 s2 s3 s4 s5 s6 => by cases s6; exact quietP _ _ v hs2 hds hR ρ' H' w' a' s1 s2 s3 s5 rfl⟩
            | ret rv hs2 _ =>
              simp only
              cases hres : resA T env hs2 fn.results.toList with
              | none => trivial
              | some l =>
                intro hR
                exact .inl ⟨hcall, main fun ρ' H' w' a' e s1 s2 s3 s4 s5 s6 => by cases s6; exact quiet _ _ hs2 rv _ l hds hres hR ρ' H' w' a' s1 s2 s3 s4 s5 rfl⟩
          | pan v =>
            simp only
            cases hds : exDs P T run ds (some v) hs' with
            | no => trivial
            | pan v2 hs2 =>
              intro hR
              refine .inl ⟨hcall, main fun ρ' H' w' a' e s1 s2 s3 s4 s5 s6 => ?_⟩
              obtain ⟨x, rfl, hx⟩ := s6
              exact quietP _ _ v2 hs2 hds hR ρ' H' w' a' s1 s2 s3 s5 ⟨x, rfl, hx⟩
            | ret rv hs2 _ =>
              simp only
              cases hres : resA T env hs2 fn.results.toList with
              | none => trivial
              | some l =>
                intro hR
                refine .inl ⟨hcall, main fun ρ' H' w' a' e s1 s2 s3 s4 s5 s6 => ?_⟩
                obtain ⟨x, rfl, hx⟩ := s6
                exact quiet _ _ hs2 rv _ l hds hres hR ρ' H' w' a' s1 s2 s3 s4 s5 ⟨x, rfl, hx⟩

theorem setPs_ok {ρ : List Value} {S : Nat → Prop} {w : World} {N : Nat} : ∀ (ps : List Tmp) (args : List AV) (xs : List Value) (env : Tr AV) (tmps : Array Value), args.length = ps.length → AllR (VR ρ S w) args xs → EnvOk ρ S w env { tmps := tmps, defers := [] } N →
    EnvOk ρ S w (setPs N ps args env) { tmps := (ps.zip xs).foldl (fun tmps (t, a) => tmps.setIfInBounds t a) tmps, defers := [] } N := by
  intro ps
  induction ps with
  | nil =>
    intro args xs env tmps hl hx he
    cases args with
    | nil => exact he
    | cons => simp at hl
  | cons t ps ih =>
    intro args xs env tmps hl hx he
    cases args with
    | nil => simp at hl
    | cons v args =>
      cases xs with
      | nil => have := hx.1; simp at this
      | cons x xs =>
        simp only [setPs, List.zip_cons_cons, List.foldl_cons]
        refine ih args xs _ _ (by simpa using hl) ⟨by have := hx.1; simpa using this, fun i c y h1 h2 => hx.2 (i + 1) c y (by simpa using h1) (by simpa using h2)⟩ ?_
        have := he.put (some t) (hx.2 0 v x rfl rfl)
        exact this

theorem Step.rpf {ρ ρ' : List Value} {H H' : Heap} {w w' : World} (s : Step ρ ρ' H H' w w') {id l : Nat} (h : ρ[id]? = some (.func (.yield l) #[] #[])) : ρ'[id]? = some (.func (.yield l) #[] #[]) := by
  obtain ⟨h', hh, e⟩ := s.rp id _ h
  rcases e with rfl | ⟨_, _, _, _, _, _, e, _⟩ | e
  · exact hh
  · cases e
  · cases e

theorem exRound_ok {run : Nat → Bool → Code → Tr AV → HS → List Df → Res} {k : Nat} (hrun : RunOk P k run) : RoundOk P (exRound run) := by
  intro id args hs G ρ H w l xs hG hst hh hρ hargs R
  unfold exRound
  split
  · rename_i v hs' mm hres
    intro hR
    split at hres
    · rename_i pend N ps assign body env hg
      obtain ⟨r, hr1, hr2, hr3, hr4, hr5, hr6, hr7, hr8, hr9, hr10⟩ := hst.putLoop (hh.2 _ _ hg) hρ
      split at hres
      · rename_i hlen
        have hlen := Nat.eq_of_beq_eq_true hlen
        have hxs : xs.size = args.length := by rw [← hargs.1]; simp
        split at hres
        · rename_i env1 hs1 hrun1
          split at hres
          · rename_i pend1 N1 ps1 as1 bd1 en1 hg1
            split at hres
            · rename_i fin env2 hs2 hrun2
              split at hres
              · rename_i st2 pend2 N2 ps2 as2 bd2 en2 hg2
                refine ⟨r.fn, (r.params.zip xs).foldl (fun tmps (t, a) => tmps.setIfInBounds t a) r.tmps, assign, body, by rw [← hr5, ← hr6]; exact run_yield hr1 (by rw [hr4, hxs, hlen]; simp), ?_⟩
                refine roundIn_of_wpIn (F := Fence.wide) trivial ?_
                have hfold : (r.params.zip xs).foldl (fun tmps (t, a) => tmps.setIfInBounds t a) r.tmps = (ps.zip xs.toList).foldl (fun tmps (t, a) => tmps.setIfInBounds t a) r.tmps := by
                  rw [← Array.foldl_toList, hr4]
                  simp
                rw [hfold]
                refine (hrun N (some l) assign _ hs [] G ρ H w _ _ hG hst hh (setPs_ok ps args xs.toList env r.tmps hlen hargs ⟨hr7, hr8⟩) DsOk.nil ?_).wp
                rw [show (some l : Option Nat).isSome = true from rfl, hrun1]
                intro ρ1 H1 w1 a1 e1 s1 s2 s3 s4 s5 s6
                cases s6
                have hρ1 := s2.rpf hρ
                obtain ⟨r1, q1, q2, q3, q4, q5, q6, q7, q8, q9, q10⟩ := s1.putLoop (s3.2 _ _ hg1) hρ1
                obtain ⟨t1, t2⟩ := q9 .busy pend1
                have hpb : (Instr.beginRound l).run P w1 = .ok () (w1.putObj l (.loop { r1 with state := .busy, pending := pend1 })) := by
                  rw [run_beginRound q1 q2]
                  rw [← q3]
                refine ⟨_, hpb, ?_⟩
                have hk1 := s1.kp t2
                refine (hrun N (some l) body env1 _ [] G ρ1 _ _ a1 _ hG t1 (s3.put hg1 _) (s4.keep t2.rp hk1) (s5.keep t2.rp hk1) ?_).wp
                rw [show (some l : Option Nat).isSome = true from rfl, hrun2]
                intro ρ2 H2 w2 a2 e2 u1 u2 u3 u4 u5 u6
                have hρ2 := u2.rpf hρ1
                obtain ⟨r2, p1, p2, p3, p4, p5, p6, p7, p8, p9, p10⟩ := u1.putLoop (u3.2 _ _ hg2) hρ2
                have fin1 : ∀ (jump : Option Code), .ret (.d (.v (.bool jump.isNone))) (hs2.put id (.lp (if jump.isNone then .ready else .done) jump N2 ps2 as2 bd2 en2)) none = CR.ret v hs' mm → ∃ x w', (Instr.endRound l jump).run P w2 = .ok x w' ∧ R (.returned x) w' := by
                  intro jump hj
                  cases hj
                  obtain ⟨x1, x2⟩ := p9 (if jump.isNone then .ready else .done) jump
                  exact ⟨_, _, run_endRound jump p1, hR ρ2 _ _ _ x1 (((s2.trans t2).trans u2).trans x2) (u3.put hg2 _) (.d _ _ (.v _ rfl))⟩
                cases fin with
                | norm => cases u6; exact fin1 none hres
                | ret => cases u6; exact fin1 (some .ret) hres
                | exit e => cases u6; exact fin1 (some (.exit e)) hres
                | pan v => cases hres
              · cases hres
            · cases hres
          · cases hres
        · cases hres
      · cases hres
    · cases hres
  · trivial

theorem exRange_ok (hN : NameOk P) {cf : FuncId → List AV → HS → CR} (hcf : CallOk P cf) {N : Nat} {g : Operand} {ps : Array Tmp} {assign body : Code} {env : Tr AV} {hs : HS} {ds : List Df} {G : Ctx} {ρ : List Value} {H : Heap} {w : World} {a : Act} {Q : Exit → Act → World → Prop}
    (hG : G.P = P) (hst : Sat G ρ H w) (hh : HtOk hs H) (he : EnvOk ρ (Fz G ρ H w) w env a N) (hd : DsOk ρ (Fz G ρ H w) w ds a.defers) (hq : Done G ρ H w N Q (exRange P cf N g ps assign body env hs ds)) : (Code.rangeFunc g ps assign body).wpIn (Fw none) 0 P Q a w := by
  unfold exRange at hq
  split at hq
  · rename_i f first caps hgv
    split at hq
    · rename_i hbod
      obtain ⟨fnn, cc, hf, hb⟩ : ∃ fn c, P.funcs[f]? = some fn ∧ fn.body = some c := by
        unfold hasBody at hbod
        split at hbod
        · rename_i fn hf
          split at hbod
          · rename_i c hb; exact ⟨fn, c, hf, hb⟩
          · cases hbod
        · cases hbod
      obtain ⟨us, vs, hgx, hus, hvs⟩ := fn_inv (he.ev g _ hgv)
      refine wpIn_rangeFunc fun fn _ => ?_
      obtain ⟨s1, s2⟩ := hst.alloc_own (.deferred (some [])) .dfr (.pointer (some ⟨w.heap.size, 0, none⟩)) rfl rfl (fun hs s => ⟨w.heap.size, rfl, heap_alloc_new w _⟩)
      have hk1 := hst.kp s2
      have he1 := he.keep s2.rp hk1
      obtain ⟨t1, t2⟩ := s1.alloc_own (.loop { state := .ready, pending := none, fn := fn, tmps := a.tmps, params := ps, assign := assign, body := body, defers := w.heap.size }) (.lp .ready none N ps.toList assign body env) (.func (.yield (w.heap.size + 1)) #[] #[]) (by simp [blk]) rfl (fun hs s => by
        refine ⟨w.heap.size + 1, rfl, fn, a.tmps, w.heap.size, ?_, he1.1, fun t v ht => ⟨(he1.2 t v ht).1, (he1.2 t v ht).2.keep s.rp (hs.kp s)⟩⟩
        have := heap_alloc_new (w.alloc (.deferred (some []))) (.loop { state := .ready, pending := none, fn := fn, tmps := a.tmps, params := ps, assign := assign, body := body, defers := w.heap.size })
        simpa using this)
      have hk2 := s1.kp t2
      have hh2 := (hh.push .dfr).push (.lp .ready none N ps.toList assign body env)
      have hlen : ρ.length = hs.n := by rw [hst.len, hh.1]
      have hidl : (ρ ++ [Value.pointer (some ⟨w.heap.size, 0, none⟩)] ++ [Value.func (.yield (w.heap.size + 1)) #[] #[]])[Nat.succ hs.n]? = some (.func (.yield (w.heap.size + 1)) #[] #[]) := by
        rw [List.getElem?_append_right (by simp; omega)]
        simp [hlen]
      have hidd : (ρ ++ [Value.pointer (some ⟨w.heap.size, 0, none⟩)] ++ [Value.func (.yield (w.heap.size + 1)) #[] #[]])[hs.n]? = some (.pointer (some ⟨w.heap.size, 0, none⟩)) := by
        rw [List.getElem?_append_left (by simp; omega), List.getElem?_append_right (by omega)]
        simp [hlen]
      have hargs : AllR (VR (ρ ++ [Value.pointer (some ⟨w.heap.size, 0, none⟩)] ++ [Value.func (.yield (w.heap.size + 1)) #[] #[]]) (Fz G (ρ ++ [Value.pointer (some ⟨w.heap.size, 0, none⟩)] ++ [Value.func (.yield (w.heap.size + 1)) #[] #[]]) (H ++ [AObj.dfr] ++ [AObj.lp .ready none N ps.toList assign body env]) ((w.alloc (.deferred (some []))).alloc (.loop { state := .ready, pending := none, fn := fn, tmps := a.tmps, params := ps, assign := assign, body := body, defers := w.heap.size }))) ((w.alloc (.deferred (some []))).alloc (.loop { state := .ready, pending := none, fn := fn, tmps := a.tmps, params := ps, assign := assign, body := body, defers := w.heap.size }))) (first ++ [.yl (Nat.succ hs.n)] ++ caps) (us ++ #[Value.func (.yield (w.heap.size + 1)) #[] #[]] ++ vs).toList := by
        simp only [Array.toList_append]
        exact ((hus.imp fun _ _ h => (h.keep s2.rp hk1).keep t2.rp hk2).append (.cons (.yl _ _ hidl) .nil)).append (hvs.imp fun _ _ h => (h.keep s2.rp hk1).keep t2.rp hk2)
      have hcall := hcf f _ _ G _ _ _ _ hG t1 hh2 hargs (rangePost (Fw none) 0 P (w.heap.size + 1) Q { a with defers := [{ target := .collected w.heap.size, args := #[] }] ++ a.defers })
      have hent := run_callFunc hN hf hb (us ++ #[Value.func (.yield (w.heap.size + 1)) #[] #[]] ++ vs)
      refine ⟨w.heap.size + 1, [{ target := .collected w.heap.size, args := #[] }], ((w.alloc (.deferred (some []))).alloc (.loop { state := .ready, pending := none, fn := fn, tmps := a.tmps, params := ps, assign := assign, body := body, defers := w.heap.size })), { target := .fn (.func f) vs, args := us ++ #[.func (.yield (w.heap.size + 1)) #[] #[]] }, ((w.alloc (.deferred (some []))).alloc (.loop { state := .ready, pending := none, fn := fn, tmps := a.tmps, params := ps, assign := assign, body := body, defers := w.heap.size })), f, us ++ #[Value.func (.yield (w.heap.size + 1)) #[] #[]] ++ vs, ((w.alloc (.deferred (some []))).alloc (.loop { state := .ready, pending := none, fn := fn, tmps := a.tmps, params := ps, assign := assign, body := body, defers := w.heap.size })),
        run_enterLoop_outer fn a.tmps ps assign body, ?_, fun f' _ => trivial, hent _, Fw_dep, ?_⟩
      · have := resolve_value (P := P) (a := a) (c := rangeCall g (w.heap.size + 1)) (ty := 0) rfl hgx ((w.alloc (.deferred (some []))).alloc (.loop { state := .ready, pending := none, fn := fn, tmps := a.tmps, params := ps, assign := assign, body := body, defers := w.heap.size }))
        simpa [rangeCall, Act.eval] using this
      · refine callsIn_Fw ?_
        split at hq
        · rename_i v hs3 mm hres
          rw [hres] at hcall
          have hmain := hcall ?_
          · rcases hmain with h | ⟨x, h, _⟩
            · exact h.2
            · rw [hent] at h
              cases h
          · intro ρ3 H3 w3 x u1 u2 u3 u4
            have hρ3 := u2.rpf hidl
            split at hq
            · rename_i st pend N3 ps3 as3 bd3 en3 hg3
              obtain ⟨r, q1, q2, q3, q4, q5, q6, q7, q8, q9, q10⟩ := u1.putLoop (u3.2 _ _ hg3) hρ3
              obtain ⟨z1, z2⟩ := q10 .exhausted pend
              have hstep := ((s2.trans t2).trans u2).trans z2
              have hk := hst.kp hstep
              have hdr : ρ3[hs.n]? = some (.pointer (some ⟨w.heap.size, 0, none⟩)) := by
                obtain ⟨h', g1, e⟩ := u2.rp _ _ hidd
                rcases e with rfl | ⟨_, _, _, _, _, _, e, _⟩ | e
                · exact g1
                · cases e
                · cases e
              have hds : DsOk ρ3 (Fz G ρ3 _ _) (w3.putObj (w.heap.size + 1) (.loop { r with state := .exhausted, pending := pend })) (.mark hs.n :: ds) ([{ target := .collected w.heap.size, args := #[] }] ++ a.defers) :=
                (hd.keep hstep.rp hk).cons ⟨_, hdr, rfl⟩
              have henv : EnvOk ρ3 (Fz G ρ3 _ _) (w3.putObj (w.heap.size + 1) (.loop { r with state := .exhausted, pending := pend })) env { a with defers := [{ target := .collected w.heap.size, args := #[] }] ++ a.defers } N := he.keep hstep.rp hk
              have hend : r.state ≠ .busy → (Instr.endLoop (w.heap.size + 1)).run P w3 = .ok pend (w3.putObj (w.heap.size + 1) (.loop { r with state := .exhausted, pending := pend })) := fun hb => by
                rw [run_endLoop q1 hb, q3, ← q3]
              have fin1 : ∀ (fin : Fin) (e : Exit), Done G ρ H w N Q (.mk fin env (hs3.put (Nat.succ hs.n) .dead) (.mark hs.n :: ds)) → (∀ S ww, FinR ρ3 S ww fin e) → Q e { a with defers := [{ target := .collected w.heap.size, args := #[] }] ++ a.defers } (w3.putObj (w.heap.size + 1) (.loop { r with state := .exhausted, pending := pend })) := by
                intro fin e hD hf
                exact hD ρ3 _ _ _ e z1 hstep (u3.put hg3 _) henv hds (hf _ _)
              split at hq
              · exact hq.elim
              · rename_i hnb
                have hnb' : r.state ≠ .busy := by rw [q2]; exact hnb
                split at hq
                · refine ⟨none, _, hend hnb', ?_⟩
                  exact fin1 .norm .normal hq fun _ _ => rfl
                · refine ⟨some .ret, _, hend hnb', ?_⟩
                  exact wpIn_ret (fin1 .ret .ret hq fun _ _ => rfl)
                · rename_i e
                  refine ⟨some (.exit e), _, hend hnb', ?_⟩
                  exact wpIn_exit (fin1 (.exit e) (.exit e) hq fun _ _ => rfl)
                · exact hq.elim
            · exact hq.elim
        · exact hq.elim
    · exact hq.elim
  · exact hq.elim

theorem hook_ok {ct g : FuncId → List AV → HS → CR} (h : CallOk P ct) (k : CallOk P g) : CallOk P (hook ct g) := by
  intro f args hs G ρ H w xs hG hst hh hargs R
  unfold hook
  have h1 := h f args hs G ρ H w xs hG hst hh hargs R
  cases hc : ct f args hs with
  | no => exact k f args hs G ρ H w xs hG hst hh hargs R
  | ret v hs' _ => rw [hc] at h1; exact h1
  | pan v hs' => rw [hc] at h1; exact h1

theorem exStep_ok (hT : TbOk P T) (hN : NameOk P) (hm : P.follows .mixedOrders = true) {ct : FuncId → List AV → HS → CR} (hct : CallOk P ct) {k : Nat} {run : Nat → Bool → Code → Tr AV → HS → List Df → Res} (hrun : RunOk P k run) : RunOk P (k + 1) (exStep P T ct run) := by
  intro N ro c env hs ds G ρ H w a Q hG hst hh he hd hq
  rw [exStep_eq] at hq
  unfold exStep0 at hq
  split at hq
  · exact wpIn_skip (hq ρ H w a .normal hst (Step.refl ρ H w) hh he hd rfl)
  · exact wpIn_label (hq ρ H w a .normal hst (Step.refl ρ H w) hh he hd rfl)
  · exact wpIn_region_list (exOps_ok hT (hook_ok hct (exF_ok hT hN hrun)) (exRound_ok hrun) rfl _ env hs ds G ρ H w a Q hG hst hh he hd hq)
  · exact exD_ok hT hm (hook_ok hct (exF_ok hT hN hrun)) hG hst hh he hd hq
  · rename_i x y
    refine wpIn_seq (hrun N ro x env hs ds G ρ H w a _ hG hst hh he hd ?_).wp
    cases hr : run N ro.isSome x env hs ds with
    | no => rw [hr] at hq; exact hq.elim
    | mk fin env' hs' ds' =>
      rw [hr] at hq
      intro ρ' H' w' a' e s1 s2 s3 s4 s5 s6
      cases fin with
      | norm =>
        cases s6
        exact (hrun N ro y env' hs' ds' G ρ' H' w' a' Q hG s1 s3 s4 s5 (hq.step s2)).wp
      | exit id => cases s6; exact hq ρ' H' w' a' _ s1 s2 s3 s4 s5 rfl
      | ret => cases s6; exact hq ρ' H' w' a' _ s1 s2 s3 s4 s5 rfl
      | pan v => obtain ⟨x, rfl, hx⟩ := s6; exact hq ρ' H' w' a' _ s1 s2 s3 s4 s5 ⟨x, rfl, hx⟩
  · rename_i c x y
    split at hq
    · rename_i t hc
      have hv := he.ev c _ hc
      have hb : a.eval c = .bool t := by
        generalize a.eval c = z at hv
        cases hv with
        | d _ _ hd => cases hd; rfl
      cases t with
      | true => exact wpIn_cond_true hb (hrun N ro x env hs ds G ρ H w a Q hG hst hh he hd hq).wp
      | false => exact wpIn_cond_false hb (hrun N ro y env hs ds G ρ H w a Q hG hst hh he hd hq).wp
    · exact hq.elim
  · rename_i id c
    refine wpIn_block (hrun N ro c env hs ds G ρ H w a _ hG hst hh he hd ?_).wp
    cases hr : run N ro.isSome c env hs ds with
    | no => rw [hr] at hq; exact hq.elim
    | mk fin env' hs' ds' =>
      rw [hr] at hq
      intro ρ' H' w' a' e s1 s2 s3 s4 s5 s6
      cases fin with
      | norm => cases s6; exact hq ρ' H' w' a' _ s1 s2 s3 s4 s5 rfl
      | ret => cases s6; exact hq ρ' H' w' a' _ s1 s2 s3 s4 s5 rfl
      | pan v => obtain ⟨x, rfl, hx⟩ := s6; exact hq ρ' H' w' a' _ s1 s2 s3 s4 s5 ⟨x, rfl, hx⟩
      | exit id' =>
        cases s6
        simp only at hq
        simp only [Exit.inBlock]
        cases hi : Nat.beq id' id with
        | true =>
          rw [hi] at hq
          rw [if_pos (Nat.eq_of_beq_eq_true hi)]
          exact hq ρ' H' w' a' _ s1 s2 s3 s4 s5 rfl
        | false =>
          rw [hi] at hq
          rw [if_neg (fun e => by subst e; rw [Nat.beq_refl] at hi; cases hi)]
          exact hq ρ' H' w' a' _ s1 s2 s3 s4 s5 rfl
  · rename_i c
    cases hr : run N ro.isSome c env hs ds with
    | no => rw [hr] at hq; exact hq.elim
    | mk fin env' hs' ds' =>
      rw [hr] at hq
      have hbody : ∀ Q', Done G ρ H w N Q' (.mk fin env' hs' ds') → c.wpIn (Fw ro) 0 P Q' a w := fun Q' h => (hrun N ro c env hs ds G ρ H w a Q' hG hst hh he hd (by rw [hr]; exact h)).wp
      cases fin with
      | norm =>
        simp only at hq
        exact hbody _ fun ρ' H' w' a' e s1 s2 s3 s4 s5 s6 => by
          cases s6
          exact hrun N ro (.loop c) env' hs' ds' G ρ' H' w' a' Q hG s1 s3 s4 s5 (hq.step s2)
      | exit id => exact hbody _ fun ρ' H' w' a' e s1 s2 s3 s4 s5 s6 => by cases s6; exact hq ρ' H' w' a' _ s1 s2 s3 s4 s5 rfl
      | ret => exact hbody _ fun ρ' H' w' a' e s1 s2 s3 s4 s5 s6 => by cases s6; exact hq ρ' H' w' a' _ s1 s2 s3 s4 s5 rfl
      | pan v => exact hbody _ fun ρ' H' w' a' e s1 s2 s3 s4 s5 s6 => by obtain ⟨x, rfl, hx⟩ := s6; exact hq ρ' H' w' a' _ s1 s2 s3 s4 s5 ⟨x, rfl, hx⟩
  · split at hq
    · exact hq.elim
    · rename_i hro
      cases ro with
      | some l => cases hro
      | none => exact exRange_ok hN (hook_ok hct (exF_ok hT hN hrun)) hG hst hh he hd hq
  · rename_i c
    refine wpIn_scope_straight (hrun N ro c env hs ds G ρ H w a _ hG hst hh he hd ?_).wp
    cases hr : run N ro.isSome c env hs ds with
    | no => rw [hr] at hq; exact hq.elim
    | mk fin env' hs' ds' =>
      rw [hr] at hq
      intro ρ' H' w' a' e s1 s2 s3 s4 s5 s6
      cases fin with
      | norm => cases s6; exact hq ρ' H' w' a' _ s1 s2 s3 s4 s5 rfl
      | ret => cases s6; exact hq ρ' H' w' a' _ s1 s2 s3 s4 s5 rfl
      | exit id => cases s6; exact hq ρ' H' w' a' _ s1 s2 s3 s4 s5 rfl
      | pan v => obtain ⟨x, rfl, hx⟩ := s6; exact hq ρ' H' w' a' _ s1 s2 s3 s4 s5 ⟨x, rfl, hx⟩
  · exact wpIn_exit (hq ρ H w a _ hst (Step.refl ρ H w) hh he hd rfl)
  · exact wpIn_ret (hq ρ H w a _ hst (Step.refl ρ H w) hh he hd rfl)
  · exact hq.elim

theorem exC_ok (hT : TbOk P T) (hN : NameOk P) (hm : P.follows .mixedOrders = true) {ct : FuncId → List AV → HS → CR} (hct : CallOk P ct) (k : Nat) : RunOk P k (exC P T ct k) := by
  induction k with
  | zero => intro N ro c env hs ds G ρ H w a Q hG hst hh he hd hq; exact hq.elim
  | succ k ih => exact exStep_ok hT hN hm hct ih

end Go.Rc
