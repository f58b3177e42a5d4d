/- Regions whose order is left open, part 2: the run, and what it finds. Conditions: none. -/
import Derived.Test.YtbdgmbaflfmooaaGreatDoorRcDrawK
set_option linter.unusedVariables false
set_option linter.unusedSimpArgs false
namespace Go.Rc

noncomputable def evJ (all : List Oper) (ms : List Nat) (env0 : Tr AV) (V : Tr AV) (j : Nat) : Ev
  | .tmp t => match findDst t all 0 with
    | some k => match bef ms k j with
      | true => V.get k
      | false => match bef ms j k || Nat.beq k j with
        | true => env0.get t
        | false => none
    | none => env0.get t
  | x => evO env0 x

noncomputable def wantD (all : List Oper) (ms : List Nat) (V : Tr AV) (j : Nat) (g : Option (Nat × Bool)) (go skip : Tr AV → Prop) : Prop :=
  match g with
  | none => go V
  | some (k, want) => match bef ms k j with
    | true => match nth all k with
      | some o => match o.dst with
        | some d => match V.get k with
          | some (.d (.v (.bool b))) => match want with
            | true => boolP b (go (V.set 64 k (.d (.v (.bool true))))) (skip (V.set 64 k (.d (.v (.bool false)))))
            | false => boolP b (skip (V.set 64 k (.d (.v (.bool true))))) (go (V.set 64 k (.d (.v (.bool false)))))
          | some (.d (.v (.tuple _))) => skip V
          | _ => False
        | none => False
      | none => False
    | false => False

/-- The kept places that an operation may not know of. -/
def slotsNot (ms : List Nat) (i : Nat) : List Nat → Nat → List Nat
  | [], _ => []
  | f :: r, s => match bef ms f i with
    | true => slotsNot ms i r (s + 1)
    | false => s :: slotsNot ms i r (s + 1)

def slotOf (i : Nat) : List Nat → Nat → Option Nat
  | [], _ => none
  | f :: r, s => match Nat.beq f i with
    | true => some s
    | false => slotOf i r (s + 1)

noncomputable def obOf (T : Tb) (all : List Oper) (f : Nat) : AObj := match nth all f with
  | some o => match o.op with
    | .alloc t => match T t with
      | some i => .var t i.agg i.sz (zv i)
      | none => .dead
    | _ => .dead
  | none => .dead

/-- A literal of pure data, that nobody writes. -/
noncomputable def bsD (T : Tb) (t : TypeId) (n : Nat) (ps : Array (Nat × Operand)) (ev : Ev) : Option AV := match T t with
  | some i => match i.k with
    | .slice e => match T e with
      | some ie => match Nat.ble 1 ie.sz with
        | true => match evParts ev ps.toList with
          | some l => match litE 0 l with
            | some es => match Nat.beq n es.length && allEl ie.agg ie.sz es && Nat.ble (es.length * ie.sz) 16777216 with
              | true => match allD es with
                | some ds => some (.d (.sl true ie.agg ie.sz ds))
                | none => none
              | false => none
            | none => none
          | none => none
        | false => none
      | none => none
    | _ => none
  | none => none

theorem bsD_ok {P : Program} {T : Tb} {o : Oper} {ev : Ev} {H : Heap} {t : TypeId} {n : Nat} {ps : Array (Nat × Operand)} {v : AV} (hT : TbOk P T) (ho : o.op = .buildSlice t n ps) (h : bsD T t n ps ev = some v) : OpOk P o ev H v H := by
  unfold bsD at h
  split at h
  · split at h
    · split at h
      · split at h
        · split at h
          · split at h
            · split at h
              · split at h
                · cases h
                  rename_i hc _ _ hd
                  simp only [Bool.and_eq_true] at hc
                  exact ok_buildSlice hT ho (by assumption) (by assumption) (by assumption) (Nat.le_of_ble_eq_true (by assumption)) (by assumption) (by assumption) (Nat.eq_of_beq_eq_true hc.1.1) hc.1.2 (Nat.le_of_ble_eq_true hc.2) hd
                · cases h
              · cases h
            · cases h
          · cases h
        · cases h
      · cases h
    · cases h
  · cases h

noncomputable def qOp (T : Tb) (op : Op) (ev : Ev) (E : HS) (k : AV → Prop) : Prop := match isAct op with
  | false => stepK T op ev E fun q => match q with
    | .ok v _ => k v
    | _ => False
  | true => match op with
    | .buildSlice t n ps => match bsD T t n ps ev with
      | some v => k v
      | none => False
    | _ => False

/-- What is fixed of a region. -/
structure RG where
  all : List Oper
  ms : List Nat
  fl : List Nat
  n0 : Nat
  D : List Nat
  acts : List Nat
  oths : List Nat

noncomputable def RG.free (g : RG) (i : Nat) : Bool := g.acts.all fun j => bef g.ms i j || bef g.ms j i
noncomputable def RG.freeA (g : RG) (j : Nat) : Bool := g.oths.all fun i => bef g.ms i j || bef g.ms j i

noncomputable def RG.E (g : RG) (i : Nat) (S : HS) : HS := ⟨delL (match g.free i with | true => S.t | false => restL S.t .nil g.D) (slotsNot g.ms i g.fl g.n0), S.n⟩

noncomputable def RG.dp (g : RG) (j : Nat) : List Nat := match g.freeA j with
  | true => []
  | false => g.D
noncomputable def RG.dj (g : RG) (j : Nat) : List Nat := g.dp j ++ slotsNot g.ms j g.fl g.n0

noncomputable def qStep (T : Tb) (g : RG) (env0 : Tr AV) (S : HS) (i : Nat) (V : Tr AV) (k : Tr AV → Prop) : Prop := match nth g.all i with
  | none => False
  | some o => match slotOf i g.fl g.n0 with
    | some s => match o.guard with
      | none => match o.op with
        | .alloc t => match T t with
          | some _ => k (V.set 64 i (.ptr s 0))
          | none => False
        | _ => False
      | some _ => False
    | none => wantD g.all g.ms V i o.guard (fun V => qOp T o.op (evJ g.all g.ms env0 V i) (g.E i S) fun v => k (V.set 64 i v)) (fun V => k (V.set 64 i undefA))

noncomputable def qRun (T : Tb) (g : RG) (env0 : Tr AV) (S : HS) (l : List Nat) : Tr AV → (Tr AV → Prop) → Prop :=
  List.rec (motive := fun _ => Tr AV → (Tr AV → Prop) → Prop) (fun V k => k V) (fun i _ ih V k => qStep T g env0 S i V fun V => ih V k) l

noncomputable def aGo (T : Tb) (cf : CF) (g : RG) (env0 : Tr AV) (o : Oper) (j : Nat) (S : HS) (dj dp : List Nat) (k : Tr AV → HS → Prop) (π : AV → HS → Prop) (V : Tr AV) : Prop :=
  stepK T o.op (evJ g.all g.ms env0 V j) ⟨delL S.t dj, S.n⟩ fun q => match q with
    | .ok v hs' => k (V.set 64 j v) ⟨restL S.t hs'.t dj, hs'.n⟩
    | .pan v hs' => π v ⟨restL S.t hs'.t dp, hs'.n⟩
    | .call f args => cf f args ⟨delL S.t dj, S.n⟩ (fun v hs' => k (V.set 64 j v) ⟨restL S.t hs'.t dj, hs'.n⟩) (fun v hs' => π v ⟨restL S.t hs'.t dp, hs'.n⟩)
    | _ => False

noncomputable def aStep (T : Tb) (cf : CF) (g : RG) (env0 : Tr AV) (j : Nat) (V : Tr AV) (S : HS) (k : Tr AV → HS → Prop) (π : AV → HS → Prop) : Prop := match nth g.all j with
  | none => False
  | some o => wantD g.all g.ms V j o.guard (aGo T cf g env0 o j S (g.dj j) (g.dp j) k π) (fun V => k (V.set 64 j undefA) S)

/-- Which of the quiet ones can be found ahead of the acts that are left. -/
def early (ms : List Nat) (js : List Nat) (i : Nat) : Bool := js.all fun j => !bef ms j i

noncomputable def drA (T : Tb) (cf : CF) (g : RG) (env0 : Tr AV) (κ : Tr AV → HS → Prop) (π : AV → HS → Prop) (js : List Nat) : List Nat → Tr AV → HS → Prop :=
  List.rec (motive := fun _ => List Nat → Tr AV → HS → Prop) (fun oth V S => qRun T g env0 S oth V fun V => κ V S)
    (fun j r ih oth V S => qRun T g env0 S (oth.filter (early g.ms (j :: r))) V fun V => aStep T cf g env0 j V S (fun V S => ih (oth.filter fun i => !early g.ms (j :: r) i) V S) π) js

theorem drA_cons (T : Tb) (cf : CF) (g : RG) (env0 : Tr AV) (κ : Tr AV → HS → Prop) (π : AV → HS → Prop) (j : Nat) (js oth : List Nat) (V : Tr AV) (S : HS) : drA T cf g env0 κ π (j :: js) oth V S =
    qRun T g env0 S (oth.filter (early g.ms (j :: js))) V fun V => aStep T cf g env0 j V S (fun V S => drA T cf g env0 κ π js (oth.filter fun i => !early g.ms (j :: js) i) V S) π := rfl

/-! ### what the run has found -/
def Blw (V : Tr AV) (W : Nat → Option AV) : Prop := ∀ k y, V.get k = some y → W k = some y
def Wle (W W' : Nat → Option AV) : Prop := ∀ k y, W k = some y → W' k = some y

theorem Blw.mono {V : Tr AV} {W W' : Nat → Option AV} (h : Blw V W) (k : Wle W W') : Blw V W' := fun i y hy => k i y (h i y hy)
theorem Blw.set {V : Tr AV} {W : Nat → Option AV} (h : Blw V W) {i : Nat} {v : AV} (hv : W i = some v) : Blw (V.set 64 i v) W := fun k y hy => by
  rcases Tr.get_set 64 _ _ _ _ _ hy with ⟨rfl, rfl⟩ | ⟨_, h2⟩
  · exact hv
  · exact h k y h2

def upd (W : Nat → Option AV) (i : Nat) (v : AV) : Nat → Option AV := fun k => if k = i then some v else W k
theorem upd_same (W : Nat → Option AV) (i : Nat) (v : AV) : upd W i v i = some v := by simp [upd]
theorem upd_ne (W : Nat → Option AV) {i k : Nat} (v : AV) (h : k ≠ i) : upd W i v k = W k := by simp [upd, h]
theorem upd_le {W : Nat → Option AV} {i : Nat} {v : AV} (h : W i = none) : Wle W (upd W i v) := fun k y hy => by
  by_cases e : k = i
  · subst e; rw [h] at hy; cases hy
  · rw [upd_ne W v e]; exact hy

def GuardF (g : RG) (W : Nat → Option AV) (i : Nat) (o : Oper) (b : Bool) : Prop := match o.guard with
  | none => b = true
  | some (k, want) => bef g.ms k i = true ∧ ∃ ok d, g.all[k]? = some ok ∧ ok.dst = some d ∧ ((∃ c, W k = some (.d (.v (.bool c))) ∧ b = (c == want)) ∨ (∃ us, W k = some (.d (.v (.tuple us))) ∧ b = false))

theorem GuardF.mono {g : RG} {W W' : Nat → Option AV} {i : Nat} {o : Oper} {b : Bool} (h : GuardF g W i o b) (k : Wle W W') : GuardF g W' i o b := by
  unfold GuardF at h ⊢
  split
  · rename_i hg; rw [hg] at h; exact h
  · rename_i kk want hg
    rw [hg] at h
    obtain ⟨h1, ok, d, h2, h3, h4⟩ := h
    refine ⟨h1, ok, d, h2, h3, ?_⟩
    rcases h4 with ⟨c, h4, h5⟩ | ⟨us, h4, h5⟩
    · exact .inl ⟨c, k _ _ h4, h5⟩
    · exact .inr ⟨us, k _ _ h4, h5⟩

theorem GuardF.none' {g : RG} {W : Nat → Option AV} {i : Nat} {o : Oper} (hg : o.guard = none) : GuardF g W i o true := by unfold GuardF; rw [hg]
theorem GuardF.some' {g : RG} {W : Nat → Option AV} {i k : Nat} {want b : Bool} {o : Oper} (hg : o.guard = some (k, want)) (h : bef g.ms k i = true ∧ ∃ ok d, g.all[k]? = some ok ∧ ok.dst = some d ∧ ((∃ c, W k = some (.d (.v (.bool c))) ∧ b = (c == want)) ∨ (∃ us, W k = some (.d (.v (.tuple us))) ∧ b = false))) : GuardF g W i o b := by
  unfold GuardF; rw [hg]; exact h

theorem wantD_ok {g : RG} {V : Tr AV} {W : Nat → Option AV} {i : Nat} {o : Oper} {go skip : Tr AV → Prop} (hb : Blw V W) (h : wantD g.all g.ms V i o.guard go skip) :
    ∃ V' b, Blw V' W ∧ GuardF g W i o b ∧ ((b = true ∧ go V') ∨ (b = false ∧ skip V')) := by
  unfold wantD at h
  split at h
  · rename_i hg
    exact ⟨V, true, hb, .none' hg, .inl ⟨rfl, h⟩⟩
  · rename_i k want hg
    split at h
    · rename_i hbf
      split at h
      · rename_i ok hok
        rw [nth_eq] at hok
        split at h
        · rename_i d hd
          split at h
          · rename_i c hc
            have hW := hb _ _ hc
            cases c <;> cases want
            · exact ⟨_, true, hb.set hW, .some' hg ⟨hbf, ok, d, hok, hd, .inl ⟨_, hW, rfl⟩⟩, .inl ⟨rfl, h⟩⟩
            · exact ⟨_, false, hb.set hW, .some' hg ⟨hbf, ok, d, hok, hd, .inl ⟨_, hW, rfl⟩⟩, .inr ⟨rfl, h⟩⟩
            · exact ⟨_, false, hb.set hW, .some' hg ⟨hbf, ok, d, hok, hd, .inl ⟨_, hW, rfl⟩⟩, .inr ⟨rfl, h⟩⟩
            · exact ⟨_, true, hb.set hW, .some' hg ⟨hbf, ok, d, hok, hd, .inl ⟨_, hW, rfl⟩⟩, .inl ⟨rfl, h⟩⟩
          · rename_i us hc
            exact ⟨V, false, hb, .some' hg ⟨hbf, ok, d, hok, hd, .inr ⟨us, hb _ _ hc, rfl⟩⟩, .inr ⟨rfl, h⟩⟩
          · exact h.elim
        · exact h.elim
      · exact h.elim
    · exact h.elim

/-- What is known of the heap, where kept places are filled that are not yet. -/
def Kn (T : Tb) (g : RG) (listed : Array Bool) (E : Tr AObj) (H : Heap) : Prop := ∀ id o, E.get id = some o →
  (∃ p f, g.fl[p]? = some f ∧ lst listed f = false ∧ id = g.n0 + p ∧ o = obOf T g.all f) ∨ ((∀ p f, g.fl[p]? = some f → lst listed f = false → id ≠ g.n0 + p) ∧ H[id]? = some o)

def QEv (T : Tb) (op : Op) (ev : Ev) (E : Tr AObj) (v : AV) : Prop :=
  (isAct op = false ∧ ∃ n, stepO T op ev ⟨E, n⟩ = .ok v ⟨E, n⟩) ∨ ∃ t n ps, op = .buildSlice t n ps ∧ bsD T t n ps ev = some v

/-- What is known of an operation that changes nothing. -/
def QF (T : Tb) (g : RG) (env0 : Tr AV) (listed : Array Bool) (H : Heap) (W : Nat → Option AV) (i : Nat) (o : Oper) : Prop :=
  (∃ s t ti, slotOf i g.fl g.n0 = some s ∧ o.guard = none ∧ o.op = .alloc t ∧ T t = some ti ∧ W i = some (.ptr s 0)) ∨
  (slotOf i g.fl g.n0 = none ∧ ∃ b, GuardF g W i o b ∧ ((b = false ∧ W i = some undefA) ∨ (b = true ∧ ∃ v V E, W i = some v ∧ Blw V W ∧ Kn T g listed E H ∧ (∀ id, id ∈ slotsNot g.ms i g.fl g.n0 → E.get id = none) ∧
    (g.free i = false → ∀ id o, E.get id = some o → id ∈ g.D) ∧ QEv T o.op (evJ g.all g.ms env0 V i) E v)))

theorem QF.mono {T : Tb} {g : RG} {env0 : Tr AV} {listed : Array Bool} {H : Heap} {W W' : Nat → Option AV} {i : Nat} {o : Oper} (h : QF T g env0 listed H W i o) (k : Wle W W') : QF T g env0 listed H W' i o := by
  rcases h with ⟨s, t, ti, h1, h2, h3, h4, h5⟩ | ⟨h0, b, h1, h2⟩
  · exact .inl ⟨s, t, ti, h1, h2, h3, h4, k _ _ h5⟩
  · refine .inr ⟨h0, b, h1.mono k, ?_⟩
    rcases h2 with ⟨h2, h3⟩ | ⟨h2, v, V, E, h3, h4, h5⟩
    · exact .inl ⟨h2, k _ _ h3⟩
    · exact .inr ⟨h2, v, V, E, k _ _ h3, h4.mono k, h5⟩

theorem QF.val {T : Tb} {g : RG} {env0 : Tr AV} {listed : Array Bool} {H : Heap} {W : Nat → Option AV} {i : Nat} {o : Oper} (h : QF T g env0 listed H W i o) : ∃ v, W i = some v := by
  rcases h with ⟨s, t, ti, h1, h2, h3, h4, h5⟩ | ⟨h0, b, h1, ⟨h2, h3⟩ | ⟨h2, v, V, E, h3, h4, h5⟩⟩
  · exact ⟨_, h5⟩
  · exact ⟨_, h3⟩
  · exact ⟨v, h3⟩

theorem Kn.sub {T : Tb} {g : RG} {listed : Array Bool} {E E' : Tr AObj} {H : Heap} (h : Kn T g listed E H) (k : ∀ id o, E'.get id = some o → E.get id = some o) : Kn T g listed E' H := fun id o ho => h id o (k id o ho)

theorem RG.E_sub (g : RG) (i : Nat) (S : HS) {id : Nat} {o : AObj} (h : (g.E i S).t.get id = some o) : S.t.get id = some o ∧ id ∉ slotsNot g.ms i g.fl g.n0 ∧ (g.free i = false → id ∈ g.D) := by
  unfold RG.E at h
  obtain ⟨h1, h2⟩ := get_delL _ h
  cases hf : g.free i with
  | true =>
    rw [hf] at h2
    exact ⟨h2, h1, fun e => by cases e⟩
  | false =>
    rw [hf] at h2
    rcases get_restL _ h2 with ⟨h3, h4⟩ | h3
    · exact ⟨h4, h1, fun _ => h3⟩
    · cases h3

theorem qOp_ok {T : Tb} {op : Op} {ev : Ev} {E : HS} {k : AV → Prop} (h : qOp T op ev E k) : ∃ v, QEv T op ev E.t v ∧ k v := by
  unfold qOp at h
  split at h
  · rename_i hq
    have h2 := stepK_ok h
    split at h2
    · rename_i v hs' hr
      have := quiet_same hq hr
      subst this
      exact ⟨v, .inl ⟨hq, _, hr⟩, h2⟩
    · exact h2.elim
  · split at h
    · split at h
      · rename_i v hv
        exact ⟨v, .inr ⟨_, _, _, rfl, hv⟩, h⟩
      · exact h.elim
    · exact h.elim

theorem qRun_ok {T : Tb} {g : RG} {env0 : Tr AV} {S : HS} {listed : Array Bool} {H : Heap} (hS : Kn T g listed S.t H) (l : List Nat) :
    ∀ (V : Tr AV) (W : Nat → Option AV) (k : Tr AV → Prop), qRun T g env0 S l V k → Blw V W → (∀ i, i ∈ l → W i = none) → l.Nodup →
      ∃ V' W', k V' ∧ Blw V' W' ∧ Wle W W' ∧ (∀ i, i ∉ l → W' i = W i) ∧ ∀ i, i ∈ l → ∃ o, g.all[i]? = some o ∧ QF T g env0 listed H W' i o := by
  induction l with
  | nil => intro V W k h hb _ _; exact ⟨V, W, h, hb, fun _ _ h => h, fun _ _ => rfl, fun i hi => by cases hi⟩
  | cons i r ih =>
    intro V W k h hb hW hn
    have h : qStep T g env0 S i V fun V => qRun T g env0 S r V k := h
    have hWi := hW i (by simp)
    obtain ⟨hni, hnr⟩ := List.nodup_cons.1 hn
    unfold qStep at h
    split at h
    · exact h.elim
    · rename_i o ho
      rw [nth_eq] at ho
      have go : ∀ (V : Tr AV) (v : AV), Blw V W → qRun T g env0 S r (V.set 64 i v) k → (∀ W', Wle (upd W i v) W' → QF T g env0 listed H W' i o) →
          ∃ V' W', k V' ∧ Blw V' W' ∧ Wle W W' ∧ (∀ j, j ∉ i :: r → W' j = W j) ∧ ∀ j, j ∈ i :: r → ∃ o, g.all[j]? = some o ∧ QF T g env0 listed H W' j o := by
        intro V v hb h hq
        have hle : Wle W (upd W i v) := upd_le hWi
        obtain ⟨V', W', h1, h2, h3, h4, h5⟩ := ih _ (upd W i v) k h ((hb.mono hle).set (upd_same W i v)) (fun j hj => by rw [upd_ne W v (fun e => hni (by rw [← e]; exact hj))]; exact hW j (by simp [hj])) hnr
        refine ⟨V', W', h1, h2, fun a y hy => h3 a y (hle a y hy), fun j hj => ?_, fun j hj => ?_⟩
        · simp only [List.mem_cons, not_or] at hj
          rw [h4 j hj.2, upd_ne W v hj.1]
        · rcases List.mem_cons.1 hj with rfl | hj
          · exact ⟨o, ho, hq W' h3⟩
          · exact h5 j hj
      split at h
      · rename_i s hs
        split at h
        · rename_i hg
          split at h
          · rename_i t hop
            split at h
            · rename_i ti hti
              exact go V _ hb h fun W' hW' => .inl ⟨s, t, ti, hs, hg, hop, hti, hW' _ _ (upd_same W i _)⟩
            · exact h.elim
          · exact h.elim
        · exact h.elim
      · rename_i hs
        obtain ⟨V1, b, hb1, hg, hcase⟩ := wantD_ok hb h
        rcases hcase with ⟨rfl, h⟩ | ⟨rfl, h⟩
        · obtain ⟨v, hqe, h⟩ := qOp_ok h
          have hle : Wle W (upd W i v) := upd_le hWi
          refine go V1 v hb1 h fun W' hW' => .inr ⟨hs, true, (hg.mono hle).mono hW', .inr ⟨rfl, v, V1, (g.E i S).t, hW' _ _ (upd_same W i v), (hb1.mono hle).mono hW', hS.sub fun id o ho => (g.E_sub i S ho).1, fun id hid => ?_, fun hf id o ho => (g.E_sub i S ho).2.2 hf, hqe⟩⟩
          cases he : (g.E i S).t.get id with
          | none => rfl
          | some o => exact ((g.E_sub i S he).2.1 hid).elim
        · have hle : Wle W (upd W i undefA) := upd_le hWi
          exact go V1 _ hb1 h fun W' hW' => .inr ⟨hs, false, (hg.mono hle).mono hW', .inl ⟨rfl, hW' _ _ (upd_same W i _)⟩⟩

end Go.Rc
